/-
  No cell of these rows narrows 'for every input' (looked for: loops, veiled, ifaces, maps, wideKeys, modest, calm, conditions, laid).
  DERIVED. THE GIVEN ROWS OF THIS SEAT. 12 by the template 'for every input the law returns true; each argument reads behind the call as it read before'; 0 by the template 'total and deterministic' (their statements: YtghecnlgainfkaaTotals.lean).
  GIVEN WITH THE SEED: the statements are not yours to turn. If you find one false, say at which input.
  Laid BY PROGRAM, IN A SANDBOX (cutbox-rows.mjs): the forced cells as the released guide's own fill.sh prints them over the translation 70674033c0c0ede1… (all of the seat's roots in one cut). By AI agents, Wed Nov 11 2026. No macro, syntax, notation, axiom, sorry.
-/
import Derived.Test.YtghecnlgainfkaaChecked
import GoSem.Claim
import GoSem.ClaimJoined
import GoSem.ClaimMapViews
import Derived.JoinedTies
import Derived.KernelRfl
namespace Go.Proofs.Ytghecnlgainfkaa
/- THE CELL 'sum', in the pinned program and in every row, IS THE sha256 OF THE DUMP (.gsa) THAT YtghecnlgainfkaaProg.lean LOADS. Nothing in Lean hashes anything: it is a label: what it is worth is what the hold of that sum in a sandbox is worth. -/
noncomputable def Try.pinned : Pinned := { name := "ytghecnlgainfkaa", sum := "70674033c0c0ede1a8ffb7dbd3463885fe793f8604f8766a7b658a1e856d0db0", checked := Try.checked }
namespace Rows
def none {H : Type} : Left H := { results := [], args := [] }

/-- 'laws.FnExactSquareParts': WHATEVER THE INPUT: true; the input reads as it did. -/
def fnExactSquarePartsSpec : ChangeSpec := { name := "fnExactSquareParts", fn := fun _ => fun
  | [d] => { results := [.lit (.bool true)], args := [d] }
  | _ => none }
def fnExactSquarePartsRow : OpenClaim := { program := "ytghecnlgainfkaa", sum := "70674033c0c0ede1a8ffb7dbd3463885fe793f8604f8766a7b658a1e856d0db0", func := "loop.example/g01081/laws.FnExactSquareParts", spec := "fnExactSquareParts", plainKeys := false, apart := false }
def FnExactSquarePartsSaid : Prop := fnExactSquarePartsRow.holds Try.pinned (OpenSpec.ofChange fnExactSquarePartsSpec)

/-- ITS FALSE NEIGHBOUR: 'it returns false'. Refute it at one input. -/
def fnExactSquarePartsWrong : ChangeSpec := { name := "fnExactSquareParts", fn := fun _ => fun
  | [d] => { results := [.lit (.bool false)], args := [d] }
  | _ => none }
def FnExactSquarePartsWrongFalsely : Prop := fnExactSquarePartsRow.holds Try.pinned (OpenSpec.ofChange fnExactSquarePartsWrong)

/-- 'laws.FnExactCubeText': WHATEVER THE INPUT: true; the input reads as it did. -/
def fnExactCubeTextSpec : ChangeSpec := { name := "fnExactCubeText", fn := fun _ => fun
  | [d1, d2] => { results := [.lit (.bool true)], args := [d1, d2] }
  | _ => none }
def fnExactCubeTextRow : OpenClaim := { program := "ytghecnlgainfkaa", sum := "70674033c0c0ede1a8ffb7dbd3463885fe793f8604f8766a7b658a1e856d0db0", func := "loop.example/g01081/laws.FnExactCubeText", spec := "fnExactCubeText", plainKeys := false, apart := false }
def FnExactCubeTextSaid : Prop := fnExactCubeTextRow.holds Try.pinned (OpenSpec.ofChange fnExactCubeTextSpec)

/-- ITS FALSE NEIGHBOUR: 'it returns false'. Refute it at one input. -/
def fnExactCubeTextWrong : ChangeSpec := { name := "fnExactCubeText", fn := fun _ => fun
  | [d1, d2] => { results := [.lit (.bool false)], args := [d1, d2] }
  | _ => none }
def FnExactCubeTextWrongFalsely : Prop := fnExactCubeTextRow.holds Try.pinned (OpenSpec.ofChange fnExactCubeTextWrong)

/-- 'laws.FnExactCellOf': WHATEVER THE INPUT: true; the input reads as it did. -/
def fnExactCellOfSpec : ChangeSpec := { name := "fnExactCellOf", fn := fun _ => fun
  | [d1, d2, d3] => { results := [.lit (.bool true)], args := [d1, d2, d3] }
  | _ => none }
def fnExactCellOfRow : OpenClaim := { program := "ytghecnlgainfkaa", sum := "70674033c0c0ede1a8ffb7dbd3463885fe793f8604f8766a7b658a1e856d0db0", func := "loop.example/g01081/laws.FnExactCellOf", spec := "fnExactCellOf", plainKeys := false, apart := false }
def FnExactCellOfSaid : Prop := fnExactCellOfRow.holds Try.pinned (OpenSpec.ofChange fnExactCellOfSpec)

/-- ITS FALSE NEIGHBOUR: 'it returns false'. Refute it at one input. -/
def fnExactCellOfWrong : ChangeSpec := { name := "fnExactCellOf", fn := fun _ => fun
  | [d1, d2, d3] => { results := [.lit (.bool false)], args := [d1, d2, d3] }
  | _ => none }
def FnExactCellOfWrongFalsely : Prop := fnExactCellOfRow.holds Try.pinned (OpenSpec.ofChange fnExactCellOfWrong)

/-- 'laws.FnExactSquareTypes': WHATEVER THE INPUT: true; the input reads as it did. -/
def fnExactSquareTypesSpec : ChangeSpec := { name := "fnExactSquareTypes", fn := fun _ => fun
  | [d] => { results := [.lit (.bool true)], args := [d] }
  | _ => none }
def fnExactSquareTypesRow : OpenClaim := { program := "ytghecnlgainfkaa", sum := "70674033c0c0ede1a8ffb7dbd3463885fe793f8604f8766a7b658a1e856d0db0", func := "loop.example/g01081/laws.FnExactSquareTypes", spec := "fnExactSquareTypes", plainKeys := false, apart := false }
def FnExactSquareTypesSaid : Prop := fnExactSquareTypesRow.holds Try.pinned (OpenSpec.ofChange fnExactSquareTypesSpec)

/-- ITS FALSE NEIGHBOUR: 'it returns false'. Refute it at one input. -/
def fnExactSquareTypesWrong : ChangeSpec := { name := "fnExactSquareTypes", fn := fun _ => fun
  | [d] => { results := [.lit (.bool false)], args := [d] }
  | _ => none }
def FnExactSquareTypesWrongFalsely : Prop := fnExactSquareTypesRow.holds Try.pinned (OpenSpec.ofChange fnExactSquareTypesWrong)

/-- 'laws.FnExactGreatestSide': WHATEVER THE INPUT: true; the input reads as it did. -/
def fnExactGreatestSideSpec : ChangeSpec := { name := "fnExactGreatestSide", fn := fun _ => fun
  | [d] => { results := [.lit (.bool true)], args := [d] }
  | _ => none }
def fnExactGreatestSideRow : OpenClaim := { program := "ytghecnlgainfkaa", sum := "70674033c0c0ede1a8ffb7dbd3463885fe793f8604f8766a7b658a1e856d0db0", func := "loop.example/g01081/laws.FnExactGreatestSide", spec := "fnExactGreatestSide", plainKeys := false, apart := false }
def FnExactGreatestSideSaid : Prop := fnExactGreatestSideRow.holds Try.pinned (OpenSpec.ofChange fnExactGreatestSideSpec)

/-- ITS FALSE NEIGHBOUR: 'it returns false'. Refute it at one input. -/
def fnExactGreatestSideWrong : ChangeSpec := { name := "fnExactGreatestSide", fn := fun _ => fun
  | [d] => { results := [.lit (.bool false)], args := [d] }
  | _ => none }
def FnExactGreatestSideWrongFalsely : Prop := fnExactGreatestSideRow.holds Try.pinned (OpenSpec.ofChange fnExactGreatestSideWrong)

/-- 'laws.FnExactBlockOf': WHATEVER THE INPUT: true; the input reads as it did. -/
def fnExactBlockOfSpec : ChangeSpec := { name := "fnExactBlockOf", fn := fun _ => fun
  | [d1, d2] => { results := [.lit (.bool true)], args := [d1, d2] }
  | _ => none }
def fnExactBlockOfRow : OpenClaim := { program := "ytghecnlgainfkaa", sum := "70674033c0c0ede1a8ffb7dbd3463885fe793f8604f8766a7b658a1e856d0db0", func := "loop.example/g01081/laws.FnExactBlockOf", spec := "fnExactBlockOf", plainKeys := false, apart := false }
def FnExactBlockOfSaid : Prop := fnExactBlockOfRow.holds Try.pinned (OpenSpec.ofChange fnExactBlockOfSpec)

/-- ITS FALSE NEIGHBOUR: 'it returns false'. Refute it at one input. -/
def fnExactBlockOfWrong : ChangeSpec := { name := "fnExactBlockOf", fn := fun _ => fun
  | [d1, d2] => { results := [.lit (.bool false)], args := [d1, d2] }
  | _ => none }
def FnExactBlockOfWrongFalsely : Prop := fnExactBlockOfRow.holds Try.pinned (OpenSpec.ofChange fnExactBlockOfWrong)

/-- 'laws.FnExactInversionsOf': WHATEVER THE INPUT: true; the input reads as it did. -/
def fnExactInversionsOfSpec : ChangeSpec := { name := "fnExactInversionsOf", fn := fun _ => fun
  | [d1, d2] => { results := [.lit (.bool true)], args := [d1, d2] }
  | _ => none }
def fnExactInversionsOfRow : OpenClaim := { program := "ytghecnlgainfkaa", sum := "70674033c0c0ede1a8ffb7dbd3463885fe793f8604f8766a7b658a1e856d0db0", func := "loop.example/g01081/laws.FnExactInversionsOf", spec := "fnExactInversionsOf", unfollowed := true, recurses := true, plainKeys := false, apart := false }
def FnExactInversionsOfSaid : Prop := fnExactInversionsOfRow.holds Try.pinned (OpenSpec.ofChange fnExactInversionsOfSpec)

/-- ITS FALSE NEIGHBOUR: 'it returns false'. Refute it at one input. -/
def fnExactInversionsOfWrong : ChangeSpec := { name := "fnExactInversionsOf", fn := fun _ => fun
  | [d1, d2] => { results := [.lit (.bool false)], args := [d1, d2] }
  | _ => none }
def FnExactInversionsOfWrongFalsely : Prop := fnExactInversionsOfRow.holds Try.pinned (OpenSpec.ofChange fnExactInversionsOfWrong)

/-- 'laws.FnExactSameConfig': WHATEVER THE INPUT: true; the input reads as it did. -/
def fnExactSameConfigSpec : ChangeSpec := { name := "fnExactSameConfig", fn := fun _ => fun
  | [d1, d2] => { results := [.lit (.bool true)], args := [d1, d2] }
  | _ => none }
def fnExactSameConfigRow : OpenClaim := { program := "ytghecnlgainfkaa", sum := "70674033c0c0ede1a8ffb7dbd3463885fe793f8604f8766a7b658a1e856d0db0", func := "loop.example/g01081/laws.FnExactSameConfig", spec := "fnExactSameConfig", plainKeys := false, apart := false }
def FnExactSameConfigSaid : Prop := fnExactSameConfigRow.holds Try.pinned (OpenSpec.ofChange fnExactSameConfigSpec)

/-- ITS FALSE NEIGHBOUR: 'it returns false'. Refute it at one input. -/
def fnExactSameConfigWrong : ChangeSpec := { name := "fnExactSameConfig", fn := fun _ => fun
  | [d1, d2] => { results := [.lit (.bool false)], args := [d1, d2] }
  | _ => none }
def FnExactSameConfigWrongFalsely : Prop := fnExactSameConfigRow.holds Try.pinned (OpenSpec.ofChange fnExactSameConfigWrong)

/-- 'laws.FnExactValidPattern': WHATEVER THE INPUT: true; the input reads as it did. -/
def fnExactValidPatternSpec : ChangeSpec := { name := "fnExactValidPattern", fn := fun _ => fun
  | [d] => { results := [.lit (.bool true)], args := [d] }
  | _ => none }
def fnExactValidPatternRow : OpenClaim := { program := "ytghecnlgainfkaa", sum := "70674033c0c0ede1a8ffb7dbd3463885fe793f8604f8766a7b658a1e856d0db0", func := "loop.example/g01081/laws.FnExactValidPattern", spec := "fnExactValidPattern", unfollowed := true, recurses := true, plainKeys := false, apart := false }
def FnExactValidPatternSaid : Prop := fnExactValidPatternRow.holds Try.pinned (OpenSpec.ofChange fnExactValidPatternSpec)

/-- ITS FALSE NEIGHBOUR: 'it returns false'. Refute it at one input. -/
def fnExactValidPatternWrong : ChangeSpec := { name := "fnExactValidPattern", fn := fun _ => fun
  | [d] => { results := [.lit (.bool false)], args := [d] }
  | _ => none }
def FnExactValidPatternWrongFalsely : Prop := fnExactValidPatternRow.holds Try.pinned (OpenSpec.ofChange fnExactValidPatternWrong)

/-- 'laws.FnExactBlocksOf': WHATEVER THE INPUT: true; the input reads as it did. -/
def fnExactBlocksOfSpec : ChangeSpec := { name := "fnExactBlocksOf", fn := fun _ => fun
  | [d] => { results := [.lit (.bool true)], args := [d] }
  | _ => none }
def fnExactBlocksOfRow : OpenClaim := { program := "ytghecnlgainfkaa", sum := "70674033c0c0ede1a8ffb7dbd3463885fe793f8604f8766a7b658a1e856d0db0", func := "loop.example/g01081/laws.FnExactBlocksOf", spec := "fnExactBlocksOf", unfollowed := true, recurses := true, plainKeys := false, apart := false }
def FnExactBlocksOfSaid : Prop := fnExactBlocksOfRow.holds Try.pinned (OpenSpec.ofChange fnExactBlocksOfSpec)

/-- ITS FALSE NEIGHBOUR: 'it returns false'. Refute it at one input. -/
def fnExactBlocksOfWrong : ChangeSpec := { name := "fnExactBlocksOf", fn := fun _ => fun
  | [d] => { results := [.lit (.bool false)], args := [d] }
  | _ => none }
def FnExactBlocksOfWrongFalsely : Prop := fnExactBlocksOfRow.holds Try.pinned (OpenSpec.ofChange fnExactBlocksOfWrong)

/-- 'laws.FnExactIsSymmetric': WHATEVER THE INPUT: true; the input reads as it did. -/
def fnExactIsSymmetricSpec : ChangeSpec := { name := "fnExactIsSymmetric", fn := fun _ => fun
  | [d] => { results := [.lit (.bool true)], args := [d] }
  | _ => none }
def fnExactIsSymmetricRow : OpenClaim := { program := "ytghecnlgainfkaa", sum := "70674033c0c0ede1a8ffb7dbd3463885fe793f8604f8766a7b658a1e856d0db0", func := "loop.example/g01081/laws.FnExactIsSymmetric", spec := "fnExactIsSymmetric", unfollowed := true, recurses := true, plainKeys := false, apart := false }
def FnExactIsSymmetricSaid : Prop := fnExactIsSymmetricRow.holds Try.pinned (OpenSpec.ofChange fnExactIsSymmetricSpec)

/-- ITS FALSE NEIGHBOUR: 'it returns false'. Refute it at one input. -/
def fnExactIsSymmetricWrong : ChangeSpec := { name := "fnExactIsSymmetric", fn := fun _ => fun
  | [d] => { results := [.lit (.bool false)], args := [d] }
  | _ => none }
def FnExactIsSymmetricWrongFalsely : Prop := fnExactIsSymmetricRow.holds Try.pinned (OpenSpec.ofChange fnExactIsSymmetricWrong)

/-- 'laws.FnExactValidMachine': WHATEVER THE INPUT: true; the input reads as it did. -/
def fnExactValidMachineSpec : ChangeSpec := { name := "fnExactValidMachine", fn := fun _ => fun
  | [d] => { results := [.lit (.bool true)], args := [d] }
  | _ => none }
def fnExactValidMachineRow : OpenClaim := { program := "ytghecnlgainfkaa", sum := "70674033c0c0ede1a8ffb7dbd3463885fe793f8604f8766a7b658a1e856d0db0", func := "loop.example/g01081/laws.FnExactValidMachine", spec := "fnExactValidMachine", unfollowed := true, recurses := true, plainKeys := false, apart := false }
def FnExactValidMachineSaid : Prop := fnExactValidMachineRow.holds Try.pinned (OpenSpec.ofChange fnExactValidMachineSpec)

/-- ITS FALSE NEIGHBOUR: 'it returns false'. Refute it at one input. -/
def fnExactValidMachineWrong : ChangeSpec := { name := "fnExactValidMachine", fn := fun _ => fun
  | [d] => { results := [.lit (.bool false)], args := [d] }
  | _ => none }
def FnExactValidMachineWrongFalsely : Prop := fnExactValidMachineRow.holds Try.pinned (OpenSpec.ofChange fnExactValidMachineWrong)

/- THE SECOND FORM. 'bulk': how many values and letters a reading holds, each counted each time it is reached (what is shared counts as often as it is met; a slice's spare places count too). A statement '..UptoSaid' is the law's where the arguments, and the package variables that the reading takes, are together of bulk at most 1048576: NARROWER than '..Said'. Prove '..Said' where nothing that the law and all that it calls make is longer than what came in: it says more and counts as full. Else prove '..UptoSaid'. A law counts once. -/
mutual
def uptoBulk {H : Type} : DataW H → Nat
  | .lit (.string bytes) => bytes.length + 1
  | .lit _ => 1
  | .nil => 1
  | .ptr d => uptoBulk d + 1
  | .slice elems spare => uptoBulkAll elems + uptoBulkAll spare + 1
  | .agg parts => uptoBulkAll parts + 1
  | .iface _ d => uptoBulk d + 1
  | .map entries => uptoBulkEntries entries + 1
  | .held _ => 1
def uptoBulkAll {H : Type} : List (DataW H) → Nat
  | [] => 0
  | d :: r => uptoBulk d + uptoBulkAll r
def uptoBulkEntries {H : Type} : List (Lit × DataW H) → Nat
  | [] => 0
  | x :: r => uptoBulkEntry x + uptoBulkEntries r
def uptoBulkEntry {H : Type} : Lit × DataW H → Nat
  | (.string bytes, d) => bytes.length + uptoBulk d + 1
  | (_, d) => uptoBulk d + 1
 end
def uptoSmall : (H : Type) → List (DataW H) → Bool := fun _ ds => decide (uptoBulkAll ds ≤ 1048576)
def OpenSpec.upto (s : _root_.Go.ChangeSpec) : _root_.Go.OpenSpec := { _root_.Go.OpenSpec.ofChange s with cond := some uptoSmall }

/-- 'laws.FnExactSquareParts', WHERE WHAT IT READS IS OF BULK AT MOST 1048576: true; the input reads as it did. -/
def fnExactSquarePartsUptoRow : OpenClaim := { program := "ytghecnlgainfkaa", sum := "70674033c0c0ede1a8ffb7dbd3463885fe793f8604f8766a7b658a1e856d0db0", func := "loop.example/g01081/laws.FnExactSquareParts", spec := "fnExactSquareParts", plainKeys := false, apart := false, narrowed := true }
def FnExactSquarePartsUptoSaid : Prop := fnExactSquarePartsUptoRow.holds Try.pinned (OpenSpec.upto fnExactSquarePartsSpec)

/-- 'laws.FnExactCubeText', WHERE WHAT IT READS IS OF BULK AT MOST 1048576: true; the input reads as it did. -/
def fnExactCubeTextUptoRow : OpenClaim := { program := "ytghecnlgainfkaa", sum := "70674033c0c0ede1a8ffb7dbd3463885fe793f8604f8766a7b658a1e856d0db0", func := "loop.example/g01081/laws.FnExactCubeText", spec := "fnExactCubeText", plainKeys := false, apart := false, narrowed := true }
def FnExactCubeTextUptoSaid : Prop := fnExactCubeTextUptoRow.holds Try.pinned (OpenSpec.upto fnExactCubeTextSpec)

/-- 'laws.FnExactCellOf', WHERE WHAT IT READS IS OF BULK AT MOST 1048576: true; the input reads as it did. -/
def fnExactCellOfUptoRow : OpenClaim := { program := "ytghecnlgainfkaa", sum := "70674033c0c0ede1a8ffb7dbd3463885fe793f8604f8766a7b658a1e856d0db0", func := "loop.example/g01081/laws.FnExactCellOf", spec := "fnExactCellOf", plainKeys := false, apart := false, narrowed := true }
def FnExactCellOfUptoSaid : Prop := fnExactCellOfUptoRow.holds Try.pinned (OpenSpec.upto fnExactCellOfSpec)

/-- 'laws.FnExactSquareTypes', WHERE WHAT IT READS IS OF BULK AT MOST 1048576: true; the input reads as it did. -/
def fnExactSquareTypesUptoRow : OpenClaim := { program := "ytghecnlgainfkaa", sum := "70674033c0c0ede1a8ffb7dbd3463885fe793f8604f8766a7b658a1e856d0db0", func := "loop.example/g01081/laws.FnExactSquareTypes", spec := "fnExactSquareTypes", plainKeys := false, apart := false, narrowed := true }
def FnExactSquareTypesUptoSaid : Prop := fnExactSquareTypesUptoRow.holds Try.pinned (OpenSpec.upto fnExactSquareTypesSpec)

/-- 'laws.FnExactGreatestSide', WHERE WHAT IT READS IS OF BULK AT MOST 1048576: true; the input reads as it did. -/
def fnExactGreatestSideUptoRow : OpenClaim := { program := "ytghecnlgainfkaa", sum := "70674033c0c0ede1a8ffb7dbd3463885fe793f8604f8766a7b658a1e856d0db0", func := "loop.example/g01081/laws.FnExactGreatestSide", spec := "fnExactGreatestSide", plainKeys := false, apart := false, narrowed := true }
def FnExactGreatestSideUptoSaid : Prop := fnExactGreatestSideUptoRow.holds Try.pinned (OpenSpec.upto fnExactGreatestSideSpec)

/-- 'laws.FnExactBlockOf', WHERE WHAT IT READS IS OF BULK AT MOST 1048576: true; the input reads as it did. -/
def fnExactBlockOfUptoRow : OpenClaim := { program := "ytghecnlgainfkaa", sum := "70674033c0c0ede1a8ffb7dbd3463885fe793f8604f8766a7b658a1e856d0db0", func := "loop.example/g01081/laws.FnExactBlockOf", spec := "fnExactBlockOf", plainKeys := false, apart := false, narrowed := true }
def FnExactBlockOfUptoSaid : Prop := fnExactBlockOfUptoRow.holds Try.pinned (OpenSpec.upto fnExactBlockOfSpec)

/-- 'laws.FnExactInversionsOf', WHERE WHAT IT READS IS OF BULK AT MOST 1048576: true; the input reads as it did. -/
def fnExactInversionsOfUptoRow : OpenClaim := { program := "ytghecnlgainfkaa", sum := "70674033c0c0ede1a8ffb7dbd3463885fe793f8604f8766a7b658a1e856d0db0", func := "loop.example/g01081/laws.FnExactInversionsOf", spec := "fnExactInversionsOf", unfollowed := true, recurses := true, plainKeys := false, apart := false, narrowed := true }
def FnExactInversionsOfUptoSaid : Prop := fnExactInversionsOfUptoRow.holds Try.pinned (OpenSpec.upto fnExactInversionsOfSpec)

/-- 'laws.FnExactSameConfig', WHERE WHAT IT READS IS OF BULK AT MOST 1048576: true; the input reads as it did. -/
def fnExactSameConfigUptoRow : OpenClaim := { program := "ytghecnlgainfkaa", sum := "70674033c0c0ede1a8ffb7dbd3463885fe793f8604f8766a7b658a1e856d0db0", func := "loop.example/g01081/laws.FnExactSameConfig", spec := "fnExactSameConfig", plainKeys := false, apart := false, narrowed := true }
def FnExactSameConfigUptoSaid : Prop := fnExactSameConfigUptoRow.holds Try.pinned (OpenSpec.upto fnExactSameConfigSpec)

/-- 'laws.FnExactValidPattern', WHERE WHAT IT READS IS OF BULK AT MOST 1048576: true; the input reads as it did. -/
def fnExactValidPatternUptoRow : OpenClaim := { program := "ytghecnlgainfkaa", sum := "70674033c0c0ede1a8ffb7dbd3463885fe793f8604f8766a7b658a1e856d0db0", func := "loop.example/g01081/laws.FnExactValidPattern", spec := "fnExactValidPattern", unfollowed := true, recurses := true, plainKeys := false, apart := false, narrowed := true }
def FnExactValidPatternUptoSaid : Prop := fnExactValidPatternUptoRow.holds Try.pinned (OpenSpec.upto fnExactValidPatternSpec)

/-- 'laws.FnExactBlocksOf', WHERE WHAT IT READS IS OF BULK AT MOST 1048576: true; the input reads as it did. -/
def fnExactBlocksOfUptoRow : OpenClaim := { program := "ytghecnlgainfkaa", sum := "70674033c0c0ede1a8ffb7dbd3463885fe793f8604f8766a7b658a1e856d0db0", func := "loop.example/g01081/laws.FnExactBlocksOf", spec := "fnExactBlocksOf", unfollowed := true, recurses := true, plainKeys := false, apart := false, narrowed := true }
def FnExactBlocksOfUptoSaid : Prop := fnExactBlocksOfUptoRow.holds Try.pinned (OpenSpec.upto fnExactBlocksOfSpec)

/-- 'laws.FnExactIsSymmetric', WHERE WHAT IT READS IS OF BULK AT MOST 1048576: true; the input reads as it did. -/
def fnExactIsSymmetricUptoRow : OpenClaim := { program := "ytghecnlgainfkaa", sum := "70674033c0c0ede1a8ffb7dbd3463885fe793f8604f8766a7b658a1e856d0db0", func := "loop.example/g01081/laws.FnExactIsSymmetric", spec := "fnExactIsSymmetric", unfollowed := true, recurses := true, plainKeys := false, apart := false, narrowed := true }
def FnExactIsSymmetricUptoSaid : Prop := fnExactIsSymmetricUptoRow.holds Try.pinned (OpenSpec.upto fnExactIsSymmetricSpec)

/-- 'laws.FnExactValidMachine', WHERE WHAT IT READS IS OF BULK AT MOST 1048576: true; the input reads as it did. -/
def fnExactValidMachineUptoRow : OpenClaim := { program := "ytghecnlgainfkaa", sum := "70674033c0c0ede1a8ffb7dbd3463885fe793f8604f8766a7b658a1e856d0db0", func := "loop.example/g01081/laws.FnExactValidMachine", spec := "fnExactValidMachine", unfollowed := true, recurses := true, plainKeys := false, apart := false, narrowed := true }
def FnExactValidMachineUptoSaid : Prop := fnExactValidMachineUptoRow.holds Try.pinned (OpenSpec.upto fnExactValidMachineSpec)

end Rows
end Go.Proofs.Ytghecnlgainfkaa
