/-
  No cell of these rows narrows 'for every input' (looked for: loops, veiled, ifaces, maps, wideKeys, modest, calm, conditions, laid).
  DERIVED. THE GIVEN ROWS OF THIS SEAT. 12 by the template 'for every input the law returns true; each argument reads behind the call as it read before'; 0 by the template 'total and deterministic' (their statements: YtmjfknhpdibngaaTotals.lean).
  GIVEN WITH THE SEED: the statements are not yours to turn. If you find one false, say at which input.
  Laid BY PROGRAM, IN A SANDBOX (cutbox-rows.mjs): the forced cells as the released guide's own fill.sh prints them over the translation dadd2b03b62d7ccb… (all of the seat's roots in one cut). By AI agents, Wed Nov 11 2026. No macro, syntax, notation, axiom, sorry.
-/
import Derived.Test.YtmjfknhpdibngaaChecked
import GoSem.Claim
import GoSem.ClaimJoined
import GoSem.ClaimMapViews
import Derived.JoinedTies
import Derived.KernelRfl
namespace Go.Proofs.Ytmjfknhpdibngaa
/- THE CELL 'sum', in the pinned program and in every row, IS THE sha256 OF THE DUMP (.gsa) THAT YtmjfknhpdibngaaProg.lean LOADS. Nothing in Lean hashes anything: it is a label: what it is worth is what the hold of that sum in a sandbox is worth. -/
noncomputable def Try.pinned : Pinned := { name := "ytmjfknhpdibngaa", sum := "dadd2b03b62d7ccba567c64f974ea8096665e88cd66396373542f2ffc065c9b4", checked := Try.checked }
namespace Rows
def none {H : Type} : Left H := { results := [], args := [] }

/-- 'laws.FnExactTileAt': WHATEVER THE INPUT: true; the input reads as it did. -/
def fnExactTileAtSpec : ChangeSpec := { name := "fnExactTileAt", fn := fun _ => fun
  | [d1, d2] => { results := [.lit (.bool true)], args := [d1, d2] }
  | _ => none }
def fnExactTileAtRow : OpenClaim := { program := "ytmjfknhpdibngaa", sum := "dadd2b03b62d7ccba567c64f974ea8096665e88cd66396373542f2ffc065c9b4", func := "loop.example/g01081/laws.FnExactTileAt", spec := "fnExactTileAt", unfollowed := true, recurses := true, apart := false }
def FnExactTileAtSaid : Prop := fnExactTileAtRow.holds Try.pinned (OpenSpec.ofChange fnExactTileAtSpec)

/-- ITS FALSE NEIGHBOUR: 'it returns false'. Refute it at one input. -/
def fnExactTileAtWrong : ChangeSpec := { name := "fnExactTileAt", fn := fun _ => fun
  | [d1, d2] => { results := [.lit (.bool false)], args := [d1, d2] }
  | _ => none }
def FnExactTileAtWrongFalsely : Prop := fnExactTileAtRow.holds Try.pinned (OpenSpec.ofChange fnExactTileAtWrong)

/-- 'laws.FnExactFirstDifference': WHATEVER THE INPUT: true; the input reads as it did. -/
def fnExactFirstDifferenceSpec : ChangeSpec := { name := "fnExactFirstDifference", fn := fun _ => fun
  | [d1, d2] => { results := [.lit (.bool true)], args := [d1, d2] }
  | _ => none }
def fnExactFirstDifferenceRow : OpenClaim := { program := "ytmjfknhpdibngaa", sum := "dadd2b03b62d7ccba567c64f974ea8096665e88cd66396373542f2ffc065c9b4", func := "loop.example/g01081/laws.FnExactFirstDifference", spec := "fnExactFirstDifference", unfollowed := true, recurses := true, apart := false }
def FnExactFirstDifferenceSaid : Prop := fnExactFirstDifferenceRow.holds Try.pinned (OpenSpec.ofChange fnExactFirstDifferenceSpec)

/-- ITS FALSE NEIGHBOUR: 'it returns false'. Refute it at one input. -/
def fnExactFirstDifferenceWrong : ChangeSpec := { name := "fnExactFirstDifference", fn := fun _ => fun
  | [d1, d2] => { results := [.lit (.bool false)], args := [d1, d2] }
  | _ => none }
def FnExactFirstDifferenceWrongFalsely : Prop := fnExactFirstDifferenceRow.holds Try.pinned (OpenSpec.ofChange fnExactFirstDifferenceWrong)

/-- 'laws.FnExactIsWithin': WHATEVER THE INPUT: true; the input reads as it did. -/
def fnExactIsWithinSpec : ChangeSpec := { name := "fnExactIsWithin", fn := fun _ => fun
  | [d1, d2] => { results := [.lit (.bool true)], args := [d1, d2] }
  | _ => none }
def fnExactIsWithinRow : OpenClaim := { program := "ytmjfknhpdibngaa", sum := "dadd2b03b62d7ccba567c64f974ea8096665e88cd66396373542f2ffc065c9b4", func := "loop.example/g01081/laws.FnExactIsWithin", spec := "fnExactIsWithin", unfollowed := true, recurses := true, apart := false }
def FnExactIsWithinSaid : Prop := fnExactIsWithinRow.holds Try.pinned (OpenSpec.ofChange fnExactIsWithinSpec)

/-- ITS FALSE NEIGHBOUR: 'it returns false'. Refute it at one input. -/
def fnExactIsWithinWrong : ChangeSpec := { name := "fnExactIsWithin", fn := fun _ => fun
  | [d1, d2] => { results := [.lit (.bool false)], args := [d1, d2] }
  | _ => none }
def FnExactIsWithinWrongFalsely : Prop := fnExactIsWithinRow.holds Try.pinned (OpenSpec.ofChange fnExactIsWithinWrong)

/-- 'laws.FnExactIsFilled': WHATEVER THE INPUT: true; the input reads as it did. -/
def fnExactIsFilledSpec : ChangeSpec := { name := "fnExactIsFilled", fn := fun _ => fun
  | [d1, d2, d3] => { results := [.lit (.bool true)], args := [d1, d2, d3] }
  | _ => none }
def fnExactIsFilledRow : OpenClaim := { program := "ytmjfknhpdibngaa", sum := "dadd2b03b62d7ccba567c64f974ea8096665e88cd66396373542f2ffc065c9b4", func := "loop.example/g01081/laws.FnExactIsFilled", spec := "fnExactIsFilled", apart := false }
def FnExactIsFilledSaid : Prop := fnExactIsFilledRow.holds Try.pinned (OpenSpec.ofChange fnExactIsFilledSpec)

/-- ITS FALSE NEIGHBOUR: 'it returns false'. Refute it at one input. -/
def fnExactIsFilledWrong : ChangeSpec := { name := "fnExactIsFilled", fn := fun _ => fun
  | [d1, d2, d3] => { results := [.lit (.bool false)], args := [d1, d2, d3] }
  | _ => none }
def FnExactIsFilledWrongFalsely : Prop := fnExactIsFilledRow.holds Try.pinned (OpenSpec.ofChange fnExactIsFilledWrong)

/-- 'laws.FnExactErrorsOf': WHATEVER THE INPUT: true; the input reads as it did. -/
def fnExactErrorsOfSpec : ChangeSpec := { name := "fnExactErrorsOf", fn := fun _ => fun
  | [d1, d2] => { results := [.lit (.bool true)], args := [d1, d2] }
  | _ => none }
def fnExactErrorsOfRow : OpenClaim := { program := "ytmjfknhpdibngaa", sum := "dadd2b03b62d7ccba567c64f974ea8096665e88cd66396373542f2ffc065c9b4", func := "loop.example/g01081/laws.FnExactErrorsOf", spec := "fnExactErrorsOf", unfollowed := true, recurses := true, apart := false }
def FnExactErrorsOfSaid : Prop := fnExactErrorsOfRow.holds Try.pinned (OpenSpec.ofChange fnExactErrorsOfSpec)

/-- ITS FALSE NEIGHBOUR: 'it returns false'. Refute it at one input. -/
def fnExactErrorsOfWrong : ChangeSpec := { name := "fnExactErrorsOf", fn := fun _ => fun
  | [d1, d2] => { results := [.lit (.bool false)], args := [d1, d2] }
  | _ => none }
def FnExactErrorsOfWrongFalsely : Prop := fnExactErrorsOfRow.holds Try.pinned (OpenSpec.ofChange fnExactErrorsOfWrong)

/-- 'laws.FnExactNormalize': WHATEVER THE INPUT: true; the input reads as it did. -/
def fnExactNormalizeSpec : ChangeSpec := { name := "fnExactNormalize", fn := fun _ => fun
  | [d] => { results := [.lit (.bool true)], args := [d] }
  | _ => none }
def fnExactNormalizeRow : OpenClaim := { program := "ytmjfknhpdibngaa", sum := "dadd2b03b62d7ccba567c64f974ea8096665e88cd66396373542f2ffc065c9b4", func := "loop.example/g01081/laws.FnExactNormalize", spec := "fnExactNormalize", apart := false }
def FnExactNormalizeSaid : Prop := fnExactNormalizeRow.holds Try.pinned (OpenSpec.ofChange fnExactNormalizeSpec)

/-- ITS FALSE NEIGHBOUR: 'it returns false'. Refute it at one input. -/
def fnExactNormalizeWrong : ChangeSpec := { name := "fnExactNormalize", fn := fun _ => fun
  | [d] => { results := [.lit (.bool false)], args := [d] }
  | _ => none }
def FnExactNormalizeWrongFalsely : Prop := fnExactNormalizeRow.holds Try.pinned (OpenSpec.ofChange fnExactNormalizeWrong)

/-- 'laws.FnExactTakeTile': WHATEVER THE INPUT: true; the input reads as it did. -/
def fnExactTakeTileSpec : ChangeSpec := { name := "fnExactTakeTile", fn := fun _ => fun
  | [d1, d2] => { results := [.lit (.bool true)], args := [d1, d2] }
  | _ => none }
def fnExactTakeTileRow : OpenClaim := { program := "ytmjfknhpdibngaa", sum := "dadd2b03b62d7ccba567c64f974ea8096665e88cd66396373542f2ffc065c9b4", func := "loop.example/g01081/laws.FnExactTakeTile", spec := "fnExactTakeTile", unfollowed := true, recurses := true, apart := false }
def FnExactTakeTileSaid : Prop := fnExactTakeTileRow.holds Try.pinned (OpenSpec.ofChange fnExactTakeTileSpec)

/-- ITS FALSE NEIGHBOUR: 'it returns false'. Refute it at one input. -/
def fnExactTakeTileWrong : ChangeSpec := { name := "fnExactTakeTile", fn := fun _ => fun
  | [d1, d2] => { results := [.lit (.bool false)], args := [d1, d2] }
  | _ => none }
def FnExactTakeTileWrongFalsely : Prop := fnExactTakeTileRow.holds Try.pinned (OpenSpec.ofChange fnExactTakeTileWrong)

/-- 'laws.FnExactPutTile': WHATEVER THE INPUT: true; the input reads as it did. -/
def fnExactPutTileSpec : ChangeSpec := { name := "fnExactPutTile", fn := fun _ => fun
  | [d1, d2, d3] => { results := [.lit (.bool true)], args := [d1, d2, d3] }
  | _ => none }
def fnExactPutTileRow : OpenClaim := { program := "ytmjfknhpdibngaa", sum := "dadd2b03b62d7ccba567c64f974ea8096665e88cd66396373542f2ffc065c9b4", func := "loop.example/g01081/laws.FnExactPutTile", spec := "fnExactPutTile", inPlace := ["slices.overlaps[loop.example/g01081/impl.Placed]"], unfollowed := true, recurses := true, apart := false }
def FnExactPutTileSaid : Prop := fnExactPutTileRow.holds Try.pinned (OpenSpec.ofChange fnExactPutTileSpec)

/-- ITS FALSE NEIGHBOUR: 'it returns false'. Refute it at one input. -/
def fnExactPutTileWrong : ChangeSpec := { name := "fnExactPutTile", fn := fun _ => fun
  | [d1, d2, d3] => { results := [.lit (.bool false)], args := [d1, d2, d3] }
  | _ => none }
def FnExactPutTileWrongFalsely : Prop := fnExactPutTileRow.holds Try.pinned (OpenSpec.ofChange fnExactPutTileWrong)

/-- 'laws.FnExactPlainAssembly': WHATEVER THE INPUT: true; the input reads as it did. -/
def fnExactPlainAssemblySpec : ChangeSpec := { name := "fnExactPlainAssembly", fn := fun _ => fun
  | [d] => { results := [.lit (.bool true)], args := [d] }
  | _ => none }
def fnExactPlainAssemblyRow : OpenClaim := { program := "ytmjfknhpdibngaa", sum := "dadd2b03b62d7ccba567c64f974ea8096665e88cd66396373542f2ffc065c9b4", func := "loop.example/g01081/laws.FnExactPlainAssembly", spec := "fnExactPlainAssembly", apart := false }
def FnExactPlainAssemblySaid : Prop := fnExactPlainAssemblyRow.holds Try.pinned (OpenSpec.ofChange fnExactPlainAssemblySpec)

/-- ITS FALSE NEIGHBOUR: 'it returns false'. Refute it at one input. -/
def fnExactPlainAssemblyWrong : ChangeSpec := { name := "fnExactPlainAssembly", fn := fun _ => fun
  | [d] => { results := [.lit (.bool false)], args := [d] }
  | _ => none }
def FnExactPlainAssemblyWrongFalsely : Prop := fnExactPlainAssemblyRow.holds Try.pinned (OpenSpec.ofChange fnExactPlainAssemblyWrong)

/-- 'laws.FnExactScaleUp': WHATEVER THE INPUT: true; the input reads as it did. -/
def fnExactScaleUpSpec : ChangeSpec := { name := "fnExactScaleUp", fn := fun _ => fun
  | [d1, d2] => { results := [.lit (.bool true)], args := [d1, d2] }
  | _ => none }
def fnExactScaleUpRow : OpenClaim := { program := "ytmjfknhpdibngaa", sum := "dadd2b03b62d7ccba567c64f974ea8096665e88cd66396373542f2ffc065c9b4", func := "loop.example/g01081/laws.FnExactScaleUp", spec := "fnExactScaleUp", unfollowed := true, recurses := true, apart := false }
def FnExactScaleUpSaid : Prop := fnExactScaleUpRow.holds Try.pinned (OpenSpec.ofChange fnExactScaleUpSpec)

/-- ITS FALSE NEIGHBOUR: 'it returns false'. Refute it at one input. -/
def fnExactScaleUpWrong : ChangeSpec := { name := "fnExactScaleUp", fn := fun _ => fun
  | [d1, d2] => { results := [.lit (.bool false)], args := [d1, d2] }
  | _ => none }
def FnExactScaleUpWrongFalsely : Prop := fnExactScaleUpRow.holds Try.pinned (OpenSpec.ofChange fnExactScaleUpWrong)

/-- 'laws.FnPutTake': WHATEVER THE INPUT: true; the input reads as it did. -/
def fnPutTakeSpec : ChangeSpec := { name := "fnPutTake", fn := fun _ => fun
  | [d] => { results := [.lit (.bool true)], args := [d] }
  | _ => none }
def fnPutTakeRow : OpenClaim := { program := "ytmjfknhpdibngaa", sum := "dadd2b03b62d7ccba567c64f974ea8096665e88cd66396373542f2ffc065c9b4", func := "loop.example/g01081/laws.FnPutTake", spec := "fnPutTake", inPlace := ["slices.overlaps[loop.example/g01081/impl.Placed]"], unfollowed := true, recurses := true, apart := false }
def FnPutTakeSaid : Prop := fnPutTakeRow.holds Try.pinned (OpenSpec.ofChange fnPutTakeSpec)

/-- ITS FALSE NEIGHBOUR: 'it returns false'. Refute it at one input. -/
def fnPutTakeWrong : ChangeSpec := { name := "fnPutTake", fn := fun _ => fun
  | [d] => { results := [.lit (.bool false)], args := [d] }
  | _ => none }
def FnPutTakeWrongFalsely : Prop := fnPutTakeRow.holds Try.pinned (OpenSpec.ofChange fnPutTakeWrong)

/-- 'laws.FnExactSameCells': WHATEVER THE INPUT: true; the input reads as it did. -/
def fnExactSameCellsSpec : ChangeSpec := { name := "fnExactSameCells", fn := fun _ => fun
  | [d1, d2] => { results := [.lit (.bool true)], args := [d1, d2] }
  | _ => none }
def fnExactSameCellsRow : OpenClaim := { program := "ytmjfknhpdibngaa", sum := "dadd2b03b62d7ccba567c64f974ea8096665e88cd66396373542f2ffc065c9b4", func := "loop.example/g01081/laws.FnExactSameCells", spec := "fnExactSameCells", unfollowed := true, recurses := true, apart := false }
def FnExactSameCellsSaid : Prop := fnExactSameCellsRow.holds Try.pinned (OpenSpec.ofChange fnExactSameCellsSpec)

/-- ITS FALSE NEIGHBOUR: 'it returns false'. Refute it at one input. -/
def fnExactSameCellsWrong : ChangeSpec := { name := "fnExactSameCells", fn := fun _ => fun
  | [d1, d2] => { results := [.lit (.bool false)], args := [d1, d2] }
  | _ => none }
def FnExactSameCellsWrongFalsely : Prop := fnExactSameCellsRow.holds Try.pinned (OpenSpec.ofChange fnExactSameCellsWrong)

/- THE SECOND FORM. 'bulk': how many values and letters a reading holds, each counted each time it is reached (what is shared counts as often as it is met; a slice's spare places count too). A statement '..UptoSaid' is the law's where the arguments, and the package variables that the reading takes, are together of bulk at most 1048576: NARROWER than '..Said'. Prove '..Said' where nothing that the law and all that it calls make is longer than what came in: it says more and counts as full. Else prove '..UptoSaid'. A law counts once. -/
mutual
def uptoBulk {H : Type} : DataW H → Nat
  | .lit (.string bytes) => bytes.length + 1
  | .lit _ => 1
  | .nil => 1
  | .ptr d => uptoBulk d + 1
  | .slice elems spare => uptoBulkAll elems + uptoBulkAll spare + 1
  | .agg parts => uptoBulkAll parts + 1
  | .iface _ d => uptoBulk d + 1
  | .map entries => uptoBulkEntries entries + 1
  | .held _ => 1
def uptoBulkAll {H : Type} : List (DataW H) → Nat
  | [] => 0
  | d :: r => uptoBulk d + uptoBulkAll r
def uptoBulkEntries {H : Type} : List (Lit × DataW H) → Nat
  | [] => 0
  | x :: r => uptoBulkEntry x + uptoBulkEntries r
def uptoBulkEntry {H : Type} : Lit × DataW H → Nat
  | (.string bytes, d) => bytes.length + uptoBulk d + 1
  | (_, d) => uptoBulk d + 1
 end
def uptoSmall : (H : Type) → List (DataW H) → Bool := fun _ ds => decide (uptoBulkAll ds ≤ 1048576)
def OpenSpec.upto (s : _root_.Go.ChangeSpec) : _root_.Go.OpenSpec := { _root_.Go.OpenSpec.ofChange s with cond := some uptoSmall }

/-- 'laws.FnExactTileAt', WHERE WHAT IT READS IS OF BULK AT MOST 1048576: true; the input reads as it did. -/
def fnExactTileAtUptoRow : OpenClaim := { program := "ytmjfknhpdibngaa", sum := "dadd2b03b62d7ccba567c64f974ea8096665e88cd66396373542f2ffc065c9b4", func := "loop.example/g01081/laws.FnExactTileAt", spec := "fnExactTileAt", unfollowed := true, recurses := true, apart := false, narrowed := true }
def FnExactTileAtUptoSaid : Prop := fnExactTileAtUptoRow.holds Try.pinned (OpenSpec.upto fnExactTileAtSpec)

/-- 'laws.FnExactFirstDifference', WHERE WHAT IT READS IS OF BULK AT MOST 1048576: true; the input reads as it did. -/
def fnExactFirstDifferenceUptoRow : OpenClaim := { program := "ytmjfknhpdibngaa", sum := "dadd2b03b62d7ccba567c64f974ea8096665e88cd66396373542f2ffc065c9b4", func := "loop.example/g01081/laws.FnExactFirstDifference", spec := "fnExactFirstDifference", unfollowed := true, recurses := true, apart := false, narrowed := true }
def FnExactFirstDifferenceUptoSaid : Prop := fnExactFirstDifferenceUptoRow.holds Try.pinned (OpenSpec.upto fnExactFirstDifferenceSpec)

/-- 'laws.FnExactIsWithin', WHERE WHAT IT READS IS OF BULK AT MOST 1048576: true; the input reads as it did. -/
def fnExactIsWithinUptoRow : OpenClaim := { program := "ytmjfknhpdibngaa", sum := "dadd2b03b62d7ccba567c64f974ea8096665e88cd66396373542f2ffc065c9b4", func := "loop.example/g01081/laws.FnExactIsWithin", spec := "fnExactIsWithin", unfollowed := true, recurses := true, apart := false, narrowed := true }
def FnExactIsWithinUptoSaid : Prop := fnExactIsWithinUptoRow.holds Try.pinned (OpenSpec.upto fnExactIsWithinSpec)

/-- 'laws.FnExactIsFilled', WHERE WHAT IT READS IS OF BULK AT MOST 1048576: true; the input reads as it did. -/
def fnExactIsFilledUptoRow : OpenClaim := { program := "ytmjfknhpdibngaa", sum := "dadd2b03b62d7ccba567c64f974ea8096665e88cd66396373542f2ffc065c9b4", func := "loop.example/g01081/laws.FnExactIsFilled", spec := "fnExactIsFilled", apart := false, narrowed := true }
def FnExactIsFilledUptoSaid : Prop := fnExactIsFilledUptoRow.holds Try.pinned (OpenSpec.upto fnExactIsFilledSpec)

/-- 'laws.FnExactErrorsOf', WHERE WHAT IT READS IS OF BULK AT MOST 1048576: true; the input reads as it did. -/
def fnExactErrorsOfUptoRow : OpenClaim := { program := "ytmjfknhpdibngaa", sum := "dadd2b03b62d7ccba567c64f974ea8096665e88cd66396373542f2ffc065c9b4", func := "loop.example/g01081/laws.FnExactErrorsOf", spec := "fnExactErrorsOf", unfollowed := true, recurses := true, apart := false, narrowed := true }
def FnExactErrorsOfUptoSaid : Prop := fnExactErrorsOfUptoRow.holds Try.pinned (OpenSpec.upto fnExactErrorsOfSpec)

/-- 'laws.FnExactNormalize', WHERE WHAT IT READS IS OF BULK AT MOST 1048576: true; the input reads as it did. -/
def fnExactNormalizeUptoRow : OpenClaim := { program := "ytmjfknhpdibngaa", sum := "dadd2b03b62d7ccba567c64f974ea8096665e88cd66396373542f2ffc065c9b4", func := "loop.example/g01081/laws.FnExactNormalize", spec := "fnExactNormalize", apart := false, narrowed := true }
def FnExactNormalizeUptoSaid : Prop := fnExactNormalizeUptoRow.holds Try.pinned (OpenSpec.upto fnExactNormalizeSpec)

/-- 'laws.FnExactTakeTile', WHERE WHAT IT READS IS OF BULK AT MOST 1048576: true; the input reads as it did. -/
def fnExactTakeTileUptoRow : OpenClaim := { program := "ytmjfknhpdibngaa", sum := "dadd2b03b62d7ccba567c64f974ea8096665e88cd66396373542f2ffc065c9b4", func := "loop.example/g01081/laws.FnExactTakeTile", spec := "fnExactTakeTile", unfollowed := true, recurses := true, apart := false, narrowed := true }
def FnExactTakeTileUptoSaid : Prop := fnExactTakeTileUptoRow.holds Try.pinned (OpenSpec.upto fnExactTakeTileSpec)

/-- 'laws.FnExactPutTile', WHERE WHAT IT READS IS OF BULK AT MOST 1048576: true; the input reads as it did. -/
def fnExactPutTileUptoRow : OpenClaim := { program := "ytmjfknhpdibngaa", sum := "dadd2b03b62d7ccba567c64f974ea8096665e88cd66396373542f2ffc065c9b4", func := "loop.example/g01081/laws.FnExactPutTile", spec := "fnExactPutTile", inPlace := ["slices.overlaps[loop.example/g01081/impl.Placed]"], unfollowed := true, recurses := true, apart := false, narrowed := true }
def FnExactPutTileUptoSaid : Prop := fnExactPutTileUptoRow.holds Try.pinned (OpenSpec.upto fnExactPutTileSpec)

/-- 'laws.FnExactPlainAssembly', WHERE WHAT IT READS IS OF BULK AT MOST 1048576: true; the input reads as it did. -/
def fnExactPlainAssemblyUptoRow : OpenClaim := { program := "ytmjfknhpdibngaa", sum := "dadd2b03b62d7ccba567c64f974ea8096665e88cd66396373542f2ffc065c9b4", func := "loop.example/g01081/laws.FnExactPlainAssembly", spec := "fnExactPlainAssembly", apart := false, narrowed := true }
def FnExactPlainAssemblyUptoSaid : Prop := fnExactPlainAssemblyUptoRow.holds Try.pinned (OpenSpec.upto fnExactPlainAssemblySpec)

/-- 'laws.FnExactScaleUp', WHERE WHAT IT READS IS OF BULK AT MOST 1048576: true; the input reads as it did. -/
def fnExactScaleUpUptoRow : OpenClaim := { program := "ytmjfknhpdibngaa", sum := "dadd2b03b62d7ccba567c64f974ea8096665e88cd66396373542f2ffc065c9b4", func := "loop.example/g01081/laws.FnExactScaleUp", spec := "fnExactScaleUp", unfollowed := true, recurses := true, apart := false, narrowed := true }
def FnExactScaleUpUptoSaid : Prop := fnExactScaleUpUptoRow.holds Try.pinned (OpenSpec.upto fnExactScaleUpSpec)

/-- 'laws.FnPutTake', WHERE WHAT IT READS IS OF BULK AT MOST 1048576: true; the input reads as it did. -/
def fnPutTakeUptoRow : OpenClaim := { program := "ytmjfknhpdibngaa", sum := "dadd2b03b62d7ccba567c64f974ea8096665e88cd66396373542f2ffc065c9b4", func := "loop.example/g01081/laws.FnPutTake", spec := "fnPutTake", inPlace := ["slices.overlaps[loop.example/g01081/impl.Placed]"], unfollowed := true, recurses := true, apart := false, narrowed := true }
def FnPutTakeUptoSaid : Prop := fnPutTakeUptoRow.holds Try.pinned (OpenSpec.upto fnPutTakeSpec)

/-- 'laws.FnExactSameCells', WHERE WHAT IT READS IS OF BULK AT MOST 1048576: true; the input reads as it did. -/
def fnExactSameCellsUptoRow : OpenClaim := { program := "ytmjfknhpdibngaa", sum := "dadd2b03b62d7ccba567c64f974ea8096665e88cd66396373542f2ffc065c9b4", func := "loop.example/g01081/laws.FnExactSameCells", spec := "fnExactSameCells", unfollowed := true, recurses := true, apart := false, narrowed := true }
def FnExactSameCellsUptoSaid : Prop := fnExactSameCellsUptoRow.holds Try.pinned (OpenSpec.upto fnExactSameCellsSpec)

end Rows
end Go.Proofs.Ytmjfknhpdibngaa
