/-
  No cell of these rows narrows 'for every input' (looked for: loops, veiled, ifaces, maps, wideKeys, modest, calm, conditions, laid).
  DERIVED. THE GIVEN ROWS OF THIS SEAT. 8 by the template 'for every input the law returns true; each argument reads behind the call as it read before'; 0 by the template 'total and deterministic' (their statements: YtljmenkgboaciaaTotals.lean).
  GIVEN WITH THE SEED: the statements are not yours to turn. If you find one false, say at which input.
  Laid BY PROGRAM, IN A SANDBOX (cutbox-rows.mjs): the forced cells as the released guide's own fill.sh prints them over the translation 48e9f841f85efc46… (all of the seat's roots in one cut). By AI agents, Wed Nov 11 2026. No macro, syntax, notation, axiom, sorry.
-/
import Derived.Test.YtljmenkgboaciaaChecked
import GoSem.Claim
import GoSem.ClaimJoined
import GoSem.ClaimMapViews
import Derived.JoinedTies
import Derived.KernelRfl
namespace Go.Proofs.Ytljmenkgboaciaa
/- THE CELL 'sum', in the pinned program and in every row, IS THE sha256 OF THE DUMP (.gsa) THAT YtljmenkgboaciaaProg.lean LOADS. Nothing in Lean hashes anything: it is a label: what it is worth is what the hold of that sum in a sandbox is worth. -/
noncomputable def Try.pinned : Pinned := { name := "ytljmenkgboaciaa", sum := "48e9f841f85efc465cfd3703e86486d654ea6c1b8be0fe8e25dd947591c4a5d5", checked := Try.checked }
namespace Rows
def none {H : Type} : Left H := { results := [], args := [] }

/-- 'laws.FnExactBlocksOf': WHATEVER THE INPUT: true; the input reads as it did. -/
def fnExactBlocksOfSpec : ChangeSpec := { name := "fnExactBlocksOf", fn := fun _ => fun
  | [d] => { results := [.lit (.bool true)], args := [d] }
  | _ => none }
def fnExactBlocksOfRow : OpenClaim := { program := "ytljmenkgboaciaa", sum := "48e9f841f85efc465cfd3703e86486d654ea6c1b8be0fe8e25dd947591c4a5d5", func := "loop.example/g01081/laws.FnExactBlocksOf", spec := "fnExactBlocksOf", unfollowed := true, recurses := true, plainKeys := false, apart := false }
def FnExactBlocksOfSaid : Prop := fnExactBlocksOfRow.holds Try.pinned (OpenSpec.ofChange fnExactBlocksOfSpec)

/-- ITS FALSE NEIGHBOUR: 'it returns false'. Refute it at one input. -/
def fnExactBlocksOfWrong : ChangeSpec := { name := "fnExactBlocksOf", fn := fun _ => fun
  | [d] => { results := [.lit (.bool false)], args := [d] }
  | _ => none }
def FnExactBlocksOfWrongFalsely : Prop := fnExactBlocksOfRow.holds Try.pinned (OpenSpec.ofChange fnExactBlocksOfWrong)

/-- 'laws.FnExactRunBlocks': WHATEVER THE INPUT: true; the input reads as it did. -/
def fnExactRunBlocksSpec : ChangeSpec := { name := "fnExactRunBlocks", fn := fun _ => fun
  | [d1, d2, d3] => { results := [.lit (.bool true)], args := [d1, d2, d3] }
  | _ => none }
def fnExactRunBlocksRow : OpenClaim := { program := "ytljmenkgboaciaa", sum := "48e9f841f85efc465cfd3703e86486d654ea6c1b8be0fe8e25dd947591c4a5d5", func := "loop.example/g01081/laws.FnExactRunBlocks", spec := "fnExactRunBlocks", unfollowed := true, recurses := true, plainKeys := false, apart := false }
def FnExactRunBlocksSaid : Prop := fnExactRunBlocksRow.holds Try.pinned (OpenSpec.ofChange fnExactRunBlocksSpec)

/-- ITS FALSE NEIGHBOUR: 'it returns false'. Refute it at one input. -/
def fnExactRunBlocksWrong : ChangeSpec := { name := "fnExactRunBlocks", fn := fun _ => fun
  | [d1, d2, d3] => { results := [.lit (.bool false)], args := [d1, d2, d3] }
  | _ => none }
def FnExactRunBlocksWrongFalsely : Prop := fnExactRunBlocksRow.holds Try.pinned (OpenSpec.ofChange fnExactRunBlocksWrong)

/-- 'laws.FnExactPatternText': WHATEVER THE INPUT: true; the input reads as it did. -/
def fnExactPatternTextSpec : ChangeSpec := { name := "fnExactPatternText", fn := fun _ => fun
  | [d] => { results := [.lit (.bool true)], args := [d] }
  | _ => none }
def fnExactPatternTextRow : OpenClaim := { program := "ytljmenkgboaciaa", sum := "48e9f841f85efc465cfd3703e86486d654ea6c1b8be0fe8e25dd947591c4a5d5", func := "loop.example/g01081/laws.FnExactPatternText", spec := "fnExactPatternText", inPlace := ["internal/abi.NoEscape", "internal/bytealg.MakeNoZero"], unfollowed := true, recurses := true, plainKeys := false, apart := false }
def FnExactPatternTextSaid : Prop := fnExactPatternTextRow.holds Try.pinned (OpenSpec.ofChange fnExactPatternTextSpec)

/-- ITS FALSE NEIGHBOUR: 'it returns false'. Refute it at one input. -/
def fnExactPatternTextWrong : ChangeSpec := { name := "fnExactPatternText", fn := fun _ => fun
  | [d] => { results := [.lit (.bool false)], args := [d] }
  | _ => none }
def FnExactPatternTextWrongFalsely : Prop := fnExactPatternTextRow.holds Try.pinned (OpenSpec.ofChange fnExactPatternTextWrong)

/-- 'laws.FnExactValidDesign': WHATEVER THE INPUT: true; the input reads as it did. -/
def fnExactValidDesignSpec : ChangeSpec := { name := "fnExactValidDesign", fn := fun _ => fun
  | [d] => { results := [.lit (.bool true)], args := [d] }
  | _ => none }
def fnExactValidDesignRow : OpenClaim := { program := "ytljmenkgboaciaa", sum := "48e9f841f85efc465cfd3703e86486d654ea6c1b8be0fe8e25dd947591c4a5d5", func := "loop.example/g01081/laws.FnExactValidDesign", spec := "fnExactValidDesign", unfollowed := true, recurses := true, plainKeys := false, apart := false }
def FnExactValidDesignSaid : Prop := fnExactValidDesignRow.holds Try.pinned (OpenSpec.ofChange fnExactValidDesignSpec)

/-- ITS FALSE NEIGHBOUR: 'it returns false'. Refute it at one input. -/
def fnExactValidDesignWrong : ChangeSpec := { name := "fnExactValidDesign", fn := fun _ => fun
  | [d] => { results := [.lit (.bool false)], args := [d] }
  | _ => none }
def FnExactValidDesignWrongFalsely : Prop := fnExactValidDesignRow.holds Try.pinned (OpenSpec.ofChange fnExactValidDesignWrong)

/-- 'laws.FnExactRunDesign': WHATEVER THE INPUT: true; the input reads as it did. -/
def fnExactRunDesignSpec : ChangeSpec := { name := "fnExactRunDesign", fn := fun _ => fun
  | [d] => { results := [.lit (.bool true)], args := [d] }
  | _ => none }
def fnExactRunDesignRow : OpenClaim := { program := "ytljmenkgboaciaa", sum := "48e9f841f85efc465cfd3703e86486d654ea6c1b8be0fe8e25dd947591c4a5d5", func := "loop.example/g01081/laws.FnExactRunDesign", spec := "fnExactRunDesign", unfollowed := true, recurses := true, plainKeys := false, apart := false }
def FnExactRunDesignSaid : Prop := fnExactRunDesignRow.holds Try.pinned (OpenSpec.ofChange fnExactRunDesignSpec)

/-- ITS FALSE NEIGHBOUR: 'it returns false'. Refute it at one input. -/
def fnExactRunDesignWrong : ChangeSpec := { name := "fnExactRunDesign", fn := fun _ => fun
  | [d] => { results := [.lit (.bool false)], args := [d] }
  | _ => none }
def FnExactRunDesignWrongFalsely : Prop := fnExactRunDesignRow.holds Try.pinned (OpenSpec.ofChange fnExactRunDesignWrong)

/-- 'laws.FnExactGreedyDesign': WHATEVER THE INPUT: true; the input reads as it did. -/
def fnExactGreedyDesignSpec : ChangeSpec := { name := "fnExactGreedyDesign", fn := fun _ => fun
  | [d] => { results := [.lit (.bool true)], args := [d] }
  | _ => none }
def fnExactGreedyDesignRow : OpenClaim := { program := "ytljmenkgboaciaa", sum := "48e9f841f85efc465cfd3703e86486d654ea6c1b8be0fe8e25dd947591c4a5d5", func := "loop.example/g01081/laws.FnExactGreedyDesign", spec := "fnExactGreedyDesign", unfollowed := true, recurses := true, plainKeys := false, apart := false }
def FnExactGreedyDesignSaid : Prop := fnExactGreedyDesignRow.holds Try.pinned (OpenSpec.ofChange fnExactGreedyDesignSpec)

/-- ITS FALSE NEIGHBOUR: 'it returns false'. Refute it at one input. -/
def fnExactGreedyDesignWrong : ChangeSpec := { name := "fnExactGreedyDesign", fn := fun _ => fun
  | [d] => { results := [.lit (.bool false)], args := [d] }
  | _ => none }
def FnExactGreedyDesignWrongFalsely : Prop := fnExactGreedyDesignRow.holds Try.pinned (OpenSpec.ofChange fnExactGreedyDesignWrong)

/-- 'laws.FnExactPaintOf': WHATEVER THE INPUT: true; the input reads as it did. -/
def fnExactPaintOfSpec : ChangeSpec := { name := "fnExactPaintOf", fn := fun _ => fun
  | [d] => { results := [.lit (.bool true)], args := [d] }
  | _ => none }
def fnExactPaintOfRow : OpenClaim := { program := "ytljmenkgboaciaa", sum := "48e9f841f85efc465cfd3703e86486d654ea6c1b8be0fe8e25dd947591c4a5d5", func := "loop.example/g01081/laws.FnExactPaintOf", spec := "fnExactPaintOf", unfollowed := true, recurses := true, plainKeys := false, apart := false }
def FnExactPaintOfSaid : Prop := fnExactPaintOfRow.holds Try.pinned (OpenSpec.ofChange fnExactPaintOfSpec)

/-- ITS FALSE NEIGHBOUR: 'it returns false'. Refute it at one input. -/
def fnExactPaintOfWrong : ChangeSpec := { name := "fnExactPaintOf", fn := fun _ => fun
  | [d] => { results := [.lit (.bool false)], args := [d] }
  | _ => none }
def FnExactPaintOfWrongFalsely : Prop := fnExactPaintOfRow.holds Try.pinned (OpenSpec.ofChange fnExactPaintOfWrong)

/-- 'laws.FnExactReachedStates': WHATEVER THE INPUT: true; the input reads as it did. -/
def fnExactReachedStatesSpec : ChangeSpec := { name := "fnExactReachedStates", fn := fun _ => fun
  | [d] => { results := [.lit (.bool true)], args := [d] }
  | _ => none }
def fnExactReachedStatesRow : OpenClaim := { program := "ytljmenkgboaciaa", sum := "48e9f841f85efc465cfd3703e86486d654ea6c1b8be0fe8e25dd947591c4a5d5", func := "loop.example/g01081/laws.FnExactReachedStates", spec := "fnExactReachedStates", unfollowed := true, recurses := true, plainKeys := false, apart := false }
def FnExactReachedStatesSaid : Prop := fnExactReachedStatesRow.holds Try.pinned (OpenSpec.ofChange fnExactReachedStatesSpec)

/-- ITS FALSE NEIGHBOUR: 'it returns false'. Refute it at one input. -/
def fnExactReachedStatesWrong : ChangeSpec := { name := "fnExactReachedStates", fn := fun _ => fun
  | [d] => { results := [.lit (.bool false)], args := [d] }
  | _ => none }
def FnExactReachedStatesWrongFalsely : Prop := fnExactReachedStatesRow.holds Try.pinned (OpenSpec.ofChange fnExactReachedStatesWrong)

/- THE SECOND FORM. 'bulk': how many values and letters a reading holds, each counted each time it is reached (what is shared counts as often as it is met; a slice's spare places count too). A statement '..UptoSaid' is the law's where the arguments, and the package variables that the reading takes, are together of bulk at most 1048576: NARROWER than '..Said'. Prove '..Said' where nothing that the law and all that it calls make is longer than what came in: it says more and counts as full. Else prove '..UptoSaid'. A law counts once. -/
mutual
def uptoBulk {H : Type} : DataW H → Nat
  | .lit (.string bytes) => bytes.length + 1
  | .lit _ => 1
  | .nil => 1
  | .ptr d => uptoBulk d + 1
  | .slice elems spare => uptoBulkAll elems + uptoBulkAll spare + 1
  | .agg parts => uptoBulkAll parts + 1
  | .iface _ d => uptoBulk d + 1
  | .map entries => uptoBulkEntries entries + 1
  | .held _ => 1
def uptoBulkAll {H : Type} : List (DataW H) → Nat
  | [] => 0
  | d :: r => uptoBulk d + uptoBulkAll r
def uptoBulkEntries {H : Type} : List (Lit × DataW H) → Nat
  | [] => 0
  | x :: r => uptoBulkEntry x + uptoBulkEntries r
def uptoBulkEntry {H : Type} : Lit × DataW H → Nat
  | (.string bytes, d) => bytes.length + uptoBulk d + 1
  | (_, d) => uptoBulk d + 1
 end
def uptoSmall : (H : Type) → List (DataW H) → Bool := fun _ ds => decide (uptoBulkAll ds ≤ 1048576)
def OpenSpec.upto (s : _root_.Go.ChangeSpec) : _root_.Go.OpenSpec := { _root_.Go.OpenSpec.ofChange s with cond := some uptoSmall }

/-- 'laws.FnExactBlocksOf', WHERE WHAT IT READS IS OF BULK AT MOST 1048576: true; the input reads as it did. -/
def fnExactBlocksOfUptoRow : OpenClaim := { program := "ytljmenkgboaciaa", sum := "48e9f841f85efc465cfd3703e86486d654ea6c1b8be0fe8e25dd947591c4a5d5", func := "loop.example/g01081/laws.FnExactBlocksOf", spec := "fnExactBlocksOf", unfollowed := true, recurses := true, plainKeys := false, apart := false, narrowed := true }
def FnExactBlocksOfUptoSaid : Prop := fnExactBlocksOfUptoRow.holds Try.pinned (OpenSpec.upto fnExactBlocksOfSpec)

/-- 'laws.FnExactRunBlocks', WHERE WHAT IT READS IS OF BULK AT MOST 1048576: true; the input reads as it did. -/
def fnExactRunBlocksUptoRow : OpenClaim := { program := "ytljmenkgboaciaa", sum := "48e9f841f85efc465cfd3703e86486d654ea6c1b8be0fe8e25dd947591c4a5d5", func := "loop.example/g01081/laws.FnExactRunBlocks", spec := "fnExactRunBlocks", unfollowed := true, recurses := true, plainKeys := false, apart := false, narrowed := true }
def FnExactRunBlocksUptoSaid : Prop := fnExactRunBlocksUptoRow.holds Try.pinned (OpenSpec.upto fnExactRunBlocksSpec)

/-- 'laws.FnExactPatternText', WHERE WHAT IT READS IS OF BULK AT MOST 1048576: true; the input reads as it did. -/
def fnExactPatternTextUptoRow : OpenClaim := { program := "ytljmenkgboaciaa", sum := "48e9f841f85efc465cfd3703e86486d654ea6c1b8be0fe8e25dd947591c4a5d5", func := "loop.example/g01081/laws.FnExactPatternText", spec := "fnExactPatternText", inPlace := ["internal/abi.NoEscape", "internal/bytealg.MakeNoZero"], unfollowed := true, recurses := true, plainKeys := false, apart := false, narrowed := true }
def FnExactPatternTextUptoSaid : Prop := fnExactPatternTextUptoRow.holds Try.pinned (OpenSpec.upto fnExactPatternTextSpec)

/-- 'laws.FnExactValidDesign', WHERE WHAT IT READS IS OF BULK AT MOST 1048576: true; the input reads as it did. -/
def fnExactValidDesignUptoRow : OpenClaim := { program := "ytljmenkgboaciaa", sum := "48e9f841f85efc465cfd3703e86486d654ea6c1b8be0fe8e25dd947591c4a5d5", func := "loop.example/g01081/laws.FnExactValidDesign", spec := "fnExactValidDesign", unfollowed := true, recurses := true, plainKeys := false, apart := false, narrowed := true }
def FnExactValidDesignUptoSaid : Prop := fnExactValidDesignUptoRow.holds Try.pinned (OpenSpec.upto fnExactValidDesignSpec)

/-- 'laws.FnExactRunDesign', WHERE WHAT IT READS IS OF BULK AT MOST 1048576: true; the input reads as it did. -/
def fnExactRunDesignUptoRow : OpenClaim := { program := "ytljmenkgboaciaa", sum := "48e9f841f85efc465cfd3703e86486d654ea6c1b8be0fe8e25dd947591c4a5d5", func := "loop.example/g01081/laws.FnExactRunDesign", spec := "fnExactRunDesign", unfollowed := true, recurses := true, plainKeys := false, apart := false, narrowed := true }
def FnExactRunDesignUptoSaid : Prop := fnExactRunDesignUptoRow.holds Try.pinned (OpenSpec.upto fnExactRunDesignSpec)

/-- 'laws.FnExactGreedyDesign', WHERE WHAT IT READS IS OF BULK AT MOST 1048576: true; the input reads as it did. -/
def fnExactGreedyDesignUptoRow : OpenClaim := { program := "ytljmenkgboaciaa", sum := "48e9f841f85efc465cfd3703e86486d654ea6c1b8be0fe8e25dd947591c4a5d5", func := "loop.example/g01081/laws.FnExactGreedyDesign", spec := "fnExactGreedyDesign", unfollowed := true, recurses := true, plainKeys := false, apart := false, narrowed := true }
def FnExactGreedyDesignUptoSaid : Prop := fnExactGreedyDesignUptoRow.holds Try.pinned (OpenSpec.upto fnExactGreedyDesignSpec)

/-- 'laws.FnExactPaintOf', WHERE WHAT IT READS IS OF BULK AT MOST 1048576: true; the input reads as it did. -/
def fnExactPaintOfUptoRow : OpenClaim := { program := "ytljmenkgboaciaa", sum := "48e9f841f85efc465cfd3703e86486d654ea6c1b8be0fe8e25dd947591c4a5d5", func := "loop.example/g01081/laws.FnExactPaintOf", spec := "fnExactPaintOf", unfollowed := true, recurses := true, plainKeys := false, apart := false, narrowed := true }
def FnExactPaintOfUptoSaid : Prop := fnExactPaintOfUptoRow.holds Try.pinned (OpenSpec.upto fnExactPaintOfSpec)

/-- 'laws.FnExactReachedStates', WHERE WHAT IT READS IS OF BULK AT MOST 1048576: true; the input reads as it did. -/
def fnExactReachedStatesUptoRow : OpenClaim := { program := "ytljmenkgboaciaa", sum := "48e9f841f85efc465cfd3703e86486d654ea6c1b8be0fe8e25dd947591c4a5d5", func := "loop.example/g01081/laws.FnExactReachedStates", spec := "fnExactReachedStates", unfollowed := true, recurses := true, plainKeys := false, apart := false, narrowed := true }
def FnExactReachedStatesUptoSaid : Prop := fnExactReachedStatesUptoRow.holds Try.pinned (OpenSpec.upto fnExactReachedStatesSpec)

end Rows
end Go.Proofs.Ytljmenkgboaciaa
