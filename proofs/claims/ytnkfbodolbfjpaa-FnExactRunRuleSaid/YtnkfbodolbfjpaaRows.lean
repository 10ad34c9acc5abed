/-
  No cell of these rows narrows 'for every input' (looked for: loops, veiled, ifaces, maps, wideKeys, modest, calm, conditions, laid).
  DERIVED. THE GIVEN ROWS OF THIS SEAT. 8 by the template 'for every input the law returns true; each argument reads behind the call as it read before'; 0 by the template 'total and deterministic' (their statements: YtnkfbodolbfjpaaTotals.lean).
  GIVEN WITH THE SEED: the statements are not yours to turn. If you find one false, say at which input.
  Laid BY PROGRAM, IN A SANDBOX (cutbox-rows.mjs): the forced cells as the released guide's own fill.sh prints them over the translation f1b6a69b5ad3ec6c… (all of the seat's roots in one cut). By AI agents, Wed Nov 11 2026. No macro, syntax, notation, axiom, sorry.
-/
import Derived.Test.YtnkfbodolbfjpaaChecked
import GoSem.Claim
import GoSem.ClaimJoined
import GoSem.ClaimMapViews
import Derived.JoinedTies
import Derived.KernelRfl
namespace Go.Proofs.Ytnkfbodolbfjpaa
/- THE CELL 'sum', in the pinned program and in every row, IS THE sha256 OF THE DUMP (.gsa) THAT YtnkfbodolbfjpaaProg.lean LOADS. Nothing in Lean hashes anything: it is a label: what it is worth is what the hold of that sum in a sandbox is worth. -/
noncomputable def Try.pinned : Pinned := { name := "ytnkfbodolbfjpaa", sum := "f1b6a69b5ad3ec6ced687f8ed97894504c948babec866146dbf131a31674d856", checked := Try.checked }
namespace Rows
def none {H : Type} : Left H := { results := [], args := [] }

/-- 'laws.FnExactValidSignalSet': WHATEVER THE INPUT: true; the input reads as it did. -/
def fnExactValidSignalSetSpec : ChangeSpec := { name := "fnExactValidSignalSet", fn := fun _ => fun
  | [d] => { results := [.lit (.bool true)], args := [d] }
  | _ => none }
def fnExactValidSignalSetRow : OpenClaim := { program := "ytnkfbodolbfjpaa", sum := "f1b6a69b5ad3ec6ced687f8ed97894504c948babec866146dbf131a31674d856", func := "loop.example/g01081/laws.FnExactValidSignalSet", spec := "fnExactValidSignalSet", unfollowed := true, recurses := true, plainKeys := false, apart := false }
def FnExactValidSignalSetSaid : Prop := fnExactValidSignalSetRow.holds Try.pinned (OpenSpec.ofChange fnExactValidSignalSetSpec)

/-- ITS FALSE NEIGHBOUR: 'it returns false'. Refute it at one input. -/
def fnExactValidSignalSetWrong : ChangeSpec := { name := "fnExactValidSignalSet", fn := fun _ => fun
  | [d] => { results := [.lit (.bool false)], args := [d] }
  | _ => none }
def FnExactValidSignalSetWrongFalsely : Prop := fnExactValidSignalSetRow.holds Try.pinned (OpenSpec.ofChange fnExactValidSignalSetWrong)

/-- 'laws.FnExactPassiveSet': WHATEVER THE INPUT: true; the input reads as it did. -/
def fnExactPassiveSetSpec : ChangeSpec := { name := "fnExactPassiveSet", fn := fun _ => fun
  | [d] => { results := [.lit (.bool true)], args := [d] }
  | _ => none }
def fnExactPassiveSetRow : OpenClaim := { program := "ytnkfbodolbfjpaa", sum := "f1b6a69b5ad3ec6ced687f8ed97894504c948babec866146dbf131a31674d856", func := "loop.example/g01081/laws.FnExactPassiveSet", spec := "fnExactPassiveSet", unfollowed := true, recurses := true, plainKeys := false, apart := false }
def FnExactPassiveSetSaid : Prop := fnExactPassiveSetRow.holds Try.pinned (OpenSpec.ofChange fnExactPassiveSetSpec)

/-- ITS FALSE NEIGHBOUR: 'it returns false'. Refute it at one input. -/
def fnExactPassiveSetWrong : ChangeSpec := { name := "fnExactPassiveSet", fn := fun _ => fun
  | [d] => { results := [.lit (.bool false)], args := [d] }
  | _ => none }
def FnExactPassiveSetWrongFalsely : Prop := fnExactPassiveSetRow.holds Try.pinned (OpenSpec.ofChange fnExactPassiveSetWrong)

/-- 'laws.FnExactPatternText': WHATEVER THE INPUT: true; the input reads as it did. -/
def fnExactPatternTextSpec : ChangeSpec := { name := "fnExactPatternText", fn := fun _ => fun
  | [d] => { results := [.lit (.bool true)], args := [d] }
  | _ => none }
def fnExactPatternTextRow : OpenClaim := { program := "ytnkfbodolbfjpaa", sum := "f1b6a69b5ad3ec6ced687f8ed97894504c948babec866146dbf131a31674d856", func := "loop.example/g01081/laws.FnExactPatternText", spec := "fnExactPatternText", inPlace := ["internal/abi.NoEscape", "internal/bytealg.MakeNoZero"], unfollowed := true, recurses := true, plainKeys := false, apart := false }
def FnExactPatternTextSaid : Prop := fnExactPatternTextRow.holds Try.pinned (OpenSpec.ofChange fnExactPatternTextSpec)

/-- ITS FALSE NEIGHBOUR: 'it returns false'. Refute it at one input. -/
def fnExactPatternTextWrong : ChangeSpec := { name := "fnExactPatternText", fn := fun _ => fun
  | [d] => { results := [.lit (.bool false)], args := [d] }
  | _ => none }
def FnExactPatternTextWrongFalsely : Prop := fnExactPatternTextRow.holds Try.pinned (OpenSpec.ofChange fnExactPatternTextWrong)

/-- 'laws.FnExactScaleUp': WHATEVER THE INPUT: true; the input reads as it did. -/
def fnExactScaleUpSpec : ChangeSpec := { name := "fnExactScaleUp", fn := fun _ => fun
  | [d1, d2] => { results := [.lit (.bool true)], args := [d1, d2] }
  | _ => none }
def fnExactScaleUpRow : OpenClaim := { program := "ytnkfbodolbfjpaa", sum := "f1b6a69b5ad3ec6ced687f8ed97894504c948babec866146dbf131a31674d856", func := "loop.example/g01081/laws.FnExactScaleUp", spec := "fnExactScaleUp", unfollowed := true, recurses := true, plainKeys := false, apart := false }
def FnExactScaleUpSaid : Prop := fnExactScaleUpRow.holds Try.pinned (OpenSpec.ofChange fnExactScaleUpSpec)

/-- ITS FALSE NEIGHBOUR: 'it returns false'. Refute it at one input. -/
def fnExactScaleUpWrong : ChangeSpec := { name := "fnExactScaleUp", fn := fun _ => fun
  | [d1, d2] => { results := [.lit (.bool false)], args := [d1, d2] }
  | _ => none }
def FnExactScaleUpWrongFalsely : Prop := fnExactScaleUpRow.holds Try.pinned (OpenSpec.ofChange fnExactScaleUpWrong)

/-- 'laws.FnExactLeastCover': WHATEVER THE INPUT: true; the input reads as it did. -/
def fnExactLeastCoverSpec : ChangeSpec := { name := "fnExactLeastCover", fn := fun _ => fun
  | [d1, d2] => { results := [.lit (.bool true)], args := [d1, d2] }
  | _ => none }
def fnExactLeastCoverRow : OpenClaim := { program := "ytnkfbodolbfjpaa", sum := "f1b6a69b5ad3ec6ced687f8ed97894504c948babec866146dbf131a31674d856", func := "loop.example/g01081/laws.FnExactLeastCover", spec := "fnExactLeastCover", unfollowed := true, recurses := true, plainKeys := false, apart := false }
def FnExactLeastCoverSaid : Prop := fnExactLeastCoverRow.holds Try.pinned (OpenSpec.ofChange fnExactLeastCoverSpec)

/-- ITS FALSE NEIGHBOUR: 'it returns false'. Refute it at one input. -/
def fnExactLeastCoverWrong : ChangeSpec := { name := "fnExactLeastCover", fn := fun _ => fun
  | [d1, d2] => { results := [.lit (.bool false)], args := [d1, d2] }
  | _ => none }
def FnExactLeastCoverWrongFalsely : Prop := fnExactLeastCoverRow.holds Try.pinned (OpenSpec.ofChange fnExactLeastCoverWrong)

/-- 'laws.FnExactMergePieces': WHATEVER THE INPUT: true; the input reads as it did. -/
def fnExactMergePiecesSpec : ChangeSpec := { name := "fnExactMergePieces", fn := fun _ => fun
  | [d1, d2, d3] => { results := [.lit (.bool true)], args := [d1, d2, d3] }
  | _ => none }
def fnExactMergePiecesRow : OpenClaim := { program := "ytnkfbodolbfjpaa", sum := "f1b6a69b5ad3ec6ced687f8ed97894504c948babec866146dbf131a31674d856", func := "loop.example/g01081/laws.FnExactMergePieces", spec := "fnExactMergePieces", unfollowed := true, recurses := true, plainKeys := false, apart := false }
def FnExactMergePiecesSaid : Prop := fnExactMergePiecesRow.holds Try.pinned (OpenSpec.ofChange fnExactMergePiecesSpec)

/-- ITS FALSE NEIGHBOUR: 'it returns false'. Refute it at one input. -/
def fnExactMergePiecesWrong : ChangeSpec := { name := "fnExactMergePieces", fn := fun _ => fun
  | [d1, d2, d3] => { results := [.lit (.bool false)], args := [d1, d2, d3] }
  | _ => none }
def FnExactMergePiecesWrongFalsely : Prop := fnExactMergePiecesRow.holds Try.pinned (OpenSpec.ofChange fnExactMergePiecesWrong)

/-- 'laws.FnExactGreedyDesign': WHATEVER THE INPUT: true; the input reads as it did. -/
def fnExactGreedyDesignSpec : ChangeSpec := { name := "fnExactGreedyDesign", fn := fun _ => fun
  | [d] => { results := [.lit (.bool true)], args := [d] }
  | _ => none }
def fnExactGreedyDesignRow : OpenClaim := { program := "ytnkfbodolbfjpaa", sum := "f1b6a69b5ad3ec6ced687f8ed97894504c948babec866146dbf131a31674d856", func := "loop.example/g01081/laws.FnExactGreedyDesign", spec := "fnExactGreedyDesign", unfollowed := true, recurses := true, plainKeys := false, apart := false }
def FnExactGreedyDesignSaid : Prop := fnExactGreedyDesignRow.holds Try.pinned (OpenSpec.ofChange fnExactGreedyDesignSpec)

/-- ITS FALSE NEIGHBOUR: 'it returns false'. Refute it at one input. -/
def fnExactGreedyDesignWrong : ChangeSpec := { name := "fnExactGreedyDesign", fn := fun _ => fun
  | [d] => { results := [.lit (.bool false)], args := [d] }
  | _ => none }
def FnExactGreedyDesignWrongFalsely : Prop := fnExactGreedyDesignRow.holds Try.pinned (OpenSpec.ofChange fnExactGreedyDesignWrong)

/-- 'laws.FnExactRunRule': WHATEVER THE INPUT: true; the input reads as it did. -/
def fnExactRunRuleSpec : ChangeSpec := { name := "fnExactRunRule", fn := fun _ => fun
  | [d1, d2, d3] => { results := [.lit (.bool true)], args := [d1, d2, d3] }
  | _ => none }
def fnExactRunRuleRow : OpenClaim := { program := "ytnkfbodolbfjpaa", sum := "f1b6a69b5ad3ec6ced687f8ed97894504c948babec866146dbf131a31674d856", func := "loop.example/g01081/laws.FnExactRunRule", spec := "fnExactRunRule", unfollowed := true, recurses := true, plainKeys := false, apart := false }
def FnExactRunRuleSaid : Prop := fnExactRunRuleRow.holds Try.pinned (OpenSpec.ofChange fnExactRunRuleSpec)

/-- ITS FALSE NEIGHBOUR: 'it returns false'. Refute it at one input. -/
def fnExactRunRuleWrong : ChangeSpec := { name := "fnExactRunRule", fn := fun _ => fun
  | [d1, d2, d3] => { results := [.lit (.bool false)], args := [d1, d2, d3] }
  | _ => none }
def FnExactRunRuleWrongFalsely : Prop := fnExactRunRuleRow.holds Try.pinned (OpenSpec.ofChange fnExactRunRuleWrong)

/- THE SECOND FORM. 'bulk': how many values and letters a reading holds, each counted each time it is reached (what is shared counts as often as it is met; a slice's spare places count too). A statement '..UptoSaid' is the law's where the arguments, and the package variables that the reading takes, are together of bulk at most 1048576: NARROWER than '..Said'. Prove '..Said' where nothing that the law and all that it calls make is longer than what came in: it says more and counts as full. Else prove '..UptoSaid'. A law counts once. -/
mutual
def uptoBulk {H : Type} : DataW H → Nat
  | .lit (.string bytes) => bytes.length + 1
  | .lit _ => 1
  | .nil => 1
  | .ptr d => uptoBulk d + 1
  | .slice elems spare => uptoBulkAll elems + uptoBulkAll spare + 1
  | .agg parts => uptoBulkAll parts + 1
  | .iface _ d => uptoBulk d + 1
  | .map entries => uptoBulkEntries entries + 1
  | .held _ => 1
def uptoBulkAll {H : Type} : List (DataW H) → Nat
  | [] => 0
  | d :: r => uptoBulk d + uptoBulkAll r
def uptoBulkEntries {H : Type} : List (Lit × DataW H) → Nat
  | [] => 0
  | x :: r => uptoBulkEntry x + uptoBulkEntries r
def uptoBulkEntry {H : Type} : Lit × DataW H → Nat
  | (.string bytes, d) => bytes.length + uptoBulk d + 1
  | (_, d) => uptoBulk d + 1
 end
def uptoSmall : (H : Type) → List (DataW H) → Bool := fun _ ds => decide (uptoBulkAll ds ≤ 1048576)
def OpenSpec.upto (s : _root_.Go.ChangeSpec) : _root_.Go.OpenSpec := { _root_.Go.OpenSpec.ofChange s with cond := some uptoSmall }

/-- 'laws.FnExactValidSignalSet', WHERE WHAT IT READS IS OF BULK AT MOST 1048576: true; the input reads as it did. -/
def fnExactValidSignalSetUptoRow : OpenClaim := { program := "ytnkfbodolbfjpaa", sum := "f1b6a69b5ad3ec6ced687f8ed97894504c948babec866146dbf131a31674d856", func := "loop.example/g01081/laws.FnExactValidSignalSet", spec := "fnExactValidSignalSet", unfollowed := true, recurses := true, plainKeys := false, apart := false, narrowed := true }
def FnExactValidSignalSetUptoSaid : Prop := fnExactValidSignalSetUptoRow.holds Try.pinned (OpenSpec.upto fnExactValidSignalSetSpec)

/-- 'laws.FnExactPassiveSet', WHERE WHAT IT READS IS OF BULK AT MOST 1048576: true; the input reads as it did. -/
def fnExactPassiveSetUptoRow : OpenClaim := { program := "ytnkfbodolbfjpaa", sum := "f1b6a69b5ad3ec6ced687f8ed97894504c948babec866146dbf131a31674d856", func := "loop.example/g01081/laws.FnExactPassiveSet", spec := "fnExactPassiveSet", unfollowed := true, recurses := true, plainKeys := false, apart := false, narrowed := true }
def FnExactPassiveSetUptoSaid : Prop := fnExactPassiveSetUptoRow.holds Try.pinned (OpenSpec.upto fnExactPassiveSetSpec)

/-- 'laws.FnExactPatternText', WHERE WHAT IT READS IS OF BULK AT MOST 1048576: true; the input reads as it did. -/
def fnExactPatternTextUptoRow : OpenClaim := { program := "ytnkfbodolbfjpaa", sum := "f1b6a69b5ad3ec6ced687f8ed97894504c948babec866146dbf131a31674d856", func := "loop.example/g01081/laws.FnExactPatternText", spec := "fnExactPatternText", inPlace := ["internal/abi.NoEscape", "internal/bytealg.MakeNoZero"], unfollowed := true, recurses := true, plainKeys := false, apart := false, narrowed := true }
def FnExactPatternTextUptoSaid : Prop := fnExactPatternTextUptoRow.holds Try.pinned (OpenSpec.upto fnExactPatternTextSpec)

/-- 'laws.FnExactScaleUp', WHERE WHAT IT READS IS OF BULK AT MOST 1048576: true; the input reads as it did. -/
def fnExactScaleUpUptoRow : OpenClaim := { program := "ytnkfbodolbfjpaa", sum := "f1b6a69b5ad3ec6ced687f8ed97894504c948babec866146dbf131a31674d856", func := "loop.example/g01081/laws.FnExactScaleUp", spec := "fnExactScaleUp", unfollowed := true, recurses := true, plainKeys := false, apart := false, narrowed := true }
def FnExactScaleUpUptoSaid : Prop := fnExactScaleUpUptoRow.holds Try.pinned (OpenSpec.upto fnExactScaleUpSpec)

/-- 'laws.FnExactLeastCover', WHERE WHAT IT READS IS OF BULK AT MOST 1048576: true; the input reads as it did. -/
def fnExactLeastCoverUptoRow : OpenClaim := { program := "ytnkfbodolbfjpaa", sum := "f1b6a69b5ad3ec6ced687f8ed97894504c948babec866146dbf131a31674d856", func := "loop.example/g01081/laws.FnExactLeastCover", spec := "fnExactLeastCover", unfollowed := true, recurses := true, plainKeys := false, apart := false, narrowed := true }
def FnExactLeastCoverUptoSaid : Prop := fnExactLeastCoverUptoRow.holds Try.pinned (OpenSpec.upto fnExactLeastCoverSpec)

/-- 'laws.FnExactMergePieces', WHERE WHAT IT READS IS OF BULK AT MOST 1048576: true; the input reads as it did. -/
def fnExactMergePiecesUptoRow : OpenClaim := { program := "ytnkfbodolbfjpaa", sum := "f1b6a69b5ad3ec6ced687f8ed97894504c948babec866146dbf131a31674d856", func := "loop.example/g01081/laws.FnExactMergePieces", spec := "fnExactMergePieces", unfollowed := true, recurses := true, plainKeys := false, apart := false, narrowed := true }
def FnExactMergePiecesUptoSaid : Prop := fnExactMergePiecesUptoRow.holds Try.pinned (OpenSpec.upto fnExactMergePiecesSpec)

/-- 'laws.FnExactGreedyDesign', WHERE WHAT IT READS IS OF BULK AT MOST 1048576: true; the input reads as it did. -/
def fnExactGreedyDesignUptoRow : OpenClaim := { program := "ytnkfbodolbfjpaa", sum := "f1b6a69b5ad3ec6ced687f8ed97894504c948babec866146dbf131a31674d856", func := "loop.example/g01081/laws.FnExactGreedyDesign", spec := "fnExactGreedyDesign", unfollowed := true, recurses := true, plainKeys := false, apart := false, narrowed := true }
def FnExactGreedyDesignUptoSaid : Prop := fnExactGreedyDesignUptoRow.holds Try.pinned (OpenSpec.upto fnExactGreedyDesignSpec)

/-- 'laws.FnExactRunRule', WHERE WHAT IT READS IS OF BULK AT MOST 1048576: true; the input reads as it did. -/
def fnExactRunRuleUptoRow : OpenClaim := { program := "ytnkfbodolbfjpaa", sum := "f1b6a69b5ad3ec6ced687f8ed97894504c948babec866146dbf131a31674d856", func := "loop.example/g01081/laws.FnExactRunRule", spec := "fnExactRunRule", unfollowed := true, recurses := true, plainKeys := false, apart := false, narrowed := true }
def FnExactRunRuleUptoSaid : Prop := fnExactRunRuleUptoRow.holds Try.pinned (OpenSpec.upto fnExactRunRuleSpec)

end Rows
end Go.Proofs.Ytnkfbodolbfjpaa
