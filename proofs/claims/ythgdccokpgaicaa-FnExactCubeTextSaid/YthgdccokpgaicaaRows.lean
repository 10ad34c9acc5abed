/-
  No cell of these rows narrows 'for every input' (looked for: loops, veiled, ifaces, maps, wideKeys, modest, calm, conditions, laid).
  DERIVED. THE GIVEN ROWS OF THIS SEAT. 10 by the template 'for every input the law returns true; each argument reads behind the call as it read before'; 0 by the template 'total and deterministic' (their statements: YthgdccokpgaicaaTotals.lean).
  GIVEN WITH THE SEED: the statements are not yours to turn. If you find one false, say at which input.
  Laid BY PROGRAM, IN A SANDBOX (cutbox-rows.mjs): the forced cells as the released guide's own fill.sh prints them over the translation 33792c9aadb311b1… (all of the seat's roots in one cut). By AI agents, Wed Nov 11 2026. No macro, syntax, notation, axiom, sorry.
-/
import Derived.Test.YthgdccokpgaicaaChecked
import GoSem.Claim
import GoSem.ClaimJoined
import GoSem.ClaimMapViews
import Derived.JoinedTies
import Derived.KernelRfl
namespace Go.Proofs.Ythgdccokpgaicaa
/- THE CELL 'sum', in the pinned program and in every row, IS THE sha256 OF THE DUMP (.gsa) THAT YthgdccokpgaicaaProg.lean LOADS. Nothing in Lean hashes anything: it is a label: what it is worth is what the hold of that sum in a sandbox is worth. -/
noncomputable def Try.pinned : Pinned := { name := "ythgdccokpgaicaa", sum := "33792c9aadb311b1a1c9f59241a0bc61e2d4c99c861615626bfd566e21e594b6", checked := Try.checked }
namespace Rows
def none {H : Type} : Left H := { results := [], args := [] }

/-- 'laws.FnExactCubeText': WHATEVER THE INPUT: true; the input reads as it did. -/
def fnExactCubeTextSpec : ChangeSpec := { name := "fnExactCubeText", fn := fun _ => fun
  | [d1, d2] => { results := [.lit (.bool true)], args := [d1, d2] }
  | _ => none }
def fnExactCubeTextRow : OpenClaim := { program := "ythgdccokpgaicaa", sum := "33792c9aadb311b1a1c9f59241a0bc61e2d4c99c861615626bfd566e21e594b6", func := "loop.example/g01081/laws.FnExactCubeText", spec := "fnExactCubeText", apart := false }
def FnExactCubeTextSaid : Prop := fnExactCubeTextRow.holds Try.pinned (OpenSpec.ofChange fnExactCubeTextSpec)

/-- ITS FALSE NEIGHBOUR: 'it returns false'. Refute it at one input. -/
def fnExactCubeTextWrong : ChangeSpec := { name := "fnExactCubeText", fn := fun _ => fun
  | [d1, d2] => { results := [.lit (.bool false)], args := [d1, d2] }
  | _ => none }
def FnExactCubeTextWrongFalsely : Prop := fnExactCubeTextRow.holds Try.pinned (OpenSpec.ofChange fnExactCubeTextWrong)

/-- 'laws.FnExactValidCircuit': WHATEVER THE INPUT: true; the input reads as it did. -/
def fnExactValidCircuitSpec : ChangeSpec := { name := "fnExactValidCircuit", fn := fun _ => fun
  | [d] => { results := [.lit (.bool true)], args := [d] }
  | _ => none }
def fnExactValidCircuitRow : OpenClaim := { program := "ythgdccokpgaicaa", sum := "33792c9aadb311b1a1c9f59241a0bc61e2d4c99c861615626bfd566e21e594b6", func := "loop.example/g01081/laws.FnExactValidCircuit", spec := "fnExactValidCircuit", unfollowed := true, recurses := true, apart := false }
def FnExactValidCircuitSaid : Prop := fnExactValidCircuitRow.holds Try.pinned (OpenSpec.ofChange fnExactValidCircuitSpec)

/-- ITS FALSE NEIGHBOUR: 'it returns false'. Refute it at one input. -/
def fnExactValidCircuitWrong : ChangeSpec := { name := "fnExactValidCircuit", fn := fun _ => fun
  | [d] => { results := [.lit (.bool false)], args := [d] }
  | _ => none }
def FnExactValidCircuitWrongFalsely : Prop := fnExactValidCircuitRow.holds Try.pinned (OpenSpec.ofChange fnExactValidCircuitWrong)

/-- 'laws.FnExactDepthOf': WHATEVER THE INPUT: true; the input reads as it did. -/
def fnExactDepthOfSpec : ChangeSpec := { name := "fnExactDepthOf", fn := fun _ => fun
  | [d] => { results := [.lit (.bool true)], args := [d] }
  | _ => none }
def fnExactDepthOfRow : OpenClaim := { program := "ythgdccokpgaicaa", sum := "33792c9aadb311b1a1c9f59241a0bc61e2d4c99c861615626bfd566e21e594b6", func := "loop.example/g01081/laws.FnExactDepthOf", spec := "fnExactDepthOf", unfollowed := true, recurses := true, apart := false }
def FnExactDepthOfSaid : Prop := fnExactDepthOfRow.holds Try.pinned (OpenSpec.ofChange fnExactDepthOfSpec)

/-- ITS FALSE NEIGHBOUR: 'it returns false'. Refute it at one input. -/
def fnExactDepthOfWrong : ChangeSpec := { name := "fnExactDepthOf", fn := fun _ => fun
  | [d] => { results := [.lit (.bool false)], args := [d] }
  | _ => none }
def FnExactDepthOfWrongFalsely : Prop := fnExactDepthOfRow.holds Try.pinned (OpenSpec.ofChange fnExactDepthOfWrong)

/-- 'laws.FnExactPrimesOf': WHATEVER THE INPUT: true; the input reads as it did. -/
def fnExactPrimesOfSpec : ChangeSpec := { name := "fnExactPrimesOf", fn := fun _ => fun
  | [d1, d2] => { results := [.lit (.bool true)], args := [d1, d2] }
  | _ => none }
def fnExactPrimesOfRow : OpenClaim := { program := "ythgdccokpgaicaa", sum := "33792c9aadb311b1a1c9f59241a0bc61e2d4c99c861615626bfd566e21e594b6", func := "loop.example/g01081/laws.FnExactPrimesOf", spec := "fnExactPrimesOf", unfollowed := true, recurses := true, apart := false }
def FnExactPrimesOfSaid : Prop := fnExactPrimesOfRow.holds Try.pinned (OpenSpec.ofChange fnExactPrimesOfSpec)

/-- ITS FALSE NEIGHBOUR: 'it returns false'. Refute it at one input. -/
def fnExactPrimesOfWrong : ChangeSpec := { name := "fnExactPrimesOf", fn := fun _ => fun
  | [d1, d2] => { results := [.lit (.bool false)], args := [d1, d2] }
  | _ => none }
def FnExactPrimesOfWrongFalsely : Prop := fnExactPrimesOfRow.holds Try.pinned (OpenSpec.ofChange fnExactPrimesOfWrong)

/-- 'laws.FnExactValidForm': WHATEVER THE INPUT: true; the input reads as it did. -/
def fnExactValidFormSpec : ChangeSpec := { name := "fnExactValidForm", fn := fun _ => fun
  | [d] => { results := [.lit (.bool true)], args := [d] }
  | _ => none }
def fnExactValidFormRow : OpenClaim := { program := "ythgdccokpgaicaa", sum := "33792c9aadb311b1a1c9f59241a0bc61e2d4c99c861615626bfd566e21e594b6", func := "loop.example/g01081/laws.FnExactValidForm", spec := "fnExactValidForm", unfollowed := true, recurses := true, apart := false }
def FnExactValidFormSaid : Prop := fnExactValidFormRow.holds Try.pinned (OpenSpec.ofChange fnExactValidFormSpec)

/-- ITS FALSE NEIGHBOUR: 'it returns false'. Refute it at one input. -/
def fnExactValidFormWrong : ChangeSpec := { name := "fnExactValidForm", fn := fun _ => fun
  | [d] => { results := [.lit (.bool false)], args := [d] }
  | _ => none }
def FnExactValidFormWrongFalsely : Prop := fnExactValidFormRow.holds Try.pinned (OpenSpec.ofChange fnExactValidFormWrong)

/-- 'laws.FnExactEvalCircuit': WHATEVER THE INPUT: true; the input reads as it did. -/
def fnExactEvalCircuitSpec : ChangeSpec := { name := "fnExactEvalCircuit", fn := fun _ => fun
  | [d1, d2] => { results := [.lit (.bool true)], args := [d1, d2] }
  | _ => none }
def fnExactEvalCircuitRow : OpenClaim := { program := "ythgdccokpgaicaa", sum := "33792c9aadb311b1a1c9f59241a0bc61e2d4c99c861615626bfd566e21e594b6", func := "loop.example/g01081/laws.FnExactEvalCircuit", spec := "fnExactEvalCircuit", unfollowed := true, recurses := true, apart := false }
def FnExactEvalCircuitSaid : Prop := fnExactEvalCircuitRow.holds Try.pinned (OpenSpec.ofChange fnExactEvalCircuitSpec)

/-- ITS FALSE NEIGHBOUR: 'it returns false'. Refute it at one input. -/
def fnExactEvalCircuitWrong : ChangeSpec := { name := "fnExactEvalCircuit", fn := fun _ => fun
  | [d1, d2] => { results := [.lit (.bool false)], args := [d1, d2] }
  | _ => none }
def FnExactEvalCircuitWrongFalsely : Prop := fnExactEvalCircuitRow.holds Try.pinned (OpenSpec.ofChange fnExactEvalCircuitWrong)

/-- 'laws.FnExactFormTiles': WHATEVER THE INPUT: true; the input reads as it did. -/
def fnExactFormTilesSpec : ChangeSpec := { name := "fnExactFormTiles", fn := fun _ => fun
  | [d] => { results := [.lit (.bool true)], args := [d] }
  | _ => none }
def fnExactFormTilesRow : OpenClaim := { program := "ythgdccokpgaicaa", sum := "33792c9aadb311b1a1c9f59241a0bc61e2d4c99c861615626bfd566e21e594b6", func := "loop.example/g01081/laws.FnExactFormTiles", spec := "fnExactFormTiles", unfollowed := true, recurses := true, apart := false }
def FnExactFormTilesSaid : Prop := fnExactFormTilesRow.holds Try.pinned (OpenSpec.ofChange fnExactFormTilesSpec)

/-- ITS FALSE NEIGHBOUR: 'it returns false'. Refute it at one input. -/
def fnExactFormTilesWrong : ChangeSpec := { name := "fnExactFormTiles", fn := fun _ => fun
  | [d] => { results := [.lit (.bool false)], args := [d] }
  | _ => none }
def FnExactFormTilesWrongFalsely : Prop := fnExactFormTilesRow.holds Try.pinned (OpenSpec.ofChange fnExactFormTilesWrong)

/-- 'laws.FnExactLeastCover': WHATEVER THE INPUT: true; the input reads as it did. -/
def fnExactLeastCoverSpec : ChangeSpec := { name := "fnExactLeastCover", fn := fun _ => fun
  | [d1, d2] => { results := [.lit (.bool true)], args := [d1, d2] }
  | _ => none }
def fnExactLeastCoverRow : OpenClaim := { program := "ythgdccokpgaicaa", sum := "33792c9aadb311b1a1c9f59241a0bc61e2d4c99c861615626bfd566e21e594b6", func := "loop.example/g01081/laws.FnExactLeastCover", spec := "fnExactLeastCover", unfollowed := true, recurses := true, apart := false }
def FnExactLeastCoverSaid : Prop := fnExactLeastCoverRow.holds Try.pinned (OpenSpec.ofChange fnExactLeastCoverSpec)

/-- ITS FALSE NEIGHBOUR: 'it returns false'. Refute it at one input. -/
def fnExactLeastCoverWrong : ChangeSpec := { name := "fnExactLeastCover", fn := fun _ => fun
  | [d1, d2] => { results := [.lit (.bool false)], args := [d1, d2] }
  | _ => none }
def FnExactLeastCoverWrongFalsely : Prop := fnExactLeastCoverRow.holds Try.pinned (OpenSpec.ofChange fnExactLeastCoverWrong)

/-- 'laws.FnExactTruthTable': WHATEVER THE INPUT: true; the input reads as it did. -/
def fnExactTruthTableSpec : ChangeSpec := { name := "fnExactTruthTable", fn := fun _ => fun
  | [d] => { results := [.lit (.bool true)], args := [d] }
  | _ => none }
def fnExactTruthTableRow : OpenClaim := { program := "ythgdccokpgaicaa", sum := "33792c9aadb311b1a1c9f59241a0bc61e2d4c99c861615626bfd566e21e594b6", func := "loop.example/g01081/laws.FnExactTruthTable", spec := "fnExactTruthTable", unfollowed := true, recurses := true, apart := false }
def FnExactTruthTableSaid : Prop := fnExactTruthTableRow.holds Try.pinned (OpenSpec.ofChange fnExactTruthTableSpec)

/-- ITS FALSE NEIGHBOUR: 'it returns false'. Refute it at one input. -/
def fnExactTruthTableWrong : ChangeSpec := { name := "fnExactTruthTable", fn := fun _ => fun
  | [d] => { results := [.lit (.bool false)], args := [d] }
  | _ => none }
def FnExactTruthTableWrongFalsely : Prop := fnExactTruthTableRow.holds Try.pinned (OpenSpec.ofChange fnExactTruthTableWrong)

/-- 'laws.FnExactEvalForm': WHATEVER THE INPUT: true; the input reads as it did. -/
def fnExactEvalFormSpec : ChangeSpec := { name := "fnExactEvalForm", fn := fun _ => fun
  | [d1, d2] => { results := [.lit (.bool true)], args := [d1, d2] }
  | _ => none }
def fnExactEvalFormRow : OpenClaim := { program := "ythgdccokpgaicaa", sum := "33792c9aadb311b1a1c9f59241a0bc61e2d4c99c861615626bfd566e21e594b6", func := "loop.example/g01081/laws.FnExactEvalForm", spec := "fnExactEvalForm", unfollowed := true, recurses := true, apart := false }
def FnExactEvalFormSaid : Prop := fnExactEvalFormRow.holds Try.pinned (OpenSpec.ofChange fnExactEvalFormSpec)

/-- ITS FALSE NEIGHBOUR: 'it returns false'. Refute it at one input. -/
def fnExactEvalFormWrong : ChangeSpec := { name := "fnExactEvalForm", fn := fun _ => fun
  | [d1, d2] => { results := [.lit (.bool false)], args := [d1, d2] }
  | _ => none }
def FnExactEvalFormWrongFalsely : Prop := fnExactEvalFormRow.holds Try.pinned (OpenSpec.ofChange fnExactEvalFormWrong)

/- THE SECOND FORM. 'bulk': how many values and letters a reading holds, each counted each time it is reached (what is shared counts as often as it is met; a slice's spare places count too). A statement '..UptoSaid' is the law's where the arguments, and the package variables that the reading takes, are together of bulk at most 1048576: NARROWER than '..Said'. Prove '..Said' where nothing that the law and all that it calls make is longer than what came in: it says more and counts as full. Else prove '..UptoSaid'. A law counts once. -/
mutual
def uptoBulk {H : Type} : DataW H → Nat
  | .lit (.string bytes) => bytes.length + 1
  | .lit _ => 1
  | .nil => 1
  | .ptr d => uptoBulk d + 1
  | .slice elems spare => uptoBulkAll elems + uptoBulkAll spare + 1
  | .agg parts => uptoBulkAll parts + 1
  | .iface _ d => uptoBulk d + 1
  | .map entries => uptoBulkEntries entries + 1
  | .held _ => 1
def uptoBulkAll {H : Type} : List (DataW H) → Nat
  | [] => 0
  | d :: r => uptoBulk d + uptoBulkAll r
def uptoBulkEntries {H : Type} : List (Lit × DataW H) → Nat
  | [] => 0
  | x :: r => uptoBulkEntry x + uptoBulkEntries r
def uptoBulkEntry {H : Type} : Lit × DataW H → Nat
  | (.string bytes, d) => bytes.length + uptoBulk d + 1
  | (_, d) => uptoBulk d + 1
 end
def uptoSmall : (H : Type) → List (DataW H) → Bool := fun _ ds => decide (uptoBulkAll ds ≤ 1048576)
def OpenSpec.upto (s : _root_.Go.ChangeSpec) : _root_.Go.OpenSpec := { _root_.Go.OpenSpec.ofChange s with cond := some uptoSmall }

/-- 'laws.FnExactCubeText', WHERE WHAT IT READS IS OF BULK AT MOST 1048576: true; the input reads as it did. -/
def fnExactCubeTextUptoRow : OpenClaim := { program := "ythgdccokpgaicaa", sum := "33792c9aadb311b1a1c9f59241a0bc61e2d4c99c861615626bfd566e21e594b6", func := "loop.example/g01081/laws.FnExactCubeText", spec := "fnExactCubeText", apart := false, narrowed := true }
def FnExactCubeTextUptoSaid : Prop := fnExactCubeTextUptoRow.holds Try.pinned (OpenSpec.upto fnExactCubeTextSpec)

/-- 'laws.FnExactValidCircuit', WHERE WHAT IT READS IS OF BULK AT MOST 1048576: true; the input reads as it did. -/
def fnExactValidCircuitUptoRow : OpenClaim := { program := "ythgdccokpgaicaa", sum := "33792c9aadb311b1a1c9f59241a0bc61e2d4c99c861615626bfd566e21e594b6", func := "loop.example/g01081/laws.FnExactValidCircuit", spec := "fnExactValidCircuit", unfollowed := true, recurses := true, apart := false, narrowed := true }
def FnExactValidCircuitUptoSaid : Prop := fnExactValidCircuitUptoRow.holds Try.pinned (OpenSpec.upto fnExactValidCircuitSpec)

/-- 'laws.FnExactDepthOf', WHERE WHAT IT READS IS OF BULK AT MOST 1048576: true; the input reads as it did. -/
def fnExactDepthOfUptoRow : OpenClaim := { program := "ythgdccokpgaicaa", sum := "33792c9aadb311b1a1c9f59241a0bc61e2d4c99c861615626bfd566e21e594b6", func := "loop.example/g01081/laws.FnExactDepthOf", spec := "fnExactDepthOf", unfollowed := true, recurses := true, apart := false, narrowed := true }
def FnExactDepthOfUptoSaid : Prop := fnExactDepthOfUptoRow.holds Try.pinned (OpenSpec.upto fnExactDepthOfSpec)

/-- 'laws.FnExactPrimesOf', WHERE WHAT IT READS IS OF BULK AT MOST 1048576: true; the input reads as it did. -/
def fnExactPrimesOfUptoRow : OpenClaim := { program := "ythgdccokpgaicaa", sum := "33792c9aadb311b1a1c9f59241a0bc61e2d4c99c861615626bfd566e21e594b6", func := "loop.example/g01081/laws.FnExactPrimesOf", spec := "fnExactPrimesOf", unfollowed := true, recurses := true, apart := false, narrowed := true }
def FnExactPrimesOfUptoSaid : Prop := fnExactPrimesOfUptoRow.holds Try.pinned (OpenSpec.upto fnExactPrimesOfSpec)

/-- 'laws.FnExactValidForm', WHERE WHAT IT READS IS OF BULK AT MOST 1048576: true; the input reads as it did. -/
def fnExactValidFormUptoRow : OpenClaim := { program := "ythgdccokpgaicaa", sum := "33792c9aadb311b1a1c9f59241a0bc61e2d4c99c861615626bfd566e21e594b6", func := "loop.example/g01081/laws.FnExactValidForm", spec := "fnExactValidForm", unfollowed := true, recurses := true, apart := false, narrowed := true }
def FnExactValidFormUptoSaid : Prop := fnExactValidFormUptoRow.holds Try.pinned (OpenSpec.upto fnExactValidFormSpec)

/-- 'laws.FnExactEvalCircuit', WHERE WHAT IT READS IS OF BULK AT MOST 1048576: true; the input reads as it did. -/
def fnExactEvalCircuitUptoRow : OpenClaim := { program := "ythgdccokpgaicaa", sum := "33792c9aadb311b1a1c9f59241a0bc61e2d4c99c861615626bfd566e21e594b6", func := "loop.example/g01081/laws.FnExactEvalCircuit", spec := "fnExactEvalCircuit", unfollowed := true, recurses := true, apart := false, narrowed := true }
def FnExactEvalCircuitUptoSaid : Prop := fnExactEvalCircuitUptoRow.holds Try.pinned (OpenSpec.upto fnExactEvalCircuitSpec)

/-- 'laws.FnExactFormTiles', WHERE WHAT IT READS IS OF BULK AT MOST 1048576: true; the input reads as it did. -/
def fnExactFormTilesUptoRow : OpenClaim := { program := "ythgdccokpgaicaa", sum := "33792c9aadb311b1a1c9f59241a0bc61e2d4c99c861615626bfd566e21e594b6", func := "loop.example/g01081/laws.FnExactFormTiles", spec := "fnExactFormTiles", unfollowed := true, recurses := true, apart := false, narrowed := true }
def FnExactFormTilesUptoSaid : Prop := fnExactFormTilesUptoRow.holds Try.pinned (OpenSpec.upto fnExactFormTilesSpec)

/-- 'laws.FnExactLeastCover', WHERE WHAT IT READS IS OF BULK AT MOST 1048576: true; the input reads as it did. -/
def fnExactLeastCoverUptoRow : OpenClaim := { program := "ythgdccokpgaicaa", sum := "33792c9aadb311b1a1c9f59241a0bc61e2d4c99c861615626bfd566e21e594b6", func := "loop.example/g01081/laws.FnExactLeastCover", spec := "fnExactLeastCover", unfollowed := true, recurses := true, apart := false, narrowed := true }
def FnExactLeastCoverUptoSaid : Prop := fnExactLeastCoverUptoRow.holds Try.pinned (OpenSpec.upto fnExactLeastCoverSpec)

/-- 'laws.FnExactTruthTable', WHERE WHAT IT READS IS OF BULK AT MOST 1048576: true; the input reads as it did. -/
def fnExactTruthTableUptoRow : OpenClaim := { program := "ythgdccokpgaicaa", sum := "33792c9aadb311b1a1c9f59241a0bc61e2d4c99c861615626bfd566e21e594b6", func := "loop.example/g01081/laws.FnExactTruthTable", spec := "fnExactTruthTable", unfollowed := true, recurses := true, apart := false, narrowed := true }
def FnExactTruthTableUptoSaid : Prop := fnExactTruthTableUptoRow.holds Try.pinned (OpenSpec.upto fnExactTruthTableSpec)

/-- 'laws.FnExactEvalForm', WHERE WHAT IT READS IS OF BULK AT MOST 1048576: true; the input reads as it did. -/
def fnExactEvalFormUptoRow : OpenClaim := { program := "ythgdccokpgaicaa", sum := "33792c9aadb311b1a1c9f59241a0bc61e2d4c99c861615626bfd566e21e594b6", func := "loop.example/g01081/laws.FnExactEvalForm", spec := "fnExactEvalForm", unfollowed := true, recurses := true, apart := false, narrowed := true }
def FnExactEvalFormUptoSaid : Prop := fnExactEvalFormUptoRow.holds Try.pinned (OpenSpec.upto fnExactEvalFormSpec)

end Rows
end Go.Proofs.Ythgdccokpgaicaa
