/-
  No cell of these rows narrows 'for every input' (looked for: loops, veiled, ifaces, maps, wideKeys, modest, calm, conditions, laid).
  DERIVED. THE GIVEN ROWS OF THIS SEAT. 11 by the template 'for every input the law returns true; each argument reads behind the call as it read before'; 0 by the template 'total and deterministic' (their statements: YtbdhhldbggidlaaTotals.lean).
  GIVEN WITH THE SEED: the statements are not yours to turn. If you find one false, say at which input.
  Laid BY PROGRAM, IN A SANDBOX (cutbox-rows.mjs): the forced cells as the released guide's own fill.sh prints them over the translation ab5c99f77f55f0ca… (all of the seat's roots in one cut). By AI agents, Wed Nov 11 2026. No macro, syntax, notation, axiom, sorry.
-/
import Derived.Test.YtbdhhldbggidlaaChecked
import GoSem.Claim
import GoSem.ClaimJoined
import GoSem.ClaimMapViews
import Derived.JoinedTies
import Derived.KernelRfl
namespace Go.Proofs.Ytbdhhldbggidlaa
/- THE CELL 'sum', in the pinned program and in every row, IS THE sha256 OF THE DUMP (.gsa) THAT YtbdhhldbggidlaaProg.lean LOADS. Nothing in Lean hashes anything: it is a label: what it is worth is what the hold of that sum in a sandbox is worth. -/
noncomputable def Try.pinned : Pinned := { name := "ytbdhhldbggidlaa", sum := "ab5c99f77f55f0ca50a2be930d0848e5183b3d6ad8096765e2ef2e5ad15d0a07", checked := Try.checked }
namespace Rows
def none {H : Type} : Left H := { results := [], args := [] }

/-- 'laws.FnExactPassesOf': WHATEVER THE INPUT: true; the input reads as it did. -/
def fnExactPassesOfSpec : ChangeSpec := { name := "fnExactPassesOf", fn := fun _ => fun
  | [d1, d2] => { results := [.lit (.bool true)], args := [d1, d2] }
  | _ => none }
def fnExactPassesOfRow : OpenClaim := { program := "ytbdhhldbggidlaa", sum := "ab5c99f77f55f0ca50a2be930d0848e5183b3d6ad8096765e2ef2e5ad15d0a07", func := "loop.example/g01081/laws.FnExactPassesOf", spec := "fnExactPassesOf", unfollowed := true, recurses := true, plainKeys := false, apart := false }
def FnExactPassesOfSaid : Prop := fnExactPassesOfRow.holds Try.pinned (OpenSpec.ofChange fnExactPassesOfSpec)

/-- ITS FALSE NEIGHBOUR: 'it returns false'. Refute it at one input. -/
def fnExactPassesOfWrong : ChangeSpec := { name := "fnExactPassesOf", fn := fun _ => fun
  | [d1, d2] => { results := [.lit (.bool false)], args := [d1, d2] }
  | _ => none }
def FnExactPassesOfWrongFalsely : Prop := fnExactPassesOfRow.holds Try.pinned (OpenSpec.ofChange fnExactPassesOfWrong)

/-- 'laws.FnExactSamePlan': WHATEVER THE INPUT: true; the input reads as it did. -/
def fnExactSamePlanSpec : ChangeSpec := { name := "fnExactSamePlan", fn := fun _ => fun
  | [d1, d2] => { results := [.lit (.bool true)], args := [d1, d2] }
  | _ => none }
def fnExactSamePlanRow : OpenClaim := { program := "ytbdhhldbggidlaa", sum := "ab5c99f77f55f0ca50a2be930d0848e5183b3d6ad8096765e2ef2e5ad15d0a07", func := "loop.example/g01081/laws.FnExactSamePlan", spec := "fnExactSamePlan", unfollowed := true, recurses := true, plainKeys := false, apart := false }
def FnExactSamePlanSaid : Prop := fnExactSamePlanRow.holds Try.pinned (OpenSpec.ofChange fnExactSamePlanSpec)

/-- ITS FALSE NEIGHBOUR: 'it returns false'. Refute it at one input. -/
def fnExactSamePlanWrong : ChangeSpec := { name := "fnExactSamePlan", fn := fun _ => fun
  | [d1, d2] => { results := [.lit (.bool false)], args := [d1, d2] }
  | _ => none }
def FnExactSamePlanWrongFalsely : Prop := fnExactSamePlanRow.holds Try.pinned (OpenSpec.ofChange fnExactSamePlanWrong)

/-- 'laws.FnExactCountStates': WHATEVER THE INPUT: true; the input reads as it did. -/
def fnExactCountStatesSpec : ChangeSpec := { name := "fnExactCountStates", fn := fun _ => fun
  | [d1, d2] => { results := [.lit (.bool true)], args := [d1, d2] }
  | _ => none }
def fnExactCountStatesRow : OpenClaim := { program := "ytbdhhldbggidlaa", sum := "ab5c99f77f55f0ca50a2be930d0848e5183b3d6ad8096765e2ef2e5ad15d0a07", func := "loop.example/g01081/laws.FnExactCountStates", spec := "fnExactCountStates", unfollowed := true, recurses := true, plainKeys := false, apart := false }
def FnExactCountStatesSaid : Prop := fnExactCountStatesRow.holds Try.pinned (OpenSpec.ofChange fnExactCountStatesSpec)

/-- ITS FALSE NEIGHBOUR: 'it returns false'. Refute it at one input. -/
def fnExactCountStatesWrong : ChangeSpec := { name := "fnExactCountStates", fn := fun _ => fun
  | [d1, d2] => { results := [.lit (.bool false)], args := [d1, d2] }
  | _ => none }
def FnExactCountStatesWrongFalsely : Prop := fnExactCountStatesRow.holds Try.pinned (OpenSpec.ofChange fnExactCountStatesWrong)

/-- 'laws.FnExactRunRule': WHATEVER THE INPUT: true; the input reads as it did. -/
def fnExactRunRuleSpec : ChangeSpec := { name := "fnExactRunRule", fn := fun _ => fun
  | [d1, d2, d3] => { results := [.lit (.bool true)], args := [d1, d2, d3] }
  | _ => none }
def fnExactRunRuleRow : OpenClaim := { program := "ytbdhhldbggidlaa", sum := "ab5c99f77f55f0ca50a2be930d0848e5183b3d6ad8096765e2ef2e5ad15d0a07", func := "loop.example/g01081/laws.FnExactRunRule", spec := "fnExactRunRule", unfollowed := true, recurses := true, plainKeys := false, apart := false }
def FnExactRunRuleSaid : Prop := fnExactRunRuleRow.holds Try.pinned (OpenSpec.ofChange fnExactRunRuleSpec)

/-- ITS FALSE NEIGHBOUR: 'it returns false'. Refute it at one input. -/
def fnExactRunRuleWrong : ChangeSpec := { name := "fnExactRunRule", fn := fun _ => fun
  | [d1, d2, d3] => { results := [.lit (.bool false)], args := [d1, d2, d3] }
  | _ => none }
def FnExactRunRuleWrongFalsely : Prop := fnExactRunRuleRow.holds Try.pinned (OpenSpec.ofChange fnExactRunRuleWrong)

/-- 'laws.FnExactPrimesOf': WHATEVER THE INPUT: true; the input reads as it did. -/
def fnExactPrimesOfSpec : ChangeSpec := { name := "fnExactPrimesOf", fn := fun _ => fun
  | [d1, d2] => { results := [.lit (.bool true)], args := [d1, d2] }
  | _ => none }
def fnExactPrimesOfRow : OpenClaim := { program := "ytbdhhldbggidlaa", sum := "ab5c99f77f55f0ca50a2be930d0848e5183b3d6ad8096765e2ef2e5ad15d0a07", func := "loop.example/g01081/laws.FnExactPrimesOf", spec := "fnExactPrimesOf", unfollowed := true, recurses := true, plainKeys := false, apart := false }
def FnExactPrimesOfSaid : Prop := fnExactPrimesOfRow.holds Try.pinned (OpenSpec.ofChange fnExactPrimesOfSpec)

/-- ITS FALSE NEIGHBOUR: 'it returns false'. Refute it at one input. -/
def fnExactPrimesOfWrong : ChangeSpec := { name := "fnExactPrimesOf", fn := fun _ => fun
  | [d1, d2] => { results := [.lit (.bool false)], args := [d1, d2] }
  | _ => none }
def FnExactPrimesOfWrongFalsely : Prop := fnExactPrimesOfRow.holds Try.pinned (OpenSpec.ofChange fnExactPrimesOfWrong)

/-- 'laws.FnExactEvalForm': WHATEVER THE INPUT: true; the input reads as it did. -/
def fnExactEvalFormSpec : ChangeSpec := { name := "fnExactEvalForm", fn := fun _ => fun
  | [d1, d2] => { results := [.lit (.bool true)], args := [d1, d2] }
  | _ => none }
def fnExactEvalFormRow : OpenClaim := { program := "ytbdhhldbggidlaa", sum := "ab5c99f77f55f0ca50a2be930d0848e5183b3d6ad8096765e2ef2e5ad15d0a07", func := "loop.example/g01081/laws.FnExactEvalForm", spec := "fnExactEvalForm", unfollowed := true, recurses := true, plainKeys := false, apart := false }
def FnExactEvalFormSaid : Prop := fnExactEvalFormRow.holds Try.pinned (OpenSpec.ofChange fnExactEvalFormSpec)

/-- ITS FALSE NEIGHBOUR: 'it returns false'. Refute it at one input. -/
def fnExactEvalFormWrong : ChangeSpec := { name := "fnExactEvalForm", fn := fun _ => fun
  | [d1, d2] => { results := [.lit (.bool false)], args := [d1, d2] }
  | _ => none }
def FnExactEvalFormWrongFalsely : Prop := fnExactEvalFormRow.holds Try.pinned (OpenSpec.ofChange fnExactEvalFormWrong)

/-- 'laws.FnExactEvalCircuit': WHATEVER THE INPUT: true; the input reads as it did. -/
def fnExactEvalCircuitSpec : ChangeSpec := { name := "fnExactEvalCircuit", fn := fun _ => fun
  | [d1, d2] => { results := [.lit (.bool true)], args := [d1, d2] }
  | _ => none }
def fnExactEvalCircuitRow : OpenClaim := { program := "ytbdhhldbggidlaa", sum := "ab5c99f77f55f0ca50a2be930d0848e5183b3d6ad8096765e2ef2e5ad15d0a07", func := "loop.example/g01081/laws.FnExactEvalCircuit", spec := "fnExactEvalCircuit", unfollowed := true, recurses := true, plainKeys := false, apart := false }
def FnExactEvalCircuitSaid : Prop := fnExactEvalCircuitRow.holds Try.pinned (OpenSpec.ofChange fnExactEvalCircuitSpec)

/-- ITS FALSE NEIGHBOUR: 'it returns false'. Refute it at one input. -/
def fnExactEvalCircuitWrong : ChangeSpec := { name := "fnExactEvalCircuit", fn := fun _ => fun
  | [d1, d2] => { results := [.lit (.bool false)], args := [d1, d2] }
  | _ => none }
def FnExactEvalCircuitWrongFalsely : Prop := fnExactEvalCircuitRow.holds Try.pinned (OpenSpec.ofChange fnExactEvalCircuitWrong)

/-- 'laws.FnExactTruthTable': WHATEVER THE INPUT: true; the input reads as it did. -/
def fnExactTruthTableSpec : ChangeSpec := { name := "fnExactTruthTable", fn := fun _ => fun
  | [d] => { results := [.lit (.bool true)], args := [d] }
  | _ => none }
def fnExactTruthTableRow : OpenClaim := { program := "ytbdhhldbggidlaa", sum := "ab5c99f77f55f0ca50a2be930d0848e5183b3d6ad8096765e2ef2e5ad15d0a07", func := "loop.example/g01081/laws.FnExactTruthTable", spec := "fnExactTruthTable", unfollowed := true, recurses := true, plainKeys := false, apart := false }
def FnExactTruthTableSaid : Prop := fnExactTruthTableRow.holds Try.pinned (OpenSpec.ofChange fnExactTruthTableSpec)

/-- ITS FALSE NEIGHBOUR: 'it returns false'. Refute it at one input. -/
def fnExactTruthTableWrong : ChangeSpec := { name := "fnExactTruthTable", fn := fun _ => fun
  | [d] => { results := [.lit (.bool false)], args := [d] }
  | _ => none }
def FnExactTruthTableWrongFalsely : Prop := fnExactTruthTableRow.holds Try.pinned (OpenSpec.ofChange fnExactTruthTableWrong)

/-- 'laws.FnExactUniqueDesign': WHATEVER THE INPUT: true; the input reads as it did. -/
def fnExactUniqueDesignSpec : ChangeSpec := { name := "fnExactUniqueDesign", fn := fun _ => fun
  | [d] => { results := [.lit (.bool true)], args := [d] }
  | _ => none }
def fnExactUniqueDesignRow : OpenClaim := { program := "ytbdhhldbggidlaa", sum := "ab5c99f77f55f0ca50a2be930d0848e5183b3d6ad8096765e2ef2e5ad15d0a07", func := "loop.example/g01081/laws.FnExactUniqueDesign", spec := "fnExactUniqueDesign", unfollowed := true, recurses := true, plainKeys := false, apart := false }
def FnExactUniqueDesignSaid : Prop := fnExactUniqueDesignRow.holds Try.pinned (OpenSpec.ofChange fnExactUniqueDesignSpec)

/-- ITS FALSE NEIGHBOUR: 'it returns false'. Refute it at one input. -/
def fnExactUniqueDesignWrong : ChangeSpec := { name := "fnExactUniqueDesign", fn := fun _ => fun
  | [d] => { results := [.lit (.bool false)], args := [d] }
  | _ => none }
def FnExactUniqueDesignWrongFalsely : Prop := fnExactUniqueDesignRow.holds Try.pinned (OpenSpec.ofChange fnExactUniqueDesignWrong)

/-- 'laws.FnExactValidConfig': WHATEVER THE INPUT: true; the input reads as it did. -/
def fnExactValidConfigSpec : ChangeSpec := { name := "fnExactValidConfig", fn := fun _ => fun
  | [d1, d2] => { results := [.lit (.bool true)], args := [d1, d2] }
  | _ => none }
def fnExactValidConfigRow : OpenClaim := { program := "ytbdhhldbggidlaa", sum := "ab5c99f77f55f0ca50a2be930d0848e5183b3d6ad8096765e2ef2e5ad15d0a07", func := "loop.example/g01081/laws.FnExactValidConfig", spec := "fnExactValidConfig", unfollowed := true, recurses := true, plainKeys := false, apart := false }
def FnExactValidConfigSaid : Prop := fnExactValidConfigRow.holds Try.pinned (OpenSpec.ofChange fnExactValidConfigSpec)

/-- ITS FALSE NEIGHBOUR: 'it returns false'. Refute it at one input. -/
def fnExactValidConfigWrong : ChangeSpec := { name := "fnExactValidConfig", fn := fun _ => fun
  | [d1, d2] => { results := [.lit (.bool false)], args := [d1, d2] }
  | _ => none }
def FnExactValidConfigWrongFalsely : Prop := fnExactValidConfigRow.holds Try.pinned (OpenSpec.ofChange fnExactValidConfigWrong)

/-- 'laws.FnExactValidMachine': WHATEVER THE INPUT: true; the input reads as it did. -/
def fnExactValidMachineSpec : ChangeSpec := { name := "fnExactValidMachine", fn := fun _ => fun
  | [d] => { results := [.lit (.bool true)], args := [d] }
  | _ => none }
def fnExactValidMachineRow : OpenClaim := { program := "ytbdhhldbggidlaa", sum := "ab5c99f77f55f0ca50a2be930d0848e5183b3d6ad8096765e2ef2e5ad15d0a07", func := "loop.example/g01081/laws.FnExactValidMachine", spec := "fnExactValidMachine", unfollowed := true, recurses := true, plainKeys := false, apart := false }
def FnExactValidMachineSaid : Prop := fnExactValidMachineRow.holds Try.pinned (OpenSpec.ofChange fnExactValidMachineSpec)

/-- ITS FALSE NEIGHBOUR: 'it returns false'. Refute it at one input. -/
def fnExactValidMachineWrong : ChangeSpec := { name := "fnExactValidMachine", fn := fun _ => fun
  | [d] => { results := [.lit (.bool false)], args := [d] }
  | _ => none }
def FnExactValidMachineWrongFalsely : Prop := fnExactValidMachineRow.holds Try.pinned (OpenSpec.ofChange fnExactValidMachineWrong)

/- THE SECOND FORM. 'bulk': how many values and letters a reading holds, each counted each time it is reached (what is shared counts as often as it is met; a slice's spare places count too). A statement '..UptoSaid' is the law's where the arguments, and the package variables that the reading takes, are together of bulk at most 1048576: NARROWER than '..Said'. Prove '..Said' where nothing that the law and all that it calls make is longer than what came in: it says more and counts as full. Else prove '..UptoSaid'. A law counts once. -/
mutual
def uptoBulk {H : Type} : DataW H → Nat
  | .lit (.string bytes) => bytes.length + 1
  | .lit _ => 1
  | .nil => 1
  | .ptr d => uptoBulk d + 1
  | .slice elems spare => uptoBulkAll elems + uptoBulkAll spare + 1
  | .agg parts => uptoBulkAll parts + 1
  | .iface _ d => uptoBulk d + 1
  | .map entries => uptoBulkEntries entries + 1
  | .held _ => 1
def uptoBulkAll {H : Type} : List (DataW H) → Nat
  | [] => 0
  | d :: r => uptoBulk d + uptoBulkAll r
def uptoBulkEntries {H : Type} : List (Lit × DataW H) → Nat
  | [] => 0
  | x :: r => uptoBulkEntry x + uptoBulkEntries r
def uptoBulkEntry {H : Type} : Lit × DataW H → Nat
  | (.string bytes, d) => bytes.length + uptoBulk d + 1
  | (_, d) => uptoBulk d + 1
 end
def uptoSmall : (H : Type) → List (DataW H) → Bool := fun _ ds => decide (uptoBulkAll ds ≤ 1048576)
def OpenSpec.upto (s : _root_.Go.ChangeSpec) : _root_.Go.OpenSpec := { _root_.Go.OpenSpec.ofChange s with cond := some uptoSmall }

/-- 'laws.FnExactPassesOf', WHERE WHAT IT READS IS OF BULK AT MOST 1048576: true; the input reads as it did. -/
def fnExactPassesOfUptoRow : OpenClaim := { program := "ytbdhhldbggidlaa", sum := "ab5c99f77f55f0ca50a2be930d0848e5183b3d6ad8096765e2ef2e5ad15d0a07", func := "loop.example/g01081/laws.FnExactPassesOf", spec := "fnExactPassesOf", unfollowed := true, recurses := true, plainKeys := false, apart := false, narrowed := true }
def FnExactPassesOfUptoSaid : Prop := fnExactPassesOfUptoRow.holds Try.pinned (OpenSpec.upto fnExactPassesOfSpec)

/-- 'laws.FnExactSamePlan', WHERE WHAT IT READS IS OF BULK AT MOST 1048576: true; the input reads as it did. -/
def fnExactSamePlanUptoRow : OpenClaim := { program := "ytbdhhldbggidlaa", sum := "ab5c99f77f55f0ca50a2be930d0848e5183b3d6ad8096765e2ef2e5ad15d0a07", func := "loop.example/g01081/laws.FnExactSamePlan", spec := "fnExactSamePlan", unfollowed := true, recurses := true, plainKeys := false, apart := false, narrowed := true }
def FnExactSamePlanUptoSaid : Prop := fnExactSamePlanUptoRow.holds Try.pinned (OpenSpec.upto fnExactSamePlanSpec)

/-- 'laws.FnExactCountStates', WHERE WHAT IT READS IS OF BULK AT MOST 1048576: true; the input reads as it did. -/
def fnExactCountStatesUptoRow : OpenClaim := { program := "ytbdhhldbggidlaa", sum := "ab5c99f77f55f0ca50a2be930d0848e5183b3d6ad8096765e2ef2e5ad15d0a07", func := "loop.example/g01081/laws.FnExactCountStates", spec := "fnExactCountStates", unfollowed := true, recurses := true, plainKeys := false, apart := false, narrowed := true }
def FnExactCountStatesUptoSaid : Prop := fnExactCountStatesUptoRow.holds Try.pinned (OpenSpec.upto fnExactCountStatesSpec)

/-- 'laws.FnExactRunRule', WHERE WHAT IT READS IS OF BULK AT MOST 1048576: true; the input reads as it did. -/
def fnExactRunRuleUptoRow : OpenClaim := { program := "ytbdhhldbggidlaa", sum := "ab5c99f77f55f0ca50a2be930d0848e5183b3d6ad8096765e2ef2e5ad15d0a07", func := "loop.example/g01081/laws.FnExactRunRule", spec := "fnExactRunRule", unfollowed := true, recurses := true, plainKeys := false, apart := false, narrowed := true }
def FnExactRunRuleUptoSaid : Prop := fnExactRunRuleUptoRow.holds Try.pinned (OpenSpec.upto fnExactRunRuleSpec)

/-- 'laws.FnExactPrimesOf', WHERE WHAT IT READS IS OF BULK AT MOST 1048576: true; the input reads as it did. -/
def fnExactPrimesOfUptoRow : OpenClaim := { program := "ytbdhhldbggidlaa", sum := "ab5c99f77f55f0ca50a2be930d0848e5183b3d6ad8096765e2ef2e5ad15d0a07", func := "loop.example/g01081/laws.FnExactPrimesOf", spec := "fnExactPrimesOf", unfollowed := true, recurses := true, plainKeys := false, apart := false, narrowed := true }
def FnExactPrimesOfUptoSaid : Prop := fnExactPrimesOfUptoRow.holds Try.pinned (OpenSpec.upto fnExactPrimesOfSpec)

/-- 'laws.FnExactEvalForm', WHERE WHAT IT READS IS OF BULK AT MOST 1048576: true; the input reads as it did. -/
def fnExactEvalFormUptoRow : OpenClaim := { program := "ytbdhhldbggidlaa", sum := "ab5c99f77f55f0ca50a2be930d0848e5183b3d6ad8096765e2ef2e5ad15d0a07", func := "loop.example/g01081/laws.FnExactEvalForm", spec := "fnExactEvalForm", unfollowed := true, recurses := true, plainKeys := false, apart := false, narrowed := true }
def FnExactEvalFormUptoSaid : Prop := fnExactEvalFormUptoRow.holds Try.pinned (OpenSpec.upto fnExactEvalFormSpec)

/-- 'laws.FnExactEvalCircuit', WHERE WHAT IT READS IS OF BULK AT MOST 1048576: true; the input reads as it did. -/
def fnExactEvalCircuitUptoRow : OpenClaim := { program := "ytbdhhldbggidlaa", sum := "ab5c99f77f55f0ca50a2be930d0848e5183b3d6ad8096765e2ef2e5ad15d0a07", func := "loop.example/g01081/laws.FnExactEvalCircuit", spec := "fnExactEvalCircuit", unfollowed := true, recurses := true, plainKeys := false, apart := false, narrowed := true }
def FnExactEvalCircuitUptoSaid : Prop := fnExactEvalCircuitUptoRow.holds Try.pinned (OpenSpec.upto fnExactEvalCircuitSpec)

/-- 'laws.FnExactTruthTable', WHERE WHAT IT READS IS OF BULK AT MOST 1048576: true; the input reads as it did. -/
def fnExactTruthTableUptoRow : OpenClaim := { program := "ytbdhhldbggidlaa", sum := "ab5c99f77f55f0ca50a2be930d0848e5183b3d6ad8096765e2ef2e5ad15d0a07", func := "loop.example/g01081/laws.FnExactTruthTable", spec := "fnExactTruthTable", unfollowed := true, recurses := true, plainKeys := false, apart := false, narrowed := true }
def FnExactTruthTableUptoSaid : Prop := fnExactTruthTableUptoRow.holds Try.pinned (OpenSpec.upto fnExactTruthTableSpec)

/-- 'laws.FnExactUniqueDesign', WHERE WHAT IT READS IS OF BULK AT MOST 1048576: true; the input reads as it did. -/
def fnExactUniqueDesignUptoRow : OpenClaim := { program := "ytbdhhldbggidlaa", sum := "ab5c99f77f55f0ca50a2be930d0848e5183b3d6ad8096765e2ef2e5ad15d0a07", func := "loop.example/g01081/laws.FnExactUniqueDesign", spec := "fnExactUniqueDesign", unfollowed := true, recurses := true, plainKeys := false, apart := false, narrowed := true }
def FnExactUniqueDesignUptoSaid : Prop := fnExactUniqueDesignUptoRow.holds Try.pinned (OpenSpec.upto fnExactUniqueDesignSpec)

/-- 'laws.FnExactValidConfig', WHERE WHAT IT READS IS OF BULK AT MOST 1048576: true; the input reads as it did. -/
def fnExactValidConfigUptoRow : OpenClaim := { program := "ytbdhhldbggidlaa", sum := "ab5c99f77f55f0ca50a2be930d0848e5183b3d6ad8096765e2ef2e5ad15d0a07", func := "loop.example/g01081/laws.FnExactValidConfig", spec := "fnExactValidConfig", unfollowed := true, recurses := true, plainKeys := false, apart := false, narrowed := true }
def FnExactValidConfigUptoSaid : Prop := fnExactValidConfigUptoRow.holds Try.pinned (OpenSpec.upto fnExactValidConfigSpec)

/-- 'laws.FnExactValidMachine', WHERE WHAT IT READS IS OF BULK AT MOST 1048576: true; the input reads as it did. -/
def fnExactValidMachineUptoRow : OpenClaim := { program := "ytbdhhldbggidlaa", sum := "ab5c99f77f55f0ca50a2be930d0848e5183b3d6ad8096765e2ef2e5ad15d0a07", func := "loop.example/g01081/laws.FnExactValidMachine", spec := "fnExactValidMachine", unfollowed := true, recurses := true, plainKeys := false, apart := false, narrowed := true }
def FnExactValidMachineUptoSaid : Prop := fnExactValidMachineUptoRow.holds Try.pinned (OpenSpec.upto fnExactValidMachineSpec)

end Rows
end Go.Proofs.Ytbdhhldbggidlaa
