/- The statement 'FnExactFormOf': whatever the arguments, the law returns true, and its arguments read behind the call as before. No condition. -/
import Derived.Test.YtehkaajakapkmaaGreatRows
import Derived.Test.YtehkaajakapkmaaGreatFA33
import Derived.Test.YtehkaajakapkmaaGreatFA13
import Derived.WalkKit
import Derived.ProofKit
import Derived.OpenShut
namespace Go.Proofs.YtehkaajakapkmaaGreat.fnExactFormOf
open Go.ChangeShapes Go.WideShapes Go.ChangeAt Go.RowKit
theorem own : ownKnob Tryz.prog.godebug = none := by kernel_rfl
theorem laidOut : laidOutB Tryz.prog = true := by kernel_rfl
set_option maxRecDepth 100000 in
theorem lifted (os : Os) (started : os.Started) (H : Type) (enc : TypeId × Value → H) :
    ReturnsInHanded {} Tryz.checked os 3 .any (Rows.fnExactFormOfSpec.pre6 enc Tryz.prog Tryz.f3 Rows.fnExactFormOfRow.domain false) (Rows.fnExactFormOfSpec.post enc Tryz.prog Tryz.f3 false true false false) := by
  refine returnsInHanded_of_change_sized (C := Tryz.checked) own started (by kernel_rfl) Tryz.func3
    (ChangeSpec.witness6 (enc := enc) (C := Tryz.checked) false ⟨#[], #[Value.agg #[Value.int IntKind.i64 0, Value.slice none 0 0, Value.slice none 0 0]], []⟩ 8 (by kernel_rfl) (by kernel_rfl) (by kernel_rfl) (by kernel_rfl)) ?_
  intro W base args ds gs before hval0 hW _ hsz _
  have hval : ∀ (j : Nat) t v, Tryz.f3.params[j]? = some t → args[j]? = some v → Value.okWide Tryz.prog W .any base t v := hval0
  refine law_close laidOut (by kernel_rfl) rfl Tryz.underlying4 rfl hW (fun ds' h => by match ds', h with | [d0], _ => exact ⟨rfl, rfl, rfl⟩) ?_
  intro p hA hlt
  rw [Tryz.params3] at hA hval
  obtain ⟨v0, vs0, d0, ds0, p0, q0, hargs, rfl, rfl, h0, r0⟩ := trodAll_cons hA
  obtain ⟨rfl, rfl, rfl⟩ := trodAll_nil r0
  obtain rfl : args = #[v0] := by cases args; simp_all
  have O0 : Opens enc Tryz.prog W (fun _ => true) true 25 (rP 1 rI (rP 1 (rL 3 (rP 1 rI (rP 1 rI rI))) (rL 1 rI))) := (opens_struct Tryz.underlying25 (by kernel_rfl) (opensFs_cons rfl (by kernel_rfl) (opens_int Tryz.underlying2) (opensFs_cons rfl (by kernel_rfl) (opens_slice Tryz.underlying22 (by kernel_rfl) (by decide) (opens_struct Tryz.underlying100 (by kernel_rfl) (opensFs_cons rfl (by kernel_rfl) (opens_int Tryz.underlying2) (opensFs_cons rfl (by kernel_rfl) (opens_int Tryz.underlying2) (opensFs_one rfl (opens_int Tryz.underlying2)))))) (opensFs_one rfl (opens_slice Tryz.underlying23 (by kernel_rfl) (by decide) (opens_int Tryz.underlying2))))))
  obtain ⟨x0, e0⟩ := opens_arg O0 h0
  have a0 := (show Enc (rP 1 rI (rP 1 (rL 3 (rP 1 rI (rP 1 rI rI))) (rL 1 rI))) _ from (encP encI (encP (encL ⟨91, 3⟩ (encP encI (encP encI encI))) (encL ⟨2, 1⟩ encI)))) W _ _ _ e0
  have b0 := RVD.agg Tryz.underlying25 (hval 0 25 v0 rfl rfl) a0
  exact law_of_spec (law_FormOf ⟨x0.1, (x0.2.1.map fun p => ⟨p.1, p.2.1, p.2.2⟩), x0.2.2⟩) (fun x hx => by simp [tabG] at hx) (.cons (RVD.cast b0 (by simp only [enCircuit, List.map_map]; rfl)) .nil)
theorem proved : Rows.FnExactFormOfSaid :=
  OpenClaim.holds_of_wide 3 Tryz.f3 rfl rfl rfl rfl rfl rfl rfl ⟨rfl, rfl, rfl, rfl, rfl⟩ rfl rfl rfl rfl rfl (by kernel_rfl) Tryz.func3 (by kernel_rfl)
    (of_decide_eq_true (by kernel_rfl)) (by unfold Func.isWrapper; first | (rw [if_pos (by decide +kernel)]; kernel_rfl) | (rw [if_neg (by decide +kernel)]; exact ⟨rfl, rfl⟩))
    (fun os started H enc _ => lifted os started H enc)
#print axioms proved
end Go.Proofs.YtehkaajakapkmaaGreat.fnExactFormOf
