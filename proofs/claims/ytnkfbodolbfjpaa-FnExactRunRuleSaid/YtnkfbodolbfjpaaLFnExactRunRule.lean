/- The statement 'FnExactRunRule': whatever the arguments, the law returns true, and its arguments read behind the call as before. No condition. -/
import Derived.Test.YtnkfbodolbfjpaaRows
import Derived.Test.YtnkfbodolbfjpaaLawRR
import Derived.Test.YtnkfbodolbfjpaaY20
import Derived.WalkKit
import Derived.ProofKit
import Derived.OpenShut
namespace Go.Proofs.Ytnkfbodolbfjpaa.fnExactRunRule
open Go.ChangeShapes Go.WideShapes Go.ChangeAt Go.RowKit
theorem own : ownKnob Try.prog.godebug = none := by kernel_rfl
theorem laidOut : laidOutB Try.prog = true := by kernel_rfl
set_option maxRecDepth 100000 in
theorem lifted (os : Os) (started : os.Started) (H : Type) (enc : TypeId × Value → H) :
    ReturnsInHanded {} Try.checked os 10 .any (Rows.fnExactRunRuleSpec.pre6 enc Try.prog Try.f10 Rows.fnExactRunRuleRow.domain false) (Rows.fnExactRunRuleSpec.post enc Try.prog Try.f10 false true false false) := by
  refine returnsInHanded_of_change_sized (C := Try.checked) own started (by kernel_rfl) Try.func10
    (ChangeSpec.witness6 (enc := enc) (C := Try.checked) false ⟨#[], #[Value.agg #[Value.int IntKind.i64 0, Value.slice none 0 0], Value.slice none 0 0, Value.slice none 0 0], []⟩ 8 (by kernel_rfl) (by kernel_rfl) (by kernel_rfl) (by kernel_rfl)) ?_
  intro W base args ds gs before hval0 hW _ hsz _
  have hval : ∀ (j : Nat) t v, Try.f10.params[j]? = some t → args[j]? = some v → Value.okWide Try.prog W .any base t v := hval0
  refine law_close laidOut (by kernel_rfl) rfl Try.underlying4 rfl hW (fun ds' h => by match ds', h with | [d0, d1, d2], _ => exact ⟨rfl, rfl, rfl⟩) ?_
  intro p hA hlt
  rw [Try.params10] at hA hval
  obtain ⟨v0, vs0, d0, ds0, p0, q0, hargs, rfl, rfl, h0, r0⟩ := trodAll_cons hA
  obtain ⟨v1, vs1, d1, ds1, p1, q1, rfl, rfl, rfl, h1, r1⟩ := trodAll_cons r0
  obtain ⟨v2, vs2, d2, ds2, p2, q2, rfl, rfl, rfl, h2, r2⟩ := trodAll_cons r1
  obtain ⟨rfl, rfl, rfl⟩ := trodAll_nil r2
  obtain rfl : args = #[v0, v1, v2] := by cases args; simp_all
  have O0 : Opens enc Try.prog W (fun _ => true) true 96 (rP 1 rI (rL 1 rI)) := (opens_struct Try.underlying96 (by kernel_rfl) (opensFs_cons rfl (by kernel_rfl) (opens_int Try.underlying2) (opensFs_one rfl (opens_slice Try.underlying49 (by kernel_rfl) (by decide) (opens_int Try.underlying2)))))
  obtain ⟨x0, e0⟩ := opens_arg O0 h0
  have a0 := (show Enc (rP 1 rI (rL 1 rI)) _ from (encP encI (encL ⟨2, 1⟩ encI))) W _ _ _ e0
  have b0 := RVD.agg Try.underlying96 (hval 0 96 v0 rfl rfl) a0
  have O1 : Opens enc Try.prog W (fun _ => true) true 49 (rL 1 rI) := (opens_slice Try.underlying49 (by kernel_rfl) (by decide) (opens_int Try.underlying2))
  obtain ⟨x1, e1⟩ := opens_arg O1 h1
  have a1 := (show Enc (rL 1 rI) _ from (encL ⟨2, 1⟩ encI)) W _ _ _ e1
  have b1 := RVD.one a1 (fun cs h => by obtain ⟨q1, q2, q3, q4⟩ := okWide_slice Try.underlying49 (hval 1 49 v1 rfl rfl); rw [q4] at h; cases h)
  have O2 : Opens enc Try.prog W (fun _ => true) true 49 (rL 1 rI) := (opens_slice Try.underlying49 (by kernel_rfl) (by decide) (opens_int Try.underlying2))
  obtain ⟨x2, e2⟩ := opens_arg O2 h2
  have a2 := (show Enc (rL 1 rI) _ from (encL ⟨2, 1⟩ encI)) W _ _ _ e2
  have b2 := RVD.one a2 (fun cs h => by obtain ⟨q1, q2, q3, q4⟩ := okWide_slice Try.underlying49 (hval 2 49 v2 rfl rfl); rw [q4] at h; cases h)
  exact law_of_spec (law_RunRule ⟨x0.1, x0.2⟩ x1 x2) (fun x hx => by simp [tabG] at hx) (.cons (RVD.cast b0 (by rfl)) (.cons (RVD.cast b1 (by rfl)) (.cons (RVD.cast b2 (by rfl)) .nil)))
theorem proved : Rows.FnExactRunRuleSaid :=
  OpenClaim.holds_of_wide 10 Try.f10 rfl rfl rfl rfl rfl rfl rfl ⟨rfl, rfl, rfl, rfl, rfl⟩ rfl rfl rfl rfl rfl (by kernel_rfl) Try.func10 (by kernel_rfl)
    (of_decide_eq_true (by kernel_rfl)) (by unfold Func.isWrapper; first | (rw [if_pos (by decide +kernel)]; kernel_rfl) | (rw [if_neg (by decide +kernel)]; exact ⟨rfl, rfl⟩))
    (fun os started H enc _ => lifted os started H enc)
#print axioms proved
end Go.Proofs.Ytnkfbodolbfjpaa.fnExactRunRule
