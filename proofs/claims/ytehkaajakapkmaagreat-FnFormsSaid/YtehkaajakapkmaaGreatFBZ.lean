/- The statement 'FnForms': whatever the arguments, the law returns true, and its arguments read behind the call as before. No condition. -/
import Derived.Test.YtehkaajakapkmaaGreatRows
import Derived.Test.YtehkaajakapkmaaGreatFB43
import Derived.Test.YtehkaajakapkmaaGreatFB16
import Derived.WalkKit
import Derived.ProofKit
import Derived.OpenShut
namespace Go.Proofs.YtehkaajakapkmaaGreat.fnForms
open Go.ChangeShapes Go.WideShapes Go.ChangeAt Go.RowKit
theorem own : ownKnob Tryz.prog.godebug = none := by kernel_rfl
theorem laidOut : laidOutB Tryz.prog = true := by kernel_rfl
set_option maxRecDepth 100000 in
theorem lifted (os : Os) (started : os.Started) (H : Type) (enc : TypeId × Value → H) :
    ReturnsInHanded {} Tryz.checked os 4 .any (Rows.fnFormsSpec.pre6 enc Tryz.prog Tryz.f4 Rows.fnFormsRow.domain false) (Rows.fnFormsSpec.post enc Tryz.prog Tryz.f4 false true false false) := by
  refine returnsInHanded_of_change_sized (C := Tryz.checked) own started (by kernel_rfl) Tryz.func4
    (ChangeSpec.witness6 (enc := enc) (C := Tryz.checked) false ⟨#[], #[Value.slice none 0 0], []⟩ 8 (by kernel_rfl) (by kernel_rfl) (by kernel_rfl) (by kernel_rfl)) ?_
  intro W base args ds gs before hval0 hW _ hsz _
  have hval : ∀ (j : Nat) t v, Tryz.f4.params[j]? = some t → args[j]? = some v → Value.okWide Tryz.prog W .any base t v := hval0
  refine law_close laidOut (by kernel_rfl) rfl Tryz.underlying4 rfl hW (fun ds' h => by match ds', h with | [d0], _ => exact ⟨rfl, rfl, rfl⟩) ?_
  intro p hA hlt
  rw [Tryz.params4] at hA hval
  obtain ⟨v0, vs0, d0, ds0, p0, q0, hargs, rfl, rfl, h0, r0⟩ := trodAll_cons hA
  obtain ⟨rfl, rfl, rfl⟩ := trodAll_nil r0
  obtain rfl : args = #[v0] := by cases args; simp_all
  have O0 : Opens enc Tryz.prog W (fun _ => true) true 42 (rL 1 rU8) := (opens_slice Tryz.underlying42 (by kernel_rfl) (by decide) (opens_u8 Tryz.underlying5))
  obtain ⟨x0, e0⟩ := opens_arg O0 h0
  have a0 := (show Enc (rL 1 rU8) _ from (encL ⟨5, 1⟩ encU8)) W _ _ _ e0
  have b0 := RVD.one a0 (fun cs h => by obtain ⟨q1, q2, q3, q4⟩ := okWide_slice Tryz.underlying42 (hval 0 42 v0 rfl rfl); rw [q4] at h; cases h)
  exact law_of_spec (law_FnForms x0) (fun x hx => by simp [tabG] at hx) (.cons (RVD.cast b0 (by rfl)) .nil)
theorem proved : Rows.FnFormsSaid :=
  OpenClaim.holds_of_wide 4 Tryz.f4 rfl rfl rfl rfl rfl rfl rfl ⟨rfl, rfl, rfl, rfl, rfl⟩ rfl rfl rfl rfl rfl (by kernel_rfl) Tryz.func4 (by kernel_rfl)
    (of_decide_eq_true (by kernel_rfl)) (by unfold Func.isWrapper; first | (rw [if_pos (by decide +kernel)]; kernel_rfl) | (rw [if_neg (by decide +kernel)]; exact ⟨rfl, rfl⟩))
    (fun os started H enc _ => lifted os started H enc)
#print axioms proved
end Go.Proofs.YtehkaajakapkmaaGreat.fnForms
