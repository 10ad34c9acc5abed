/- The statement 'FnExactLeastCover': whatever the arguments, the law returns true, and its arguments read behind the call as before. No condition. -/
import Derived.Test.YtehkaajakapkmaaRows
import Derived.Test.YtehkaajakapkmaaLawLCm
import Derived.Test.YtehkaajakapkmaaY20
import Derived.WalkKit
import Derived.ProofKit
import Derived.OpenShut
namespace Go.Proofs.Ytehkaajakapkmaa.fnExactLeastCover
open Go.ChangeShapes Go.WideShapes Go.ChangeAt Go.RowKit
theorem own : ownKnob Try.prog.godebug = none := by kernel_rfl
theorem laidOut : laidOutB Try.prog = true := by kernel_rfl
set_option maxRecDepth 100000 in
theorem lifted (os : Os) (started : os.Started) (H : Type) (enc : TypeId × Value → H) :
    ReturnsInHanded {} Try.checked os 3 .any (Rows.fnExactLeastCoverSpec.pre6 enc Try.prog Try.f3 Rows.fnExactLeastCoverRow.domain false) (Rows.fnExactLeastCoverSpec.post enc Try.prog Try.f3 false true false false) := by
  refine returnsInHanded_of_change_sized (C := Try.checked) own started (by kernel_rfl) Try.func3
    (ChangeSpec.witness6 (enc := enc) (C := Try.checked) false ⟨#[], #[Value.int IntKind.i64 0, Value.slice none 0 0], []⟩ 8 (by kernel_rfl) (by kernel_rfl) (by kernel_rfl) (by kernel_rfl)) ?_
  intro W base args ds gs before hval0 hW _ hsz _
  have hval : ∀ (j : Nat) t v, Try.f3.params[j]? = some t → args[j]? = some v → Value.okWide Try.prog W .any base t v := hval0
  refine law_close laidOut (by kernel_rfl) rfl Try.underlying4 rfl hW (fun ds' h => by match ds', h with | [d0, d1], _ => exact ⟨rfl, rfl, rfl⟩) ?_
  intro p hA hlt
  rw [Try.params3] at hA hval
  obtain ⟨v0, vs0, d0, ds0, p0, q0, hargs, rfl, rfl, h0, r0⟩ := trodAll_cons hA
  obtain ⟨v1, vs1, d1, ds1, p1, q1, rfl, rfl, rfl, h1, r1⟩ := trodAll_cons r0
  obtain ⟨rfl, rfl, rfl⟩ := trodAll_nil r1
  obtain rfl : args = #[v0, v1] := by cases args; simp_all
  have O0 : Opens enc Try.prog W (fun _ => true) true 2 rI := (opens_int Try.underlying2)
  obtain ⟨x0, e0⟩ := opens_arg O0 h0
  have a0 := (show Enc rI _ from encI) W _ _ _ e0
  have b0 := RVD.one a0 (fun cs h => by obtain ⟨q1, q4, _⟩ := open_int Try.underlying2 (hval 0 2 v0 rfl rfl) h0; rw [q4] at h; cases h)
  have O1 : Opens enc Try.prog W (fun _ => true) true 22 (rL 1 rI) := (opens_slice Try.underlying22 (by kernel_rfl) (by decide) (opens_int Try.underlying2))
  obtain ⟨x1, e1⟩ := opens_arg O1 h1
  have a1 := (show Enc (rL 1 rI) _ from (encL ⟨2, 1⟩ encI)) W _ _ _ e1
  have b1 := RVD.one a1 (fun cs h => by obtain ⟨q1, q2, q3, q4⟩ := okWide_slice Try.underlying22 (hval 1 22 v1 rfl rfl); rw [q4] at h; cases h)
  exact law_of_spec (law_LeastCover x0 x1) (fun x hx => by simp [tabG] at hx) (.cons (RVD.cast b0 (by rfl)) (.cons (RVD.cast b1 (by rfl)) .nil))
theorem proved : Rows.FnExactLeastCoverSaid :=
  OpenClaim.holds_of_wide 3 Try.f3 rfl rfl rfl rfl rfl rfl rfl ⟨rfl, rfl, rfl, rfl, rfl⟩ rfl rfl rfl rfl rfl (by kernel_rfl) Try.func3 (by kernel_rfl)
    (of_decide_eq_true (by kernel_rfl)) (by unfold Func.isWrapper; first | (rw [if_pos (by decide +kernel)]; kernel_rfl) | (rw [if_neg (by decide +kernel)]; exact ⟨rfl, rfl⟩))
    (fun os started H enc _ => lifted os started H enc)
#print axioms proved
end Go.Proofs.Ytehkaajakapkmaa.fnExactLeastCover
