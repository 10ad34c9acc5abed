/- The statement 'FnExactIsSymmetric': whatever the arguments, the law returns true, and its arguments read behind the call as before. No condition. -/
import Derived.Test.YtghecnlgainfkaaRows
import Derived.Test.YtghecnlgainfkaaLawIsSymmetric
import Derived.Test.YtghecnlgainfkaaFrame
import Derived.Test.YtghecnlgainfkaaOpen
import Derived.WalkKit
import Derived.ProofKit
import Derived.OpenShut
namespace Go.Proofs.Ytghecnlgainfkaa.fnExactIsSymmetric
open Go.ChangeShapes Go.WideShapes Go.ChangeAt Go.RowKit
theorem own : ownKnob Try.prog.godebug = none := by kernel_rfl
theorem laidOut : laidOutB Try.prog = true := by kernel_rfl
set_option maxRecDepth 100000 in
theorem lifted (os : Os) (started : os.Started) (H : Type) (enc : TypeId × Value → H) :
    ReturnsInHanded {} Try.checked os 13 .any (Rows.fnExactIsSymmetricSpec.pre6 enc Try.prog Try.f13 Rows.fnExactIsSymmetricRow.domain false) (Rows.fnExactIsSymmetricSpec.post enc Try.prog Try.f13 false true false false) := by
  refine returnsInHanded_of_change_sized (C := Try.checked) own started (by kernel_rfl) Try.func13
    (ChangeSpec.witness6 (enc := enc) (C := Try.checked) false ⟨#[], #[.agg #[.int .i64 0, .slice none 0 0]], []⟩ 8 (by kernel_rfl) (by kernel_rfl) (by kernel_rfl) (by kernel_rfl)) ?_
  intro W base args ds gs before hval0 hW _ hsz _
  have hval : ∀ (j : Nat) t v, Try.f13.params[j]? = some t → args[j]? = some v → Value.okWide Try.prog W .any base t v := hval0
  refine law_close laidOut (by kernel_rfl) rfl Try.underlying4 rfl hW (fun ds' h => by match ds', h with | [d0], _ => exact ⟨rfl, rfl, rfl⟩) ?_
  intro p hA hlt
  rw [Try.params13] at hA hval
  obtain ⟨v0, vs0, d0, ds0, p0, q0, hargs, rfl, rfl, h0, r0⟩ := trodAll_cons hA
  obtain ⟨rfl, rfl, rfl⟩ := trodAll_nil r0
  obtain rfl : args = #[v0] := by cases args; simp_all
  have I : Opens enc Try.prog W (fun _ => true) true 2 rI := opens_int Try.underlying2
  have L : Opens enc Try.prog W (fun _ => true) true 44 (rL 1 rI) := opens_slice Try.underlying44 (by kernel_rfl) (by decide) I
  have O : Opens enc Try.prog W (fun _ => true) true 69 (rP 1 rI (rL 1 rI)) := opens_struct Try.underlying69 (by kernel_rfl) (opensFs_cons rfl (by kernel_rfl) I (opensFs_one rfl L))
  obtain ⟨⟨n0, xs⟩, c1, c2, e0, _, ⟨rfl, _⟩, v, rfl, hs⟩ := opens_arg O h0
  obtain rfl := agg_of Try.underlying69 (hval 0 69 v0 rfl rfl) e0
  exact law_IsSymmetric n0 v xs W hs
theorem proved : Rows.FnExactIsSymmetricSaid :=
  OpenClaim.holds_of_wide 13 Try.f13 rfl rfl rfl rfl rfl rfl rfl ⟨rfl, rfl, rfl, rfl, rfl⟩ rfl rfl rfl rfl rfl (by kernel_rfl) Try.func13 (by kernel_rfl)
    (of_decide_eq_true (by kernel_rfl)) (by unfold Func.isWrapper; first | (rw [if_pos (by decide +kernel)]; kernel_rfl) | (rw [if_neg (by decide +kernel)]; exact ⟨rfl, rfl⟩))
    (fun os started H enc _ => lifted os started H enc)
#print axioms proved
end Go.Proofs.Ytghecnlgainfkaa.fnExactIsSymmetric
