/- The statement 'FnPutTake': whatever the arguments, the law returns true, and its arguments read behind the call as before. No condition. -/
import Derived.Test.YtghpeccaknhjiaaRows
import Derived.Test.YtghpeccaknhjiaaLawPKm
import Derived.Test.YtghpeccaknhjiaaY20
import Derived.WalkKit
import Derived.ProofKit
import Derived.OpenShut
namespace Go.Proofs.Ytghpeccaknhjiaa.fnPutTake
open Go.ChangeShapes Go.WideShapes Go.ChangeAt Go.RowKit
theorem own : ownKnob Try.prog.godebug = none := by kernel_rfl
theorem laidOut : laidOutB Try.prog = true := by kernel_rfl
set_option maxRecDepth 100000 in
theorem lifted (os : Os) (started : os.Started) (H : Type) (enc : TypeId × Value → H) :
    ReturnsInHanded {} Try.checked os 5 .any (Rows.fnPutTakeSpec.pre6 enc Try.prog Try.f5 Rows.fnPutTakeRow.domain false) (Rows.fnPutTakeSpec.post enc Try.prog Try.f5 false true false false) := by
  refine returnsInHanded_of_change_sized (C := Try.checked) own started (by kernel_rfl) Try.func5
    (ChangeSpec.witness6 (enc := enc) (C := Try.checked) false ⟨#[], #[Value.slice none 0 0], []⟩ 8 (by kernel_rfl) (by kernel_rfl) (by kernel_rfl) (by kernel_rfl)) ?_
  intro W base args ds gs before hval0 hW _ hsz _
  have hval : ∀ (j : Nat) t v, Try.f5.params[j]? = some t → args[j]? = some v → Value.okWide Try.prog W .any base t v := hval0
  refine law_close laidOut (by kernel_rfl) rfl Try.underlying4 rfl hW (fun ds' h => by match ds', h with | [d0], _ => exact ⟨rfl, rfl, rfl⟩) ?_
  intro p hA hlt
  rw [Try.params5] at hA hval
  obtain ⟨v0, vs0, d0, ds0, p0, q0, hargs, rfl, rfl, h0, r0⟩ := trodAll_cons hA
  obtain ⟨rfl, rfl, rfl⟩ := trodAll_nil r0
  obtain rfl : args = #[v0] := by cases args; simp_all
  have O0 : Opens enc Try.prog W (fun _ => true) true 41 (rL 1 rU8) := (opens_slice Try.underlying41 (by kernel_rfl) (by decide) (opens_u8 Try.underlying5))
  obtain ⟨x0, e0⟩ := opens_arg O0 h0
  have a0 := (show Enc (rL 1 rU8) _ from (encL ⟨5, 1⟩ encU8)) W _ _ _ e0
  have b0 := RVD.one a0 (fun cs h => by obtain ⟨q1, q2, q3, q4⟩ := okWide_slice Try.underlying41 (hval 0 41 v0 rfl rfl); rw [q4] at h; cases h)
  exact law_of_spec (law_FnPutTake x0) (fun x hx => by simp [tabG] at hx) (.cons (RVD.cast b0 (by rfl)) .nil)
theorem proved : Rows.FnPutTakeSaid :=
  OpenClaim.holds_of_wide 5 Try.f5 rfl rfl rfl rfl rfl rfl rfl ⟨rfl, rfl, rfl, rfl, rfl⟩ rfl rfl rfl rfl rfl (by kernel_rfl) Try.func5 (by kernel_rfl)
    (of_decide_eq_true (by kernel_rfl)) (by unfold Func.isWrapper; first | (rw [if_pos (by decide +kernel)]; kernel_rfl) | (rw [if_neg (by decide +kernel)]; exact ⟨rfl, rfl⟩))
    (fun os started H enc _ => lifted os started H enc)
#print axioms proved
end Go.Proofs.Ytghpeccaknhjiaa.fnPutTake
