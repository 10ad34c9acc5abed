/- The statement 'FnExactInversionsOf': whatever the arguments, the law returns true, and its arguments read behind the call as before. No condition. -/
import Derived.Test.YtghecnlgainfkaaRows
import Derived.Test.YtghecnlgainfkaaSort
import Derived.Test.YtghecnlgainfkaaFrame
import Derived.Test.YtghecnlgainfkaaOpen
import Derived.WalkKit
import Derived.ProofKit
import Derived.OpenShut
namespace Go.Proofs.Ytghecnlgainfkaa.fnExactInversionsOf
open Go.ChangeShapes Go.WideShapes Go.ChangeAt Go.RowKit
theorem own : ownKnob Try.prog.godebug = none := by kernel_rfl
theorem laidOut : laidOutB Try.prog = true := by kernel_rfl
set_option maxRecDepth 100000 in
theorem lifted (os : Os) (started : os.Started) (H : Type) (enc : TypeId × Value → H) :
    ReturnsInHanded {} Try.checked os 9 .any (Rows.fnExactInversionsOfSpec.pre6 enc Try.prog Try.f9 Rows.fnExactInversionsOfRow.domain false) (Rows.fnExactInversionsOfSpec.post enc Try.prog Try.f9 false true false false) := by
  refine returnsInHanded_of_change_sized (C := Try.checked) own started (by kernel_rfl) Try.func9
    (ChangeSpec.witness6 (enc := enc) (C := Try.checked) false ⟨#[], #[.int .i64 0, .slice none 0 0], []⟩ 8 (by kernel_rfl) (by kernel_rfl) (by kernel_rfl) (by kernel_rfl)) ?_
  intro W base args ds gs before hval0 hW _ hsz _
  have hval : ∀ (j : Nat) t v, Try.f9.params[j]? = some t → args[j]? = some v → Value.okWide Try.prog W .any base t v := hval0
  refine law_close laidOut (by kernel_rfl) rfl Try.underlying4 rfl hW (fun ds' h => by match ds', h with | [d0, d1], _ => exact ⟨rfl, rfl, rfl⟩) ?_
  intro p hA hlt
  rw [Try.params9] at hA hval
  obtain ⟨v0, vs0, d0, ds0, p0, q0, hargs, rfl, rfl, h0, r0⟩ := trodAll_cons hA
  obtain ⟨v1, vs1, d1, ds1, p1, q1, rfl, rfl, rfl, h1, r1⟩ := trodAll_cons r0
  obtain ⟨rfl, rfl, rfl⟩ := trodAll_nil r1
  obtain rfl : args = #[v0, v1] := by cases args; simp_all
  obtain ⟨base, rfl, rfl, rfl, _⟩ := open_int Try.underlying2 (hval 0 2 v0 rfl rfl) h0
  have O : Opens enc Try.prog W (fun _ => true) true 44 (rL 1 rI) := opens_slice Try.underlying44 (by kernel_rfl) (by decide) (opens_int Try.underlying2)
  obtain ⟨xs, u, e1, hs⟩ := opens_arg O h1
  obtain ⟨a0, len, cap, rfl⟩ := okWide_slice Try.underlying44 (hval 1 44 v1 rfl rfl)
  obtain rfl : .slice a0 len cap = u := by simpa [Value.cells] using e1
  exact law_InversionsOf base _ xs W hs
theorem proved : Rows.FnExactInversionsOfSaid :=
  OpenClaim.holds_of_wide 9 Try.f9 rfl rfl rfl rfl rfl rfl rfl ⟨rfl, rfl, rfl, rfl, rfl⟩ rfl rfl rfl rfl rfl (by kernel_rfl) Try.func9 (by kernel_rfl)
    (of_decide_eq_true (by kernel_rfl)) (by unfold Func.isWrapper; first | (rw [if_pos (by decide +kernel)]; kernel_rfl) | (rw [if_neg (by decide +kernel)]; exact ⟨rfl, rfl⟩))
    (fun os started H enc _ => lifted os started H enc)
#print axioms proved
end Go.Proofs.Ytghecnlgainfkaa.fnExactInversionsOf
