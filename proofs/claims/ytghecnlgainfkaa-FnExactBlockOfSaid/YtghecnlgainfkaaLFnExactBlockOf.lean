/- The statement 'FnExactBlockOf': whatever the arguments, the law returns true, and its arguments read behind the call as before. No condition. -/
import Derived.Test.YtghecnlgainfkaaRows
import Derived.Test.YtghecnlgainfkaaBlockLaw
import Derived.Test.YtghecnlgainfkaaFrame
import Derived.Test.YtghecnlgainfkaaOpen
import Derived.WalkKit
import Derived.ProofKit
import Derived.OpenShut
namespace Go.Proofs.Ytghecnlgainfkaa.fnExactBlockOf
open Go.ChangeShapes Go.WideShapes Go.ChangeAt Go.RowKit
theorem own : ownKnob Try.prog.godebug = none := by kernel_rfl
theorem laidOut : laidOutB Try.prog = true := by kernel_rfl
set_option maxRecDepth 100000 in
theorem lifted (os : Os) (started : os.Started) (H : Type) (enc : TypeId × Value → H) :
    ReturnsInHanded {} Try.checked os 8 .any (Rows.fnExactBlockOfSpec.pre6 enc Try.prog Try.f8 Rows.fnExactBlockOfRow.domain false) (Rows.fnExactBlockOfSpec.post enc Try.prog Try.f8 false true false false) := by
  refine returnsInHanded_of_change_sized (C := Try.checked) own started (by kernel_rfl) Try.func8
    (ChangeSpec.witness6 (enc := enc) (C := Try.checked) false ⟨#[], #[.agg #[.int .i64 0, .int .i64 0], .int .i64 0], []⟩ 8 (by kernel_rfl) (by kernel_rfl) (by kernel_rfl) (by kernel_rfl)) ?_
  intro W base args ds gs before hval0 hW _ hsz _
  have hval : ∀ (j : Nat) t v, Try.f8.params[j]? = some t → args[j]? = some v → Value.okWide Try.prog W .any base t v := hval0
  refine law_close laidOut (by kernel_rfl) rfl Try.underlying4 rfl hW (fun ds' h => by match ds', h with | [d0, d1], _ => exact ⟨rfl, rfl, rfl⟩) ?_
  intro p hA hlt
  rw [Try.params8] at hA hval
  obtain ⟨v0, vs0, d0, ds0, p0, q0, hargs, rfl, rfl, h0, r0⟩ := trodAll_cons hA
  obtain ⟨v1, vs1, d1, ds1, p1, q1, rfl, rfl, rfl, h1, r1⟩ := trodAll_cons r0
  obtain ⟨rfl, rfl, rfl⟩ := trodAll_nil r1
  obtain rfl : args = #[v0, v1] := by cases args; simp_all
  have O : Opens enc Try.prog W (fun _ => true) true 32 (rP 1 rI rI) := opens_struct Try.underlying32 (by kernel_rfl) (opensFs_cons rfl (by kernel_rfl) (opens_int Try.underlying2) (opensFs_one rfl (opens_int Try.underlying2)))
  obtain ⟨⟨x, y⟩, c1, c2, e0, _, ⟨rfl, _⟩, ⟨rfl, _⟩⟩ := opens_arg O h0
  obtain rfl := agg_of Try.underlying32 (hval 0 32 v0 rfl rfl) e0
  obtain ⟨k, rfl, rfl, rfl, _⟩ := open_int Try.underlying2 (hval 1 2 v1 rfl rfl) h1
  exact law_BlockOf x y k W
theorem proved : Rows.FnExactBlockOfSaid :=
  OpenClaim.holds_of_wide 8 Try.f8 rfl rfl rfl rfl rfl rfl rfl ⟨rfl, rfl, rfl, rfl, rfl⟩ rfl rfl rfl rfl rfl (by kernel_rfl) Try.func8 (by kernel_rfl)
    (of_decide_eq_true (by kernel_rfl)) (by unfold Func.isWrapper; first | (rw [if_pos (by decide +kernel)]; kernel_rfl) | (rw [if_neg (by decide +kernel)]; exact ⟨rfl, rfl⟩))
    (fun os started H enc _ => lifted os started H enc)
#print axioms proved
end Go.Proofs.Ytghecnlgainfkaa.fnExactBlockOf
