/- The statement 'FnExactSameConfig': whatever the arguments, the law returns true, and its arguments read behind the call as before. No condition. -/
import Derived.Test.YtghecnlgainfkaaRows
import Derived.Test.YtghecnlgainfkaaLawSameConfig
import Derived.Test.YtghecnlgainfkaaFrame
import Derived.Test.YtghecnlgainfkaaOpen
import Derived.WalkKit
import Derived.ProofKit
import Derived.OpenShut
namespace Go.Proofs.Ytghecnlgainfkaa.fnExactSameConfig
open Go.ChangeShapes Go.WideShapes Go.ChangeAt Go.RowKit
theorem own : ownKnob Try.prog.godebug = none := by kernel_rfl
theorem laidOut : laidOutB Try.prog = true := by kernel_rfl
set_option maxRecDepth 100000 in
theorem lifted (os : Os) (started : os.Started) (H : Type) (enc : TypeId × Value → H) :
    ReturnsInHanded {} Try.checked os 10 .any (Rows.fnExactSameConfigSpec.pre6 enc Try.prog Try.f10 Rows.fnExactSameConfigRow.domain false) (Rows.fnExactSameConfigSpec.post enc Try.prog Try.f10 false true false false) := by
  refine returnsInHanded_of_change_sized (C := Try.checked) own started (by kernel_rfl) Try.func10
    (ChangeSpec.witness6 (enc := enc) (C := Try.checked) false ⟨#[], #[.agg #[.slice none 0 0, .int .i64 0, .int .i64 0], .agg #[.slice none 0 0, .int .i64 0, .int .i64 0]], []⟩ 8 (by kernel_rfl) (by kernel_rfl) (by kernel_rfl) (by kernel_rfl)) ?_
  intro W base args ds gs before hval0 hW _ hsz _
  have hval : ∀ (j : Nat) t v, Try.f10.params[j]? = some t → args[j]? = some v → Value.okWide Try.prog W .any base t v := hval0
  refine law_close laidOut (by kernel_rfl) rfl Try.underlying4 rfl hW (fun ds' h => by match ds', h with | [d0, d1], _ => exact ⟨rfl, rfl, rfl⟩) ?_
  intro p hA hlt
  rw [Try.params10] at hA hval
  obtain ⟨v0, vs0, d0, ds0, p0, q0, hargs, rfl, rfl, h0, r0⟩ := trodAll_cons hA
  obtain ⟨v1, vs1, d1, ds1, p1, q1, rfl, rfl, rfl, h1, r1⟩ := trodAll_cons r0
  obtain ⟨rfl, rfl, rfl⟩ := trodAll_nil r1
  obtain rfl : args = #[v0, v1] := by cases args; simp_all
  have I : Opens enc Try.prog W (fun _ => true) true 2 rI := opens_int Try.underlying2
  have L : Opens enc Try.prog W (fun _ => true) true 44 (rL 1 rI) := opens_slice Try.underlying44 (by kernel_rfl) (by decide) I
  have O : Opens enc Try.prog W (fun _ => true) true 50 (rP 1 (rL 1 rI) (rP 1 rI rI)) := opens_struct Try.underlying50 (by kernel_rfl) (opensFs_cons rfl (by kernel_rfl) L (opensFs_cons rfl (by kernel_rfl) I (opensFs_one rfl I)))
  obtain ⟨⟨xs, n1, n2⟩, c1, c2, e0, _, ⟨v, rfl, hs⟩, c3, c4, rfl, _, ⟨rfl, _⟩, rfl, _⟩ := opens_arg O h0
  obtain ⟨⟨ys, m1, m2⟩, c5, c6, e1, _, ⟨u, rfl, hu⟩, c7, c8, rfl, _, ⟨rfl, _⟩, rfl, _⟩ := opens_arg O h1
  obtain rfl := agg_of Try.underlying50 (hval 0 50 v0 rfl rfl) e0
  obtain rfl := agg_of Try.underlying50 (hval 1 50 v1 rfl rfl) e1
  exact law_SameConfig n1 n2 m1 m2 v u xs ys W hs hu
theorem proved : Rows.FnExactSameConfigSaid :=
  OpenClaim.holds_of_wide 10 Try.f10 rfl rfl rfl rfl rfl rfl rfl ⟨rfl, rfl, rfl, rfl, rfl⟩ rfl rfl rfl rfl rfl (by kernel_rfl) Try.func10 (by kernel_rfl)
    (of_decide_eq_true (by kernel_rfl)) (by unfold Func.isWrapper; first | (rw [if_pos (by decide +kernel)]; kernel_rfl) | (rw [if_neg (by decide +kernel)]; exact ⟨rfl, rfl⟩))
    (fun os started H enc _ => lifted os started H enc)
#print axioms proved
end Go.Proofs.Ytghecnlgainfkaa.fnExactSameConfig
