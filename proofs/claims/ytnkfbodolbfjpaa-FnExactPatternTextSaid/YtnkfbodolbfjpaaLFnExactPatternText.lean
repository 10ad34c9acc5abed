/- The statement 'FnExactPatternText': whatever the arguments, the law returns true, and its arguments read behind the call as before. No condition. -/
import Derived.Test.YtnkfbodolbfjpaaRows
import Derived.Test.YtnkfbodolbfjpaaLawPT
import Derived.Test.YtnkfbodolbfjpaaY20
import Derived.WalkKit
import Derived.ProofKit
import Derived.OpenShut
namespace Go.Proofs.Ytnkfbodolbfjpaa.fnExactPatternText
open Go.ChangeShapes Go.WideShapes Go.ChangeAt Go.RowKit
theorem own : ownKnob Try.prog.godebug = none := by kernel_rfl
theorem laidOut : laidOutB Try.prog = true := by kernel_rfl
set_option maxRecDepth 100000 in
theorem lifted (os : Os) (started : os.Started) (H : Type) (enc : TypeId × Value → H) :
    ReturnsInHanded {} Try.checked os 5 .any (Rows.fnExactPatternTextSpec.pre6 enc Try.prog Try.f5 Rows.fnExactPatternTextRow.domain false) (Rows.fnExactPatternTextSpec.post enc Try.prog Try.f5 false true false false) := by
  refine returnsInHanded_of_change_sized (C := Try.checked) own started (by kernel_rfl) Try.func5
    (ChangeSpec.witness6 (enc := enc) (C := Try.checked) false ⟨#[], #[Value.agg #[Value.int IntKind.i64 0, Value.int IntKind.i64 0, Value.slice none 0 0]], []⟩ 8 (by kernel_rfl) (by kernel_rfl) (by kernel_rfl) (by kernel_rfl)) ?_
  intro W base args ds gs before hval0 hW _ hsz _
  have hval : ∀ (j : Nat) t v, Try.f5.params[j]? = some t → args[j]? = some v → Value.okWide Try.prog W .any base t v := hval0
  refine law_close laidOut (by kernel_rfl) rfl Try.underlying4 rfl hW (fun ds' h => by match ds', h with | [d0], _ => exact ⟨rfl, rfl, rfl⟩) ?_
  intro p hA hlt
  rw [Try.params5] at hA hval
  obtain ⟨v0, vs0, d0, ds0, p0, q0, hargs, rfl, rfl, h0, r0⟩ := trodAll_cons hA
  obtain ⟨rfl, rfl, rfl⟩ := trodAll_nil r0
  obtain rfl : args = #[v0] := by cases args; simp_all
  have O0 : Opens enc Try.prog W (fun _ => true) true 51 (rP 1 rI (rP 1 rI (rL 1 rI))) := (opens_struct Try.underlying51 (by kernel_rfl) (opensFs_cons rfl (by kernel_rfl) (opens_int Try.underlying2) (opensFs_cons rfl (by kernel_rfl) (opens_int Try.underlying2) (opensFs_one rfl (opens_slice Try.underlying49 (by kernel_rfl) (by decide) (opens_int Try.underlying2))))))
  obtain ⟨x0, e0⟩ := opens_arg O0 h0
  have a0 := (show Enc (rP 1 rI (rP 1 rI (rL 1 rI))) _ from (encP encI (encP encI (encL ⟨2, 1⟩ encI)))) W _ _ _ e0
  have b0 := RVD.agg Try.underlying51 (hval 0 51 v0 rfl rfl) a0
  exact law_of_spec (law_PatternText ⟨x0.1, x0.2.1, x0.2.2⟩) (fun x hx => by simp [tabG] at hx) (.cons (RVD.cast b0 (by rfl)) .nil)
theorem proved : Rows.FnExactPatternTextSaid :=
  OpenClaim.holds_of_wide 5 Try.f5 rfl rfl rfl rfl rfl rfl rfl ⟨rfl, rfl, rfl, rfl, rfl⟩ rfl rfl rfl rfl rfl (by kernel_rfl) Try.func5 (by kernel_rfl)
    (of_decide_eq_true (by kernel_rfl)) (by unfold Func.isWrapper; first | (rw [if_pos (by decide +kernel)]; kernel_rfl) | (rw [if_neg (by decide +kernel)]; exact ⟨rfl, rfl⟩))
    (fun os started H enc _ => lifted os started H enc)
#print axioms proved
end Go.Proofs.Ytnkfbodolbfjpaa.fnExactPatternText
