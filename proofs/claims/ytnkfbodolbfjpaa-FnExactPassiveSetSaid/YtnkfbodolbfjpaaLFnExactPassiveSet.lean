/- The statement 'FnExactPassiveSet': whatever the arguments, the law returns true, and its arguments read behind the call as before. No condition. -/
import Derived.Test.YtnkfbodolbfjpaaRows
import Derived.Test.YtnkfbodolbfjpaaLawPV
import Derived.Test.YtnkfbodolbfjpaaY20
import Derived.WalkKit
import Derived.ProofKit
import Derived.OpenShut
namespace Go.Proofs.Ytnkfbodolbfjpaa.fnExactPassiveSet
open Go.ChangeShapes Go.WideShapes Go.ChangeAt Go.RowKit
theorem own : ownKnob Try.prog.godebug = none := by kernel_rfl
theorem laidOut : laidOutB Try.prog = true := by kernel_rfl
set_option maxRecDepth 100000 in
theorem lifted (os : Os) (started : os.Started) (H : Type) (enc : TypeId × Value → H) :
    ReturnsInHanded {} Try.checked os 4 .any (Rows.fnExactPassiveSetSpec.pre6 enc Try.prog Try.f4 Rows.fnExactPassiveSetRow.domain false) (Rows.fnExactPassiveSetSpec.post enc Try.prog Try.f4 false true false false) := by
  refine returnsInHanded_of_change_sized (C := Try.checked) own started (by kernel_rfl) Try.func4
    (ChangeSpec.witness6 (enc := enc) (C := Try.checked) false ⟨#[], #[Value.agg #[Value.slice none 0 0, Value.slice none 0 0]], []⟩ 8 (by kernel_rfl) (by kernel_rfl) (by kernel_rfl) (by kernel_rfl)) ?_
  intro W base args ds gs before hval0 hW _ hsz _
  have hval : ∀ (j : Nat) t v, Try.f4.params[j]? = some t → args[j]? = some v → Value.okWide Try.prog W .any base t v := hval0
  refine law_close laidOut (by kernel_rfl) rfl Try.underlying4 rfl hW (fun ds' h => by match ds', h with | [d0], _ => exact ⟨rfl, rfl, rfl⟩) ?_
  intro p hA hlt
  rw [Try.params4] at hA hval
  obtain ⟨v0, vs0, d0, ds0, p0, q0, hargs, rfl, rfl, h0, r0⟩ := trodAll_cons hA
  obtain ⟨rfl, rfl, rfl⟩ := trodAll_nil r0
  obtain rfl : args = #[v0] := by cases args; simp_all
  have O0 : Opens enc Try.prog W (fun _ => true) true 37 (rP 1 (rL 2 (rP 1 rS rI)) (rL 2 (rP 1 rS (rL 1 rI)))) := (opens_struct Try.underlying37 (by kernel_rfl) (opensFs_cons rfl (by kernel_rfl) (opens_slice Try.underlying22 (by kernel_rfl) (by decide) (opens_struct Try.underlying186 (by kernel_rfl) (opensFs_cons rfl (by kernel_rfl) (opens_string Try.underlying9) (opensFs_one rfl (opens_int Try.underlying2))))) (opensFs_one rfl (opens_slice Try.underlying35 (by kernel_rfl) (by decide) (opens_struct Try.underlying207 (by kernel_rfl) (opensFs_cons rfl (by kernel_rfl) (opens_string Try.underlying9) (opensFs_one rfl (opens_slice Try.underlying49 (by kernel_rfl) (by decide) (opens_int Try.underlying2)))))))))
  obtain ⟨x0, e0⟩ := opens_arg O0 h0
  have a0 := (show Enc (rP 1 (rL 2 (rP 1 rS rI)) (rL 2 (rP 1 rS (rL 1 rI)))) _ from (encP (encL ⟨133, 2⟩ (encP encS encI)) (encL ⟨129, 2⟩ (encP encS (encL ⟨2, 1⟩ encI))))) W _ _ _ e0
  have b0 := RVD.agg Try.underlying37 (hval 0 37 v0 rfl rfl) a0
  exact law_of_spec (law_PassiveSet ⟨(x0.1.map fun p => ⟨p.1, p.2⟩), (x0.2.map fun p => ⟨p.1, p.2⟩)⟩) (fun x hx => by simp [tabG] at hx) (.cons (RVD.cast b0 (by simp only [enTileSet, List.map_map]; rfl)) .nil)
theorem proved : Rows.FnExactPassiveSetSaid :=
  OpenClaim.holds_of_wide 4 Try.f4 rfl rfl rfl rfl rfl rfl rfl ⟨rfl, rfl, rfl, rfl, rfl⟩ rfl rfl rfl rfl rfl (by kernel_rfl) Try.func4 (by kernel_rfl)
    (of_decide_eq_true (by kernel_rfl)) (by unfold Func.isWrapper; first | (rw [if_pos (by decide +kernel)]; kernel_rfl) | (rw [if_neg (by decide +kernel)]; exact ⟨rfl, rfl⟩))
    (fun os started H enc _ => lifted os started H enc)
#print axioms proved
end Go.Proofs.Ytnkfbodolbfjpaa.fnExactPassiveSet
