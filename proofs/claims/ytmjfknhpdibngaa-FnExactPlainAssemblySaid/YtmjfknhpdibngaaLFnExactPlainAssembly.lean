/- The statement 'FnExactPlainAssembly': whatever the arguments, the law returns true, and its arguments read behind the call as before. No condition. -/
import Derived.Test.YtmjfknhpdibngaaRows
import Derived.Test.YtmjfknhpdibngaaLawS2
import Derived.Test.YtmjfknhpdibngaaY20
import Derived.WalkKit
import Derived.ProofKit
import Derived.OpenShut
namespace Go.Proofs.Ytmjfknhpdibngaa.fnExactPlainAssembly
open Go.ChangeShapes Go.WideShapes Go.ChangeAt Go.RowKit
theorem own : ownKnob Try.prog.godebug = none := by kernel_rfl
theorem laidOut : laidOutB Try.prog = true := by kernel_rfl
set_option maxRecDepth 100000 in
theorem lifted (os : Os) (started : os.Started) (H : Type) (enc : TypeId × Value → H) :
    ReturnsInHanded {} Try.checked os 11 .any (Rows.fnExactPlainAssemblySpec.pre6 enc Try.prog Try.f11 Rows.fnExactPlainAssemblyRow.domain false) (Rows.fnExactPlainAssemblySpec.post enc Try.prog Try.f11 false true false false) := by
  refine returnsInHanded_of_change_sized (C := Try.checked) own started (by kernel_rfl) Try.func11
    (ChangeSpec.witness6 (enc := enc) (C := Try.checked) false ⟨#[], #[Value.slice none 0 0], []⟩ 8 (by kernel_rfl) (by kernel_rfl) (by kernel_rfl) (by kernel_rfl)) ?_
  intro W base args ds gs before hval0 hW _ hsz _
  have hval : ∀ (j : Nat) t v, Try.f11.params[j]? = some t → args[j]? = some v → Value.okWide Try.prog W .any base t v := hval0
  refine law_close laidOut (by kernel_rfl) rfl Try.underlying4 rfl hW (fun ds' h => by match ds', h with | [d0], _ => exact ⟨rfl, rfl, rfl⟩) ?_
  intro p hA hlt
  rw [Try.params11] at hA hval
  obtain ⟨v0, vs0, d0, ds0, p0, q0, hargs, rfl, rfl, h0, r0⟩ := trodAll_cons hA
  obtain ⟨rfl, rfl, rfl⟩ := trodAll_nil r0
  obtain rfl : args = #[v0] := by cases args; simp_all
  have O0 : Opens enc Try.prog W (fun _ => true) true 56 (rL 6 (rP 2 (rP 1 rI rI) (rP 1 rI (rP 1 (rL 1 rB) (rP 1 (rL 1 rB) (rL 1 rB)))))) := (opens_slice Try.underlying56 (by kernel_rfl) (by decide) (opens_struct Try.underlying106 (by kernel_rfl) (opensFs_cons rfl (by kernel_rfl) (opens_struct Try.underlying26 (by kernel_rfl) (opensFs_cons rfl (by kernel_rfl) (opens_int Try.underlying2) (opensFs_one rfl (opens_int Try.underlying2)))) (opensFs_cons rfl (by kernel_rfl) (opens_int Try.underlying2) (opensFs_cons rfl (by kernel_rfl) (opens_slice Try.underlying104 (by kernel_rfl) (by decide) (opens_bool Try.underlying4)) (opensFs_cons rfl (by kernel_rfl) (opens_slice Try.underlying104 (by kernel_rfl) (by decide) (opens_bool Try.underlying4)) (opensFs_one rfl (opens_slice Try.underlying104 (by kernel_rfl) (by decide) (opens_bool Try.underlying4)))))))))
  obtain ⟨x0, e0⟩ := opens_arg O0 h0
  have a0 := (show Enc (rL 6 (rP 2 (rP 1 rI rI) (rP 1 rI (rP 1 (rL 1 rB) (rP 1 (rL 1 rB) (rL 1 rB)))))) _ from (encL ⟨108, 6⟩ (encP (encP encI encI) (encP encI (encP (encL ⟨4, 1⟩ encB) (encP (encL ⟨4, 1⟩ encB) (encL ⟨4, 1⟩ encB))))))) W _ _ _ e0
  have b0 := RVD.one a0 (fun cs h => by obtain ⟨q1, q2, q3, q4⟩ := okWide_slice Try.underlying56 (hval 0 56 v0 rfl rfl); rw [q4] at h; cases h)
  exact law_of_spec (law_PlainAssembly (x0.map fun p => ⟨⟨p.1.1, p.1.2⟩, p.2.1, p.2.2.1, p.2.2.2.1, p.2.2.2.2⟩)) (.cons (RVD.cast b0 (by simp only [List.map_map]; rfl)) .nil)
theorem proved : Rows.FnExactPlainAssemblySaid :=
  OpenClaim.holds_of_wide 11 Try.f11 rfl rfl rfl rfl rfl rfl rfl ⟨rfl, rfl, rfl, rfl, rfl⟩ rfl rfl rfl rfl rfl (by kernel_rfl) Try.func11 (by kernel_rfl)
    (of_decide_eq_true (by kernel_rfl)) (by unfold Func.isWrapper; first | (rw [if_pos (by decide +kernel)]; kernel_rfl) | (rw [if_neg (by decide +kernel)]; exact ⟨rfl, rfl⟩))
    (fun os started H enc _ => lifted os started H enc)
#print axioms proved
end Go.Proofs.Ytmjfknhpdibngaa.fnExactPlainAssembly
