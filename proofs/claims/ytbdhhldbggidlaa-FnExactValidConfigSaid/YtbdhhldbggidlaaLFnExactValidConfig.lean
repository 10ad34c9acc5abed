/- The statement 'FnExactValidConfig': whatever the arguments, the law returns true, and its arguments read behind the call as before. No condition. -/
import Derived.Test.YtbdhhldbggidlaaRows
import Derived.Test.YtbdhhldbggidlaaLawM2
import Derived.Test.YtbdhhldbggidlaaY20
import Derived.WalkKit
import Derived.ProofKit
import Derived.OpenShut
namespace Go.Proofs.Ytbdhhldbggidlaa.fnExactValidConfig
open Go.ChangeShapes Go.WideShapes Go.ChangeAt Go.RowKit
theorem own : ownKnob Try.prog.godebug = none := by kernel_rfl
theorem laidOut : laidOutB Try.prog = true := by kernel_rfl
set_option maxRecDepth 100000 in
theorem lifted (os : Os) (started : os.Started) (H : Type) (enc : TypeId × Value → H) :
    ReturnsInHanded {} Try.checked os 12 .any (Rows.fnExactValidConfigSpec.pre6 enc Try.prog Try.f12 Rows.fnExactValidConfigRow.domain false) (Rows.fnExactValidConfigSpec.post enc Try.prog Try.f12 false true false false) := by
  refine returnsInHanded_of_change_sized (C := Try.checked) own started (by kernel_rfl) Try.func12
    (ChangeSpec.witness6 (enc := enc) (C := Try.checked) false ⟨#[], #[Value.agg #[Value.int IntKind.i64 0, Value.int IntKind.i64 0, Value.slice none 0 0], Value.agg #[Value.slice none 0 0, Value.int IntKind.i64 0, Value.int IntKind.i64 0]], []⟩ 8 (by kernel_rfl) (by kernel_rfl) (by kernel_rfl) (by kernel_rfl)) ?_
  intro W base args ds gs before hval0 hW _ hsz _
  have hval : ∀ (j : Nat) t v, Try.f12.params[j]? = some t → args[j]? = some v → Value.okWide Try.prog W .any base t v := hval0
  refine law_close laidOut (by kernel_rfl) rfl Try.underlying4 rfl hW (fun ds' h => by match ds', h with | [d0, d1], _ => exact ⟨rfl, rfl, rfl⟩) ?_
  intro p hA hlt
  rw [Try.params12] at hA hval
  obtain ⟨v0, vs0, d0, ds0, p0, q0, hargs, rfl, rfl, h0, r0⟩ := trodAll_cons hA
  obtain ⟨v1, vs1, d1, ds1, p1, q1, rfl, rfl, rfl, h1, r1⟩ := trodAll_cons r0
  obtain ⟨rfl, rfl, rfl⟩ := trodAll_nil r1
  obtain rfl : args = #[v0, v1] := by cases args; simp_all
  have O0 : Opens enc Try.prog W (fun _ => true) true 102 (rP 1 rI (rP 1 rI (rL 5 (rP 1 rI (rP 1 rI (rP 1 rI (rP 1 rI rI))))))) := (opens_struct Try.underlying102 (by kernel_rfl) (opensFs_cons rfl (by kernel_rfl) (opens_int Try.underlying2) (opensFs_cons rfl (by kernel_rfl) (opens_int Try.underlying2) (opensFs_one rfl (opens_slice Try.underlying100 (by kernel_rfl) (by decide) (opens_struct Try.underlying217 (by kernel_rfl) (opensFs_cons rfl (by kernel_rfl) (opens_int Try.underlying2) (opensFs_cons rfl (by kernel_rfl) (opens_int Try.underlying2) (opensFs_cons rfl (by kernel_rfl) (opens_int Try.underlying2) (opensFs_cons rfl (by kernel_rfl) (opens_int Try.underlying2) (opensFs_one rfl (opens_int Try.underlying2))))))))))))
  obtain ⟨x0, e0⟩ := opens_arg O0 h0
  have a0 := (show Enc (rP 1 rI (rP 1 rI (rL 5 (rP 1 rI (rP 1 rI (rP 1 rI (rP 1 rI rI))))))) _ from (encP encI (encP encI (encL ⟨185, 5⟩ (encP encI (encP encI (encP encI (encP encI encI)))))))) W _ _ _ e0
  have b0 := RVD.agg Try.underlying102 (hval 0 102 v0 rfl rfl) a0
  have O1 : Opens enc Try.prog W (fun _ => true) true 104 (rP 1 (rL 1 rI) (rP 1 rI rI)) := (opens_struct Try.underlying104 (by kernel_rfl) (opensFs_cons rfl (by kernel_rfl) (opens_slice Try.underlying22 (by kernel_rfl) (by decide) (opens_int Try.underlying2)) (opensFs_cons rfl (by kernel_rfl) (opens_int Try.underlying2) (opensFs_one rfl (opens_int Try.underlying2)))))
  obtain ⟨x1, e1⟩ := opens_arg O1 h1
  have a1 := (show Enc (rP 1 (rL 1 rI) (rP 1 rI rI)) _ from (encP (encL ⟨2, 1⟩ encI) (encP encI encI))) W _ _ _ e1
  have b1 := RVD.agg Try.underlying104 (hval 1 104 v1 rfl rfl) a1
  exact law_of_spec (law_ValidConfig ⟨x0.1, x0.2.1, (x0.2.2.map fun p => ⟨p.1, p.2.1, p.2.2.1, p.2.2.2.1, p.2.2.2.2⟩)⟩ ⟨x1.1, x1.2.1, x1.2.2⟩) (.cons (RVD.cast b0 (by simp only [enMachine, List.map_map]; rfl)) (.cons (RVD.cast b1 (by rfl)) .nil))
theorem proved : Rows.FnExactValidConfigSaid :=
  OpenClaim.holds_of_wide 12 Try.f12 rfl rfl rfl rfl rfl rfl rfl ⟨rfl, rfl, rfl, rfl, rfl⟩ rfl rfl rfl rfl rfl (by kernel_rfl) Try.func12 (by kernel_rfl)
    (of_decide_eq_true (by kernel_rfl)) (by unfold Func.isWrapper; first | (rw [if_pos (by decide +kernel)]; kernel_rfl) | (rw [if_neg (by decide +kernel)]; exact ⟨rfl, rfl⟩))
    (fun os started H enc _ => lifted os started H enc)
#print axioms proved
end Go.Proofs.Ytbdhhldbggidlaa.fnExactValidConfig
