/- The statement 'FnExactPlanText': whatever the arguments, the law returns true, and its arguments read behind the call as before. What the row lists stands (the tables of the library), tied to the text by the card. -/
import Derived.Test.YtnkfbodolbfjpaaDoorRows
import Derived.Test.YtnkfbodolbfjpaaDoorLawTP
import Derived.Test.YtnkfbodolbfjpaaDoorY20
import Derived.WalkKit
import Derived.ProofKit
import Derived.OpenShut
import Derived.LaidMore
import Derived.MakeChecks
import Derived.Lib.LaidTab
import Derived.Stop.Joined
import Derived.Stop.LaidErr
import Derived.SevenTiedAt
import Derived.Test.YtnkfbodolbfjpaaDoorCards
import Derived.Test.YtnkfbodolbfjpaaDoorTie
namespace Go.Proofs.YtnkfbodolbfjpaaDoor.fnExactPlanText
open Go.ChangeShapes Go.WideShapes Go.ChangeAt Go.RowKit
theorem own : ownKnob Tryd.prog.godebug = none := by kernel_rfl
theorem laidOut : laidOutB Tryd.prog = true := by kernel_rfl
set_option maxRecDepth 100000 in
theorem door_met (os : Os) (args : Array Value) : laidMetH Tryd.prog Rows.fnExactPlanTextRow.laid ((World.doorLaid Tryd.prog 400 os).forCall (fun _ _ => 0) ⟨#[], args, []⟩).memory :=
  laidMetH_of_parts3 (fuel := 8) (laidMet_of_run' 8 (by kernel_rfl) (by kernel_rfl)) (by kernel_rfl) (by kernel_rfl)
set_option maxRecDepth 100000 in
/-- The table of the powers of ten stands where it was laid. -/
theorem tab_of_laid {W : World} (h0 : laidMetH Tryd.prog Rows.fnExactPlanTextRow.laid W) : TabW W (· < W.heap.size) := by
  have h : laidMet Tryd.prog Rows.fnExactPlanTextRow.laid W := by
    rw [MakeChecks.laidMetH_plain _ _ _ (by kernel_rfl)] at h0
    exact h0
  have h2 : laidMet Tryd.prog (("internal/strconv.uint64pow10", Lib.tabData .u64 Lib.pow10Tab) :: []) W := ((h).tail).tail
  have hg : Tryd.prog.globalNamed "internal/strconv.uint64pow10" = some 0 := by kernel_rfl
  have ht : Lib.TabIs Tryd.prog W "internal/strconv.uint64pow10" .u64 Lib.pow10Tab := Lib.tabIs_of_head hg (t := 129) (e := 120) (n := 20) (by kernel_rfl) Tryd.underlying129 Tryd.underlying120 (by kernel_rfl) (by kernel_rfl) h2
  intro x hx
  obtain rfl : x = (0, 0) := by simpa [tabG] using hx
  unfold Lib.TabIs World.var? at ht
  rw [hg] at ht
  simp only [Option.bind_some] at ht
  cases ho : W.heap[0]? with
  | none => rw [ho] at ht; cases ht
  | some ob =>
    rw [ho] at ht
    cases ob <;> first | (cases ht; done) | skip
    rename_i cs T p
    exact ⟨(Array.getElem?_eq_some_iff.1 ho).1, cs, T, p, ho, (Option.some.inj ht).trans rfl⟩
set_option maxRecDepth 100000 in
theorem lifted (os : Os) (started : os.Started) (H : Type) (enc : TypeId × Value → H) :
    ReturnsInHanded {} Tryd.checked os 5 .any (fun w args => (Rows.fnExactPlanTextSpec.pre enc Tryd.prog Tryd.f5 [] false w args ∧ laidMetH Tryd.prog Rows.fnExactPlanTextRow.laid w) ∧ sizedMet enc Tryd.prog Tryd.f5 (OpenSpec.ofChange Rows.fnExactPlanTextSpec) false w args)
      (Rows.fnExactPlanTextSpec.post enc Tryd.prog Tryd.f5 false true false false) := by
  refine returnsInHanded_of_change_and (C := Tryd.checked) (X := fun w _ => laidMetH Tryd.prog Rows.fnExactPlanTextRow.laid w) (fun _ _ _ hh h => h.of_heap hh) own started (by kernel_rfl) Tryd.func5
    (ChangeSpec.witness_shaped (enc := enc) (C := Tryd.checked) (os := os) (X := fun w _ => laidMetH Tryd.prog Rows.fnExactPlanTextRow.laid w) false (World.doorLaid Tryd.prog 400 os) #[Value.agg #[Value.slice none 0 0]] 8 rfl (World.shaped_of_RefB (by kernel_rfl) (by kernel_rfl)) (by kernel_rfl) (by kernel_rfl) (by kernel_rfl) (door_met os _)) ?_
  intro W base args ds gs before hval0 hW _ hsz hL _
  have hval : ∀ (j : Nat) t v, Tryd.f5.params[j]? = some t → args[j]? = some v → Value.okWide Tryd.prog W .any base t v := hval0
  refine law_close laidOut (by kernel_rfl) rfl Tryd.underlying4 rfl hW (fun ds' h => by match ds', h with | [d0], _ => exact ⟨rfl, rfl, rfl⟩) ?_
  intro p hA hlt
  rw [Tryd.params5] at hA hval
  obtain ⟨v0, vs0, d0, ds0, p0, q0, hargs, rfl, rfl, h0, r0⟩ := trodAll_cons hA
  obtain ⟨rfl, rfl, rfl⟩ := trodAll_nil r0
  obtain rfl : args = #[v0] := by cases args; simp_all
  have O0 : Opens enc Tryd.prog W (fun _ => true) true 44 (rL 1 (rL 2 (rP 1 (rL 1 rI) (rL 1 rI)))) := (opens_struct Tryd.underlying44 (by kernel_rfl) (opensFs_one rfl (opens_slice Tryd.underlying42 (by kernel_rfl) (by decide) (opens_slice Tryd.underlying99 (by kernel_rfl) (by decide) (opens_struct Tryd.underlying110 (by kernel_rfl) (opensFs_cons rfl (by kernel_rfl) (opens_slice Tryd.underlying22 (by kernel_rfl) (by decide) (opens_int Tryd.underlying2)) (opensFs_one rfl (opens_slice Tryd.underlying22 (by kernel_rfl) (by decide) (opens_int Tryd.underlying2)))))))))
  obtain ⟨x0, e0⟩ := opens_arg O0 h0
  have a0 := (show Enc (rL 1 (rL 2 (rP 1 (rL 1 rI) (rL 1 rI)))) _ from (encL ⟨81, 1⟩ (encL ⟨85, 2⟩ (encP (encL ⟨2, 1⟩ encI) (encL ⟨2, 1⟩ encI))))) W _ _ _ e0
  have b0 := RVD.agg Tryd.underlying44 (hval 0 44 v0 rfl rfl) a0
  exact law_of_spec (law_PlanText ⟨(x0.map fun p => (p.map fun p => ⟨p.1, p.2⟩))⟩) (tab_of_laid hL) (.cons (RVD.cast b0 (by simp only [enPlan, enRMixture, List.map_map, Function.comp_def]; rfl)) .nil)
theorem row_holds : Rows.FnExactPlanTextSaid :=
  OpenClaim.holds_of_wide 5 Tryd.f5 rfl rfl rfl rfl rfl rfl rfl ⟨rfl, rfl, rfl, rfl, rfl⟩ rfl rfl rfl rfl rfl (by kernel_rfl) Tryd.func5 (by kernel_rfl)
    (of_decide_eq_true (by kernel_rfl)) (by unfold Func.isWrapper; first | (rw [if_pos (by decide +kernel)]; kernel_rfl) | (rw [if_neg (by decide +kernel)]; exact ⟨rfl, rfl⟩))
    (fun os started H enc _ => lifted os started H enc)
theorem proved : Rows.FnExactPlanTextCardSaid :=
  Claim7.holds_tied_plain_at .later [] [.data, .data, .data] true (true, "afe960fb3aa27ccfd02ef6c06a18d51cf3c53fe68f9f71827badc97c69ff7f18") false row_holds (fun _ h => by cases h) (by kernel_rfl) (fun _ h => by cases h) fnExactPlanText_row_tie rfl ⟨rfl, rfl⟩ (by kernel_rfl) rfl
    (fun f fn hf hfn => by
      obtain rfl : f = 5 := Option.some.inj ((show Tryd.prog.funcNamed "loop.example/g01081/laws.FnExactPlanText" = some 5 by kernel_rfl).symm.trans hf) |>.symm
      obtain rfl : fn = Tryd.f5 := (Option.some.inj (Tryd.func5.symm.trans hfn)).symm
      exact ⟨by kernel_rfl, fun j t ht => by
        rw [Tryd.params5] at ht
        have hm : t ∈ [44] := by simpa using Array.mem_of_getElem? ht
        have hall : ([44].all fun u => !Tryd.prog.wantsStandIn u) = true := by kernel_rfl
        exact (show Tryd.prog.wantsStandIn t = false by simpa using List.all_eq_true.1 hall t hm)⟩)
    (by kernel_rfl)
#print axioms proved
end Go.Proofs.YtnkfbodolbfjpaaDoor.fnExactPlanText
