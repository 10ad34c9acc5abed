/- The statement 'FnExactLinePlan': whatever the arguments, the law returns true, and its arguments read behind the call as before. What the row lists stands (the tables of the library), tied to the text by the card. -/
import Derived.Test.YtlblmofimjhbbaaDoorRows
import Derived.Test.YtlblmofimjhbbaaDoorLPh
import Derived.Test.YtlblmofimjhbbaaDoorY20
import Derived.WalkKit
import Derived.ProofKit
import Derived.OpenShut
import Derived.LaidMore
import Derived.MakeChecks
import Derived.Lib.LaidTab
import Derived.Stop.Joined
import Derived.Stop.LaidErr
import Derived.SevenTiedAt
import Derived.Test.YtlblmofimjhbbaaDoorCards
import Derived.Test.YtlblmofimjhbbaaDoorTie
namespace Go.Proofs.YtlblmofimjhbbaaDoor.fnExactLinePlan
open Go.ChangeShapes Go.WideShapes Go.ChangeAt Go.RowKit
theorem own : ownKnob Tryd.prog.godebug = none := by kernel_rfl
theorem laidOut : laidOutB Tryd.prog = true := by kernel_rfl
set_option maxRecDepth 100000 in
theorem door_met (os : Os) (args : Array Value) : laidMetH Tryd.prog Rows.fnExactLinePlanRow.laid ((World.doorLaid Tryd.prog 400 os).forCall (fun _ _ => 0) ⟨#[], args, []⟩).memory :=
  laidMetH_of_parts3 (fuel := 8) (laidMet_of_run' 8 (by kernel_rfl) (by kernel_rfl)) (by kernel_rfl) (by kernel_rfl)
set_option maxRecDepth 100000 in
/-- The table of the powers of ten stands where it was laid. -/
theorem tab_of_laid {W : World} (h0 : laidMetH Tryd.prog Rows.fnExactLinePlanRow.laid W) : TabW W (· < W.heap.size) := by
  have h : laidMet Tryd.prog Rows.fnExactLinePlanRow.laid W := by
    rw [MakeChecks.laidMetH_plain _ _ _ (by kernel_rfl)] at h0
    exact h0
  have h2 : laidMet Tryd.prog (("internal/strconv.uint64pow10", Lib.tabData .u64 Lib.pow10Tab) :: []) W := ((h).tail).tail
  have hg : Tryd.prog.globalNamed "internal/strconv.uint64pow10" = some 0 := by kernel_rfl
  have ht : Lib.TabIs Tryd.prog W "internal/strconv.uint64pow10" .u64 Lib.pow10Tab := Lib.tabIs_of_head hg (t := 151) (e := 116) (n := 20) (by kernel_rfl) Tryd.underlying151 Tryd.underlying116 (by kernel_rfl) (by kernel_rfl) h2
  intro x hx
  obtain rfl : x = (0, 0) := by simpa [tabG] using hx
  unfold Lib.TabIs World.var? at ht
  rw [hg] at ht
  simp only [Option.bind_some] at ht
  cases ho : W.heap[0]? with
  | none => rw [ho] at ht; cases ht
  | some ob =>
    rw [ho] at ht
    cases ob <;> first | (cases ht; done) | skip
    rename_i cs T p
    exact ⟨(Array.getElem?_eq_some_iff.1 ho).1, cs, T, p, ho, (Option.some.inj ht).trans rfl⟩
set_option maxRecDepth 100000 in
theorem lifted (os : Os) (started : os.Started) (H : Type) (enc : TypeId × Value → H) :
    ReturnsInHanded {} Tryd.checked os 3 .any (fun w args => (Rows.fnExactLinePlanSpec.pre enc Tryd.prog Tryd.f3 [] false w args ∧ laidMetH Tryd.prog Rows.fnExactLinePlanRow.laid w) ∧ sizedMet enc Tryd.prog Tryd.f3 (OpenSpec.ofChange Rows.fnExactLinePlanSpec) false w args)
      (Rows.fnExactLinePlanSpec.post enc Tryd.prog Tryd.f3 false true false false) := by
  refine returnsInHanded_of_change_and (C := Tryd.checked) (X := fun w _ => laidMetH Tryd.prog Rows.fnExactLinePlanRow.laid w) (fun _ _ _ hh h => h.of_heap hh) own started (by kernel_rfl) Tryd.func3
    (ChangeSpec.witness_shaped (enc := enc) (C := Tryd.checked) (os := os) (X := fun w _ => laidMetH Tryd.prog Rows.fnExactLinePlanRow.laid w) false (World.doorLaid Tryd.prog 400 os) #[Value.int IntKind.i64 0] 8 rfl (World.shaped_of_RefB (by kernel_rfl) (by kernel_rfl)) (by kernel_rfl) (by kernel_rfl) (by kernel_rfl) (door_met os _)) ?_
  intro W base args ds gs before hval0 hW _ hsz hL _
  have hval : ∀ (j : Nat) t v, Tryd.f3.params[j]? = some t → args[j]? = some v → Value.okWide Tryd.prog W .any base t v := hval0
  refine law_close laidOut (by kernel_rfl) rfl Tryd.underlying4 rfl hW (fun ds' h => by match ds', h with | [d0], _ => exact ⟨rfl, rfl, rfl⟩) ?_
  intro p hA hlt
  rw [Tryd.params3] at hA hval
  obtain ⟨v0, vs0, d0, ds0, p0, q0, hargs, rfl, rfl, h0, r0⟩ := trodAll_cons hA
  obtain ⟨rfl, rfl, rfl⟩ := trodAll_nil r0
  obtain rfl : args = #[v0] := by cases args; simp_all
  have O0 : Opens enc Tryd.prog W (fun _ => true) true 2 rI := (opens_int Tryd.underlying2)
  obtain ⟨x0, e0⟩ := opens_arg O0 h0
  have a0 := (show Enc rI _ from encI) W _ _ _ e0
  have b0 := RVD.one a0 (fun cs h => by obtain ⟨q1, q4, _⟩ := open_int Tryd.underlying2 (hval 0 2 v0 rfl rfl) h0; rw [q4] at h; cases h)
  exact law_of_spec (law_LinePlan x0) (tab_of_laid hL) (.cons (RVD.cast b0 (by rfl)) .nil)
theorem row_holds : Rows.FnExactLinePlanSaid :=
  OpenClaim.holds_of_wide 3 Tryd.f3 rfl rfl rfl rfl rfl rfl rfl ⟨rfl, rfl, rfl, rfl, rfl⟩ rfl rfl rfl rfl rfl (by kernel_rfl) Tryd.func3 (by kernel_rfl)
    (of_decide_eq_true (by kernel_rfl)) (by unfold Func.isWrapper; first | (rw [if_pos (by decide +kernel)]; kernel_rfl) | (rw [if_neg (by decide +kernel)]; exact ⟨rfl, rfl⟩))
    (fun os started H enc _ => lifted os started H enc)
theorem proved : Rows.FnExactLinePlanCardSaid :=
  Claim7.holds_tied_plain_at .later [] [.data, .data, .data] true (true, "dc7378d72235f7a7b28be6232b622e4c786836d7e5fbfa251908d03ae64fb1ae") true row_holds (fun _ h => by cases h) (by kernel_rfl) (fun _ h => by cases h) fnExactLinePlan_row_tie rfl ⟨rfl, rfl⟩ (by kernel_rfl) rfl
    (fun f fn hf hfn => by
      obtain rfl : f = 3 := Option.some.inj ((show Tryd.prog.funcNamed "loop.example/g01081/laws.FnExactLinePlan" = some 3 by kernel_rfl).symm.trans hf) |>.symm
      obtain rfl : fn = Tryd.f3 := (Option.some.inj (Tryd.func3.symm.trans hfn)).symm
      exact ⟨by kernel_rfl, fun j t ht => by
        rw [Tryd.params3] at ht
        have hm : t ∈ [2] := by simpa using Array.mem_of_getElem? ht
        have hall : ([2].all fun u => !Tryd.prog.wantsStandIn u) = true := by kernel_rfl
        exact (show Tryd.prog.wantsStandIn t = false by simpa using List.all_eq_true.1 hall t hm)⟩)
    (by kernel_rfl)
#print axioms proved
end Go.Proofs.YtlblmofimjhbbaaDoor.fnExactLinePlan
