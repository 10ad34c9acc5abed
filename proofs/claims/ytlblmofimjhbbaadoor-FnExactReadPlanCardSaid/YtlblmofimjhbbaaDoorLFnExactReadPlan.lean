/- The statement 'FnExactReadPlan': whatever the arguments, the law returns true, and its arguments read behind the call as before. What the row lists stands (the tables of the library), tied to the text by the card. -/
import Derived.Test.YtlblmofimjhbbaaDoorRows
import Derived.Test.YtlblmofimjhbbaaDoorQPh
import Derived.Test.YtlblmofimjhbbaaDoorY20
import Derived.WalkKit
import Derived.ProofKit
import Derived.OpenShut
import Derived.LaidMore
import Derived.Lay
import Derived.MakeChecks
import Derived.Lib.LaidTab
import Derived.Stop.Joined
import Derived.Stop.LaidErr
import Derived.SevenTiedAt
import Derived.Test.YtlblmofimjhbbaaDoorCards
import Derived.Test.YtlblmofimjhbbaaDoorTie
namespace Go.Proofs.YtlblmofimjhbbaaDoor.fnExactReadPlan
open Go.ChangeShapes Go.WideShapes Go.ChangeAt Go.RowKit
theorem own : ownKnob Tryd.prog.godebug = none := by kernel_rfl
theorem laidOut : laidOutB Tryd.prog = true := by kernel_rfl
set_option maxRecDepth 100000 in
/-- The table of the powers of ten stands where it was laid. -/
theorem pow_of_laid {W : World} (h0 : laidMetH Tryd.prog Rows.fnExactReadPlanRow.laid W) : W.heap.size > 0 ∧ tabAt W 0 0 := by
  have h : laidMet Tryd.prog Rows.fnExactReadPlanRow.laid W := by
    rw [MakeChecks.laidMetH_plain _ _ _ (by kernel_rfl)] at h0
    exact h0
  have h2 : laidMet Tryd.prog (("internal/strconv.uint64pow10", Lib.tabData .u64 Lib.pow10Tab) :: _) W := ((h).tail).tail
  have hg : Tryd.prog.globalNamed "internal/strconv.uint64pow10" = some 0 := by kernel_rfl
  have ht : Lib.TabIs Tryd.prog W "internal/strconv.uint64pow10" .u64 Lib.pow10Tab := Lib.tabIs_of_head hg (t := 151) (e := 116) (n := 20) (by kernel_rfl) Tryd.underlying151 Tryd.underlying116 (by kernel_rfl) (by kernel_rfl) h2
  unfold Lib.TabIs World.var? at ht
  rw [hg] at ht
  simp only [Option.bind_some] at ht
  cases ho : W.heap[0]? with
  | none => rw [ho] at ht; cases ht
  | some ob =>
    rw [ho] at ht
    cases ob <;> first | (cases ht; done) | skip
    rename_i cs T p
    exact ⟨(Array.getElem?_eq_some_iff.1 ho).1, cs, T, p, ho, (Option.some.inj ht).trans rfl⟩
set_option maxRecDepth 100000 in
/-- The library's own number is some number. -/
theorem max_of_shape {W : World} (h : W.ShapedOpen Tryd.prog) : W.heap.size > 1 ∧ tabAt W 1 1 := by
  obtain ⟨cs, hh, hs, hr⟩ := h.1 1 #[.int .i64 0] 3 (of_decide_eq_true (by kernel_rfl)) (by kernel_rfl)
  obtain ⟨ts, hts, _, hall⟩ := hr (by kernel_rfl)
  rw [show Tryd.prog.cellTypes Tryd.prog.depth 3 = some [3] by kernel_rfl] at hts
  cases hts
  have h1 : 0 < cs.size := by rw [hs]; exact Nat.zero_lt_one
  obtain ⟨u, hu', hok⟩ := hall 0 cs[0] (by simp [h1])
  have : u = 3 := by simpa using hu'.symm
  subst this
  unfold Cell.ok at hok
  rw [Tryd.underlying3] at hok
  refine ⟨(Array.getElem?_eq_some_iff.1 hh).1, cs, _, _, hh, ?_⟩
  cases hv : cs[0] <;> rw [hv] at hok <;> simp at hok
  case int k' n =>
    refine ⟨n, ?_⟩
    apply Array.ext
    · exact hs
    · intro i hi1 hi2
      have hi0 : i = 0 := by
        have : i < 1 := hi2
        omega
      subst hi0
      rw [hv, hok.1]
      rfl
set_option maxRecDepth 100000 in
theorem star : "*" ++ "errors.errorString" = "*errors.errorString" := by decide
theorem rowE (u : TypeId) (h : Tryd.prog.typeName? 3 u = some "*errors.errorString") : u = 194 :=
  Go.typeName_ptr_named (nm := "errors.errorString") (by rw [star]; kernel_rfl) (by kernel_rfl) (by decide) u (by rw [star]; exact h)
theorem tab_of_var {W : World} {n : String} {g : Nat} {tp : TypeId} {a : Addr} (hg : Tryd.prog.globalNamed n = some g) (hv : W.var? Tryd.prog n = some #[.iface tp (.pointer (some a))]) : W.heap.size > g ∧ tabAt W g 2 := by
  unfold World.var? at hv
  rw [hg] at hv
  simp only [Option.bind_some] at hv
  cases ho : W.heap[g]? with
  | none => rw [ho] at hv; cases hv
  | some ob =>
    rw [ho] at hv
    cases ob <;> first | (cases hv; done) | skip
    rename_i cs T p
    exact ⟨(Array.getElem?_eq_some_iff.1 ho).1, cs, T, p, ho, _, Option.some.inj hv, .inr ⟨_, _, rfl⟩⟩
set_option maxRecDepth 100000 in
/-- The library's two errors stand where they were laid. -/
theorem syn_of_laid {W : World} (h0 : laidMetH Tryd.prog Rows.fnExactReadPlanRow.laid W) : W.heap.size > 6 ∧ tabAt W 6 2 := by
  have h : laidMet Tryd.prog Rows.fnExactReadPlanRow.laid W := by
    rw [MakeChecks.laidMetH_plain _ _ _ (by kernel_rfl)] at h0
    exact h0
  have hg : Tryd.prog.globalNamed "strconv.ErrSyntax" = some 6 := by kernel_rfl
  obtain ⟨a, s, hv, _⟩ := Go.laid_sentinel ((((((h).tail).tail).tail).tail).tail) hg (by kernel_rfl) Tryd.underlying136 rowE Tryd.underlying194 Tryd.underlying196 rfl rfl Tryd.underlying9 (by kernel_rfl) (by kernel_rfl)
  exact tab_of_var hg hv
set_option maxRecDepth 100000 in
theorem rng_of_laid {W : World} (h0 : laidMetH Tryd.prog Rows.fnExactReadPlanRow.laid W) : W.heap.size > 7 ∧ tabAt W 7 2 := by
  have h : laidMet Tryd.prog Rows.fnExactReadPlanRow.laid W := by
    rw [MakeChecks.laidMetH_plain _ _ _ (by kernel_rfl)] at h0
    exact h0
  have hg : Tryd.prog.globalNamed "strconv.ErrRange" = some 7 := by kernel_rfl
  obtain ⟨a, s, hv, _⟩ := Go.laid_sentinel (((((h).tail).tail).tail).tail) hg (by kernel_rfl) Tryd.underlying136 rowE Tryd.underlying194 Tryd.underlying196 rfl rfl Tryd.underlying9 (by kernel_rfl) (by kernel_rfl)
  exact tab_of_var hg hv
set_option maxRecDepth 100000 in
/-- The library's variables stand. -/
theorem tab_of_world {W : World} (h0 : laidMetH Tryd.prog Rows.fnExactReadPlanRow.laid W) (hsh : W.ShapedOpen Tryd.prog) : TabW W (· < W.heap.size) := by
  intro x hx
  have hx' : x = (0, 0) ∨ x = (1, 1) ∨ x = (6, 2) ∨ x = (7, 2) := by simpa [tabG] using hx
  rcases hx' with rfl | rfl | rfl | rfl
  · exact pow_of_laid h0
  · exact max_of_shape hsh
  · exact syn_of_laid h0
  · exact rng_of_laid h0
/-- The wrap, with the world's shape. -/
theorem returns_and_shaped {H : Type} {enc : TypeId × Value → H} {a : Assume} {C : Checked} {os : Os} {f : FuncId} {fn : Func} {s : ChangeSpec} {conds : List PathCond} {apart fresh handsOn again : Bool} {X : World → Array Value → Prop}
    (hX : ∀ (w w' : World) (args : Array Value), w.heap = w'.heap → X w args → X w' args)
    (own : ownKnob C.prog.godebug = none) (started : os.Started) (noInit : C.prog.inits.idxOf? f = none) (hfn : C.prog.funcs[f]? = some fn)
    (witness : ∃ (w : World) (tape : Tape) (i : Input), w.os = os ∧ (w.forCall tape i).Shaped C.prog ∧ i.vars = [] ∧ Input.okWide C.prog (w.forCall tape i) .any w.heap.size f i ∧
      ((s.pre enc C.prog fn conds apart (w.forCall tape i).memory i.args ∧ X (w.forCall tape i).memory i.args) ∧ sizedMet enc C.prog fn (OpenSpec.ofChange s) apart (w.forCall tape i).memory i.args) ∧ a.holds C.prog (lone (Frame.enter C.prog f i.args .normal) [] (w.forCall tape i)))
    (contract : ∀ (W : World) (base : Nat) (args : Array Value) (ds gs : List (DataW H)) (before : List MemPlace),
      (∀ (j : Nat) t v, fn.params[j]? = some t → args[j]? = some v → Value.okWide C.prog W .any base t v) →
      DataW.Whole enc C.prog fn.params.toList s.vars apart W args.toList ds gs before →
      (DataW.weightsEach C.prog (fn.params.toList ++ s.plain.varTypes C.prog) (ds ++ gs)).all (· ≤ reachBytes) = true → X W args → W.ShapedOpen C.prog →
      Calls C.prog f args W fun e W' => ∃ v, e = .returned v ∧ s.post enc C.prog fn apart fresh handsOn again W args v W') :
    ReturnsInHanded a C os f .any (fun w args => (s.pre enc C.prog fn conds apart w args ∧ X w args) ∧ sizedMet enc C.prog fn (OpenSpec.ofChange s) apart w args) (s.post enc C.prog fn apart fresh handsOn again) := by
  refine returnsInHanded_of_calls own started noInit witness ?_
  intro w tape i _ hsh _ hok hpre _
  obtain ⟨_, _, _, fn', hfn', _, _, _, _, hval⟩ := hok
  have e : fn' = fn := Option.some.inj (hfn'.symm.trans hfn)
  subst e
  obtain ⟨⟨⟨ds, gs, before, hw, hc⟩, hx⟩, hz⟩ := hpre
  have hw' := DataW.Whole.of_heap (w' := w.forCall tape i) (by rfl) hw
  refine (contract (w.forCall tape i) w.heap.size i.args ds gs before hval hw' (hz.weights hw) (hX _ _ _ (by rfl) hx) hsh).mono fun e W' ⟨v, he, hp⟩ => ?_
  subst he
  exact ChangeSpec.post_blind hp
set_option maxRecDepth 100000 in
theorem lifted (os : Os) (started : os.Started) (H : Type) (enc : TypeId × Value → H) :
    ReturnsInHanded {} Tryd.checked os 4 .any (fun w args => (Rows.fnExactReadPlanSpec.pre enc Tryd.prog Tryd.f4 [] false w args ∧ laidMetH Tryd.prog Rows.fnExactReadPlanRow.laid w) ∧ sizedMet enc Tryd.prog Tryd.f4 (OpenSpec.ofChange Rows.fnExactReadPlanSpec) false w args)
      (Rows.fnExactReadPlanSpec.post enc Tryd.prog Tryd.f4 false true false false) := by
  refine returns_and_shaped (C := Tryd.checked) (X := fun w _ => laidMetH Tryd.prog Rows.fnExactReadPlanRow.laid w) (fun _ _ _ hh h => h.of_heap hh) own started (by kernel_rfl) Tryd.func4
    (ChangeSpec.witness_shaped (enc := enc) (C := Tryd.checked) (os := os) (X := fun w _ => laidMetH Tryd.prog Rows.fnExactReadPlanRow.laid w) false (World.laidAll Tryd.prog os Rows.fnExactReadPlanRow.laid) #[Value.string ⟨#[]⟩] 8 (World.laidAll_os _ _ _) (World.shaped_of_ZipB (by kernel_rfl) (by kernel_rfl)) (by kernel_rfl) (by kernel_rfl) (by kernel_rfl)
      (by rw [MakeChecks.laidMetH_plain _ _ _ (by kernel_rfl)]; exact laidMet_laidAll _ (by kernel_rfl) (by kernel_rfl))) ?_
  intro W base args ds gs before hval0 hW hsz hL hsh
  have hval : ∀ (j : Nat) t v, Tryd.f4.params[j]? = some t → args[j]? = some v → Value.okWide Tryd.prog W .any base t v := hval0
  refine law_close laidOut (by kernel_rfl) rfl Tryd.underlying4 rfl hW (fun ds' h => by match ds', h with | [d0], _ => exact ⟨rfl, rfl, rfl⟩) ?_
  intro p hA hlt
  rw [Tryd.params4] at hA hval
  obtain ⟨v0, vs0, d0, ds0, p0, q0, hargs, rfl, rfl, h0, r0⟩ := trodAll_cons hA
  obtain ⟨rfl, rfl, rfl⟩ := trodAll_nil r0
  obtain rfl : args = #[v0] := by cases args; simp_all
  have O0 : Opens enc Tryd.prog W (fun _ => true) true 9 rS := (opens_string Tryd.underlying9)
  obtain ⟨x0, e0⟩ := opens_arg O0 h0
  have a0 := (show Enc rS _ from encS) W _ _ _ e0
  have b0 := RVD.one a0 (fun cs h => by obtain ⟨q1, q4, _⟩ := Go.ChangeMaps.open_string Tryd.underlying9 (hval 0 9 v0 rfl rfl) h0; rw [q4] at h; cases h)
  exact law_of_spec (law_ReadPlan x0) (tab_of_world hL hsh) (.cons (RVD.cast b0 (by rfl)) .nil)
theorem row_holds : Rows.FnExactReadPlanSaid :=
  OpenClaim.holds_of_wide 4 Tryd.f4 rfl rfl rfl rfl rfl rfl rfl ⟨rfl, rfl, rfl, rfl, rfl⟩ rfl rfl rfl rfl rfl (by kernel_rfl) Tryd.func4 (by kernel_rfl)
    (of_decide_eq_true (by kernel_rfl)) (by unfold Func.isWrapper; first | (rw [if_pos (by decide +kernel)]; kernel_rfl) | (rw [if_neg (by decide +kernel)]; exact ⟨rfl, rfl⟩))
    (fun os started H enc _ => lifted os started H enc)
theorem proved : Rows.FnExactReadPlanCardSaid :=
  Claim7.holds_tied_plain_at .later [] [.data, .data, .data, .data, .sentinel, .sentinel, .pinned] true (true, "dc7378d72235f7a7b28be6232b622e4c786836d7e5fbfa251908d03ae64fb1ae") true row_holds (fun _ h => by cases h) (by kernel_rfl) (fun _ h => by cases h) fnExactReadPlan_row_tie rfl ⟨rfl, rfl⟩ (by kernel_rfl) rfl
    (fun f fn hf hfn => by
      obtain rfl : f = 4 := Option.some.inj ((show Tryd.prog.funcNamed "loop.example/g01081/laws.FnExactReadPlan" = some 4 by kernel_rfl).symm.trans hf) |>.symm
      obtain rfl : fn = Tryd.f4 := (Option.some.inj (Tryd.func4.symm.trans hfn)).symm
      exact ⟨by kernel_rfl, fun j t ht => by
        rw [Tryd.params4] at ht
        have hm : t ∈ [9] := by simpa using Array.mem_of_getElem? ht
        have hall : ([9].all fun u => !Tryd.prog.wantsStandIn u) = true := by kernel_rfl
        exact (show Tryd.prog.wantsStandIn t = false by simpa using List.all_eq_true.1 hall t hm)⟩)
    (by kernel_rfl)
#print axioms proved
end Go.Proofs.YtlblmofimjhbbaaDoor.fnExactReadPlan
