/- What a function does, out of what is said of its code. No program is named here. -/
import Derived.Test.YtlblmofimjhbbaaDoorY13
namespace Go.Proofs.YtlblmofimjhbbaaDoor
open Go.RowKit
/-- This datum has been read somewhere. -/
def Known (d : D) : Prop := ∃ (w : World) (R : Nat → Prop) (v : Value), RD w R v d
theorem Known.wf {k : IntKind} {n : Int} (h : Known (.pv (.int k n))) : k.min ≤ n ∧ n ≤ k.max := by
  obtain ⟨w, R, v, h⟩ := h
  cases h with
  | pv _ hi => exact (wf_iff k n).1 hi
theorem Known.i64 {n : Int} (h : Known (.pv (.int .i64 n))) : -9223372036854775808 ≤ n ∧ n ≤ 9223372036854775807 := by
  have := h.wf
  simpa [IntKind.min, IntKind.max, IntKind.signed, IntKind.bits] using this
theorem Known.str {s : ByteArray} (h : Known (.pv (.string s))) : s.size ≤ maxLen := by
  obtain ⟨w, R, v, h⟩ := h
  cases h with
  | pv _ hi => exact hi
theorem Known.len {κ : Ky} {xs : List (List D)} (h : Known (.rd κ xs)) : xs.length ≤ maxLen := by
  obtain ⟨w, R, v, h⟩ := h
  cases h with
  | nil => simp
  | rd c h0 h1 h2 => omega
theorem Known.len' {κ : Ky} {xs : List (List D)} (h : Known (.rd κ xs)) : xs.length ≤ 9223372036854775807 := by
  have := h.len; unfold maxLen at this; omega
theorem Known.elem {κ : Ky} {xs : List (List D)} (h : Known (.rd κ xs)) : ∀ es ∈ xs, ∀ d ∈ es, Known d := by
  obtain ⟨w, R, v, h⟩ := h
  cases h with
  | nil => simp
  | rd c h0 h1 h2 hR hk hc hr =>
    intro es hes d hd
    obtain ⟨i, hi⟩ := List.getElem?_of_mem hes
    obtain ⟨j, hj⟩ := List.getElem?_of_mem hd
    exact ⟨w, R, _, hr i es j d hi hj⟩
theorem Known.cells {cs : List D} (h : Known (.rp cs)) : ∀ d ∈ cs, Known d := by
  obtain ⟨w, R, v, h⟩ := h
  cases h with
  | rp c hR hc hr =>
    intro d hd
    obtain ⟨j, hj⟩ := List.getElem?_of_mem hd
    exact ⟨w, R, _, hr j d hj⟩
def B.ds : B → List D
  | .d x => [x]
  | _ => []
def V1.ds : V1 → List D
  | .c b => b.ds
  | .agg bs => bs.flatMap B.ds
def Ob.ds : Ob → List D
  | .box _ cs => cs.flatMap B.ds
  | .arr κ xs [] => [.rd κ xs]
  | .arr _ _ _ => []
  | .mp _ => []
  | .val _ => []
/-- All that the call began with has been read. -/
def KnownAll (args : List V1) (ins : List (Nat × Ob)) : Prop := (∀ x ∈ args, ∀ d ∈ x.ds, Known d) ∧ ∀ i X, frO ins i = some X → ∀ d ∈ X.ds, Known d
/-- The slots at the start. -/
def argsEnv (args : List V1) (d : Nat) : AV :=
  match args[d]? with
  | some x => .v x
  | none => undefA
def st0 (args : List V1) (ins : List (Nat × Ob)) : St := ⟨argsEnv args, frO ins⟩
def resV (P : Program) (st : St) : ResultVar → V1 → Prop
  | .tmp t, y => st.env t = .v y
  | .cell t T, y => ∃ b cs ag s, st.env t = .v (.c b) ∧ cellsAt st.objs b = some cs ∧ tyInfo P T = some (ag, s) ∧ (ag = true → s ≤ cs.length ∧ y = .agg (cs.take s)) ∧ (ag = false → ∃ c, cs[0]? = some c ∧ y = .c c)
def okρ (ρ : List (Nat × Nat)) : Bool := nodupB (ρ.map (·.1)) && nodupB (ρ.map (·.2)) && ρ.all fun x => Nat.blt x.2 pinN || x.1 == x.2
/-- What the function hands back. -/
def RetOk (P : Program) (rs : List ResultVar) (r : AV) (outs : List (Nat × Ob)) (st : St) : Prop :=
  ∃ st' ys ys' ρ, Weak st st' ∧ F2 (resV P st') rs ys ∧ vAll (cV1 (fun _ => none) ρ) ys = some ys' ∧ insC st'.objs (fun _ => none) ρ ρ = some outs ∧ okρ ρ = true ∧ match r with
    | .v y => ys' = [y]
    | .tup l => l.length ≠ 1 ∧ ys' = l
section
variable {P : Program} {F : Fx} {w : World} {R : Nat → Prop} {ι : Nat → Value} {φ : Nat → List Nat} {st : St} {a : Act}
theorem run_resV {r : ResultVar} {y : V1} (hs : Sat F R ι φ st a w) (h : resV P st r y) : ∃ v, ((match r with | .tmp t => pure (a.tmps.getD t undef) | .cell t T => do loadVar T (← asAddr (a.tmps.getD t undef))) : Sem Value).run P w = .ok v w ∧ RV1 w R ι st.dom v y := by
  cases r with
  | tmp t =>
    have := hs.env t
    rw [show st.env t = .v y from h] at this
    exact ⟨_, rfl, this⟩
  | cell t T =>
    obtain ⟨b, cs, ag, s, he, hc, hT, h1, h2⟩ := h
    have hv := hs.env t
    rw [he] at hv
    obtain ⟨g, off, us, e1, e2, e3⟩ := cellsAt_ok hs.objs hv hc
    have hl := run_loadAt (P := P) hT e3
    have hrun : ∀ u, (Instr.loadAt T (.pointer (some ⟨g, off, none⟩))).run P w = .ok u w → ((do loadVar T (← asAddr (a.tmps.getD t undef))) : Sem Value).run P w = .ok u w := fun u hu => by
      rw [e1]
      simpa [Instr.loadAt, Instr.sureAddr, asAddr] using hu
    cases ag with
    | true =>
      obtain ⟨hs', rfl⟩ := h1 rfl
      exact ⟨_, hrun _ (hl.1 rfl (by rw [e2.len]; exact hs')), us.take s, rfl, e2.take s⟩
    | false =>
      obtain ⟨c, hc0, rfl⟩ := h2 rfl
      obtain ⟨u, hu, hr⟩ := e2.get hc0
      exact ⟨u, hrun _ (hl.2 rfl u hu), hr⟩
theorem run_resVs (hs : Sat F R ι φ st a w) : ∀ {rs : List ResultVar} {ys : List V1}, F2 (resV P st) rs ys → ∃ vs, (rs.mapM fun r => ((match r with | .tmp t => pure (a.tmps.getD t undef) | .cell t T => do loadVar T (← asAddr (a.tmps.getD t undef))) : Sem Value)).run P w = .ok vs w ∧ F2 (RV1 w R ι st.dom) vs ys
  | _, _, .nil => ⟨[], rfl, .nil⟩
  | _, _, .cons (a := r) h1 h2 => by
    obtain ⟨v, e1, h3⟩ := run_resV hs h1
    obtain ⟨vs, e2, h4⟩ := run_resVs hs h2
    refine ⟨v :: vs, ?_, .cons h3 h4⟩
    rw [List.mapM_cons]
    simp only [Sem.run_bind, e1, Result.andThen_ok, e2, Sem.run_pure]
theorem F2.all1 {α : Type} {p : α → Prop} : ∀ {l : List α}, (∀ x ∈ l, p x) → F2 (fun (_ : Unit) x => p x) (l.map fun _ => ()) l
  | [], _ => .nil
  | x :: l, h => .cons (h x (by simp)) (F2.all1 fun y hy => h y (by simp [hy]))
theorem run_results {fn : Func} {r : AV} {outs : List (Nat × Ob)} (hs : Sat F R ι φ st a w) (h : RetOk P fn.results.toList r outs st) : ∃ v, (results fn a.tmps).run P w = .ok v w ∧ ∃ (R' : Nat → Prop) (ι' : Nat → Value) (φ' : Nat → List Nat), (∀ b, F.R b → R' b) ∧ (∀ b, R' b → b < w.heap.size) ∧ (∀ b, R' b → F.R b ∨ F.M b ∨ F.w.heap.size ≤ b) ∧
    RA w R' ι' (domO (frO outs)) v r ∧ ObjsOk w R' ι' φ' (frO outs) ∧ (∀ g, fpO φ' (frO outs) g → F.M g ∨ F.w.heap.size ≤ g) ∧ ∀ o, pinN ≤ o → ι' o = F.ι o := by
  obtain ⟨st', ys, ys', ρ, hw, h1, h2, h3, hρ, h4⟩ := h
  obtain ⟨R2, ι2, φ2, hs2⟩ := hw _ _ _ _ _ _ hs
  unfold okρ at hρ
  simp only [Bool.and_eq_true] at hρ
  have hn1 := nodupB_ok hρ.1.1
  have hn2 := nodupB_ok hρ.1.2
  obtain ⟨pre1, pre2, pre3, pre4⟩ := call_pre (bor := false) hs2.ok hs2.rlt hn1 hn2 h3
  obtain ⟨vs, e1, hF⟩ := run_resVs (P := P) hs2 h1
  have hF' : F2 (RV1 w (Seen R2 φ2 fun _ => none) (ιC ρ ι2) (domO (frO outs))) vs ys' := vAll_ok (f := cV1 (fun _ => none) ρ) (r' := RV1 w R2 ι2 st'.dom) (fun _ _ _ h e => cV1_ok hn2 pre3 pre2 h e) hF h2
  have hm : (fn.results.mapM fun r => ((match r with | .tmp t => pure (a.tmps.getD t undef) | .cell t T => do loadVar T (← asAddr (a.tmps.getD t undef))) : Sem Value)).run P w = .ok vs.toArray w := by
    rw [Array.mapM_eq_mapM_toList]
    show Sem.run P (fn.results.toList.mapM _ >>= fun l => pure l.toArray) w = _
    rw [Sem.run_bind, e1]
    rfl
  have hr : (results fn a.tmps).run P w = .ok (if h : vs.toArray.size = 1 then vs.toArray[0] else .tuple vs.toArray) w := by
    unfold results
    rw [Sem.run_bind]
    refine (congrArg (fun x => Result.andThen x _) hm).trans ?_
    rfl
  have hval : ∃ v, (results fn a.tmps).run P w = .ok v w ∧ RA w (Seen R2 φ2 fun _ => none) (ιC ρ ι2) (domO (frO outs)) v r := by
    cases r with
    | v y =>
      have h4 : ys' = [y] := h4
      subst h4
      cases hF' with
      | cons hv hF'' =>
        cases hF''
        rename_i v
        exact ⟨v, by rw [hr]; simp, hv⟩
    | tup l =>
      obtain ⟨hl, rfl⟩ : l.length ≠ 1 ∧ ys' = l := h4
      exact ⟨.tuple vs.toArray, by rw [hr, dif_neg (by have := hF'.len; simp; omega)], vs, rfl, hF'⟩
  obtain ⟨v, hv1, hv2⟩ := hval
  have hsn : ∀ b, Seen R2 φ2 (fun _ => none) b → R2 b := fun b h => h.elim id fun ⟨o, x, h, _⟩ => by cases h
  refine ⟨v, hv1, _, _, _, fun b hb => .inl (hs2.rsub b hb), pre1, fun b hb => hs2.rnew b (hsn b hb), hv2, pre4, fun g ⟨i, X, hX, hg⟩ => ?_, fun o ho => ?_⟩
  · obtain ⟨p, x, q1, q2, _⟩ := insC_get h3 hX
    exact (hs2.mine p x q2 g (by simpa [φC, q1] using hg)).1
  · unfold ιC
    cases hl : look2 ρ o with
    | none => exact hs2.pin o ho
    | some p =>
      have := List.all_eq_true.1 hρ.2 _ (look2_mem hl)
      simp only [Bool.or_eq_true, beq_iff_eq] at this
      rcases this with h | h
      · rw [Nat.blt] at h
        have := Nat.le_of_ble_eq_true h
        omega
      · subst h; exact hs2.pin _ ho
theorem callFunc_enter {f : FuncId} {fn : Func} (hf : P.funcs[f]? = some fn) (hb : fn.body.isNone = false) (hname : (fn.name == "runtime.NumGoroutine") = false) (vs : Array Value) (w : World) : (callFunc f vs).run P w = .ok (.enter f vs) w := by
  unfold callFunc
  simp only [Sem.run_bind, run_program, Result.andThen_ok, hf, hname, hb, Bool.false_eq_true, if_false, Sem.run_pure]
theorem RD.known {v : Value} {d : D} (h : RD w R v d) : Known d := ⟨w, R, v, h⟩
theorem RB.known {dom : Nat → Prop} {v : Value} {b : B} (h : RB w R ι dom v b) : ∀ d ∈ b.ds, Known d := by
  cases b with
  | d x => intro d hd; simp [B.ds] at hd; subst hd; exact RD.known h
  | _ => intro d hd; simp [B.ds] at hd
theorem F2.mem_right {α β : Type} {r : α → β → Prop} : ∀ {as : List α} {bs : List β} {b : β}, F2 r as bs → b ∈ bs → ∃ a, r a b
  | _, _, _, .cons h1 h2, h => by
    rcases List.mem_cons.1 h with rfl | h
    · exact ⟨_, h1⟩
    · exact h2.mem_right h
theorem knows {args : List V1} {ins : List (Nat × Ob)} {vs : List Value} {dom : Nat → Prop} (hF : F2 (RV1 w R ι dom) vs args) (ho : ObjsOk w R ι φ (frO ins)) : KnownAll args ins := by
  refine ⟨fun x hx d hd => ?_, fun i X hX d hd => ?_⟩
  · obtain ⟨v, hv⟩ := hF.mem_right hx
    cases x with
    | c b => exact RB.known hv d hd
    | agg bs =>
      obtain ⟨us, _, h2⟩ := hv
      obtain ⟨b, hb, hdb⟩ := List.mem_flatMap.1 hd
      obtain ⟨u, hu⟩ := h2.mem_right hb
      exact RB.known hu d hdb
  · have h := ho.1 i X hX
    cases X with
    | box T cs =>
      obtain ⟨g, us, _, _, _, h2⟩ := h
      obtain ⟨b, hb, hdb⟩ := List.mem_flatMap.1 hd
      obtain ⟨u, hu⟩ := h2.mem_right hb
      exact RB.known hu d hdb
    | arr κ xs hs =>
      cases hs with
      | nil =>
        simp [Ob.ds] at hd
        subst hd
        exact RD.known (RArr.data (R' := fun _ => True) h fun _ _ => trivial)
      | cons _ _ => simp [Ob.ds] at hd
    | mp es => simp [Ob.ds] at hd
    | val b => simp [Ob.ds] at hd
/-- THE FUNCTION. -/
theorem SpecM.of_vc (hm : P.follows .mixedOrders = true) {f : FuncId} {fn : Func} {c : Code} {args : List V1} {ins : List (Nat × Ob)} {r : AV} {outs : List (Nat × Ob)} (hf : P.funcs[f]? = some fn) (hb : fn.body = some c) (hname : (fn.name == "runtime.NumGoroutine") = false) (ha : args.length ≤ fn.ntmps)
    (h : KnownAll args ins → VC P fn.ntmps c (fun e st => (e = .normal ∨ e = .ret) ∧ RetOk P fn.results.toList r outs st) (st0 args ins)) : SpecM P f args ins r outs := by
  refine ⟨callFunc_enter hf (by rw [hb]; rfl) hname, fun w R ι φ vs hR hF ho => ?_⟩
  have hlen := hF.len
  let F : Fx := ⟨w, fpO φ (frO ins), ι, R, fn.ntmps, ho.2.2.2, fun g ⟨o, x, h1, h2⟩ => (ho.2.1 o x h1 g h2).1, []⟩
  refine calls_of_wp hf hb (Code.wp_mono (fun e a' w' hp => ?_) (VC_sound (F := F) (ι := ι) (R := R) (φ := φ) hm c (h (knows hF ho)) ?_))
  · obtain ⟨st, R', ι', φ', ⟨he, hret⟩, hs⟩ := hp.mk
    obtain ⟨v, h1, R1, ι1, φ1, q1, q2, q3, q4, q5, q6, q7⟩ := run_results hs hret
    have goal : a'.defers = [] ∧ ∃ v, (results fn a'.tmps).run P w' = .ok v w' ∧ ∃ u, Ending.returned v = .returned u ∧ After w R ι φ (frO ins) r (frO outs) u w' :=
      ⟨hs.defers, v, h1, v, rfl, R1, ι1, φ1, hs.below, q1, q2, fun b hb hlt => by
        rcases q3 b hb with h | h | h
        · exact .inl h
        · exact .inr h
        · have h : w.heap.size ≤ b := h
          omega, q4, q5, q6, q7⟩
    rcases he with rfl | rfl
    · exact goal
    · exact goal
  · refine ⟨BelowM.refl _ _, hR, fun _ h => h, fun b h => .inl h, by simp [F]; omega, rfl, fun d => ?_, ho.1, fun o x hx g hg => ⟨.inl ⟨o, x, hx, hg⟩, ho.2.1 o x hx g hg⟩, ho.2.2.1, fun _ _ => rfl⟩
    have hget : (vs.toArray ++ Array.replicate (fn.ntmps - vs.toArray.size) undef).getD d undef = vs.getD d undef := by
      rw [Array.getD_eq_getD_getElem?, Array.getElem?_append]
      by_cases hd : d < vs.length
      · simp [hd, List.getD]
      · simp [hd, List.getD, Array.getElem?_replicate]
        split <;> rfl
    show RA w R _ _ ((vs.toArray ++ Array.replicate (fn.ntmps - vs.toArray.size) undef).getD d undef) (argsEnv args d)
    rw [hget]
    unfold argsEnv
    split
    · rename_i x hx
      obtain ⟨v, hv, hr⟩ := hF.get hx
      rw [show vs.getD d undef = v by simp [List.getD, hv]]
      exact hr
    · rename_i hx
      have : args.length ≤ d := by
        rcases Nat.lt_or_ge d args.length with h | h
        · rw [List.getElem?_eq_getElem h] at hx; cases hx
        · exact h
      rw [show vs.getD d undef = undef by simp [List.getD, List.getElem?_eq_none (show vs.length ≤ d by omega)]]
      exact RA.undef
end
end Go.Proofs.YtlblmofimjhbbaaDoor
