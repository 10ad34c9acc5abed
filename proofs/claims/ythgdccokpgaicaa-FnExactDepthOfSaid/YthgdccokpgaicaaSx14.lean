/- What a function does, out of what is said of its code. No program is named here. -/
import Derived.Test.YthgdccokpgaicaaSx13
namespace Go.Proofs.Ythgdccokpgaicaa
open Go.RowKit
/-- This datum has been read somewhere. -/
def Known (d : D) : Prop := ∃ (w : World) (R : Nat → Prop) (v : Value), RD w R v d
theorem Known.wf {k : IntKind} {n : Int} (h : Known (.pv (.int k n))) : k.min ≤ n ∧ n ≤ k.max := by
  obtain ⟨w, R, v, h⟩ := h
  cases h with
  | pv _ hi => exact (wf_iff k n).1 hi
theorem Known.i64 {n : Int} (h : Known (.pv (.int .i64 n))) : -9223372036854775808 ≤ n ∧ n ≤ 9223372036854775807 := by
  have := h.wf
  simpa [IntKind.min, IntKind.max, IntKind.signed, IntKind.bits] using this
theorem Known.str {s : ByteArray} (h : Known (.pv (.string s))) : s.size ≤ maxLen := by
  obtain ⟨w, R, v, h⟩ := h
  cases h with
  | pv _ hi => exact hi
theorem Known.len {k : Nat} {xs : List (List D)} (h : Known (.rd k xs)) : xs.length ≤ maxLen := by
  obtain ⟨w, R, v, h⟩ := h
  cases h with
  | nil => simp
  | rd c h0 h1 h2 => omega
theorem Known.len' {k : Nat} {xs : List (List D)} (h : Known (.rd k xs)) : xs.length ≤ 9223372036854775807 := by
  have := h.len; unfold maxLen at this; omega
theorem Known.elem {k : Nat} {xs : List (List D)} (h : Known (.rd k xs)) : ∀ es ∈ xs, ∀ d ∈ es, Known d := by
  obtain ⟨w, R, v, h⟩ := h
  cases h with
  | nil => simp
  | rd c h0 h1 h2 hR hk hc hr =>
    intro es hes d hd
    obtain ⟨i, hi⟩ := List.getElem?_of_mem hes
    obtain ⟨j, hj⟩ := List.getElem?_of_mem hd
    exact ⟨w, R, _, hr i es j d hi hj⟩
theorem Known.cells {cs : List D} (h : Known (.rp cs)) : ∀ d ∈ cs, Known d := by
  obtain ⟨w, R, v, h⟩ := h
  cases h with
  | rp c hR hc hr =>
    intro d hd
    obtain ⟨j, hj⟩ := List.getElem?_of_mem hd
    exact ⟨w, R, _, hr j d hj⟩
def VD.ds : VD → List D
  | .c x => [x]
  | .agg xs => xs
def VD.av : VD → AV
  | .c x => .v (.c (.d x))
  | .agg xs => .v (.agg (xs.map B.d))
/-- The slots at the start. -/
def argsEnv (args : List VD) (d : Nat) : AV :=
  match args[d]? with
  | some x => x.av
  | none => undefA
def st0 (args : List VD) : St := ⟨argsEnv args, fun _ => none⟩
def pureD : D → Bool
  | .pv _ => true
  | _ => false
/-- A cell that is handed back. -/
def OutC (st : St) : B → RC → Prop
  | .own o, .nw e k xs => st.objs o = some (.arr e k xs) ∧ ∀ es ∈ xs, ∀ d ∈ es, pureD d = true
  | .d (.pv v), .fz (.pv u) => v = u
  | .d (.pv v), .nw _ _ xs => v = .slice none 0 0 ∧ xs = []
  | _, _ => False
def ownIds : List B → List Nat
  | [] => []
  | .own o :: bs => o :: ownIds bs
  | _ :: bs => ownIds bs
def Out1 (st : St) : V1 → R1 → Prop
  | .c b, .c x => OutC st b x
  | .agg bs, .agg xs => F2 (OutC st) bs xs
  | _, _ => False
def V1.bs : V1 → List B
  | .c b => [b]
  | .agg bs => bs
/-- A result, where it lies. -/
def resV (P : Program) (st : St) (r : ResultVar) (y : V1) : Prop :=
  match r with
  | .tmp t => st.env t = .v y
  | .cell t T => ∃ b cs ag s, st.env t = .v (.c b) ∧ cellsAt st.objs b = some cs ∧ tyInfo P T = some (ag, s) ∧ (ag = true → s ≤ cs.length ∧ y = .agg (cs.take s)) ∧ (ag = false → ∃ c, cs[0]? = some c ∧ y = .c c)
def RetOk (P : Program) (rs : List ResultVar) (r : RT) (st : St) : Prop :=
  ∃ ys : List V1, F2 (resV P st) rs ys ∧ (ownIds (ys.flatMap V1.bs)).Nodup ∧ match r with
    | .v x => ∃ y, ys = [y] ∧ Out1 st y x
    | .tup xs => ys.length ≠ 1 ∧ F2 (Out1 st) ys xs
section
variable {P : Program} {w0 w : World} {n : Nat} {R : Nat → Prop} {ι : Nat → Value} {st : St} {a : Act}
def noneR (_ : Nat) : Prop := False
theorem pure_RD : ∀ {vs : List Value} {ds : List D}, F2 (RD w R) vs ds → (∀ d ∈ ds, pureD d = true) → F2 (RD w noneR) vs ds
  | _, _, .nil, _ => .nil
  | _, _, .cons (b := d) h1 h2, h => by
    refine .cons ?_ (pure_RD h2 fun d hd => h d (by simp [hd]))
    have := h d (by simp)
    cases d <;> simp [pureD] at this
    cases h1 with
    | pv q1 q2 => exact .pv q1 q2
theorem OutC_ok {v : Value} {b : B} {x : RC} (hs : Sat w0 n R ι st a w) (hv : RB w R ι st.dom v b) (h : OutC st b x) : ∃ os, RCs w0.heap.size w noneR [v] [x] os ∧ ∀ g ∈ os, ∃ o, b = .own o ∧ blk (ι o) = some g ∧ ∃ y, st.objs o = some y := by
  unfold OutC at h
  split at h
  · rename_i o e k xs
    obtain ⟨hob, hp⟩ := h
    obtain ⟨q1, vs, q2, q3, q4⟩ := hs.objs o _ hob
    obtain ⟨_, rfl⟩ := hv
    refine ⟨_, .nw ⟨q1, vs, q2, pure_RD q3 fun d hd => ?_, fun _ _ h => h⟩ .nil, fun g hg => ⟨o, rfl, ownBlock_blk (by simpa using hg), _, hob⟩⟩
    obtain ⟨es, he, hde⟩ := List.mem_flatten.1 hd
    exact hp es he d hde
  · rename_i v' u
    have hv : RD w R v (.pv v') := hv
    cases h
    cases hv with
    | pv q1 q2 => exact ⟨_, .fz (.pv q1 q2) .nil, fun g hg => by simp at hg⟩
  · rename_i v' e k xs
    obtain ⟨rfl, rfl⟩ := h
    have hv : RD w R v (.pv (.slice none 0 0)) := hv
    cases hv with
    | pv q1 q2 => exact ⟨_, .nw ⟨by simp, [], World.ownsRow_nil w _ _ _, .nil, fun _ _ h => h⟩ .nil, fun g hg => by simp [Value.ownBlock] at hg⟩
  · exact h.elim
theorem RCs.append1 {N0 : Nat} {v : Value} {x : RC} {os : List Nat} (h : RCs N0 w R [v] [x] os) : ∀ {vs : List Value} {xs : List RC} {os' : List Nat}, RCs N0 w R vs xs os' → RCs N0 w R (v :: vs) (x :: xs) (os ++ os') := fun {vs xs os'} h2 => by
  cases h with
  | fz h1 h3 => cases h3; exact .fz h1 h2
  | nw h1 h3 => cases h3; rw [List.append_nil]; exact .nw h1 h2
theorem RCs.nodup1 {N0 : Nat} {v : Value} {x : RC} {os : List Nat} (h : RCs N0 w R [v] [x] os) : os.Nodup := by
  cases h with
  | fz _ h => cases h; exact .nil
  | nw _ h => cases h; cases v.ownBlock <;> simp
theorem mem_ownIds {o : Nat} : ∀ {bs : List B}, B.own o ∈ bs → o ∈ ownIds bs
  | [], h => by simp at h
  | b :: bs, h => by
    rcases List.mem_cons.1 h with rfl | h'
    · simp [ownIds]
    · have := mem_ownIds h'
      clear h h'
      cases b <;> simp [ownIds, this]
theorem ownIds_append : ∀ (bs cs : List B), ownIds (bs ++ cs) = ownIds bs ++ ownIds cs
  | [], cs => rfl
  | b :: bs, cs => by cases b <;> simp [ownIds, ownIds_append bs cs]
/-- The blocks of what is handed back: those of its objects. -/
def BlksOf (ι : Nat → Value) (st : St) (bs : List B) (os : List Nat) : Prop := ∀ g ∈ os, ∃ o, B.own o ∈ bs ∧ blk (ι o) = some g ∧ ∃ y, st.objs o = some y
theorem nodup_join {bs cs : List B} {os os' : List Nat} (hs : Sat w0 n R ι st a w) (h1 : BlksOf ι st bs os) (h2 : BlksOf ι st cs os') (hn1 : os.Nodup) (hn2 : os'.Nodup) (hd : (ownIds (bs ++ cs)).Nodup) : (os ++ os').Nodup := by
  rw [List.nodup_append]
  refine ⟨hn1, hn2, fun g hg g' hg' e => ?_⟩
  subst e
  obtain ⟨o, ho, hb, y, hy⟩ := h1 g hg
  obtain ⟨p, hp, hb', z, hz⟩ := h2 g hg'
  have := hs.apart o p y z g hy hz hb hb'
  subst this
  rw [ownIds_append, List.nodup_append] at hd
  exact hd.2.2 o (mem_ownIds ho) o (mem_ownIds hp) rfl
theorem OutCs_ok (hs : Sat w0 n R ι st a w) : ∀ {vs : List Value} {bs : List B} {xs : List RC}, F2 (RB w R ι st.dom) vs bs → F2 (OutC st) bs xs → (ownIds bs).Nodup → ∃ os, RCs w0.heap.size w noneR vs xs os ∧ os.Nodup ∧ BlksOf ι st bs os
  | _, _, _, .nil, .nil, _ => ⟨[], .nil, .nil, fun g hg => by simp at hg⟩
  | _, _, _, .cons (b := b) (bs := bs) h1 h2, .cons h3 h4, hn => by
    have hn' : (ownIds bs).Nodup := by
      have : ownIds (b :: bs) = ownIds [b] ++ ownIds bs := ownIds_append [b] bs
      rw [this, List.nodup_append] at hn
      exact hn.2.1
    obtain ⟨os', h5, h6, h7⟩ := OutCs_ok hs h2 h4 hn'
    obtain ⟨os, h8, h9⟩ := OutC_ok hs h1 h3
    have hb1 : BlksOf ι st [b] os := fun g hg => by
      obtain ⟨o, rfl, q1, q2⟩ := h9 g hg
      exact ⟨o, by simp, q1, q2⟩
    have hos : os.Nodup := h8.nodup1
    refine ⟨os ++ os', h8.append1 h5, nodup_join hs hb1 h7 hos h6 hn, fun g hg => ?_⟩
    rcases List.mem_append.1 hg with h | h
    · obtain ⟨o, q1, q2⟩ := hb1 g h
      exact ⟨o, by simp at q1; simp [q1], q2⟩
    · obtain ⟨o, q1, q2⟩ := h7 g h
      exact ⟨o, by simp [q1], q2⟩
theorem Out1_ok {v : Value} {y : V1} {x : R1} (hs : Sat w0 n R ι st a w) (hv : RV1 w R ι st.dom v y) (h : Out1 st y x) (hn : (ownIds y.bs).Nodup) : ∃ os, RR1 w0.heap.size w noneR v x os ∧ os.Nodup ∧ BlksOf ι st y.bs os := by
  unfold Out1 at h
  split at h
  · exact OutCs_ok hs (.cons hv .nil) (.cons h .nil) hn
  · obtain ⟨vs, e, hF⟩ := hv
    obtain ⟨os, h1, h2, h3⟩ := OutCs_ok hs hF h hn
    exact ⟨os, ⟨vs, e, h1⟩, h2, h3⟩
  · exact h.elim
theorem Outs_ok (hs : Sat w0 n R ι st a w) : ∀ {vs : List Value} {ys : List V1} {xs : List R1}, F2 (RV1 w R ι st.dom) vs ys → F2 (Out1 st) ys xs → (ownIds (ys.flatMap V1.bs)).Nodup → ∃ os, RRs w0.heap.size w noneR vs xs os ∧ os.Nodup ∧ BlksOf ι st (ys.flatMap V1.bs) os
  | _, _, _, .nil, .nil, _ => ⟨[], .nil, .nil, fun g hg => by simp at hg⟩
  | _, _, _, .cons (b := y) (bs := ys) h1 h2, .cons h3 h4, hn => by
    rw [List.flatMap_cons] at hn ⊢
    have hn2 := hn
    rw [ownIds_append, List.nodup_append] at hn2
    obtain ⟨os', h5, h6, h7⟩ := Outs_ok hs h2 h4 hn2.2.1
    obtain ⟨os, h8, h9, h10⟩ := Out1_ok hs h1 h3 hn2.1
    refine ⟨os ++ os', .cons h8 h5, nodup_join hs h10 h7 h9 h6 hn, fun g hg => ?_⟩
    rcases List.mem_append.1 hg with h | h
    · obtain ⟨o, q1, q2⟩ := h10 g h
      exact ⟨o, List.mem_append_left _ q1, q2⟩
    · obtain ⟨o, q1, q2⟩ := h7 g h
      exact ⟨o, List.mem_append_right _ q1, q2⟩
theorem run_resV {r : ResultVar} {y : V1} (hs : Sat w0 n R ι st a w) (h : resV P st r y) : ∃ v, ((match r with | .tmp t => pure (a.tmps.getD t undef) | .cell t T => do loadVar T (← asAddr (a.tmps.getD t undef))) : Sem Value).run P w = .ok v w ∧ RV1 w R ι st.dom v y := by
  cases r with
  | tmp t =>
    have := hs.env t
    rw [show st.env t = .v y from h] at this
    exact ⟨_, rfl, this⟩
  | cell t T =>
    obtain ⟨b, cs, ag, s, he, hc, hT, h1, h2⟩ := h
    have hv := hs.env t
    rw [he] at hv
    obtain ⟨g, off, us, e1, e2, e3⟩ := cellsAt_ok hs.objs hv hc
    have hl := run_loadAt (P := P) hT e3
    have hrun : ∀ u, (Instr.loadAt T (.pointer (some ⟨g, off, none⟩))).run P w = .ok u w → ((do loadVar T (← asAddr (a.tmps.getD t undef))) : Sem Value).run P w = .ok u w := fun u hu => by
      rw [e1]
      simpa [Instr.loadAt, Instr.sureAddr, asAddr] using hu
    cases ag with
    | true =>
      obtain ⟨hs', rfl⟩ := h1 rfl
      exact ⟨_, hrun _ (hl.1 rfl (by rw [e2.len]; exact hs')), us.take s, rfl, e2.take s⟩
    | false =>
      obtain ⟨c, hc0, rfl⟩ := h2 rfl
      obtain ⟨u, hu, hr⟩ := e2.get hc0
      exact ⟨u, hrun _ (hl.2 rfl u hu), hr⟩
theorem run_resVs (hs : Sat w0 n R ι st a w) : ∀ {rs : List ResultVar} {ys : List V1}, F2 (resV P st) rs ys → ∃ vs, (rs.mapM fun r => ((match r with | .tmp t => pure (a.tmps.getD t undef) | .cell t T => do loadVar T (← asAddr (a.tmps.getD t undef))) : Sem Value)).run P w = .ok vs w ∧ F2 (RV1 w R ι st.dom) vs ys
  | _, _, .nil => ⟨[], rfl, .nil⟩
  | _, _, .cons (a := r) h1 h2 => by
    obtain ⟨v, e1, h3⟩ := run_resV hs h1
    obtain ⟨vs, e2, h4⟩ := run_resVs hs h2
    refine ⟨v :: vs, ?_, .cons h3 h4⟩
    rw [List.mapM_cons]
    simp only [Sem.run_bind, e1, Result.andThen_ok, e2, Sem.run_pure]
theorem run_results {fn : Func} {r : RT} (hs : Sat w0 n R ι st a w) (h : RetOk P fn.results.toList r st) : ∃ v, (results fn a.tmps).run P w = .ok v w ∧ RRT w0.heap.size w noneR v r := by
  obtain ⟨ys, h1, hn, h2⟩ := h
  obtain ⟨vs, e1, hF⟩ := run_resVs (P := P) hs h1
  have hm : (fn.results.mapM fun r => ((match r with | .tmp t => pure (a.tmps.getD t undef) | .cell t T => do loadVar T (← asAddr (a.tmps.getD t undef))) : Sem Value)).run P w = .ok vs.toArray w := by
    rw [Array.mapM_eq_mapM_toList]
    show Sem.run P (fn.results.toList.mapM _ >>= fun l => pure l.toArray) w = _
    rw [Sem.run_bind, e1]
    rfl
  have hr : (results fn a.tmps).run P w = .ok (if h : vs.toArray.size = 1 then vs.toArray[0] else .tuple vs.toArray) w := by
    unfold results
    rw [Sem.run_bind]
    refine (congrArg (fun x => Result.andThen x _) hm).trans ?_
    rfl
  cases r with
  | v x =>
    obtain ⟨y, rfl, ho⟩ := h2
    cases hF with
    | cons hv hF' =>
      cases hF'
      rename_i v
      obtain ⟨os, q1, q2, _⟩ := Out1_ok hs hv ho (by simpa using hn)
      exact ⟨v, by rw [hr]; simp, os, q2, q1⟩
  | tup xs =>
    obtain ⟨hl, ho⟩ := h2
    obtain ⟨os, q1, q2, _⟩ := Outs_ok hs hF ho hn
    refine ⟨.tuple vs.toArray, ?_, os, q2, vs, rfl, q1⟩
    rw [hr, dif_neg (by have := hF.len; simp; omega)]
theorem callFunc_enter {f : FuncId} {fn : Func} (hf : P.funcs[f]? = some fn) (hb : fn.body.isNone = false) (hname : (fn.name == "runtime.NumGoroutine") = false) (vs : Array Value) (w : World) : (callFunc f vs).run P w = .ok (.enter f vs) w := by
  unfold callFunc
  simp only [Sem.run_bind, run_program, Result.andThen_ok, hf, hname, hb, Bool.false_eq_true, if_false, Sem.run_pure]
/-- THE FUNCTION. -/
theorem Spec.of_vc (hm : P.follows .mixedOrders = true) {f : FuncId} {fn : Func} {c : Code} {args : List VD} {r : RT} (hf : P.funcs[f]? = some fn) (hb : fn.body = some c) (hname : (fn.name == "runtime.NumGoroutine") = false) (ha : args.length ≤ fn.ntmps)
    (h : (∀ x ∈ args, ∀ d ∈ x.ds, Known d) → VC P fn.ntmps c (fun e st => (e = .normal ∨ e = .ret) ∧ RetOk P fn.results.toList r st) (st0 args)) : Spec P f args r := by
  refine ⟨callFunc_enter hf (by rw [hb]; rfl) hname, fun w R vs hR hF => ?_⟩
  have hlen := hF.len
  have hknown : ∀ x ∈ args, ∀ d ∈ x.ds, Known d := fun x hx d hd => by
    obtain ⟨i, hi⟩ := List.getElem?_of_mem hx
    obtain ⟨v, _, hv⟩ := hF.get hi
    cases x with
    | c y => simp [VD.ds] at hd; subst hd; exact ⟨w, R, v, hv⟩
    | agg ys =>
      obtain ⟨us, _, h2⟩ := hv
      obtain ⟨j, hj⟩ := List.getElem?_of_mem hd
      obtain ⟨u, _, hu⟩ := h2.get hj
      exact ⟨w, R, u, hu⟩
  refine calls_of_wp hf hb (Code.wp_mono (fun e a' w' hp => ?_) (VC_sound (w0 := w) (ι := fun _ => undef) (R := R) hm c (h hknown) ?_))
  · obtain ⟨st, R', ι', ⟨he, hret⟩, hs⟩ := hp.mk
    obtain ⟨v, h1, h2⟩ := run_results hs hret
    have hR' : ∃ v, Ending.returned v = .returned v ∧ True := ⟨v, rfl, trivial⟩
    have goal : a'.defers = [] ∧ ∃ v, (results fn a'.tmps).run P w' = .ok v w' ∧ ∃ u, Ending.returned v = .returned u ∧ Below w.heap.size w w' ∧ ∃ R' : Nat → Prop, (∀ b, R' b → w.heap.size ≤ b ∧ b < w'.heap.size) ∧ RRT w.heap.size w' R' u r :=
      ⟨hs.defers, v, h1, v, rfl, hs.below, noneR, fun _ h => h.elim, h2⟩
    rcases he with rfl | rfl
    · exact goal
    · exact goal
  · refine ⟨Below.refl _ _, hR, by simp; omega, rfl, fun d => ?_, fun o x h => by simp [st0] at h, fun o p x y g h => by simp [st0] at h⟩
    have hget : (vs.toArray ++ Array.replicate (fn.ntmps - vs.toArray.size) undef).getD d undef = vs.getD d undef := by
      rw [Array.getD_eq_getD_getElem?, Array.getElem?_append]
      by_cases hd : d < vs.length
      · simp [hd, List.getD]
      · simp [hd, List.getD, Array.getElem?_replicate]
        split <;> rfl
    show RA w R _ _ ((vs.toArray ++ Array.replicate (fn.ntmps - vs.toArray.size) undef).getD d undef) (argsEnv args d)
    rw [hget]
    unfold argsEnv
    split
    · rename_i x hx
      obtain ⟨v, hv, hr⟩ := hF.get hx
      rw [show vs.getD d undef = v by simp [List.getD, hv]]
      cases x with
      | c y => exact hr
      | agg ys =>
        obtain ⟨us, e, h2⟩ := hr
        exact ⟨us, e, F2.map_right (f := B.d) (r' := RB w R (fun _ => undef) (st0 args).dom) (fun _ _ h => h) h2⟩
    · rename_i hx
      have : args.length ≤ d := by
        rcases Nat.lt_or_ge d args.length with h | h
        · rw [List.getElem?_eq_getElem h] at hx; cases hx
        · exact h
      rw [show vs.getD d undef = undef by simp [List.getD, List.getElem?_eq_none (show vs.length ≤ d by omega)]]
      exact RA.undef
end
end Go.Proofs.Ythgdccokpgaicaa
