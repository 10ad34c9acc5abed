/- The operations that make or write memory: why the words are true (4): all of them. No program is named here. -/
import Derived.Test.YthgdccokpgaicaaSx9
namespace Go.Proofs.Ythgdccokpgaicaa
open Go.RowKit
section
variable {N0 : Nat} {w : World} {R : Nat → Prop}
/-- The cells, where what is new is the object p. -/
def AbOk (w : World) (R : Nat → Prop) (p : Nat) (v0 : Value) (vs : List Value) (bs : List B) : Prop :=
  ∀ (R' : Nat → Prop) (ι : Nat → Value) (dom : Nat → Prop), (∀ b, R b → R' b) → ι p = v0 → dom p → F2 (RB w R' ι dom) vs bs
theorem RCs.ab0 {p : Nat} {v0 : Value} : ∀ {vs : List Value} {xs : List RC} {os : List Nat}, RCs N0 w R vs xs os → xs.flatMap RC.nws = [] → AbOk w R p v0 vs (xs.map (RC.ab p))
  | _, _, _, .nil, _ => fun _ _ _ _ _ _ => .nil
  | _, _, _, .fz h1 h2, h => fun R' ι dom hs hi hd => .cons (RD.keep hs (fun _ _ => rfl) h1) (h2.ab0 (v0 := v0) (by simpa [RC.nws] using h) R' ι dom hs hi hd)
  | _, _, _, .nw _ _, h => by simp [RC.nws] at h
theorem RCs.ab1 {p e k : Nat} {ys : List (List D)} : ∀ {vs : List Value} {xs : List RC} {os : List Nat}, RCs N0 w R vs xs os → xs.flatMap RC.nws = [(e, k, ys)] → ∃ v0, RArr N0 w R v0 e k ys ∧ AbOk w R p v0 vs (xs.map (RC.ab p))
  | _, _, _, .nil, h => by simp at h
  | _, _, _, .fz h1 h2, h => by
    obtain ⟨v0, h3, h4⟩ := h2.ab1 (p := p) (e := e) (k := k) (ys := ys) (by simpa [RC.nws] using h)
    exact ⟨v0, h3, fun R' ι dom hs hi hd => .cons (RD.keep hs (fun _ _ => rfl) h1) (h4 R' ι dom hs hi hd)⟩
  | _, _, _, .nw (v := v) h1 h2, h => by
    simp only [List.flatMap_cons, RC.nws, List.singleton_append, List.cons.injEq, Prod.mk.injEq] at h
    obtain ⟨⟨rfl, rfl, rfl⟩, h5⟩ := h
    exact ⟨v, h1, fun R' ι dom hs hi hd => .cons ⟨hd, hi.symm⟩ (h2.ab0 h5 R' ι dom hs hi hd)⟩
def AbOk1 (w : World) (R : Nat → Prop) (p : Nat) (v0 : Value) (v : Value) (x : V1) : Prop :=
  ∀ (R' : Nat → Prop) (ι : Nat → Value) (dom : Nat → Prop), (∀ b, R b → R' b) → ι p = v0 → dom p → RV1 w R' ι dom v x
theorem RR1.ab0 {p : Nat} {v0 v : Value} {x : R1} {os : List Nat} (h : RR1 N0 w R v x os) (hn : x.nws = []) : AbOk1 w R p v0 v (x.ab p) := fun R' ι dom hs hi hd => by
  cases x with
  | c x =>
    have := RCs.ab0 (p := p) (v0 := v0) h (by simpa [R1.nws] using hn) R' ι dom hs hi hd
    cases this with
    | cons h _ => exact h
  | agg xs =>
    obtain ⟨vs, h1, h2⟩ := h
    exact ⟨vs, h1, RCs.ab0 (p := p) (v0 := v0) h2 hn R' ι dom hs hi hd⟩
theorem RR1.ab1 {p e k : Nat} {ys : List (List D)} {v : Value} {x : R1} {os : List Nat} (h : RR1 N0 w R v x os) (hn : x.nws = [(e, k, ys)]) : ∃ v0, RArr N0 w R v0 e k ys ∧ AbOk1 w R p v0 v (x.ab p) := by
  cases x with
  | c x =>
    obtain ⟨v0, h1, h2⟩ := RCs.ab1 (p := p) h (by simpa [R1.nws] using hn)
    refine ⟨v0, h1, fun R' ι dom hs hi hd => ?_⟩
    have := h2 R' ι dom hs hi hd
    cases this with
    | cons h _ => exact h
  | agg xs =>
    obtain ⟨vs, h1, h2⟩ := h
    obtain ⟨v0, h3, h4⟩ := RCs.ab1 (p := p) h2 hn
    exact ⟨v0, h3, fun R' ι dom hs hi hd => ⟨vs, h1, h4 R' ι dom hs hi hd⟩⟩
def AbOks (w : World) (R : Nat → Prop) (p : Nat) (v0 : Value) (vs : List Value) (xs : List V1) : Prop :=
  ∀ (R' : Nat → Prop) (ι : Nat → Value) (dom : Nat → Prop), (∀ b, R b → R' b) → ι p = v0 → dom p → F2 (RV1 w R' ι dom) vs xs
theorem RRs.ab0 {p : Nat} {v0 : Value} : ∀ {vs : List Value} {xs : List R1} {os : List Nat}, RRs N0 w R vs xs os → xs.flatMap R1.nws = [] → AbOks w R p v0 vs (xs.map (R1.ab p))
  | _, _, _, .nil, _ => fun _ _ _ _ _ _ => .nil
  | _, _, _, .cons h1 h2, h => fun R' ι dom hs hi hd => by
    simp only [List.flatMap_cons, List.append_eq_nil_iff] at h
    exact .cons (h1.ab0 (v0 := v0) h.1 R' ι dom hs hi hd) (h2.ab0 (v0 := v0) h.2 R' ι dom hs hi hd)
theorem RRs.ab1 {p e k : Nat} {ys : List (List D)} : ∀ {vs : List Value} {xs : List R1} {os : List Nat}, RRs N0 w R vs xs os → xs.flatMap R1.nws = [(e, k, ys)] → ∃ v0, RArr N0 w R v0 e k ys ∧ AbOks w R p v0 vs (xs.map (R1.ab p))
  | _, _, _, .nil, h => by simp at h
  | _, _, _, .cons (x := x) h1 h2, h => by
    rw [List.flatMap_cons, List.append_eq_singleton_iff] at h
    rcases h with ⟨ha, hb⟩ | ⟨ha, hb⟩
    · obtain ⟨v0, h3, h4⟩ := h2.ab1 (p := p) hb
      exact ⟨v0, h3, fun R' ι dom hs hi hd => .cons (h1.ab0 (v0 := v0) ha R' ι dom hs hi hd) (h4 R' ι dom hs hi hd)⟩
    · obtain ⟨v0, h3, h4⟩ := h1.ab1 (p := p) ha
      exact ⟨v0, h3, fun R' ι dom hs hi hd => .cons (h4 R' ι dom hs hi hd) (h2.ab0 (v0 := v0) hb R' ι dom hs hi hd)⟩
theorem RRT.ab {p e k : Nat} {ys : List (List D)} {v : Value} {x : RT} (h : RRT N0 w R v x) (hn : x.nws = [(e, k, ys)]) : ∃ v0, RArr N0 w R v0 e k ys ∧ ∀ (R' : Nat → Prop) (ι : Nat → Value) (dom : Nat → Prop), (∀ b, R b → R' b) → ι p = v0 → dom p → RA w R' ι dom v (x.ab p) := by
  obtain ⟨os, _, h⟩ := h
  cases x with
  | v x => exact RR1.ab1 (p := p) h hn
  | tup xs =>
    obtain ⟨vs, h1, h2⟩ := h
    obtain ⟨v0, h3, h4⟩ := RRs.ab1 (p := p) h2 hn
    exact ⟨v0, h3, fun R' ι dom hs hi hd => ⟨vs, h1, h4 R' ι dom hs hi hd⟩⟩
end
section
variable {P : Program} {w0 : World} {n : Nat} {st : St} {o : Oper}
theorem run_call_op {a : Act} {w : World} {c : Call} {f : Operand} {g : FuncId} {us : List Value} (hop : o.op = .call c) (hc : c.callee = .value f) (hv : a.eval f = .func (.func g) #[] us.toArray) (henter : ∀ (vs : Array Value) (w : World), (callFunc g vs).run P w = .ok (.enter g vs) w) :
    (execOp a.eval o).run P w = .ok (.enter g (c.args.toList.map a.eval ++ us).toArray) w := by
  have : execOp a.eval o = (do let d ← resolve a.eval c o.type; invoke d.target d.args) := by unfold execOp; rw [hop]
  rw [this]
  simp only [resolve, hc, hv, Deferred.ofValue, Sem.run_bind, Sem.run_pure, Result.andThen_ok, invoke]
  rw [henter]
  congr 2
  apply Array.ext'
  simp
theorem ownsRow_mono {w : World} {B B' e s m : Nat} {v : Value} {xs : List Value} (h : w.ownsRow B e s v m xs) (hB : B' ≤ B) : w.ownsRow B' e s v m xs :=
  ⟨h.1, h.2.imp id fun ⟨g, cap, cur, h1, h2, r⟩ => ⟨g, cap, cur, h1, Nat.le_trans hB h2, r⟩⟩
theorem sound_call_ab {c : Call} {f : Operand} {g : FuncId} {caps : List D} {ds : List VD} {r : RT} {te k d : Nat} {xs : List (List D)} (hop : o.op = .call c) (hc : c.callee = .value f) (hf : ev st.env f = .v (.c (.d (.fn g caps)))) (ha : vArgs st c.args.toList = some ds) (hs : Spec P g (ds ++ caps.map .c) r)
    (hn : r.nws = [(te, k, xs)]) (hd : st.objs d = none) : OpW P w0 n st o (r.ab d) ⟨st.env, upd st.objs d (some (.arr te k xs))⟩ := fun a w R ι hsat K Q hK => by
  have h1 := ev_ok (a := a) hsat.env f
  rw [hf] at h1
  have h1 : RD w R (a.eval f) (.fn g caps) := h1
  generalize hv : a.eval f = v at h1
  cases h1 with
  | fn hlen hr =>
    rename_i us
    have hF : F2 (RVD w (Seen R ι st.objs)) us (caps.map .c) := F2.of_get (by simpa using hlen) fun i u d hu hd => by
      rw [List.getElem?_map] at hd
      cases hcd : caps[i]? with
      | none => simp [hcd] at hd
      | some x =>
        simp only [hcd, Option.map_some, Option.some.injEq] at hd
        subst hd
        exact RD.keep (fun b h => .inl h) (fun _ _ => rfl) (hr i u x hu hcd)
    have hA := (vArgs_ok (a := a) hsat.objs (fun y _ => ev_ok hsat.env y) ha).append hF
    have hseen : ∀ b, Seen R ι st.objs b → b < w.heap.size := by
      rintro b (h | ⟨p, x, hp, hb⟩)
      · exact hsat.rlt b h
      · exact (RO.blk_lt hb (hsat.objs p x hp)).2.1
    obtain ⟨henter, hcall⟩ := hs
    unfold Oper.wp
    rw [run_call_op hop hc hv henter, Oper.upon_enter]
    refine (hcall w _ _ hseen hA).mono fun e w' => ?_
    rintro ⟨u, rfl, hb, R', hR', hres⟩
    obtain ⟨v0, harr, hab⟩ := RRT.ab (p := d) hres hn
    have hsat' := hsat.world (R' := fun b => R b ∨ R' b) hb (fun b h => .inl h) (by
      rintro b (h | h)
      · exact Nat.lt_of_lt_of_le (hsat.rlt b h) hb.size
      · exact (hR' b h).2) (by
      rintro b (h | h) hlt
      · exact h
      · have := (hR' b h).1; omega)
    have hbl : ∀ g, v0.ownBlock = some g → w.heap.size ≤ g := fun g hg => by
      obtain ⟨_, vs, ho, _⟩ := harr
      exact (ho.lt g hg).1
    refine hK u w' (fun b => R b ∨ R' b) (upd ι d v0) ?_ (hab _ _ _ (fun b h => .inr h) (upd_same _ _ _) ⟨_, upd_same _ _ _⟩)
    -- the new object
    have hne : ∀ p, st.dom p → p ≠ d := fun p ⟨y, hy⟩ e => by subst e; rw [hd] at hy; cases hy
    have hdm : ∀ p, st.dom p → (⟨st.env, upd st.objs d (some (.arr te k xs))⟩ : St).dom p := fun p ⟨y, hy⟩ => ⟨y, by simp only [upd_ne _ _ (hne p ⟨y, hy⟩)]; exact hy⟩
    have hι : ∀ p, st.dom p → upd ι d v0 p = ι p := fun p hp => upd_ne _ _ (hne p hp)
    have hro : RArr w0.heap.size w' (fun b => R b ∨ R' b) v0 te k xs := by
      obtain ⟨q1, vs, q2, q3, q4⟩ := harr
      refine ⟨q1, vs, ownsRow_mono q2 hsat.below.size, q3.mono fun _ _ h => RD.keep (fun b h => .inr h) (fun _ _ => rfl) h, fun g hg => ?_⟩
      rintro (h | h)
      · have := hsat.rlt g h
        have := hbl g hg
        omega
      · exact q4 g hg h
    refine ⟨hsat'.below, hsat'.rlt, hsat'.size, hsat'.defers, fun e => RA.keep (fun _ h => h) (fun _ _ => rfl) hdm hι (hsat'.env e), fun p y hy => ?_, fun p q y z g hy hz g1 g2 => ?_⟩
    · by_cases hp : p = d
      · subst hp
        simp only [upd_same, Option.some.injEq] at hy ⊢
        subst hy
        exact hro
      · simp only [upd_ne _ _ hp] at hy ⊢
        exact RO.keep (fun _ h => h) (fun _ _ => rfl) hdm hι (fun g hg => ⟨rfl, (RO.blk_lt hg (hsat'.objs p y hy)).2.2⟩) (hsat'.objs p y hy)
    · by_cases hp : p = d
      · by_cases hq : q = d
        · rw [hp, hq]
        · subst hp
          simp only [upd_same, upd_ne _ _ hq] at hz g1 g2
          have := (RO.blk_lt g2 (hsat.objs q z hz)).2.1
          have := hbl g (blk_own harr g1)
          omega
      · by_cases hq : q = d
        · subst hq
          simp only [upd_same, upd_ne _ _ hp] at hy g1 g2
          have := (RO.blk_lt g1 (hsat.objs p y hy)).2.1
          have := hbl g (blk_own harr g2)
          omega
        · simp only [upd_ne _ _ hp, upd_ne _ _ hq] at hy hz g1 g2
          exact hsat.apart p q y z g hy hz g1 g2
theorem VCW_sound {K : AV → St → Prop} (h : VCW P st o K) : ∃ x st', OpW P w0 n st o x st' ∧ K x st' := by
  have rd : VCR P st o.op (fun x => K x st) → ∃ x st', OpW P w0 n st o x st' ∧ K x st' := fun h => by
    obtain ⟨x, h1, h2⟩ := VCR_sound (N0 := w0.heap.size) h
    exact ⟨x, st, OpW.of_read h1, h2⟩
  unfold VCW at h
  split at h
  · rename_i T hop
    obtain ⟨d, zs, hd, hn, hz, hk⟩ := h
    exact ⟨_, _, sound_alloc hop hn hz, hk⟩
  · rename_i T x hop
    obtain ⟨d, v1, cs, hd, hn, hx, hc, hk⟩ := h
    exact ⟨_, _, sound_box hop hn hx hc, hk⟩
  · rename_i T x y hop
    obtain ⟨b, v1, cs, ag, hx, hy, hc, hl, hT, h | h⟩ := h
    · obtain ⟨p, off, T', old, rfl, hob, hle, hk⟩ := h
      exact ⟨_, _, sound_store_ptr hop hx hy hc hl hT hob hle, hk⟩
    · obtain ⟨p, k, i, off, e, xs, es, ds, rfl, hob, hes, hle, hds, hk⟩ := h
      exact ⟨_, _, sound_store_ep hop hx hy hc hl hT hob hes hle hds, hk⟩
  · rename_i T parts hop
    obtain ⟨zs, pl, ps, bs, hz, hpl, hps, hf, hk⟩ := h
    exact ⟨_, _, sound_build hop hz hpl hps hf, hk⟩
  · rename_i T len parts hop
    obtain ⟨d, e, s, by', zs, ps, bs, ds, hd, hn, hT, h1, h2, hps, hf, hds, hk⟩ := h
    exact ⟨_, _, sound_buildSlice hop hn hT h1 h2 hps hf hds, hk⟩
  · rename_i T l c hop
    obtain ⟨d, m, e, s, by', zs, hd, hn, hl, hc, h0, hm, hT, hby, hk⟩ := h
    exact ⟨_, _, sound_makeSlice hop hn hl hc h0 hm hT hby, hk⟩
  · rename_i c hop
    split at h
    · rename_i hc
      obtain ⟨d, x, y, T, b, b', e, s, by', zs, ys, hd, ha, ht, hx, hy, hT, hel, h | h⟩ := h
      · obtain ⟨p, xs, rfl, hob, hm, hb, hk⟩ := h
        exact ⟨_, _, sound_append_own hop hc ha ht hx hy hT hel hob hm hb, hk⟩
      · obtain ⟨rfl, hn, hb, hk⟩ := h
        exact ⟨_, _, sound_append_nil hop hc ha ht hx hy hT hel hn hb, hk⟩
    · rename_i f hc
      obtain ⟨g, caps, ds, r, hf, ha, hs, hk⟩ := h
      split at hk
      · rename_i e k xs d hn hd
        exact ⟨_, _, sound_call_ab hop hc hf ha hs hn hk.1, hk.2⟩
      · exact ⟨_, _, OpW.of_read (sound_call hop hc hf ha hs), hk⟩
    · exact rd h
  · exact rd h
end
end Go.Proofs.Ythgdccokpgaicaa
