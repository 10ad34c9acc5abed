/- The operations that make or write memory: why the words are true. No program is named here. -/
import Derived.Test.YthgdccokpgaicaaSx6
import Derived.Great.BuildSlice
namespace Go.Proofs.Ythgdccokpgaicaa
open Go.RowKit
section
variable {P : Program} {w0 : World} {n : Nat} {st : St} {o : Oper}
theorem F2.splice {α β : Type} {r : α → β → Prop} {as cs : List α} {bs ds : List β} (off : Nat) (h : F2 r as bs) (h' : F2 r cs ds) : F2 r (splice as off cs) (splice bs off ds) := by
  unfold Go.Proofs.Ythgdccokpgaicaa.splice
  rw [h'.len]
  exact ((h.take off).append h').append (h.drop _)
theorem dsOf_ok {w : World} {R : Nat → Prop} {ι : Nat → Value} {dom : Nat → Prop} : ∀ {vs : List Value} {bs : List B} {ds : List D}, F2 (RB w R ι dom) vs bs → dsOf bs = some ds → F2 (RD w R) vs ds
  | _, _, _, .nil, h => by simp [dsOf] at h; subst h; exact .nil
  | _, _, _, .cons (b := b) (bs := bs) h1 h2, h => by
    cases b with
    | d x =>
      simp only [dsOf] at h
      cases hd : dsOf bs with
      | none => simp [hd] at h
      | some ds' =>
        simp only [hd, Option.map_some, Option.some.injEq] at h
        subst h
        exact .cons h1 (dsOf_ok h2 hd)
    | _ => simp [dsOf] at h
theorem run_storeAt {w : World} {T : TypeId} {g off : Nat} {v : Value} {ag : Bool} {T' : TypeId} {cur : List Value} (hT : tyInfo P T = some (ag, v.cells.toList.length)) (hg : w.heap[g]? = some (.cells cur.toArray T' (0, 0))) (hl : off + v.cells.toList.length ≤ cur.length) (h1 : ∀ u ∈ v.cells.toList, u.oneCell' = true) :
    (Instr.storeAt T (.pointer (some ⟨g, off, none⟩)) v).run P w = .ok () (w.setRow g (splice cur off v.cells.toList).toArray) := by
  obtain ⟨_, hs⟩ := run_tyInfo (w := w) hT
  have hst := run_storeCells_at P g off T' v.cells.toList 0 cur.toArray w hg (by simpa using hl) h1
  simp only [Nat.add_zero] at hst
  have hsz : v.cells.size = v.cells.toList.length := by simp
  simp only [Instr.storeAt, Instr.sureAddr, storeVar, Sem.run_bind, Sem.run_pure, Result.andThen_ok, hs]
  rw [if_neg (by simp)]
  exact hst
theorem setRow_size (w : World) (g : Nat) (cs : Array Value) : (w.setRow g cs).heap.size = w.heap.size := by simp [World.setRow]
theorem Below.setRow {B : Nat} {a w : World} (h : Below B a w) {g : Nat} (hg : B ≤ g) (cs : Array Value) : Below B a (w.setRow g cs) :=
  h.trans ⟨rfl, rfl, rfl, Nat.le_of_eq (setRow_size w g cs).symm, fun k hk => setRow_other w g k cs (by omega)⟩
theorem live_one {N0 : Nat} {w : World} {R : Nat → Prop} {ι : Nat → Value} {st : St} (ho : ∀ p y, st.objs p = some y → RO N0 w R ι st.dom (ι p) y) : ∀ {vs : List Value} {bs : List B}, F2 (RB w R ι st.dom) vs bs → bs.all B.live = true → ∀ u ∈ vs, u.oneCell' = true
  | _, _, .nil, _, u, hu => by simp at hu
  | _, _, .cons h1 h2, hl, u, hu => by
    simp only [List.all_cons, Bool.and_eq_true] at hl
    rcases List.mem_cons.1 hu with rfl | hu
    · exact RB.one (env := st.env) (objs := st.objs) ho h1 hl.1
    · exact live_one ho h2 hl.2 u hu
theorem run_store_op {a : Act} {w : World} {T : TypeId} {x y : Operand} (hop : o.op = .store T x y) {w' : World} (h : (Instr.storeAt T (a.eval x) (a.eval y)).run P w = .ok () w') : (execOp a.eval o).run P w = .ok .skip w' := by
  unfold execOp
  rw [hop]
  simp only [Sem.run_bind, h, Result.andThen_ok, Sem.run_pure]
theorem sound_store_ptr {T : TypeId} {x y : Operand} {v1 : V1} {cs old : List B} {ag : Bool} {p off : Nat} {T' : TypeId} (hop : o.op = .store T x y) (hx : ev st.env x = .v (.c (.ptr p off))) (hy : ev st.env y = .v v1) (hc : cellsV v1 = some cs) (hl : cs.all B.live = true) (hT : tyInfo P T = some (ag, cs.length))
    (hob : st.objs p = some (.box T' old)) (hle : off + cs.length ≤ old.length) : OpW P w0 n st o deadA ⟨st.env, upd st.objs p (some (.box T' (splice old off cs)))⟩ := fun a w R ι hs K Q hK => by
  have hvx := ev_ok (a := a) hs.env x
  have hvy := ev_ok (a := a) hs.env y
  rw [hx] at hvx; rw [hy] at hvy
  have hF := cellsV_ok hs.objs hvy hc
  have hlen := hF.len
  obtain ⟨_, g, hι, hva⟩ := hvx
  obtain ⟨g', vs, hι', hN, hR, hh, hvs⟩ := hs.objs _ _ hob
  rw [hι] at hι'
  obtain rfl : g = g' := by simpa using hι'
  have hrun := run_store_op (P := P) (o := o) hop (a := a) (w := w) (by rw [hva]; exact run_storeAt (v := a.eval y) (cur := vs) (by rw [hlen]; exact hT) hh (by rw [hlen, hvs.len]; exact hle) (live_one hs.objs hF hl))
  unfold Oper.wp
  rw [hrun, Oper.upon_skip]
  have hRb : ∀ b, R b → (w.setRow g (splice vs off (a.eval y).cells.toList).toArray).heap[b]? = w.heap[b]? := fun b hb => setRow_other w g b _ (fun e => hR (e ▸ hb))
  refine hK _ _ R ι (hs.write hob (Below.setRow hs.below hN _) (by rw [setRow_size]; exact Nat.le_refl _) (fun b _ hne => setRow_other w g b _ (fun e => hne (by rw [hι, e]; rfl))) ?_) trivial
  refine ⟨g, _, hι, hN, hR, setRow_heap w g _ _ T' (0, 0) hh, F2.splice off ?_ ?_⟩
  · exact hvs.mono fun _ _ h => RB.keep (fun _ h => h) hRb (fun _ h => h) (fun _ _ => rfl) h
  · exact hF.mono fun _ _ h => RB.keep (fun _ h => h) hRb (fun _ h => h) (fun _ _ => rfl) h
theorem flatten_set {α : Type} {k : Nat} : ∀ {xs : List (List α)} {i : Nat} {es : List α}, (∀ y ∈ xs, y.length = k) → i < xs.length → es.length = k → (xs.set i es).flatten = splice xs.flatten (i * k) es
  | [], _, _, _, h, _ => by simp at h
  | x :: xs, 0, es, hk, _, he => by
    have := hk x (by simp)
    simp [splice, he, this]
  | x :: xs, i + 1, es, hk, hi, he => by
    have h1 := hk x (by simp)
    have ih := flatten_set (xs := xs) (i := i) (es := es) (fun y hy => hk y (by simp [hy])) (by simpa using hi) he
    have e1 : (i + 1) * k = x.length + i * k := by rw [h1, Nat.succ_mul]; omega
    simp only [List.set_cons_succ, List.flatten_cons, ih, splice, e1]
    rw [List.take_length_add_append, Nat.add_assoc, List.drop_length_add_append]
    simp [List.append_assoc]
theorem splice_get {α : Type} {l cs : List α} {off : Nat} (h : off + cs.length ≤ l.length) (j : Nat) : (splice l off cs)[j]? = if j < off then l[j]? else if j < off + cs.length then cs[j - off]? else l[j]? := by
  unfold splice
  have e : (l.take off).length = off := by rw [List.length_take]; omega
  by_cases h1 : j < off
  · rw [if_pos h1, List.append_assoc, List.getElem?_append_left (by rw [e]; exact h1), List.getElem?_take_of_lt h1]
  · rw [if_neg h1]
    by_cases h2 : j < off + cs.length
    · rw [if_pos h2, List.getElem?_append_left (by rw [List.length_append, e]; exact h2), List.getElem?_append_right (by rw [e]; omega), e]
    · rw [if_neg h2, List.getElem?_append_right (by rw [List.length_append, e]; omega), List.length_append, e, List.getElem?_drop]
      congr 1
      omega
theorem splice_length {α : Type} {l cs : List α} {off : Nat} (h : off + cs.length ≤ l.length) : (splice l off cs).length = l.length := by
  unfold splice
  simp only [List.length_append, List.length_take, List.length_drop]
  omega
theorem splice_splice {α : Type} (l es ds : List α) (i off k : Nat) (hes : ∀ j, j < k → l[i + j]? = es[j]?) (hk : es.length = k) (hl : i + k ≤ l.length) (ho : off + ds.length ≤ k) : splice l i (splice es off ds) = splice l (i + off) ds := by
  apply List.ext_getElem?
  intro j
  have hsl : (splice es off ds).length = k := by rw [splice_length (by omega), hk]
  rw [splice_get (by omega), splice_get (l := l) (off := i + off) (by omega), hsl]
  by_cases h1 : j < i
  · rw [if_pos h1, if_pos (by omega)]
  · rw [if_neg h1]
    by_cases h2 : j < i + k
    · rw [if_pos h2, splice_get (l := es) (cs := ds) (off := off) (by omega)]
      have := hes (j - i) (by omega)
      rw [show i + (j - i) = j by omega] at this
      by_cases h3 : j - i < off
      · rw [if_pos h3, if_pos (show j < i + off by omega), this]
      · rw [if_neg h3, if_neg (show ¬ j < i + off by omega)]
        by_cases h4 : j - i < off + ds.length
        · rw [if_pos h4, if_pos (show j < i + off + ds.length by omega), show j - i - off = j - (i + off) by omega]
        · rw [if_neg h4, if_neg (show ¬ j < i + off + ds.length by omega), this]
    · rw [if_neg h2, if_neg (by omega), if_neg (by omega)]
theorem sound_store_ep {T : TypeId} {x y : Operand} {v1 : V1} {cs : List B} {ag : Bool} {p k i off : Nat} {e : TypeId} {xs : List (List D)} {es ds : List D} (hop : o.op = .store T x y) (hx : ev st.env x = .v (.c (.ep p k i off))) (hy : ev st.env y = .v v1) (hc : cellsV v1 = some cs) (hl : cs.all B.live = true) (hT : tyInfo P T = some (ag, cs.length))
    (hob : st.objs p = some (.arr e k xs)) (hes : xs[i]? = some es) (hle : off + cs.length ≤ k) (hds : dsOf cs = some ds) : OpW P w0 n st o deadA ⟨st.env, upd st.objs p (some (.arr e k (xs.set i (splice es off ds))))⟩ := fun a w R ι hs K Q hK => by
  have hvx := ev_ok (a := a) hs.env x
  have hvy := ev_ok (a := a) hs.env y
  rw [hx] at hvx; rw [hy] at hvy
  have hF := cellsV_ok hs.objs hvy hc
  have hlen := hF.len
  have hD := dsOf_ok hF hds
  have hlen' : (a.eval y).cells.size = cs.length := by simpa using hlen
  obtain ⟨_, g, m, cap, hι, hva⟩ := hvx
  obtain ⟨hk, vs, hown, hvs, hR⟩ := hs.objs _ _ hob
  have hilt : i < xs.length := by
    rcases Nat.lt_or_ge i xs.length with h | h
    · exact h
    · rw [List.getElem?_eq_none h] at hes; cases hes
  rcases hown.2 with ⟨_, h0⟩ | ⟨g', cap', cur, hι', hN, hh, hnc, hcm, hcs, htk⟩
  · omega
  rw [hι] at hι'
  simp only [Value.slice.injEq, Option.some.injEq, Addr.mk.injEq] at hι'
  obtain ⟨⟨rfl, _⟩, rfl, rfl⟩ := hι'
  have hR' : ¬ R g := hR g (by rw [hι]; rfl)
  have hik : i * k + k ≤ xs.length * k := by rw [← Nat.succ_mul]; exact Nat.mul_le_mul_right _ hilt
  have hnk : xs.length * k ≤ cap * k := Nat.mul_le_mul_right _ hnc
  have hesk := hk es (List.mem_of_getElem? hes)
  have hrun := run_store_op (P := P) (o := o) hop (a := a) (w := w) (by
    rw [hva]
    exact run_storeAt (v := a.eval y) (cur := cur.toList) (by rw [hlen]; exact hT) (by rw [Array.toArray_toList]; exact hh) (by rw [hlen]; simp only [Array.length_toList]; omega) (live_one hs.objs hF hl))
  unfold Oper.wp
  rw [hrun, Oper.upon_skip]
  have hRb : ∀ b, R b → (w.setRow g (splice cur.toList (i * k + off) (a.eval y).cells.toList).toArray).heap[b]? = w.heap[b]? := fun b hb => setRow_other w g b _ (fun e => hR' (e ▸ hb))
  refine hK _ _ R ι (hs.write hob (Below.setRow hs.below hN _) (by rw [setRow_size]; exact Nat.le_refl _) (fun b _ hne => setRow_other w g b _ (fun e => hne (by rw [hι, e]; rfl))) ?_) trivial
  have hdl := hD.len
  have hsp : (splice es off ds).length = k := by rw [splice_length (by omega), hesk]
  have hvl : vs.length = xs.length * k := hown.1
  have hfl : xs.flatten.length = xs.length * k := by rw [← hvs.len, hvl]
  refine ⟨fun y hy => ?_, splice vs (i * k + off) (a.eval y).cells.toList, ⟨?_, .inr ⟨g, cap, _, ?_, hN, setRow_heap w g _ _ e (0, 0) hh, ?_, hcm, ?_, ?_⟩⟩, ?_, hR⟩
  · rcases List.mem_or_eq_of_mem_set hy with h | rfl
    · exact hk y h
    · exact hsp
  · rw [splice_length (by omega), hvl, List.length_set]
  · rw [hι, List.length_set]
  · rw [List.length_set]; exact hnc
  · simp only [List.size_toArray]
    rw [splice_length (by simp only [Array.length_toList]; omega), Array.length_toList, hcs]
  · rw [List.length_set]
    apply List.ext_getElem?
    intro j
    have hc1 : i * k + off + (a.eval y).cells.toList.length ≤ cur.toList.length := by simp only [Array.length_toList]; omega
    rw [List.toList_toArray, splice_get (l := vs) (by omega), List.getElem?_take]
    have hvc : ∀ j, j < xs.length * k → vs[j]? = cur.toList[j]? := fun j hj => by rw [← htk, List.getElem?_take_of_lt hj]
    by_cases hj : j < xs.length * k
    · rw [if_pos hj, splice_get hc1, hvc j hj]
    · rw [if_neg hj, if_neg (by omega), if_neg (by omega), List.getElem?_eq_none (by omega)]
  · rw [flatten_set hk hilt hsp, splice_splice _ _ _ _ _ _ (fun j hj => flatten_get hk hes hj) hesk (by omega) (by omega)]
    refine F2.splice _ (hvs.mono fun _ _ h => RD.keep (fun _ h => h) hRb h) (hD.mono fun _ _ h => RD.keep (fun _ h => h) hRb h)
end
end Go.Proofs.Ythgdccokpgaicaa
