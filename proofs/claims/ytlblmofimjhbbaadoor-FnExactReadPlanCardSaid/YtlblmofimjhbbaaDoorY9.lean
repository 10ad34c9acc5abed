/- The operations that make or write memory: why the words are true (1). No program is named here. -/
import Derived.Test.YtlblmofimjhbbaaDoorY8
namespace Go.Proofs.YtlblmofimjhbbaaDoor
open Go.RowKit
theorem splice_get {α : Type} {l cs : List α} {off : Nat} (h : off + cs.length ≤ l.length) (j : Nat) : (splice l off cs)[j]? = if j < off then l[j]? else if j < off + cs.length then cs[j - off]? else l[j]? := by
  unfold splice
  have e : (l.take off).length = off := by rw [List.length_take]; omega
  by_cases h1 : j < off
  · rw [if_pos h1, List.append_assoc, List.getElem?_append_left (by rw [e]; exact h1), List.getElem?_take_of_lt h1]
  · rw [if_neg h1]
    by_cases h2 : j < off + cs.length
    · rw [if_pos h2, List.getElem?_append_left (by rw [List.length_append, e]; exact h2), List.getElem?_append_right (by rw [e]; omega), e]
    · rw [if_neg h2, List.getElem?_append_right (by rw [List.length_append, e]; omega), List.length_append, e, List.getElem?_drop]
      congr 1
      omega
theorem splice_length {α : Type} {l cs : List α} {off : Nat} (h : off + cs.length ≤ l.length) : (splice l off cs).length = l.length := by
  unfold splice
  simp only [List.length_append, List.length_take, List.length_drop]
  omega
section
variable {w : World} {R : Nat → Prop} {ι : Nat → Value} {dom : Nat → Prop}
theorem EH.append {vs : List Value} {cs : List Cl} {S : List Nat} (h : EH w ι dom vs cs S) : ∀ {vs' : List Value} {cs' : List Cl} {S' : List Nat}, EH w ι dom vs' cs' S' → EH w ι dom (vs ++ vs') (cs ++ cs') (S ++ S') := by
  induction h with
  | nil => intro _ _ _ h; exact h
  | d h1 _ ih => intro _ _ _ h'; rw [List.append_assoc]; exact .d h1 (ih h')
  | h h1 hl _ ih => intro _ _ _ h'; exact .h h1 hl (ih h')
theorem EH.split {vs : List Value} {cs : List Cl} {S : List Nat} (h : EH w ι dom vs cs S) : ∀ n : Nat, ∃ S1 S2, S = S1 ++ S2 ∧ EH w ι dom (vs.take n) (cs.take n) S1 ∧ EH w ι dom (vs.drop n) (cs.drop n) S2 := by
  induction h with
  | nil => intro n; exact ⟨[], [], rfl, by simp; exact .nil, by simp; exact .nil⟩
  | d h1 h2 ih =>
    intro n
    cases n with
    | zero => exact ⟨[], _, rfl, .nil, .d h1 h2⟩
    | succ n =>
      obtain ⟨S1, S2, e, q1, q2⟩ := ih n
      exact ⟨_, S2, by rw [e, ← List.append_assoc], .d h1 q1, q2⟩
  | h h1 hl h2 ih =>
    intro n
    cases n with
    | zero => exact ⟨[], _, rfl, .nil, .h h1 hl h2⟩
    | succ n =>
      obtain ⟨S1, S2, e, q1, q2⟩ := ih n
      exact ⟨S1, S2, e, .h h1 hl q1, q2⟩
/-- Some cells are others now. -/
theorem EH.splice {vs us : List Value} {cs ds : List Cl} {S U : List Nat} (h : EH w ι dom vs cs S) (h' : EH w ι dom us ds U) (off : Nat) : ∃ S1 S2 S3, S = S1 ++ (S2 ++ S3) ∧ EH w ι dom (splice vs off us) (splice cs off ds) (S1 ++ U ++ S3) := by
  obtain ⟨S1, S', e1, q1, q2⟩ := h.split off
  obtain ⟨S2, S3, e2, q3, q4⟩ := q2.split us.length
  refine ⟨S1, S2, S3, by rw [e1, e2], ?_⟩
  unfold Go.Proofs.YtlblmofimjhbbaaDoor.splice
  rw [List.drop_drop] at q4
  have hl := h'.len
  rw [← hl]
  rw [List.drop_drop] at q4
  exact (q1.append h').append q4
theorem elemC_clear {k i i' off n j : Nat} {es : List D} : ∀ hs : List Ho, (elemC k i' es (clearHo i off n hs))[j]? = if i' = i ∧ off ≤ j ∧ j < off + n then (es.map Cl.d)[j]? else (elemC k i' es hs)[j]?
  | [] => by simp [clearHo, elemC]
  | h :: hs => by
    have ih := elemC_clear (k := k) (i := i) (i' := i') (off := off) (n := n) (j := j) (es := es) hs
    have e : clearHo i off n (h :: hs) = if h.i = i ∧ off ≤ h.j ∧ h.j < off + n then clearHo i off n hs else h :: clearHo i off n hs := by
      unfold clearHo
      rw [List.filter_cons]
      by_cases hc : h.i = i ∧ off ≤ h.j ∧ h.j < off + n
      · rw [if_pos hc]; simp [hc]
      · rw [if_neg hc]; simp [hc]
    rw [e]
    by_cases hc : h.i = i ∧ off ≤ h.j ∧ h.j < off + n
    · rw [if_pos hc, ih]
      by_cases hj : i' = i ∧ off ≤ j ∧ j < off + n
      · rw [if_pos hj, if_pos hj]
      · rw [if_neg hj, if_neg hj]
        simp only [elemC]
        split
        · rename_i h1
          rw [List.getElem?_set_ne]
          intro hjj
          exact hj ⟨by omega, by omega, by omega⟩
        · rfl
    · rw [if_neg hc]
      simp only [elemC]
      split
      · rename_i h1
        by_cases hj : i' = i ∧ off ≤ j ∧ j < off + n
        · rw [if_pos hj] at ih ⊢
          rw [List.getElem?_set_ne, ih]
          intro hjj
          exact hc ⟨by omega, by omega, by omega⟩
        · rw [if_neg hj] at ih ⊢
          by_cases hjj : h.j = j
          · have hlen : (elemC k i' es (clearHo i off n hs)).length = (elemC k i' es hs).length := by rw [elemC_length, elemC_length]
            by_cases hlt : h.j < (elemC k i' es hs).length
            · rw [← hjj, List.getElem?_set_self (by omega), List.getElem?_set_self hlt]
            · rw [← hjj, List.getElem?_eq_none (by rw [List.length_set]; omega), List.getElem?_eq_none (by rw [List.length_set]; omega)]
          · rw [List.getElem?_set_ne hjj, List.getElem?_set_ne hjj, ih]
      · exact ih
theorem elemC_set {k i off : Nat} {es : List D} {ds : List D} (ho : off + ds.length ≤ es.length) {j : Nat} (hj : ¬ (off ≤ j ∧ j < off + ds.length)) : ∀ hs : List Ho, (elemC k i (splice es off ds) hs)[j]? = (elemC k i es hs)[j]?
  | [] => by
    simp only [elemC, List.getElem?_map]
    rw [splice_get ho]
    by_cases h1 : j < off
    · rw [if_pos h1]
    · rw [if_neg h1, if_neg (by omega)]
  | h :: hs => by
    have ih := elemC_set (k := k) (i := i) ho hj hs
    simp only [elemC]
    split
    · by_cases hjj : h.j = j
      · have hlen : (elemC k i (splice es off ds) hs).length = (elemC k i es hs).length := by rw [elemC_length, elemC_length, splice_length ho]
        by_cases hlt : h.j < (elemC k i es hs).length
        · rw [← hjj, List.getElem?_set_self (by omega), List.getElem?_set_self hlt]
        · rw [← hjj, List.getElem?_eq_none (by rw [List.length_set]; omega), List.getElem?_eq_none (by rw [List.length_set]; omega)]
      · rw [List.getElem?_set_ne hjj, List.getElem?_set_ne hjj, ih]
    · exact ih
theorem cellsH_length {k : Nat} {xs : List (List D)} (hk : ∀ es ∈ xs, es.length = k) (hs : List Ho) : (cellsH k xs hs).length = xs.length * k := by
  unfold cellsH
  rw [punch_length, List.length_map, flatten_len hk]
theorem set_len {k i : Nat} {xs : List (List D)} {es : List D} (hk : ∀ es ∈ xs, es.length = k) (he : es.length = k) : ∀ y ∈ xs.set i es, y.length = k := fun y hy => by
  rcases List.mem_or_eq_of_mem_set hy with h | rfl
  · exact hk y h
  · exact he
/-- A store into one element. -/
theorem cellsH_splice {k i off : Nat} {xs : List (List D)} {es ds : List D} (hk : ∀ es ∈ xs, es.length = k) (hi : xs[i]? = some es) (ho : off + ds.length ≤ k) (hs : List Ho) : cellsH k (xs.set i (splice es off ds)) (clearHo i off ds.length hs) = splice (cellsH k xs hs) (i * k + off) (ds.map .d) := by
  have hes := hk es (List.mem_of_getElem? hi)
  have hlt := (List.getElem?_eq_some_iff.1 hi).1
  have hsp : (splice es off ds).length = k := by rw [splice_length (by omega), hes]
  have hk' := set_len (i := i) hk hsp
  have hil : i * k + k ≤ xs.length * k := by rw [← Nat.succ_mul]; exact Nat.mul_le_mul_right _ hlt
  have hl1 := cellsH_length hk hs
  apply List.ext_getElem?
  intro q
  rw [splice_get (by rw [hl1, List.length_map]; omega), List.length_map]
  by_cases hq : q < xs.length * k
  · have hk0 : 0 < k := by
      rcases Nat.eq_zero_or_pos k with h | h
      · rw [h] at hq; simp at hq
      · exact h
    have hi' : q / k < xs.length := (Nat.div_lt_iff_lt_mul hk0).2 hq
    have hqe : q = (q / k) * k + q % k := by rw [Nat.mul_comm]; exact (Nat.div_add_mod q k).symm
    have hj' : q % k < k := Nat.mod_lt _ hk0
    generalize q / k = i' at *
    generalize q % k = j' at *
    subst hqe
    have hes' : xs[i']? = some (xs[i']'hi') := List.getElem?_eq_getElem hi'
    by_cases hii : i' = i
    · subst hii
      rw [hi] at hes'
      rw [cellsH_get hk' (by rw [List.getElem?_set_self hi']) hj', elemC_clear]
      by_cases hin : off ≤ j' ∧ j' < off + ds.length
      · rw [if_pos ⟨rfl, hin⟩, if_neg (by omega), if_pos (by omega), List.getElem?_map, splice_get (by omega), if_neg (by omega), if_pos (by omega), List.getElem?_map]
        congr 2
        omega
      · rw [if_neg (fun h => hin h.2), elemC_set (by omega) hin, ← cellsH_get hk hi hj' hs]
        by_cases h1 : i' * k + j' < i' * k + off
        · rw [if_pos h1]
        · rw [if_neg h1, if_neg (by omega)]
    · rw [cellsH_get hk' (by rw [List.getElem?_set_ne (by omega)]; exact hes') hj', elemC_clear, if_neg (fun h => hii h.1), ← cellsH_get hk hes' hj' hs]
      rcases Nat.lt_or_gt_of_ne hii with h | h
      · have : (i' + 1) * k ≤ i * k := Nat.mul_le_mul_right _ h
        rw [Nat.succ_mul] at this
        rw [if_pos (by omega)]
      · have : (i + 1) * k ≤ i' * k := Nat.mul_le_mul_right _ h
        rw [Nat.succ_mul] at this
        rw [if_neg (by omega), if_neg (by omega)]
  · have hl2 := cellsH_length hk' (clearHo i off ds.length hs)
    rw [List.length_set] at hl2
    rw [List.getElem?_eq_none (by omega), if_neg (by omega), if_neg (by omega), List.getElem?_eq_none (by omega)]
end
section
variable {P : Program} {F : Fx} {st : St} {o : Oper} {w : World} {R : Nat → Prop} {ι : Nat → Value} {φ : Nat → List Nat}
/-- What an array takes in: the slices end as objects, their blocks are the array's from then on. -/
theorem absL_ok (ho : ObjsOk w R ι φ st.objs) : ∀ {vs : List Value} {bs : List B} {ds : List D} {ps : List Nat}, F2 (RB w R ι st.dom) vs bs → absL st.objs bs = some (ds, ps) → ps.Nodup → ∃ U, ET w vs ds U ∧ U.Nodup ∧ (∀ g ∈ U, ∃ q ∈ ps, ∃ x, st.objs q = some x ∧ g ∈ φ q)
  | _, _, _, _, .nil, h, _ => by cases h; exact ⟨[], .nil, .nil, fun g hg => by cases hg⟩
  | _, _, _, _, .cons (b := b) (bs := bs) h1 h2, h, hn => by
    simp only [absL] at h
    split at h
    · rename_i x ps' xs qs e1 e2
      cases h
      have hn2 := List.nodup_append.1 hn
      obtain ⟨U, hU, hUn, hUm⟩ := absL_ok ho h2 e2 hn2.2.1
      cases b with
      | d y =>
        simp only [abD] at e1
        split at e1
        · rename_i hp
          cases e1
          cases h1 with
          | pv q1 q2 => exact ⟨U, .pv q1 q2 hU, hUn, hUm⟩
          | _ => cases hp
        · cases e1
      | own q =>
        simp only [abD] at e1
        split at e1
        · rename_i κ ys hob
          cases e1
          have hr := RArr.toET (ho.1 q _ hob)
          rw [h1.2]
          refine ⟨φ q ++ U, hr.1.append hU, List.nodup_append.2 ⟨hr.2, hUn, ?_⟩, ?_⟩
          · rintro g hg g' hg' rfl
            obtain ⟨q', hq', y, hy, hgy⟩ := hUm g hg'
            have := ho.2.2.1 q q' _ y g hob hy hg hgy
            subst this
            exact hn2.2.2 q (by simp) q hq' rfl
          · intro g hg
            rcases List.mem_append.1 hg with hg | hg
            · exact ⟨q, by simp, _, hob, hg⟩
            · obtain ⟨q', hq', r⟩ := hUm g hg
              exact ⟨q', by simp [hq'], r⟩
        · cases e1
      | _ => cases e1
    · cases h
theorem sound_store_ep {T : TypeId} {x y : Operand} {v1 : V1} {cs : List B} {ag : Bool} {p i off : Nat} {κ : Ky} {xs : List (List D)} {hs : List Ho} {es ds : List D} {ps : List Nat} (hop : o.op = .store T x y) (hx : ev st.env x = .v (.c (.ep p κ.k i off))) (hy : ev st.env y = .v v1) (hc : cellsV v1 = some cs) (hl : cs.all B.live = true) (hT : tyInfo P T = some (ag, cs.length))
    (hab : absL st.objs cs = some (ds, ps)) (hnd : nodupB ps = true) (hob : (st.kill ps).objs p = some (.arr κ xs hs)) (hes : xs[i]? = some es) (hle : off + cs.length ≤ κ.k) :
    OpW P F st o deadA ⟨(st.kill ps).env, upd (st.kill ps).objs p (some (.arr κ (xs.set i (splice es off ds)) (clearHo i off cs.length hs)))⟩ := fun a w R ι φ hsat K Q hK => by
  have hvx := ev_ok (a := a) hsat.env x
  have hvy := ev_ok (a := a) hsat.env y
  rw [hx] at hvx; rw [hy] at hvy
  have hF := cellsV_ok hsat.objs hvy hc
  have hlen := hF.len
  obtain ⟨U, hU, hUn, hUm⟩ := absL_ok hsat.ok hF hab (nodupB_ok hnd)
  have hsk := hsat.kill ps
  have hdl : ds.length = cs.length := by rw [← hU.len, hlen]
  obtain ⟨_, g, m, cap, hι, hva⟩ := hvx
  have hps : ps.contains p = false := (St.kill_get hob).1
  have hpst : ∃ x, st.objs p = some x := by obtain ⟨_, x, h, _⟩ := St.kill_get hob; exact ⟨x, h⟩
  obtain ⟨hk, vs, S1, hown, hvs, hφ, hnodup⟩ := hsk.objs _ _ hob
  have hilt := (List.getElem?_eq_some_iff.1 hes).1
  rcases hown.2 with ⟨_, h0⟩ | ⟨g', cap', cur, hι', hN, hh, hnc, hcm, hcs, htk⟩
  · omega
  rw [hι] at hι'
  simp only [Value.slice.injEq, Option.some.injEq, Addr.mk.injEq] at hι'
  obtain ⟨⟨rfl, _⟩, rfl, rfl⟩ := hι'
  have hgφ : g ∈ φ p := by rw [hφ, hι]; simp [Value.ownBlock]
  have hmi := hsk.mine p _ hob
  have hik : i * κ.k + κ.k ≤ xs.length * κ.k := by rw [← Nat.succ_mul]; exact Nat.mul_le_mul_right _ hilt
  have hnk : xs.length * κ.k ≤ cap * κ.k := Nat.mul_le_mul_right _ hnc
  have hesk := hk es (List.mem_of_getElem? hes)
  have hlen' : (a.eval y).cells.toList.length = cs.length := hlen
  have hlen2 : (a.eval y).cells.size = cs.length := by simpa using hlen
  have hrun := run_store_op (P := P) (o := o) hop (a := a) (w := w) (by
    rw [hva]
    exact run_storeAt (v := a.eval y) (cur := cur.toList) (by rw [hlen]; exact hT) (by rw [Array.toArray_toList]; exact hh) (by rw [hlen]; simp only [Array.length_toList]; omega) (live_one hsat.objs hF hl))
  unfold Oper.wp
  rw [hrun, Oper.upon_skip]
  have hne : ∀ b, b ≠ g → (w.setRow g (splice cur.toList (i * κ.k + off) (a.eval y).cells.toList).toArray).heap[b]? = w.heap[b]? := fun b hb => setRow_other w g b _ hb
  have hUp : ∀ b ∈ U, b ∉ φ p ∧ (F.M b ∨ F.w.heap.size ≤ b) ∧ ¬ R b ∧ b < w.heap.size := fun b hb => by
    obtain ⟨q, hq, x, hx', hbq⟩ := hUm b hb
    obtain ⟨y', hy'⟩ := hpst
    refine ⟨fun hp => ?_, hsat.mine q x hx' b hbq⟩
    have := hsat.apart q p x y' b hx' hy' hbq hp
    subst this
    simp [hq] at hps
  have hgU : g ∉ U := fun h => (hUp g h).1 hgφ
  have hEU : EH (w.setRow g (splice cur.toList (i * κ.k + off) (a.eval y).cells.toList).toArray) ι (st.kill ps).dom (a.eval y).cells.toList (ds.map .d) U := (EH.of_ET hU).keep (fun _ h => h) (fun _ _ => rfl) fun b hb => hne b fun e => hgU (e ▸ hb)
  have hgS1 : g ∉ S1 := by
    have h := hnodup
    rw [hφ, hι] at h
    simp only [Value.ownBlock, Option.toList_some, List.singleton_append, List.nodup_cons] at h
    exact h.1
  have hvs' : EH (w.setRow g (splice cur.toList (i * κ.k + off) (a.eval y).cells.toList).toArray) ι (st.kill ps).dom vs (cellsH κ.k xs hs) S1 := hvs.keep (fun _ h => h) (fun _ _ => rfl) fun b hb => hne b fun e => hgS1 (e ▸ hb)
  obtain ⟨T1, T2, T3, hT', hEs⟩ := hvs'.splice hEU (i * κ.k + off)
  have hds : (splice es off ds).length = κ.k := by rw [splice_length (by omega), hesk]
  have hvl : vs.length = xs.length * κ.k := hown.1
  have hnS : (g :: (T1 ++ U ++ T3)).Nodup := by
    rw [hφ, hι, hT'] at hnodup
    simp only [Value.ownBlock, Option.toList_some, List.singleton_append] at hnodup
    have hsub : ∀ b, b ∈ g :: (T1 ++ (T2 ++ T3)) → b ∉ U := fun b hb hbu => (hUp b hbu).1 (by rw [hφ, hι, hT']; simpa [Value.ownBlock] using hb)
    simp only [List.nodup_cons, List.nodup_append, List.mem_append, not_or] at hnodup ⊢
    obtain ⟨⟨n1, n2, n3⟩, n4, ⟨n5, n6, n7⟩, n8⟩ := hnodup
    refine ⟨⟨⟨n1, hgU⟩, n3⟩, ⟨n4, hUn, fun b hb b' hb' e => hsub b (by simp [hb]) (e ▸ hb')⟩, n6, ?_⟩
    rintro b (hb | hb) b' hb' rfl
    · exact n8 b hb b (.inr hb') rfl
    · exact hsub b (by simp [hb']) hb
  refine hK _ _ R ι (upd φ p (g :: (T1 ++ U ++ T3))) (hsk.step (fun o => o = p) (hsk.below.setRow (hmi g hgφ).1 _) (fun b hb => ⟨hb, hne b fun e => (hmi g hgφ).2.1 (e ▸ hb)⟩) (fun b hb => by rw [setRow_size]; exact hsk.rlt b hb) hsk.rnew (fun q ⟨z, hz⟩ => ⟨?_, rfl⟩) (fun q z hz hq => ?_) (fun q z hz hq => ?_) (fun q r z z' b hq hch hr h1 h2 => ?_) (fun _ _ => rfl)) trivial
  · by_cases hq : q = p
    · subst hq; exact ⟨_, upd_same _ _ _⟩
    · exact ⟨z, (upd_ne _ _ hq).trans hz⟩
  · rw [upd_ne _ _ hq] at hz
    refine ⟨hz, upd_ne _ _ hq, fun b hb => ?_⟩
    have hm := hsk.mine q z hz b hb
    exact ⟨hne b fun e => hq (hsk.apart q p z _ b hz hob hb (e ▸ hgφ)), hm.2.1, by rw [setRow_size]; exact hm.2.2⟩
  · subst hq
    rw [upd_same] at hz
    cases hz
    rw [upd_same]
    refine ⟨⟨set_len hk hds, splice vs (i * κ.k + off) (a.eval y).cells.toList, T1 ++ U ++ T3, ⟨?_, .inr ⟨g, cap, _, ?_, Nat.zero_le _, setRow_heap w g _ _ κ.e (0, 0) hh, ?_, hcm, ?_, ?_⟩⟩, ?_, by rw [hι]; rfl, hnS⟩, fun b hb => ?_⟩
    · rw [splice_length (by omega), hvl, List.length_set]
    · rw [hι, List.length_set]
    · rw [List.length_set]; exact hnc
    · simp only [List.size_toArray]
      rw [splice_length (by simp only [Array.length_toList]; omega), Array.length_toList, hcs]
    · rw [List.length_set]
      apply List.ext_getElem?
      intro j
      have hc1 : i * κ.k + off + (a.eval y).cells.toList.length ≤ cur.toList.length := by simp only [Array.length_toList]; omega
      rw [List.toList_toArray, splice_get (l := vs) (by omega), List.getElem?_take]
      have hvc : ∀ j, j < xs.length * κ.k → vs[j]? = cur.toList[j]? := fun j hj => by rw [← htk, List.getElem?_take_of_lt hj]
      by_cases hj : j < xs.length * κ.k
      · rw [if_pos hj, splice_get hc1, hvc j hj]
      · rw [if_neg hj, if_neg (by omega), if_neg (by omega), List.getElem?_eq_none (by omega)]
    · rw [← hdl, cellsH_splice hk hes (by omega)]
      refine hEs.keep (fun r hr => ?_) (fun _ _ => rfl) fun _ _ => rfl
      obtain ⟨z, hz⟩ := hr
      by_cases hrq : r = q
      · subst hrq; exact ⟨_, upd_same _ _ _⟩
      · exact ⟨z, (upd_ne _ _ hrq).trans hz⟩
    · rw [setRow_size]
      simp only [List.mem_cons, List.mem_append] at hb
      rcases hb with rfl | (hb | hb) | hb
      · exact hmi _ hgφ
      · exact hmi b (by rw [hφ, hT']; simp [hb])
      · exact (hUp b hb).2
      · exact hmi b (by rw [hφ, hT']; simp [hb])
  · subst hch
    rw [upd_same] at h1
    by_cases hrp : r = q
    · exact hrp.symm
    · rw [upd_ne _ _ hrp] at hr h2
      simp only [List.mem_cons, List.mem_append] at h1
      rcases h1 with rfl | (hb | hb) | hb
      · exact (hsk.apart r q z' _ _ hr hob h2 hgφ).symm
      · exact (hsk.apart r q z' _ b hr hob h2 (by rw [hφ, hT']; simp [hb])).symm
      · obtain ⟨q', hq', x', hx', hbq⟩ := hUm b hb
        obtain ⟨hrc, z'', hz'', _⟩ := St.kill_get hr
        have := hsat.apart r q' z'' x' b hz'' hx' h2 hbq
        subst this
        simp [hq'] at hrc
      · exact (hsk.apart r q z' _ b hr hob h2 (by rw [hφ, hT']; simp [hb])).symm
end
end Go.Proofs.YtlblmofimjhbbaaDoor
