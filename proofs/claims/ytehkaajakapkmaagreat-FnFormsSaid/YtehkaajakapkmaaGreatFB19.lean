/- Texts of one proof, one behind the other. -/
import Derived.Test.YtehkaajakapkmaaGreatFB17
import Derived.Test.YtehkaajakapkmaaGreatFB18
namespace Go.Proofs.YtehkaajakapkmaaGreat
section
open Go.RowKit
instance decTCube : DecidableEq TCube := fun a b => if h : a.fCare = b.fCare ∧ a.fValue = b.fValue then .isTrue (by cases a; cases b; simp only at h; rw [h.1, h.2]) else .isFalse fun e => h ⟨by rw [e], by rw [e]⟩
def cu (l : List TCube) : Nat → List TCube
  | 0 => []
  | j + 1 => match l[j]? with
    | none => cu l j
    | some q => if j = 0 ∨ l[j - 1]? ≠ some q then cu l j ++ [q] else cu l j
theorem cu_keep {l : List TCube} {j : Nat} {q : TCube} (hq : l[j]? = some q) (h : j = 0 ∨ l[j - 1]? ≠ some q) : cu l (j + 1) = cu l j ++ [q] := by
  rw [cu, hq]
  exact if_pos h
theorem cu_skip {l : List TCube} {j : Nat} {q : TCube} (hq : l[j]? = some q) (h0 : 0 < j) (h : l[j - 1]? = some q) : cu l (j + 1) = cu l j := by
  rw [cu, hq]
  exact if_neg fun h' => h'.elim (fun e => by omega) fun e => e h
theorem cu_len (l : List TCube) : ∀ j, (cu l j).length ≤ j
  | 0 => Nat.le_refl _
  | j + 1 => by
    have := cu_len l j
    rw [cu]
    split
    · omega
    · split
      · rw [List.length_append, List.length_singleton]; omega
      · omega
def ltQ (p q : TCube) : Prop := cmpQ p q < 0
instance decLtQ (p q : TCube) : Decidable (ltQ p q) := inferInstanceAs (Decidable (_ < _))
theorem ltQ_iff {p q : TCube} : ltQ p q ↔ p.fCare < q.fCare ∨ (p.fCare = q.fCare ∧ p.fValue < q.fValue) := cmpQ_lt
theorem ltQ_trans {p q r : TCube} (h1 : ltQ p q) (h2 : ltQ q r) : ltQ p r := by rw [ltQ_iff] at *; omega
theorem ltQ_irr (p : TCube) : ¬ ltQ p p := by rw [ltQ_iff]; omega
theorem ltQ_tri {p q : TCube} (h1 : ¬ ltQ p q) (h2 : ¬ ltQ q p) : p = q := by
  rw [ltQ_iff] at *
  have e1 : p.fCare = q.fCare := by omega
  have e2 : p.fValue = q.fValue := by omega
  cases p; cases q; simp only at e1 e2; rw [e1, e2]
theorem le_lt {p q r : TCube} (h1 : ¬ ltQ q p) (h2 : ltQ q r) : ltQ p r := by
  rw [ltQ_iff] at *; omega
theorem sq_uniq : ∀ {l m : List TCube}, l.Pairwise ltQ → m.Pairwise ltQ → (∀ x, x ∈ l ↔ x ∈ m) → l = m
  | [], [], _, _, _ => rfl
  | [], b :: m, _, _, h => absurd ((h b).2 (by simp)) (by simp)
  | a :: l, [], _, _, h => absurd ((h a).1 (by simp)) (by simp)
  | a :: l, b :: m, h1, h2, h => by
    obtain ⟨i1, i2⟩ := List.pairwise_cons.1 h1
    obtain ⟨j1, j2⟩ := List.pairwise_cons.1 h2
    have e : a = b := by
      rcases List.mem_cons.1 ((h a).1 (by simp)) with e | ha
      · exact e
      · rcases List.mem_cons.1 ((h b).2 (by simp)) with e | hb
        · exact e.symm
        · exact absurd (ltQ_trans (i1 b hb) (j1 a ha)) (ltQ_irr a)
    subst e
    rw [sq_uniq i2 j2 fun x => ⟨fun hx => ?_, fun hx => ?_⟩]
    · rcases List.mem_cons.1 ((h x).1 (by simp [hx])) with e | hm
      · subst e; exact absurd (i1 x hx) (ltQ_irr x)
      · exact hm
    · rcases List.mem_cons.1 ((h x).2 (by simp [hx])) with e | hm
      · subst e; exact absurd (j1 x hx) (ltQ_irr x)
      · exact hm
def outP (l : List TCube) (c : TCube) : Nat → List TCube × Bool
  | 0 => ([], false)
  | i + 1 => match l[i]? with
    | none => outP l c i
    | some a => if (outP l c i).2 = false ∧ ¬ ltQ a c then ((if a = c then (outP l c i).1 else (outP l c i).1 ++ [c]) ++ [a], true) else ((outP l c i).1 ++ [a], (outP l c i).2)
theorem outP_len (l : List TCube) (c : TCube) : ∀ i, (outP l c i).1.length + (if (outP l c i).2 then 0 else 1) ≤ i + 1
  | 0 => Nat.le_refl _
  | i + 1 => by
    have := outP_len l c i
    rw [outP]
    split
    · omega
    · split
      · rename_i h
        rw [h.1] at this
        split <;> simp at this ⊢ <;> omega
      · rw [List.length_append, List.length_singleton]
        split <;> simp_all <;> omega
def putQ (l : List TCube) (c : TCube) : List TCube := if (outP l c l.length).2 then (outP l c l.length).1 else (outP l c l.length).1 ++ [c]
theorem pw_snoc {α : Type} {r : α → α → Prop} {l : List α} {a : α} (h : l.Pairwise r) (k : ∀ x ∈ l, r x a) : (l ++ [a]).Pairwise r :=
  List.pairwise_append.2 ⟨h, List.pairwise_singleton _ _, fun x hx y hy => by rw [List.mem_singleton.1 hy]; exact k x hx⟩
theorem pw_take {α : Type} {r : α → α → Prop} {l : List α} {a : α} {i : Nat} (h : l.Pairwise r) (ha : l[i]? = some a) : ∀ x ∈ l.take i, r x a := fun x hx => by
  have h1 : (l.take (i + 1)).Pairwise r := List.Pairwise.sublist (List.take_sublist _ _) h
  rw [take_snoc ha] at h1
  exact (List.pairwise_append.1 h1).2.2 x hx a (by simp)
theorem outP_ok {l : List TCube} {c : TCube} (h : l.Pairwise ltQ) : ∀ i, i ≤ l.length → ((outP l c i).2 = false → (outP l c i).1 = l.take i ∧ ∀ x ∈ l.take i, ltQ x c) ∧ ((outP l c i).2 = true → (outP l c i).1.Pairwise ltQ ∧ (∀ x, x ∈ (outP l c i).1 ↔ x ∈ l.take i ∨ x = c) ∧ ∃ b ∈ l.take i, ¬ ltQ b c)
  | 0, _ => ⟨fun _ => ⟨rfl, fun x hx => by simp at hx⟩, fun h => by cases h⟩
  | i + 1, hi => by
    obtain ⟨h1, h2⟩ := outP_ok (c := c) h i (by omega)
    obtain ⟨a, ha⟩ : ∃ a, l[i]? = some a := ⟨_, List.getElem?_eq_getElem (by omega)⟩
    have hlt := pw_take h ha
    have hpt : (l.take i).Pairwise ltQ := List.Pairwise.sublist (List.take_sublist _ _) h
    rw [outP, ha, take_snoc ha]
    dsimp only
    cases hd : (outP l c i).2 with
    | false =>
      obtain ⟨q1, q2⟩ := h1 hd
      rw [q1]
      by_cases hac : ltQ a c
      · rw [if_neg fun hh => hh.2 hac]
        refine ⟨fun _ => ⟨rfl, fun x hx => ?_⟩, fun hh => by cases hh⟩
        rcases List.mem_append.1 hx with hx | hx
        · exact q2 x hx
        · rw [List.mem_singleton.1 hx]; exact hac
      · rw [if_pos ⟨rfl, hac⟩]
        refine ⟨fun hh => (by cases hh), fun _ => ?_⟩
        by_cases e : a = c
        · subst e
          rw [if_pos rfl]
          refine ⟨pw_snoc hpt hlt, fun x => ?_, a, by simp, ltQ_irr a⟩
          simp only [List.mem_append, List.mem_singleton]
          constructor
          · exact fun hx => .inl hx
          · exact fun hx => hx.elim id .inr
        · rw [if_neg e]
          have hca : ltQ c a := Classical.byContradiction fun hn => e (ltQ_tri hac hn)
          refine ⟨pw_snoc (pw_snoc hpt q2) fun x hx => ?_, fun x => ?_, a, by simp, hac⟩
          · rcases List.mem_append.1 hx with hx | hx
            · exact hlt x hx
            · rw [List.mem_singleton.1 hx]; exact hca
          · simp only [List.mem_append, List.mem_singleton]
            constructor
            · rintro ((hx | hx) | hx)
              · exact .inl (.inl hx)
              · exact .inr hx
              · exact .inl (.inr hx)
            · rintro ((hx | hx) | hx)
              · exact .inl (.inl hx)
              · exact .inr hx
              · exact .inl (.inr hx)
    | true =>
      obtain ⟨q1, q2, b, hb, hbc⟩ := h2 hd
      rw [if_neg fun hh => by cases hh.1]
      refine ⟨fun hh => (by cases hh), fun _ => ⟨pw_snoc q1 fun x hx => ?_, fun x => ?_, b, by simp [hb], hbc⟩⟩
      · rcases (q2 x).1 hx with hx | rfl
        · exact hlt x hx
        · exact le_lt hbc (hlt b hb)
      · simp only [List.mem_append, List.mem_singleton, q2]
        constructor
        · rintro ((hx | hx) | hx)
          · exact .inl (.inl hx)
          · exact .inr hx
          · exact .inl (.inr hx)
        · rintro ((hx | hx) | hx)
          · exact .inl (.inl hx)
          · exact .inr hx
          · exact .inl (.inr hx)
theorem putQ_ok {l : List TCube} {c : TCube} (h : l.Pairwise ltQ) : (putQ l c).Pairwise ltQ ∧ ∀ x, x ∈ putQ l c ↔ x ∈ l ∨ x = c := by
  obtain ⟨h1, h2⟩ := outP_ok (c := c) h l.length (Nat.le_refl _)
  rw [List.take_length] at h1 h2
  unfold putQ
  cases hd : (outP l c l.length).2 with
  | true =>
    obtain ⟨q1, q2, _⟩ := h2 hd
    exact ⟨q1, q2⟩
  | false =>
    obtain ⟨q1, q2⟩ := h1 hd
    rw [q1]
    refine ⟨pw_snoc h q2, fun x => ?_⟩
    simp
theorem putQ_len (l : List TCube) (c : TCube) : (putQ l c).length ≤ l.length + 1 := by
  have := outP_len l c l.length
  unfold putQ
  split
  · omega
  · rename_i h
    rw [if_neg h] at this
    rw [List.length_append, List.length_singleton]; omega
theorem putAll_len : ∀ (cs l : List TCube), (cs.foldl putQ l).length ≤ l.length + cs.length
  | [], l => by simp
  | c :: cs, l => by
    have h1 := putAll_len cs (putQ l c)
    have h2 := putQ_len l c
    rw [List.foldl_cons, List.length_cons]
    omega
theorem putAll_ok : ∀ {cs l : List TCube}, l.Pairwise ltQ → (cs.foldl putQ l).Pairwise ltQ ∧ ∀ x, x ∈ cs.foldl putQ l ↔ x ∈ l ∨ x ∈ cs
  | [], l, h => ⟨h, fun x => by simp⟩
  | c :: cs, l, h => by
    obtain ⟨h1, h2⟩ := putQ_ok (c := c) h
    obtain ⟨i1, i2⟩ := putAll_ok (cs := cs) h1
    refine ⟨i1, fun x => ?_⟩
    rw [List.foldl_cons, i2, h2, List.mem_cons]
    constructor
    · rintro ((hx | hx) | hx)
      · exact .inl hx
      · exact .inr (.inl hx)
      · exact .inr (.inr hx)
    · rintro (hx | hx | hx)
      · exact .inl (.inl hx)
      · exact .inl (.inr hx)
      · exact .inr hx
def leQ (p q : TCube) : Bool := !decide (ltQ q p)
abbrev srtQ (l : List TCube) : List TCube := l.mergeSort leQ
theorem leQ_iff {p q : TCube} : leQ p q = true ↔ ¬ ltQ q p := by simp [leQ]
theorem srtQ_pw (l : List TCube) : (srtQ l).Pairwise fun p q => ¬ ltQ q p := by
  refine (List.pairwise_mergeSort (le := leQ) (fun _ _ _ h1 h2 => ?_) (fun _ _ => ?_) l).imp fun h => leQ_iff.1 h
  · rw [leQ_iff, ltQ_iff] at *; omega
  · rw [Bool.or_eq_true, leQ_iff, leQ_iff, ltQ_iff, ltQ_iff]; omega
theorem srtQ_perm (l : List TCube) : (srtQ l).Perm l := List.mergeSort_perm l leQ
theorem srtQ_uniq {l m : List TCube} (hp : m.Perm l) (hs : m.Pairwise fun p q => ¬ ltQ q p) : m = srtQ l :=
  List.Perm.eq_of_pairwise (le := fun p q => ¬ ltQ q p) (fun _ _ _ _ h1 h2 => ltQ_tri h2 h1) hs (srtQ_pw l) (hp.trans (srtQ_perm l).symm)
theorem cu_ok {L : List TCube} (h : L.Pairwise fun p q => ¬ ltQ q p) : ∀ j, j ≤ L.length → (cu L j).Pairwise ltQ ∧ ∀ x, x ∈ cu L j ↔ x ∈ L.take j
  | 0, _ => ⟨.nil, fun x => by simp [cu]⟩
  | j + 1, hj => by
    obtain ⟨h1, h2⟩ := cu_ok h j (by omega)
    obtain ⟨q, hq⟩ : ∃ q, L[j]? = some q := ⟨_, List.getElem?_eq_getElem (by omega)⟩
    have hle := pw_take h hq
    rw [take_snoc hq]
    by_cases hk : j = 0 ∨ L[j - 1]? ≠ some q
    · rw [cu_keep hq hk]
      refine ⟨pw_snoc h1 fun x hx => ?_, fun x => by simp only [List.mem_append, h2]⟩
      have hx := (h2 x).1 hx
      refine Classical.byContradiction fun hn => ?_
      obtain rfl := ltQ_tri hn (hle x hx)
      have hj0 : 0 < j := by
        rcases Nat.eq_zero_or_pos j with e | e
        · subst e; simp at hx
        · exact e
      obtain ⟨p, hp⟩ : ∃ p, L[j - 1]? = some p := ⟨_, List.getElem?_eq_getElem (by omega)⟩
      have hpq : p ∈ L.take j := by
        have : L.take j = L.take (j - 1) ++ [p] := by rw [← take_snoc hp, show j - 1 + 1 = j by omega]
        rw [this]; simp
      have e1 := hle p hpq
      have e2 : x = p ∨ ¬ ltQ p x := by
        have : L.take j = L.take (j - 1) ++ [p] := by rw [← take_snoc hp, show j - 1 + 1 = j by omega]
        rw [this] at hx
        rcases List.mem_append.1 hx with hx | hx
        · exact .inr (pw_take h hp x hx)
        · exact .inl (List.mem_singleton.1 hx)
      have e3 : p = x := by
        rcases e2 with e | e
        · exact e.symm
        · exact ltQ_tri e e1
      subst e3
      rcases hk with hk | hk
      · omega
      · exact hk hp
    · have hj0 : 0 < j := Nat.pos_of_ne_zero fun e => hk (.inl e)
      have hp : L[j - 1]? = some q := Classical.byContradiction fun e => hk (.inr e)
      rw [cu_skip hq hj0 hp]
      refine ⟨h1, fun x => ?_⟩
      rw [h2, List.mem_append, List.mem_singleton]
      constructor
      · exact fun hx => .inl hx
      · rintro (hx | rfl)
        · exact hx
        · have : L.take j = L.take (j - 1) ++ [x] := by rw [← take_snoc hp, show j - 1 + 1 = j by omega]
          rw [this]; simp
theorem cubes_eq (cs : List TCube) : cu (srtQ cs) (srtQ cs).length = cs.foldl putQ [] := by
  obtain ⟨h1, h2⟩ := cu_ok (srtQ_pw cs) (srtQ cs).length (Nat.le_refl _)
  obtain ⟨i1, i2⟩ := putAll_ok (cs := cs) (l := []) .nil
  refine sq_uniq h1 i1 fun x => ?_
  rw [h2, i2, List.take_length, (srtQ_perm cs).mem_iff]
  simp
def ixQ : List TCube → TCube → Nat
  | [], _ => 0
  | a :: l, c => if a = c then 0 else ixQ l c + 1
theorem ixQ_ok : ∀ {l : List TCube} {c : TCube}, c ∈ l → l[ixQ l c]? = some c ∧ ∀ i, i < ixQ l c → l[i]? ≠ some c
  | a :: l, c, h => by
    unfold ixQ
    by_cases e : a = c
    · rw [if_pos e, e]; exact ⟨rfl, fun i hi => by omega⟩
    · rw [if_neg e]
      have hc : c ∈ l := (List.mem_cons.1 h).resolve_left fun h => e h.symm
      obtain ⟨h1, h2⟩ := ixQ_ok hc
      refine ⟨h1, fun i hi => ?_⟩
      cases i with
      | zero => simpa using e
      | succ i => exact h2 i (by omega)
def sumJ (q : TCube) (k : Nat) (cv : List TCube) : List Int := (cv.filter fun c => decide (c = q)).map fun _ => (k : Int)
def sumK (cs cv : List TCube) (m : Nat) : List Int := (List.range m).flatMap fun k => sumJ (cs.getD k ⟨0, 0⟩) k cv
theorem sumJ_snoc {q : TCube} {k : Nat} {cv : List TCube} {c : TCube} : sumJ q k (cv ++ [c]) = sumJ q k cv ++ (if c = q then [(k : Int)] else []) := by
  unfold sumJ
  rw [List.filter_append, List.map_append]
  by_cases e : c = q <;> simp [e]
theorem sumK_succ {cs cv : List TCube} {m : Nat} : sumK cs cv (m + 1) = sumK cs cv m ++ sumJ (cs.getD m ⟨0, 0⟩) m cv := by
  unfold sumK
  rw [List.range_succ, List.flatMap_append]
  simp
theorem sumJ_len (q : TCube) (k : Nat) (cv : List TCube) : (sumJ q k cv).length ≤ cv.length := by
  unfold sumJ
  rw [List.length_map]
  exact List.length_filter_le _ _
theorem sumK_len (cs cv : List TCube) : ∀ m, (sumK cs cv m).length ≤ m * cv.length
  | 0 => by simp [sumK]
  | m + 1 => by
    have h1 := sumK_len cs cv m
    have h2 := sumJ_len (cs.getD m ⟨0, 0⟩) m cv
    rw [sumK_succ, List.length_append, Nat.succ_mul]
    omega
theorem sumK_mem {cs cv : List TCube} : ∀ {m : Nat} {x : Int}, x ∈ sumK cs cv m → 0 ≤ x ∧ x < m
  | 0, x, h => by simp [sumK] at h
  | m + 1, x, h => by
    rw [sumK_succ] at h
    rcases List.mem_append.1 h with h | h
    · have := sumK_mem h; omega
    · unfold sumJ at h
      obtain ⟨_, _, rfl⟩ := List.mem_map.1 h
      omega
theorem sumK_pw {cs cv : List TCube} : ∀ m, (sumK cs cv m).Pairwise (· ≤ ·)
  | 0 => by simp [sumK]
  | m + 1 => by
    rw [sumK_succ]
    refine List.pairwise_append.2 ⟨sumK_pw m, ?_, fun x hx y hy => ?_⟩
    · unfold sumJ
      exact List.pairwise_map.2 (List.Pairwise.imp (fun _ => Int.le_refl _) (List.pairwise_of_forall (R := fun _ _ => True) fun _ _ => trivial))
    · have := sumK_mem hx
      unfold sumJ at hy
      obtain ⟨_, _, rfl⟩ := List.mem_map.1 hy
      omega
theorem sumK_cons {cs cv : List TCube} {c : TCube} {k0 : Nat} (hnd : ∀ k, cs.getD k ⟨0, 0⟩ = c → k < cs.length → k = k0) (hc : cs.getD k0 ⟨0, 0⟩ = c) : ∀ m, m ≤ cs.length → (sumK cs (c :: cv) m).Perm ((if k0 < m then [(k0 : Int)] else []) ++ sumK cs cv m)
  | 0, _ => by simp [sumK]
  | m + 1, hm => by
    have ih := sumK_cons (cv := cv) hnd hc m (by omega)
    rw [sumK_succ, sumK_succ]
    by_cases e : c = cs.getD m ⟨0, 0⟩
    · have hk := hnd m e.symm (by omega)
      subst hk
      have hj : sumJ (cs.getD m ⟨0, 0⟩) m (c :: cv) = (m : Int) :: sumJ (cs.getD m ⟨0, 0⟩) m cv := by
        unfold sumJ
        rw [List.filter_cons, if_pos (by simpa using e)]
        rfl
      rw [hj, if_pos (by omega)]
      rw [if_neg (by omega), List.nil_append] at ih
      refine (ih.append_right _).trans ?_
      exact List.perm_middle
    · have hj : sumJ (cs.getD m ⟨0, 0⟩) m (c :: cv) = sumJ (cs.getD m ⟨0, 0⟩) m cv := by
        unfold sumJ
        rw [List.filter_cons, if_neg (by simpa using e)]
      have hk : k0 ≠ m := fun hh => e (by rw [← hc, hh])
      rw [hj, show (if k0 < m + 1 then [(k0 : Int)] else []) = (if k0 < m then [(k0 : Int)] else []) by
        by_cases h : k0 < m
        · rw [if_pos h, if_pos (by omega)]
        · rw [if_neg h, if_neg (by omega)]]
      rw [← List.append_assoc]
      exact ih.append_right _
theorem sum_perm {cs : List TCube} (hs : cs.Pairwise ltQ) : ∀ {cv : List TCube}, (∀ c ∈ cv, c ∈ cs) → (cv.map fun c => (ixQ cs c : Int)).Perm (sumK cs cv cs.length)
  | [], _ => by
    have h0 : ∀ m, sumK cs [] m = [] := fun m => by
      unfold sumK sumJ
      simp
    rw [h0]
    exact .nil
  | c :: cv, h => by
    have hc := h c (by simp)
    obtain ⟨h1, h2⟩ := ixQ_ok hc
    have hlt : ixQ cs c < cs.length := (List.getElem?_eq_some_iff.1 h1).1
    have ih := sum_perm hs (cv := cv) fun d hd => h d (by simp [hd])
    have hk := sumK_cons (cs := cs) (cv := cv) (c := c) (k0 := ixQ cs c) (fun k hk hkl => ?_) (by rw [List.getD_eq_getElem?_getD, h1]; rfl) cs.length (Nat.le_refl _)
    · rw [if_pos hlt] at hk
      rw [List.map_cons]
      exact (ih.cons _).trans hk.symm
    · have hkk : cs[k]? = some c := by
        rw [List.getD_eq_getElem?_getD, List.getElem?_eq_getElem hkl, Option.getD_some] at hk
        rw [List.getElem?_eq_getElem hkl, hk]
      rcases Nat.lt_trichotomy k (ixQ cs c) with hh | hh | hh
      · exact absurd hkk (h2 k hh)
      · exact hh
      · have hp := pw_take hs hkk
        have : c ∈ cs.take k := List.mem_of_getElem? (i := ixQ cs c) (by rw [List.getElem?_take_of_lt hh, h1])
        exact absurd (hp c this) (ltQ_irr c)
theorem sum_eq {cs cv : List TCube} (hs : cs.Pairwise ltQ) (h : ∀ c ∈ cv, c ∈ cs) : ((cv.map fun c => (ixQ cs c : Int)).mergeSort fun x y => decide (x ≤ y)) = sumK cs cv cs.length := by
  refine List.Perm.eq_of_pairwise (le := fun x y : Int => x ≤ y) (fun a b _ _ h1 h2 => by omega) ?_ (sumK_pw _) ((List.mergeSort_perm _ _).trans (sum_perm hs h))
  refine (List.pairwise_mergeSort (le := fun x y : Int => decide (x ≤ y)) (fun a b c h1 h2 => ?_) (fun a b => ?_) _).imp fun h => by simpa using h
  · simp only [decide_eq_true_eq] at *; omega
  · simp only [Bool.or_eq_true, decide_eq_true_eq]; omega
end
section

end
section
open Go.RowKit
theorem R.outNilI {P : Program} {fn : Func} {t1 t2 : Nat} {u u' : Int} {κ : Ky} {e : Nat → AV} {o : Nat → Option Ob} (hrs : fn.results.toList = [.tmp t1, .tmp t2]) (hne : Nat.beq t2 t1 = false) (h : e t1 = .v (.c nilB)) (h0 : freeO o 900000) (h2 : e t2 = pvA (.int .i64 u')) (hu : u' = u) : RetOk P fn.results.toList (RT.tup [cN κ [], cI u]).av (RT.tup [cN κ [], cI u]).outs ⟨e, o⟩ := by
  subst hu
  have hne' : t2 ≠ t1 := fun e => by subst e; simp at hne
  exact R.outW (Weak.reify (st := ⟨e, o⟩) t1 900000 κ h h0) (R.out hrs (ys := [.c (.own 900000), .c (.d (iD u'))]) (.cons (R.tmp (upd_same _ _ _)) (.cons (R.tmp ((upd_ne _ _ hne').trans h2)) .nil)) [(900000, 0)] rfl (by simp [insC, upd_same, cOb, vAll]; rfl) rfl ⟨by show ¬ (2 = 1); omega, rfl⟩)
theorem R.outNI {P : Program} {fn : Func} {t1 t2 p : Nat} {u u' : Int} {κ : Ky} {xs : List (List D)} {st : St} (hrs : fn.results.toList = [.tmp t1, .tmp t2]) (h : st.env t1 = .v (.c (.own p))) (h1 : st.objs p = some (.arr κ xs [])) (h2 : st.env t2 = pvA (.int .i64 u')) (hu : u' = u) : RetOk P fn.results.toList (RT.tup [cN κ xs, cI u]).av (RT.tup [cN κ xs, cI u]).outs st := by
  subst hu
  exact R.out hrs (ys := [.c (.own p), .c (.d (iD u'))]) (.cons (R.tmp h) (.cons (R.tmp h2) .nil)) [(p, 0)] (by simp [vAll, cV1, cB, look1]; rfl) (by simp [insC, h1, cOb, vAll]; rfl) (by simp [okρ, nodupB, Nat.blt, pinN]) ⟨by show ¬ (2 = 1); omega, rfl⟩
end
section
open Go.RowKit
set_option maxRecDepth 100000 in
def S.s50 : SC := (.seq (.reg [⟨(.some 3), .none, .false, (.box 56 (.tmp 1))⟩, ⟨(.some 4), .none, .false, (.mv (.const (Go.Value.bool false)))⟩]) (.seq (.reg [⟨(.some 5), .none, .true, (.fa 0 (.tmp 3))⟩, ⟨(.some 6), .none, .true, (.ld .false 1 (.tmp 5))⟩, ⟨(.some 7), .none, .true, (.mv (.tmp 0))⟩, ⟨(.some 8), .none, .true, (.bin .shl (.const (Go.Value.int Go.IntKind.i64 1)) (.tmp 7))⟩, ⟨(.some 9), .none, .true, (.bin .sub (.tmp 8) (.const (Go.Value.int Go.IntKind.i64 1)))⟩, ⟨(.some 10), .none, .true, (.fcal (.func 49) [(.tmp 6), (.const (Go.Value.int Go.IntKind.i64 0)), (.tmp 9)])⟩, ⟨(.some 11), .none, .true, (.mv (.tmp 10))⟩, ⟨(.some 12), (.some (11, .true)), .true, (.fa 1 (.tmp 3))⟩, ⟨(.some 13), (.some (11, .true)), .true, (.ld .false 1 (.tmp 12))⟩, ⟨(.some 14), (.some (11, .true)), .true, (.fa 0 (.tmp 3))⟩, ⟨(.some 15), (.some (11, .true)), .true, (.ld .false 1 (.tmp 14))⟩, ⟨(.some 16), (.some (11, .true)), .true, (.bin .and (.tmp 13) (.tmp 15))⟩, ⟨(.some 17), (.some (11, .true)), .true, (.fa 1 (.tmp 3))⟩, ⟨(.some 18), (.some (11, .true)), .true, (.ld .false 1 (.tmp 17))⟩, ⟨(.some 19), (.some (11, .true)), .true, (.bin .eql (.tmp 16) (.tmp 18))⟩, ⟨(.some 20), .none, .true, (.pick (.tmp 11) (.tmp 19) (.const (Go.Value.bool false)))⟩, ⟨(.some 4), .none, .true, (.mv (.tmp 20))⟩]) .ret))
set_option maxRecDepth 100000 in
theorem S.ok50 : stripF Tryz.prog Tryz.f50 = some S.s50 := by kernel_rfl
set_option maxRecDepth 100000 in
def S.s55 : SC := (.seq (.reg [⟨(.some 4), .none, .false, (.mv (.const (Go.Value.bool false)))⟩]) (.seq (.reg [⟨(.some 5), .none, .false, (.mv (.tmp 0))⟩, ⟨(.some 6), .none, .false, (.len (.tmp 5))⟩, ⟨(.some 7), .none, .false, (.mv (.tmp 1))⟩, ⟨(.some 8), .none, .false, (.bin .eql (.tmp 6) (.tmp 7))⟩, ⟨(.some 9), .none, .false, (.mv (.tmp 8))⟩, ⟨(.some 10), (.some (9, .true)), .false, (.mv (.tmp 0))⟩, ⟨(.some 11), (.some (9, .true)), .false, (.call (.func 70) [(.tmp 10), (.const (Go.Value.int Go.IntKind.i64 2))])⟩, ⟨(.some 12), .none, .false, (.pick (.tmp 9) (.tmp 11) (.const (Go.Value.bool false)))⟩, ⟨(.some 4), .none, .false, (.mv (.tmp 12))⟩]) .ret))
set_option maxRecDepth 100000 in
theorem S.ok55 : stripF Tryz.prog Tryz.f55 = some S.s55 := by kernel_rfl
set_option maxRecDepth 100000 in
def S.s59 : SC := (.seq (.reg [⟨(.some 2), .none, .false, (.box 56 (.tmp 0))⟩, ⟨(.some 4), .none, .false, (.mv (.const (Go.Value.bool false)))⟩]) (.seq (.reg [⟨(.some 5), .none, .false, (.mv (.tmp 1))⟩, ⟨(.some 6), .none, .false, (.fa 0 (.tmp 2))⟩, ⟨(.some 7), .none, .false, (.ld .false 1 (.tmp 6))⟩, ⟨(.some 8), .none, .false, (.bin .and (.tmp 5) (.tmp 7))⟩, ⟨(.some 9), .none, .false, (.fa 1 (.tmp 2))⟩, ⟨(.some 10), .none, .false, (.ld .false 1 (.tmp 9))⟩, ⟨(.some 11), .none, .false, (.bin .eql (.tmp 8) (.tmp 10))⟩, ⟨(.some 4), .none, .false, (.mv (.tmp 11))⟩]) .ret))
set_option maxRecDepth 100000 in
theorem S.ok59 : stripF Tryz.prog Tryz.f59 = some S.s59 := by kernel_rfl
set_option maxRecDepth 100000 in
def S.s96 : SC := (.seq (.reg [⟨(.some 2), .none, .false, (.box 56 (.tmp 0))⟩, ⟨(.some 4), .none, .false, (.mv (.const (Go.Value.bool false)))⟩]) (.seq (.reg [⟨(.some 5), .none, .false, (.mv (.tmp 1))⟩, ⟨(.some 6), .none, .false, (.fa 0 (.tmp 2))⟩, ⟨(.some 7), .none, .false, (.ld .false 1 (.tmp 6))⟩, ⟨(.some 8), .none, .false, (.bin .and (.tmp 5) (.tmp 7))⟩, ⟨(.some 9), .none, .false, (.fa 1 (.tmp 2))⟩, ⟨(.some 10), .none, .false, (.ld .false 1 (.tmp 9))⟩, ⟨(.some 11), .none, .false, (.bin .eql (.tmp 8) (.tmp 10))⟩, ⟨(.some 4), .none, .false, (.mv (.tmp 11))⟩]) .ret))
set_option maxRecDepth 100000 in
theorem S.ok96 : stripF Tryz.prog Tryz.f96 = some S.s96 := by kernel_rfl
set_option maxRecDepth 10000
set_option maxHeartbeats 4000000
def okQ (n : Int) (q : TCube) : Prop := (0 ≤ q.fCare ∧ q.fCare ≤ 2 ^ n.toNat - 1) ∧ andI q.fValue q.fCare = q.fValue
theorem iIsCube (n : Int) (q : TCube) (h : 1 ≤ n ∧ n ≤ 4) : Spec Tryz.prog 50 [vI n, .agg (enCube q)] (oB (bP (okQ n q))) := by
  refine Spec.walk T.mixed Tryz.func50 S.ok50 (by simp [Tryz.f50]) fun hk => ?_
  unfold S.s50
  repeat' (first|refine R.mv rfl ?_|refine R.reg ?_|refine R.nil ?_|refine R.seq ?_|refine R.nseq ?_|refine R.gRun rfl ?_|refine R.gSkip rfl ?_|refine R.ld rfl rfl rfl ?_|refine R.fa rfl rfl ?_|refine R.eql rfl rfl ?_|refine R.sub rfl rfl (by omega) ?_|refine R.pickT rfl rfl ?_|refine R.pickF rfl rfl ?_|refine R.box rfl rfl rfl ?_|refine R.and rfl rfl ?_|refine R.shl1 rfl rfl (by omega) (fun hp => ?_)|refine R.fcal (bor := false) rfl rfl (iWithin _ _ _) rfl rfl rfl ?_|refine R.gP rfl (fun hc => ?_) (fun hc => ?_))
  · refine R.ret ⟨.inr rfl, R.outB rfl rfl ?_⟩
    rw [Bool.eq_iff_iff, bP_iff, decide_eq_true_eq]
    exact ⟨fun h => ⟨hc, h⟩, fun h => h.2⟩
  · exact R.ret ⟨.inr rfl, R.outB rfl rfl (bP_false fun h => hc h.1)⟩
def inK (l : List Int) (n : Int) : Prop := (l.length : Int) = n ∧ ∀ w ∈ l, 0 ≤ w ∧ w ≤ 1
def hasQ (q : TCube) (n : Int) : Bool := decide (andI n q.fCare = q.fValue)
theorem iHas (q : TCube) (n : Int) : Spec Tryz.prog 59 [.agg (enCube q), vI n] (oB (hasQ q n)) := by
  refine Spec.walk T.mixed Tryz.func59 S.ok59 (by simp [Tryz.f59]) fun hk => ?_
  unfold S.s59
  repeat' (first|refine R.mv rfl ?_|refine R.reg ?_|refine R.nil ?_|refine R.seq ?_|refine R.nseq ?_|refine R.ld rfl rfl rfl ?_|refine R.fa rfl rfl ?_|refine R.eql rfl rfl ?_|refine R.box rfl rfl rfl ?_|refine R.and rfl rfl ?_)
  exact R.ret ⟨.inr rfl, R.outB rfl rfl rfl⟩
theorem iBits (l : List Int) (n : Int) : Spec Tryz.prog 55 [vL kI (ints l), vI n] (oB (bP (inK l n))) := by
  refine Spec.walk T.mixed Tryz.func55 S.ok55 (by simp [Tryz.f55]) fun hk => ?_
  unfold S.s55
  repeat' (first|refine R.mv rfl ?_|refine R.reg ?_|refine R.nil ?_|refine R.seq ?_|refine R.nseq ?_|refine R.gRun rfl ?_|refine R.gSkip rfl ?_|refine R.lenM rfl ?_|refine R.eql rfl rfl ?_|refine R.pickT rfl rfl ?_|refine R.pickF rfl rfl ?_|refine R.call (bor := false) rfl rfl (iBelowP _ 2 (by omega) (by omega)) rfl rfl rfl ?_|refine R.gP rfl (fun hc => ?_) (fun hc => ?_))
  all_goals refine R.ret ⟨.inr rfl, R.outB rfl rfl ?_⟩
  all_goals rw [Bool.eq_iff_iff, bP_iff]
  · rw [bP_iff]
    exact ⟨fun h => ⟨by assumption, h⟩, fun h => h.2⟩
  · exact ⟨fun h => (by cases h), fun h => absurd h.1 (by assumption)⟩
theorem iBitsT {l : List Int} {n : Int} (h : inK l n) : Spec Tryz.prog 55 [vL kI (ints l), vI n] (oB true) := by have := iBits l n; rwa [bP_iff.2 h] at this
theorem iBitsF {l : List Int} {n : Int} (h : ¬ inK l n) : Spec Tryz.prog 55 [vL kI (ints l), vI n] (oB false) := by have := iBits l n; rwa [bP_not.2 h] at this
theorem sHas (q : TCube) (n : Int) : Spec Tryz.prog 96 [.agg (enCube q), vI n] (oB (hasQ q n)) := by
  refine Spec.walk T.mixed Tryz.func96 S.ok96 (by simp [Tryz.f96]) fun hk => ?_
  unfold S.s96
  repeat' (first|refine R.mv rfl ?_|refine R.reg ?_|refine R.nil ?_|refine R.seq ?_|refine R.nseq ?_|refine R.ld rfl rfl rfl ?_|refine R.fa rfl rfl ?_|refine R.eql rfl rfl ?_|refine R.box rfl rfl rfl ?_|refine R.and rfl rfl ?_)
  exact R.ret ⟨.inr rfl, R.outB rfl rfl rfl⟩
end
end Go.Proofs.YtehkaajakapkmaaGreat
