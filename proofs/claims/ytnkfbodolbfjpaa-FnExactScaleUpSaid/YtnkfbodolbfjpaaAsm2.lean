/- Assemblies: the search for a point. -/
import Derived.Test.YtnkfbodolbfjpaaAsm1
import Derived.Test.YtnkfbodolbfjpaaY23
namespace Go.Proofs.Ytnkfbodolbfjpaa
open Go.RowKit
set_option maxRecDepth 10000
set_option maxHeartbeats 4000000
instance : DecidableEq TPoint := fun p q => decidable_of_iff (p.fX = q.fX ∧ p.fY = q.fY) ⟨fun h => pt_ext h.1 h.2, fun h => by rw [h]; exact ⟨rfl, rfl⟩⟩
theorem ltP_irrefl (p : TPoint) : ¬ ltP p p := by unfold ltP; omega
theorem ltP_trans {p q r : TPoint} (h : ltP p q) (h' : ltP q r) : ltP p r := by unfold ltP at *; omega
theorem ltP_tri {p q : TPoint} (h : ¬ ltP p q) (h' : p ≠ q) : ltP q p := by
  unfold ltP at *
  have : ¬ (p.fX = q.fX ∧ p.fY = q.fY) := fun h => h' (pt_ext h.1 h.2)
  omega
theorem at_lt {l : List TPlaced} (h : atTo l l.length) {i : Nat} : ∀ {j : Nat} {s t : TPlaced}, i < j → l[i]? = some s → l[j]? = some t → ltP s.fAt t.fAt
  | 0, _, _, hij, _, _ => by omega
  | j + 1, s, t, hij, hs, ht => by
    have hj := (List.getElem?_eq_some_iff.1 ht).1
    have h1 := (h (j + 1) t hj ht).2 (l[j]'(by omega)) (by omega) (List.getElem?_eq_getElem (by omega))
    rcases Nat.lt_or_ge i j with hlt | hge
    · exact ltP_trans (at_lt h hlt hs (List.getElem?_eq_getElem (by omega))) h1
    · obtain rfl : i = j := by omega
      rw [List.getElem?_eq_getElem (by omega)] at hs
      cases hs
      exact h1
/-- n tiles lie ahead of a point. -/
def cut (l : List TPlaced) (p : TPoint) (n : Nat) : Prop := n ≤ l.length ∧ (∀ (i : Nat) t, i < n → l[i]? = some t → ltP t.fAt p) ∧ ∀ (i : Nat) t, n ≤ i → l[i]? = some t → ¬ ltP t.fAt p
def cutN (l : List TPlaced) (p : TPoint) : Nat := (l.takeWhile fun t => decide (ltP t.fAt p)).length
theorem cut_eq {p : TPoint} : ∀ {l : List TPlaced} {n : Nat}, cut l p n → cutN l p = n
  | [], n, h => by have := h.1; simp [cutN] at this ⊢; omega
  | t :: l, 0, h => by
    have := h.2.2 0 t (Nat.le_refl _) rfl
    simp [cutN, this]
  | t :: l, n + 1, h => by
    have h1 := h.2.1 0 t (by omega) rfl
    have ih : cutN l p = n := cut_eq ⟨by have := h.1; simpa using this, fun i x hi hx => h.2.1 (i + 1) x (by omega) (by simpa using hx), fun i x hi hx => h.2.2 (i + 1) x (by omega) (by simpa using hx)⟩
    unfold cutN at ih ⊢
    simp [h1, ih]
def isAt (p : TPoint) (t : TPlaced) : Bool := decide (t.fAt = p)
def atF (l : List TPlaced) (p : TPoint) : Option TPlaced := l.find? (isAt p)
def fnd (l : List TPlaced) (p : TPoint) : Bool := (atF l p).isSome
/-- The tile at a point. -/
def tileAt (l : List TPlaced) (p : TPoint) : Int := match atF l p with | some t => t.fTile | none => -1
theorem cut_before {l : List TPlaced} {p : TPoint} {n : Nat} (hc : cut l p n) : ∀ b ∈ l.take n, isAt p b = false := fun b hb => by
  obtain ⟨i, hi, he⟩ := List.mem_take_iff_getElem.1 hb
  have := hc.2.1 i b (by omega) (by rw [← he]; exact List.getElem?_eq_getElem _)
  unfold isAt
  rw [decide_eq_false_iff_not]
  intro e
  rw [e] at this
  exact ltP_irrefl _ this
theorem atF_some {l : List TPlaced} {p : TPoint} {n : Nat} {t : TPlaced} (hc : cut l p n) (ht : l[n]? = some t) (e : t.fAt = p) : atF l p = some t := by
  obtain ⟨hn, hx⟩ := List.getElem?_eq_some_iff.1 ht
  have e2 : l = l.take n ++ t :: l.drop (n + 1) := by rw [← hx, ← List.drop_eq_getElem_cons hn, List.take_append_drop]
  unfold atF
  rw [e2, List.find?_append, List.find?_eq_none.2 (fun b hb => by simp [cut_before hc b hb])]
  simp [isAt, e]
theorem atF_none {l : List TPlaced} {p : TPoint} {n : Nat} (hs : atTo l l.length) (hc : cut l p n) (h : ∀ t, l[n]? = some t → t.fAt ≠ p) : atF l p = none := by
  unfold atF
  rw [List.find?_eq_none]
  intro b hb
  obtain ⟨i, hi⟩ := List.getElem?_of_mem hb
  simp only [isAt, decide_eq_true_eq]
  intro e
  rcases Nat.lt_trichotomy i n with h1 | h1 | h1
  · have := hc.2.1 i b h1 hi
    rw [e] at this; exact ltP_irrefl _ this
  · subst h1; exact h b hi e
  · have hl := (List.getElem?_eq_some_iff.1 hi).1
    have hn : l[n]? = some (l[n]'(by omega)) := List.getElem?_eq_getElem (by omega)
    have := at_lt hs h1 hn hi
    rw [e] at this
    exact hc.2.2 n _ (Nat.le_refl _) hn this
theorem idxAt_some {l : List TPlaced} {p : TPoint} {n : Nat} {t : TPlaced} (hc : cut l p n) (ht : l[n]? = some t) (e : t.fAt = p) : idxOf (isAt p) l = n := idxOf_some (cut_before hc) ht (by simp [isAt, e])
theorem idxAt_none {l : List TPlaced} {p : TPoint} (h : atF l p = none) : idxOf (isAt p) l = -1 := idxOf_none fun b hb => by
  unfold atF at h
  rw [List.find?_eq_none] at h
  simpa using h b hb
theorem idxAt_tile {l : List TPlaced} {p : TPoint} {n : Nat} {t : TPlaced} (h : idxOf (isAt p) l = n) (ht : l[n]? = some t) : tileAt l p = t.fTile := by
  unfold idxOf at h
  cases hf : l.findIdx? (isAt p) with
  | none => rw [hf] at h; simp only at h; omega
  | some i =>
    rw [hf] at h
    have : i = n := by simp only at h; omega
    subst this
    rw [List.findIdx?_eq_some_iff_getElem] at hf
    obtain ⟨h1, h2, h3⟩ := hf
    rw [List.getElem?_eq_getElem h1] at ht
    cases ht
    have : atF l p = some l[i] := by
      unfold atF
      rw [List.find?_eq_some_iff_getElem]
      exact ⟨h2, i, h1, rfl, fun j hj => by simpa using h3 j hj⟩
    unfold tileAt
    rw [this]
theorem idxAt_neg {l : List TPlaced} {p : TPoint} (h : idxOf (isAt p) l < 0) : tileAt l p = -1 := by
  unfold idxOf at h
  cases hf : l.findIdx? (isAt p) with
  | some i => rw [hf] at h; simp at h; omega
  | none =>
    rw [List.findIdx?_eq_none_iff] at hf
    have : atF l p = none := by
      unfold atF
      rw [List.find?_eq_none]
      intro b hb
      simp [hf b hb]
    unfold tileAt
    rw [this]
theorem idxAt_lt {l : List TPlaced} {p : TPoint} (h : ¬ idxOf (isAt p) l < 0) : ∃ n : Nat, idxOf (isAt p) l = n ∧ n < l.length := by
  unfold idxOf at h ⊢
  cases hf : l.findIdx? (isAt p) with
  | none => rw [hf] at h; simp at h
  | some i =>
    rw [List.findIdx?_eq_some_iff_getElem] at hf
    exact ⟨i, rfl, hf.1⟩
theorem cut_up {l : List TPlaced} {p : TPoint} {m : Nat} {a : TPlaced} (hs : atTo l l.length) (ha : l[m]? = some a) (hc : ltP a.fAt p) : ∀ (i : Nat) t, i < m + 1 → l[i]? = some t → ltP t.fAt p := fun i t hi ht => by
  rcases Nat.lt_or_ge i m with h | h
  · exact ltP_trans (at_lt hs h ht ha) hc
  · obtain rfl : i = m := by omega
    rw [ha] at ht; cases ht; exact hc
theorem cut_down {l : List TPlaced} {p : TPoint} {m : Nat} {a : TPlaced} (hs : atTo l l.length) (ha : l[m]? = some a) (hc : ¬ ltP a.fAt p) : ∀ (i : Nat) t, m ≤ i → l[i]? = some t → ¬ ltP t.fAt p := fun i t hi ht h => by
  rcases Nat.lt_or_ge m i with h' | h'
  · exact hc (ltP_trans (at_lt hs h' ha ht) h)
  · obtain rfl : i = m := by omega
    rw [ha] at ht; cases ht; exact hc h
theorem eqPt {p q : TPoint} : eqVs [.int .i64 p.fX, .int .i64 p.fY] [.int .i64 q.fX, .int .i64 q.fY] = decide (p = q) := by
  rw [Bool.eq_iff_iff]
  simp only [eqVs, eqV, Bool.and_eq_true, decide_eq_true_eq, Bool.and_true]
  exact ⟨fun h => pt_ext h.1 h.2, fun h => by rw [h]; exact ⟨rfl, rfl⟩⟩
abbrev inv2 (l : List TPlaced) (p : TPoint) (g : Nat × Nat) : Prop := g.1 ≤ g.2 ∧ g.2 ≤ l.length ∧ (∀ (i : Nat) t, i < g.1 → l[i]? = some t → ltP t.fAt p) ∧ ∀ (i : Nat) t, g.2 ≤ i → l[i]? = some t → ¬ ltP t.fAt p
theorem inv2_0 {l : List TPlaced} {p : TPoint} : inv2 l p (0, l.length) := ⟨by simp, by simp, fun i t h => by simp at h, fun i t h ht => by have := (List.getElem?_eq_some_iff.1 ht).1; simp at h; omega⟩
/-- A comparison of an element with what is looked for. -/
theorem fnd_tile {l : List TPlaced} {p : TPoint} (hs : atTo l l.length) {n : Nat} (hc : cut l p n) (h : fnd l p = true) : ∃ t, l[n]? = some t ∧ tileAt l p = t.fTile ∧ t.fAt = p := by
  unfold fnd at h
  cases hn : l[n]? with
  | none =>
    rw [atF_none hs hc fun t ht => by rw [hn] at ht; cases ht] at h
    cases h
  | some t =>
    by_cases e : t.fAt = p
    · exact ⟨t, rfl, by unfold tileAt; rw [atF_some hc hn e], e⟩
    · rw [atF_none hs hc fun t' ht => by rw [hn] at ht; cases ht; exact e] at h
      cases h
theorem fnd_no {l : List TPlaced} {p : TPoint} (h : fnd l p = false) : tileAt l p = -1 := by
  unfold fnd at h
  unfold tileAt
  cases hf : atF l p with
  | none => rfl
  | some t => rw [hf] at h; cases h
theorem cut_cutN {l : List TPlaced} {p : TPoint} (hs : atTo l l.length) : cut l p (cutN l p) := by
  have hc : ∀ (m : Nat), m ≤ l.length → (∀ (i : Nat) t, i < m → l[i]? = some t → ltP t.fAt p) → cut l p (cutN l p) := fun m hm h => by
    induction hk : l.length - m generalizing m with
    | zero =>
      have hc : cut l p m := ⟨hm, h, fun i t hi ht => by have := (List.getElem?_eq_some_iff.1 ht).1; omega⟩
      rw [cut_eq hc]; exact hc
    | succ k ih =>
      by_cases hlt : ltP (l[m]'(by omega)).fAt p
      · exact ih (m + 1) (by omega) (cut_up hs (List.getElem?_eq_getElem (by omega)) hlt) (by omega)
      · have hc : cut l p m := ⟨hm, h, cut_down hs (List.getElem?_eq_getElem (by omega)) hlt⟩
        rw [cut_eq hc]; exact hc
  exact hc 0 (by omega) fun i t h => by omega
end Go.Proofs.Ytnkfbodolbfjpaa
