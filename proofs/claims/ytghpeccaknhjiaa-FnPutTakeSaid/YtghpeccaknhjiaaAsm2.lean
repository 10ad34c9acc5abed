/- Assemblies: the search for a point. -/
import Derived.Test.YtghpeccaknhjiaaAsm1
import Derived.Test.YtghpeccaknhjiaaY23
namespace Go.Proofs.Ytghpeccaknhjiaa
open Go.RowKit
set_option maxRecDepth 100000 in
def S.s26 : SC := (.seq (.reg [⟨(.some 3), .none, .false, (.box 34 (.tmp 1))⟩, ⟨(.some 4), .none, .false, (.mv (.const (Go.Value.int Go.IntKind.i64 0)))⟩]) (.seq (.reg [⟨(.some 5), .none, .false, (.mv (.const (Go.Value.int Go.IntKind.i64 0)))⟩]) (.seq (.reg [⟨(.some 8), .none, .false, (.mv (.tmp 0))⟩, ⟨(.some 9), .none, .false, (.nc (.tmp 8))⟩, ⟨(.some 10), .none, .false, (.fa 0 (.tmp 9))⟩, ⟨(.some 11), .none, .false, (.ld .false 1 (.tmp 10))⟩, ⟨(.some 12), .none, .false, (.len (.tmp 11))⟩, ⟨(.some 6), .none, .false, (.mv (.tmp 12))⟩]) (.seq (.block 0 (.loop (.seq (.seq (.reg [⟨(.some 13), .none, .false, (.mv (.tmp 5))⟩, ⟨(.some 14), .none, .false, (.mv (.tmp 6))⟩, ⟨(.some 15), .none, .false, (.bin .lss (.tmp 13) (.tmp 14))⟩]) (.cond (.tmp 15) .skip (.exit 0))) (.block 1 (.seq (.reg [⟨(.some 16), .none, .false, (.mv (.tmp 5))⟩, ⟨(.some 17), .none, .false, (.mv (.tmp 6))⟩, ⟨(.some 18), .none, .false, (.bin .add (.tmp 16) (.tmp 17))⟩, ⟨(.some 19), .none, .false, (.bin .quo (.tmp 18) (.const (Go.Value.int Go.IntKind.i64 2)))⟩, ⟨(.some 7), .none, .false, (.mv (.tmp 19))⟩]) (.seq (.reg [⟨(.some 20), .none, .true, (.mv (.tmp 0))⟩, ⟨(.some 21), .none, .true, (.nc (.tmp 20))⟩, ⟨(.some 22), .none, .true, (.fa 0 (.tmp 21))⟩, ⟨(.some 23), .none, .true, (.ld .false 1 (.tmp 22))⟩, ⟨(.some 24), .none, .true, (.mv (.tmp 7))⟩, ⟨(.some 25), .none, .true, (.ix (.mk 50 3) (.tmp 23) (.tmp 24))⟩, ⟨(.some 26), .none, .true, (.fa 0 (.tmp 25))⟩, ⟨(.some 27), .none, .true, (.ld .true 2 (.tmp 26))⟩, ⟨(.some 28), .none, .true, (.ld .true 2 (.tmp 3))⟩, ⟨(.some 29), .none, .false, (.call (.func 48) [(.tmp 27), (.tmp 28)])⟩]) (.cond (.tmp 29) (.reg [⟨(.some 30), .none, .false, (.mv (.tmp 7))⟩, ⟨(.some 31), .none, .false, (.bin .add (.tmp 30) (.const (Go.Value.int Go.IntKind.i64 1)))⟩, ⟨(.some 5), .none, .false, (.mv (.tmp 31))⟩]) (.reg [⟨(.some 32), .none, .false, (.mv (.tmp 7))⟩, ⟨(.some 6), .none, .false, (.mv (.tmp 32))⟩])))))))) (.seq (.seq (.reg [⟨(.some 33), .none, .true, (.mv (.tmp 5))⟩, ⟨(.some 34), .none, .true, (.mv (.tmp 0))⟩, ⟨(.some 35), .none, .true, (.nc (.tmp 34))⟩, ⟨(.some 36), .none, .true, (.fa 0 (.tmp 35))⟩, ⟨(.some 37), .none, .true, (.ld .false 1 (.tmp 36))⟩, ⟨(.some 38), .none, .true, (.len (.tmp 37))⟩, ⟨(.some 39), .none, .true, (.bin .lss (.tmp 33) (.tmp 38))⟩, ⟨(.some 40), .none, .true, (.mv (.tmp 39))⟩, ⟨(.some 41), (.some (40, .true)), .true, (.mv (.tmp 0))⟩, ⟨(.some 42), (.some (40, .true)), .true, (.nc (.tmp 41))⟩, ⟨(.some 43), (.some (40, .true)), .true, (.fa 0 (.tmp 42))⟩, ⟨(.some 44), (.some (40, .true)), .true, (.ld .false 1 (.tmp 43))⟩, ⟨(.some 45), (.some (40, .true)), .true, (.mv (.tmp 5))⟩, ⟨(.some 46), (.some (40, .true)), .true, (.ix (.mk 50 3) (.tmp 44) (.tmp 45))⟩, ⟨(.some 47), (.some (40, .true)), .true, (.fa 0 (.tmp 46))⟩, ⟨(.some 48), (.some (40, .true)), .true, (.ld .true 2 (.tmp 47))⟩, ⟨(.some 49), (.some (40, .true)), .true, (.ld .true 2 (.tmp 3))⟩, ⟨(.some 50), (.some (40, .true)), .true, (.eqs .false [(.i .i64), (.i .i64)] (.tmp 48) (.tmp 49))⟩, ⟨(.some 51), .none, .true, (.pick (.tmp 40) (.tmp 50) (.const (Go.Value.bool false)))⟩]) (.cond (.tmp 51) (.seq (.reg [⟨(.some 52), .none, .false, (.mv (.tmp 5))⟩, ⟨(.some 4), .none, .false, (.mv (.tmp 52))⟩]) .ret) .skip)) (.seq (.reg [⟨(.some 4), .none, .false, (.mv (.const (Go.Value.int Go.IntKind.i64 (-1))))⟩]) .ret))))))
set_option maxRecDepth 100000 in
theorem S.ok26 : stripF Try.prog Try.f26 = some S.s26 := by kernel_rfl
set_option maxRecDepth 100000 in
def S.s32 : SC := (.seq (.reg [⟨(.some 2), .none, .false, (.box 30 (.tmp 0))⟩, ⟨(.some 3), .none, .false, (.box 34 (.tmp 1))⟩, ⟨(.some 4), .none, .false, (.mv (.const (Go.Value.int Go.IntKind.i64 0)))⟩]) (.seq (.seq (.reg [⟨(.some 8), .none, .false, (.fa 0 (.tmp 2))⟩, ⟨(.some 9), .none, .false, (.ld .false 1 (.tmp 8))⟩, ⟨(.some 10), .none, .false, (.ld .true 2 (.tmp 3))⟩, ⟨(.some 11), .none, .false, (.call (.func 52) [(.tmp 9), (.tmp 10), (.func 53)])⟩, ⟨(.some 7), .none, .false, (.mv (.tmp 11))⟩, ⟨(.some 12), .none, .false, (.ext (.tmp 7) 0)⟩, ⟨(.some 13), .none, .false, (.ext (.tmp 7) 1)⟩, ⟨(.some 5), .none, .false, (.mv (.tmp 12))⟩, ⟨(.some 6), .none, .false, (.mv (.tmp 13))⟩]) (.seq (.reg [⟨(.some 14), .none, .false, (.mv (.tmp 6))⟩]) (.cond (.tmp 14) (.seq (.reg [⟨(.some 15), .none, .false, (.fa 0 (.tmp 2))⟩, ⟨(.some 16), .none, .false, (.ld .false 1 (.tmp 15))⟩, ⟨(.some 17), .none, .false, (.mv (.tmp 5))⟩, ⟨(.some 18), .none, .false, (.ix (.mk 50 3) (.tmp 16) (.tmp 17))⟩, ⟨(.some 19), .none, .false, (.fa 2 (.tmp 18))⟩, ⟨(.some 20), .none, .false, (.ld .false 1 (.tmp 19))⟩, ⟨(.some 4), .none, .false, (.mv (.tmp 20))⟩]) .ret) .skip))) (.seq (.reg [⟨(.some 4), .none, .false, (.mv (.const (Go.Value.int Go.IntKind.i64 (-1))))⟩]) .ret)))
set_option maxRecDepth 100000 in
theorem S.ok32 : stripF Try.prog Try.f32 = some S.s32 := by kernel_rfl
set_option maxRecDepth 100000 in
def S.s52 : SC := (.seq (.reg [⟨(.some 4), .none, .false, (.box 34 (.tmp 1))⟩, ⟨(.some 6), .none, .false, (.mv (.const (Go.Value.int Go.IntKind.i64 0)))⟩, ⟨(.some 7), .none, .false, (.mv (.const (Go.Value.bool false)))⟩]) (.seq (.reg [⟨(.some 12), .none, .false, (.mv (.tmp 0))⟩, ⟨(.some 13), .none, .false, (.len (.tmp 12))⟩, ⟨(.some 8), .none, .false, (.mv (.tmp 13))⟩]) (.seq (.reg [⟨(.some 14), .none, .false, (.mv (.tmp 8))⟩, ⟨(.some 9), .none, .false, (.mv (.const (Go.Value.int Go.IntKind.i64 0)))⟩, ⟨(.some 10), .none, .false, (.mv (.tmp 14))⟩]) (.seq (.block 0 (.loop (.seq (.seq (.reg [⟨(.some 15), .none, .false, (.mv (.tmp 9))⟩, ⟨(.some 16), .none, .false, (.mv (.tmp 10))⟩, ⟨(.some 17), .none, .false, (.bin .lss (.tmp 15) (.tmp 16))⟩]) (.cond (.tmp 17) .skip (.exit 0))) (.block 1 (.seq (.reg [⟨(.some 18), .none, .false, (.mv (.tmp 9))⟩, ⟨(.some 19), .none, .false, (.mv (.tmp 10))⟩, ⟨(.some 20), .none, .false, (.bin .add (.tmp 18) (.tmp 19))⟩, ⟨(.some 21), .none, .false, (.cv .u64 (.tmp 20))⟩, ⟨(.some 22), .none, .false, (.bin .shr (.tmp 21) (.const (Go.Value.int Go.IntKind.u64 1)))⟩, ⟨(.some 23), .none, .false, (.cv .i64 (.tmp 22))⟩, ⟨(.some 11), .none, .false, (.mv (.tmp 23))⟩]) (.seq (.reg [⟨(.some 24), .none, .true, (.mv (.tmp 2))⟩, ⟨(.some 25), .none, .true, (.mv (.tmp 0))⟩, ⟨(.some 26), .none, .true, (.mv (.tmp 11))⟩, ⟨(.some 27), .none, .true, (.ix (.mk 50 3) (.tmp 25) (.tmp 26))⟩, ⟨(.some 28), .none, .true, (.ld .true 3 (.tmp 27))⟩, ⟨(.some 29), .none, .true, (.ld .true 2 (.tmp 4))⟩, ⟨(.some 30), .none, .false, (.call (.tmp 24) [(.tmp 28), (.tmp 29)])⟩, ⟨(.some 31), .none, .false, (.bin .lss (.tmp 30) (.const (Go.Value.int Go.IntKind.i64 0)))⟩]) (.cond (.tmp 31) (.reg [⟨(.some 32), .none, .false, (.mv (.tmp 11))⟩, ⟨(.some 33), .none, .false, (.bin .add (.tmp 32) (.const (Go.Value.int Go.IntKind.i64 1)))⟩, ⟨(.some 9), .none, .false, (.mv (.tmp 33))⟩]) (.reg [⟨(.some 34), .none, .false, (.mv (.tmp 11))⟩, ⟨(.some 10), .none, .false, (.mv (.tmp 34))⟩])))))))) (.seq (.reg [⟨(.some 35), .none, .true, (.mv (.tmp 9))⟩, ⟨(.some 36), .none, .true, (.mv (.tmp 9))⟩, ⟨(.some 37), .none, .true, (.mv (.tmp 8))⟩, ⟨(.some 38), .none, .true, (.bin .lss (.tmp 36) (.tmp 37))⟩, ⟨(.some 39), .none, .true, (.mv (.tmp 38))⟩, ⟨(.some 40), (.some (39, .true)), .true, (.mv (.tmp 2))⟩, ⟨(.some 41), (.some (39, .true)), .true, (.mv (.tmp 0))⟩, ⟨(.some 42), (.some (39, .true)), .true, (.mv (.tmp 9))⟩, ⟨(.some 43), (.some (39, .true)), .true, (.ix (.mk 50 3) (.tmp 41) (.tmp 42))⟩, ⟨(.some 44), (.some (39, .true)), .true, (.ld .true 3 (.tmp 43))⟩, ⟨(.some 45), (.some (39, .true)), .true, (.ld .true 2 (.tmp 4))⟩, ⟨(.some 46), (.some (39, .true)), .true, (.fcal (.tmp 40) [(.tmp 44), (.tmp 45)])⟩, ⟨(.some 47), (.some (39, .true)), .true, (.bin .eql (.tmp 46) (.const (Go.Value.int Go.IntKind.i64 0)))⟩, ⟨(.some 48), .none, .true, (.pick (.tmp 39) (.tmp 47) (.const (Go.Value.bool false)))⟩, ⟨(.some 6), .none, .true, (.mv (.tmp 35))⟩, ⟨(.some 7), .none, .true, (.mv (.tmp 48))⟩]) .ret)))))
set_option maxRecDepth 100000 in
theorem S.ok52 : stripF Try.prog Try.f52 = some S.s52 := by kernel_rfl
set_option maxRecDepth 100000 in
def S.s53 : SC := (.seq (.reg [⟨(.some 2), .none, .false, (.box 50 (.tmp 0))⟩, ⟨(.some 3), .none, .false, (.box 34 (.tmp 1))⟩, ⟨(.some 4), .none, .false, (.mv (.const (Go.Value.int Go.IntKind.i64 0)))⟩]) (.seq (.reg [⟨(.some 5), .none, .false, (.fa 0 (.tmp 2))⟩, ⟨(.some 6), .none, .false, (.ld .true 2 (.tmp 5))⟩, ⟨(.some 7), .none, .false, (.ld .true 2 (.tmp 3))⟩, ⟨(.some 8), .none, .false, (.call (.func 66) [(.tmp 6), (.tmp 7)])⟩, ⟨(.some 4), .none, .false, (.mv (.tmp 8))⟩]) .ret))
set_option maxRecDepth 100000 in
theorem S.ok53 : stripF Try.prog Try.f53 = some S.s53 := by kernel_rfl
set_option maxRecDepth 10000
set_option maxHeartbeats 4000000
instance : DecidableEq TPoint := fun p q => decidable_of_iff (p.fX = q.fX ∧ p.fY = q.fY) ⟨fun h => pt_ext h.1 h.2, fun h => by rw [h]; exact ⟨rfl, rfl⟩⟩
theorem ltP_irrefl (p : TPoint) : ¬ ltP p p := by unfold ltP; omega
theorem ltP_trans {p q r : TPoint} (h : ltP p q) (h' : ltP q r) : ltP p r := by unfold ltP at *; omega
theorem ltP_tri {p q : TPoint} (h : ¬ ltP p q) (h' : p ≠ q) : ltP q p := by
  unfold ltP at *
  have : ¬ (p.fX = q.fX ∧ p.fY = q.fY) := fun h => h' (pt_ext h.1 h.2)
  omega
theorem at_lt {l : List TPlaced} (h : atTo l l.length) {i : Nat} : ∀ {j : Nat} {s t : TPlaced}, i < j → l[i]? = some s → l[j]? = some t → ltP s.fAt t.fAt
  | 0, _, _, hij, _, _ => by omega
  | j + 1, s, t, hij, hs, ht => by
    have hj := (List.getElem?_eq_some_iff.1 ht).1
    have h1 := (h (j + 1) t hj ht).2 (l[j]'(by omega)) (by omega) (List.getElem?_eq_getElem (by omega))
    rcases Nat.lt_or_ge i j with hlt | hge
    · exact ltP_trans (at_lt h hlt hs (List.getElem?_eq_getElem (by omega))) h1
    · obtain rfl : i = j := by omega
      rw [List.getElem?_eq_getElem (by omega)] at hs
      cases hs
      exact h1
/-- n tiles lie ahead of a point. -/
def cut (l : List TPlaced) (p : TPoint) (n : Nat) : Prop := n ≤ l.length ∧ (∀ (i : Nat) t, i < n → l[i]? = some t → ltP t.fAt p) ∧ ∀ (i : Nat) t, n ≤ i → l[i]? = some t → ¬ ltP t.fAt p
def cutN (l : List TPlaced) (p : TPoint) : Nat := (l.takeWhile fun t => decide (ltP t.fAt p)).length
theorem cut_eq {p : TPoint} : ∀ {l : List TPlaced} {n : Nat}, cut l p n → cutN l p = n
  | [], n, h => by have := h.1; simp [cutN] at this ⊢; omega
  | t :: l, 0, h => by
    have := h.2.2 0 t (Nat.le_refl _) rfl
    simp [cutN, this]
  | t :: l, n + 1, h => by
    have h1 := h.2.1 0 t (by omega) rfl
    have ih : cutN l p = n := cut_eq ⟨by have := h.1; simpa using this, fun i x hi hx => h.2.1 (i + 1) x (by omega) (by simpa using hx), fun i x hi hx => h.2.2 (i + 1) x (by omega) (by simpa using hx)⟩
    unfold cutN at ih ⊢
    simp [h1, ih]
def isAt (p : TPoint) (t : TPlaced) : Bool := decide (t.fAt = p)
def atF (l : List TPlaced) (p : TPoint) : Option TPlaced := l.find? (isAt p)
def fnd (l : List TPlaced) (p : TPoint) : Bool := (atF l p).isSome
/-- The tile at a point. -/
def tileAt (l : List TPlaced) (p : TPoint) : Int := match atF l p with | some t => t.fTile | none => -1
theorem cut_before {l : List TPlaced} {p : TPoint} {n : Nat} (hc : cut l p n) : ∀ b ∈ l.take n, isAt p b = false := fun b hb => by
  obtain ⟨i, hi, he⟩ := List.mem_take_iff_getElem.1 hb
  have := hc.2.1 i b (by omega) (by rw [← he]; exact List.getElem?_eq_getElem _)
  unfold isAt
  rw [decide_eq_false_iff_not]
  intro e
  rw [e] at this
  exact ltP_irrefl _ this
theorem atF_some {l : List TPlaced} {p : TPoint} {n : Nat} {t : TPlaced} (hc : cut l p n) (ht : l[n]? = some t) (e : t.fAt = p) : atF l p = some t := by
  obtain ⟨hn, hx⟩ := List.getElem?_eq_some_iff.1 ht
  have e2 : l = l.take n ++ t :: l.drop (n + 1) := by rw [← hx, ← List.drop_eq_getElem_cons hn, List.take_append_drop]
  unfold atF
  rw [e2, List.find?_append, List.find?_eq_none.2 (fun b hb => by simp [cut_before hc b hb])]
  simp [isAt, e]
theorem atF_none {l : List TPlaced} {p : TPoint} {n : Nat} (hs : atTo l l.length) (hc : cut l p n) (h : ∀ t, l[n]? = some t → t.fAt ≠ p) : atF l p = none := by
  unfold atF
  rw [List.find?_eq_none]
  intro b hb
  obtain ⟨i, hi⟩ := List.getElem?_of_mem hb
  simp only [isAt, decide_eq_true_eq]
  intro e
  rcases Nat.lt_trichotomy i n with h1 | h1 | h1
  · have := hc.2.1 i b h1 hi
    rw [e] at this; exact ltP_irrefl _ this
  · subst h1; exact h b hi e
  · have hl := (List.getElem?_eq_some_iff.1 hi).1
    have hn : l[n]? = some (l[n]'(by omega)) := List.getElem?_eq_getElem (by omega)
    have := at_lt hs h1 hn hi
    rw [e] at this
    exact hc.2.2 n _ (Nat.le_refl _) hn this
theorem idxAt_some {l : List TPlaced} {p : TPoint} {n : Nat} {t : TPlaced} (hc : cut l p n) (ht : l[n]? = some t) (e : t.fAt = p) : idxOf (isAt p) l = n := idxOf_some (cut_before hc) ht (by simp [isAt, e])
theorem idxAt_none {l : List TPlaced} {p : TPoint} (h : atF l p = none) : idxOf (isAt p) l = -1 := idxOf_none fun b hb => by
  unfold atF at h
  rw [List.find?_eq_none] at h
  simpa using h b hb
theorem idxAt_tile {l : List TPlaced} {p : TPoint} {n : Nat} {t : TPlaced} (h : idxOf (isAt p) l = n) (ht : l[n]? = some t) : tileAt l p = t.fTile := by
  unfold idxOf at h
  cases hf : l.findIdx? (isAt p) with
  | none => rw [hf] at h; simp only at h; omega
  | some i =>
    rw [hf] at h
    have : i = n := by simp only at h; omega
    subst this
    rw [List.findIdx?_eq_some_iff_getElem] at hf
    obtain ⟨h1, h2, h3⟩ := hf
    rw [List.getElem?_eq_getElem h1] at ht
    cases ht
    have : atF l p = some l[i] := by
      unfold atF
      rw [List.find?_eq_some_iff_getElem]
      exact ⟨h2, i, h1, rfl, fun j hj => by simpa using h3 j hj⟩
    unfold tileAt
    rw [this]
theorem idxAt_neg {l : List TPlaced} {p : TPoint} (h : idxOf (isAt p) l < 0) : tileAt l p = -1 := by
  unfold idxOf at h
  cases hf : l.findIdx? (isAt p) with
  | some i => rw [hf] at h; simp at h; omega
  | none =>
    rw [List.findIdx?_eq_none_iff] at hf
    have : atF l p = none := by
      unfold atF
      rw [List.find?_eq_none]
      intro b hb
      simp [hf b hb]
    unfold tileAt
    rw [this]
theorem idxAt_lt {l : List TPlaced} {p : TPoint} (h : ¬ idxOf (isAt p) l < 0) : ∃ n : Nat, idxOf (isAt p) l = n ∧ n < l.length := by
  unfold idxOf at h ⊢
  cases hf : l.findIdx? (isAt p) with
  | none => rw [hf] at h; simp at h
  | some i =>
    rw [List.findIdx?_eq_some_iff_getElem] at hf
    exact ⟨i, rfl, hf.1⟩
theorem cut_up {l : List TPlaced} {p : TPoint} {m : Nat} {a : TPlaced} (hs : atTo l l.length) (ha : l[m]? = some a) (hc : ltP a.fAt p) : ∀ (i : Nat) t, i < m + 1 → l[i]? = some t → ltP t.fAt p := fun i t hi ht => by
  rcases Nat.lt_or_ge i m with h | h
  · exact ltP_trans (at_lt hs h ht ha) hc
  · obtain rfl : i = m := by omega
    rw [ha] at ht; cases ht; exact hc
theorem cut_down {l : List TPlaced} {p : TPoint} {m : Nat} {a : TPlaced} (hs : atTo l l.length) (ha : l[m]? = some a) (hc : ¬ ltP a.fAt p) : ∀ (i : Nat) t, m ≤ i → l[i]? = some t → ¬ ltP t.fAt p := fun i t hi ht h => by
  rcases Nat.lt_or_ge m i with h' | h'
  · exact hc (ltP_trans (at_lt hs h' ha ht) h)
  · obtain rfl : i = m := by omega
    rw [ha] at ht; cases ht; exact hc h
theorem eqPt {p q : TPoint} : eqVs [.int .i64 p.fX, .int .i64 p.fY] [.int .i64 q.fX, .int .i64 q.fY] = decide (p = q) := by
  rw [Bool.eq_iff_iff]
  simp only [eqVs, eqV, Bool.and_eq_true, decide_eq_true_eq, Bool.and_true]
  exact ⟨fun h => pt_ext h.1 h.2, fun h => by rw [h]; exact ⟨rfl, rfl⟩⟩
abbrev inv2 (l : List TPlaced) (p : TPoint) (g : Nat × Nat) : Prop := g.1 ≤ g.2 ∧ g.2 ≤ l.length ∧ (∀ (i : Nat) t, i < g.1 → l[i]? = some t → ltP t.fAt p) ∧ ∀ (i : Nat) t, g.2 ≤ i → l[i]? = some t → ¬ ltP t.fAt p
theorem inv2_0 {l : List TPlaced} {p : TPoint} : inv2 l p (0, l.length) := ⟨by simp, by simp, fun i t h => by simp at h, fun i t h ht => by have := (List.getElem?_eq_some_iff.1 ht).1; simp at h; omega⟩
theorem sIndexAt (A : TAssembly) (p : TPoint) (hs : okA A.fTiles) : Spec Try.prog 26 [vP (enAssembly A), .agg (enPoint p)] (oI (idxOf (isAt p) A.fTiles)) := by
  refine Spec.walk T.mixed Try.func26 S.ok26 (by simp [Try.f26]) fun hk => ?_
  have hlen := hs.1
  unfold S.s26
  repeat' (first | refine R.mv rfl ?_ | refine R.reg ?_ | refine R.nil ?_ | refine R.seq ?_ | refine R.nseq ?_ | refine R.nblk ?_ | refine R.skip ?_ | refine R.blk ?_ | refine R.exit rfl ?_ | refine R.gRun rfl ?_ | refine R.gSkip rfl ?_ | refine R.gSkip0 rfl ?_ | refine R.gUndef rfl ?_ | refine R.gUndef0 rfl ?_ | refine R.ldEp rfl rfl (by assumption) rfl rfl ?_ | refine R.ldaEp rfl rfl (by assumption) (Nat.le_of_ble_eq_true rfl) rfl rfl ?_ | refine R.ld rfl rfl rfl ?_ | refine R.lda rfl rfl (Nat.le_of_ble_eq_true rfl) rfl ?_ | refine R.fa rfl rfl ?_ | refine R.lenM rfl ?_ | refine R.lenO rfl rfl ?_ | refine R.len rfl rfl ?_ | refine R.lss rfl rfl ?_ | refine R.add rfl rfl (by omega) ?_ | refine R.ixN rfl rfl rfl (by omega) (fun a ha => ?_) | refine R.ixM rfl rfl rfl (by omega) (fun a ha => ?_) | refine R.ixON rfl rfl rfl (by first | omega | (simp; omega)) (fun a' ha' => ?_) | refine R.ixO rfl rfl rfl (by first | omega | (simp; omega)) (fun a' ha' => ?_) | refine R.pickT rfl rfl ?_ | refine R.pickF rfl rfl ?_ | refine R.nc rfl rfl ?_ | refine R.nc0 rfl rfl ?_ | refine R.box rfl rfl rfl ?_ | refine R.quo rfl rfl (by omega) ?_ | refine R.eqs rfl rfl rfl rfl rfl ?_ | refine R.neqs rfl rfl rfl rfl rfl ?_ | refine R.condT rfl ?_ | refine R.condF rfl ?_ | refine R.cond rfl (fun hc => ?_) (fun hc => ?_) | refine R.condN rfl (fun hc => ?_) (fun hc => ?_) | refine R.condB rfl (fun hc => ?_) (fun hc => ?_) | refine R.gP rfl (fun hc => ?_) (fun hc => ?_) | refine R.gN rfl (fun hc => ?_) (fun hc => ?_) | refine R.gB rfl (fun hc => ?_) (fun hc => ?_))
  refine R.loop (G := Nat × Nat) (fun g => [(0, .v (.c (.d (.rp (enAssembly A))))), (3, .v (.c (.ptr 3 0))), (5, pvA (.int .i64 g.1)), (6, pvA (.int .i64 g.2))]) (fun _ => [(3, .box 34 ((enPoint p).map B.d))]) (inv2 A.fTiles p) (fun g => g.2 - g.1) (0, A.fTiles.length) inv2_0 (Weak.frame _ _ ⟨rfl, rfl, rfl, rfl, trivial⟩ ⟨rfl, trivial⟩ rfl rfl) fun ⟨i, j⟩ hi => ?_
  obtain ⟨h1, h2, h3, h4⟩ := hi
  simp only at h1 h2 h3 h4
  repeat' (first | refine R.mv rfl ?_ | refine R.reg ?_ | refine R.nil ?_ | refine R.seq ?_ | refine R.nseq ?_ | refine R.nblk ?_ | refine R.skip ?_ | refine R.blk ?_ | refine R.exit rfl ?_ | refine R.gRun rfl ?_ | refine R.gSkip rfl ?_ | refine R.gSkip0 rfl ?_ | refine R.gUndef rfl ?_ | refine R.gUndef0 rfl ?_ | refine R.ldEp rfl rfl (by assumption) rfl rfl ?_ | refine R.ldaEp rfl rfl (by assumption) (Nat.le_of_ble_eq_true rfl) rfl rfl ?_ | refine R.ld rfl rfl rfl ?_ | refine R.lda rfl rfl (Nat.le_of_ble_eq_true rfl) rfl ?_ | refine R.fa rfl rfl ?_ | refine R.lenM rfl ?_ | refine R.lenO rfl rfl ?_ | refine R.len rfl rfl ?_ | refine R.lss rfl rfl ?_ | refine R.add rfl rfl (by omega) ?_ | refine R.ixN rfl rfl rfl (by omega) (fun a ha => ?_) | refine R.ixM rfl rfl rfl (by omega) (fun a ha => ?_) | refine R.ixON rfl rfl rfl (by first | omega | (simp; omega)) (fun a' ha' => ?_) | refine R.ixO rfl rfl rfl (by first | omega | (simp; omega)) (fun a' ha' => ?_) | refine R.pickT rfl rfl ?_ | refine R.pickF rfl rfl ?_ | refine R.nc rfl rfl ?_ | refine R.nc0 rfl rfl ?_ | refine R.box rfl rfl rfl ?_ | refine R.quo rfl rfl (by omega) ?_ | refine R.eqs rfl rfl rfl rfl rfl ?_ | refine R.neqs rfl rfl rfl rfl rfl ?_ | refine R.condT rfl ?_ | refine R.condF rfl ?_ | refine R.call (bor := false) rfl rfl (sLessPoint _ _) rfl rfl rfl ?_ | refine R.call (bor := true) rfl rfl (sLessPoint _ _) rfl rfl rfl ?_ | refine R.fcal (bor := false) rfl rfl (sLessPoint _ _) rfl rfl rfl ?_ | refine R.fcal (bor := true) rfl rfl (sLessPoint _ _) rfl rfl rfl ?_ | refine R.cond rfl (fun hc => ?_) (fun hc => ?_) | refine R.condN rfl (fun hc => ?_) (fun hc => ?_) | refine R.condB rfl (fun hc => ?_) (fun hc => ?_) | refine R.gP rfl (fun hc => ?_) (fun hc => ?_) | refine R.gN rfl (fun hc => ?_) (fun hc => ?_) | refine R.gB rfl (fun hc => ?_) (fun hc => ?_))
  · rename_i hij
    simp only at hij ha
    exact R.nloop (R.again ((((i : Int) + (j : Int)) / 2).toNat + 1, j) ⟨by simp only; omega, h2, cut_up hs.2 ha hc, h4⟩ (by simp only; omega) ⟨rfl, rfl, congrArg (fun z => pvA (.int .i64 z)) (by simp only; omega), rfl, trivial⟩ ⟨rfl, trivial⟩ rfl rfl)
  · rename_i hij
    simp only at hij ha
    exact R.nloop (R.again (i, (((i : Int) + (j : Int)) / 2).toNat) ⟨by simp only; omega, by simp only; omega, h3, cut_down hs.2 ha hc⟩ (by simp only; omega) ⟨rfl, rfl, rfl, congrArg (fun z => pvA (.int .i64 z)) (by simp only; omega), trivial⟩ ⟨rfl, trivial⟩ rfl rfl)
  · rename_i hij hil
    simp only at hij ha
    obtain rfl : i = j := by omega
    have hcut : cut A.fTiles p i := ⟨h2, h3, h4⟩
    have e : a.fAt = p := by simpa [eqPt] using hc
    exact R.ret ⟨.inr rfl, R.outI rfl rfl (idxAt_some hcut ha e).symm⟩
  · rename_i hij hil
    simp only at hij ha
    obtain rfl : i = j := by omega
    have hcut : cut A.fTiles p i := ⟨h2, h3, h4⟩
    have e : a.fAt ≠ p := by simpa [eqPt] using hc
    exact R.ret ⟨.inr rfl, R.outI rfl rfl (idxAt_none (atF_none hs.2 hcut fun t ht => by rw [ha] at ht; cases ht; exact e)).symm⟩
  · rename_i hij
    simp only at hij hc
    obtain rfl : i = j := by omega
    have hcut : cut A.fTiles p i := ⟨h2, h3, h4⟩
    exact R.ret ⟨.inr rfl, R.outI rfl rfl (idxAt_none (atF_none hs.2 hcut fun t ht => by have := (List.getElem?_eq_some_iff.1 ht).1; omega)).symm⟩
/-- A comparison of an element with what is looked for. -/
theorem lib_search {l : List TPlaced} {p : TPoint} {g : FuncId} (hs : atTo l l.length) (hl : l.length ≤ 1048576) (hg : ∀ t ∈ l, Spec Try.prog g [.agg (enPlaced t), .agg (enPoint p)] (oI (cmpP t.fAt p))) : Spec Try.prog 52 [vL kPlaced (l.map enPlaced), .agg (enPoint p), .c (.fn g [])] (.tup [cI (cutN l p), cB1 (fnd l p)]) := by
  refine Spec.walk T.mixed Try.func52 S.ok52 (by simp [Try.f52]) fun hk => ?_
  unfold S.s52
  repeat' (first | refine R.mv rfl ?_ | refine R.reg ?_ | refine R.nil ?_ | refine R.seq ?_ | refine R.nseq ?_ | refine R.nblk ?_ | refine R.skip ?_ | refine R.blk ?_ | refine R.exit rfl ?_ | refine R.gRun rfl ?_ | refine R.gSkip rfl ?_ | refine R.gSkip0 rfl ?_ | refine R.gUndef rfl ?_ | refine R.gUndef0 rfl ?_ | refine R.ldEp rfl rfl (by assumption) rfl rfl ?_ | refine R.ldaEp rfl rfl (by assumption) (Nat.le_of_ble_eq_true rfl) rfl rfl ?_ | refine R.ld rfl rfl rfl ?_ | refine R.lda rfl rfl (Nat.le_of_ble_eq_true rfl) rfl ?_ | refine R.lenM rfl ?_ | refine R.lenO rfl rfl ?_ | refine R.len rfl rfl ?_ | refine R.lss rfl rfl ?_ | refine R.eql rfl rfl ?_ | refine R.add rfl rfl (by omega) ?_ | refine R.ixN rfl rfl rfl (by omega) (fun a ha => ?_) | refine R.ixM rfl rfl rfl (by omega) (fun a ha => ?_) | refine R.ixON rfl rfl rfl (by first | omega | (simp; omega)) (fun a' ha' => ?_) | refine R.ixO rfl rfl rfl (by first | omega | (simp; omega)) (fun a' ha' => ?_) | refine R.cv64 rfl (by omega) ?_ | refine R.pickT rfl rfl ?_ | refine R.pickF rfl rfl ?_ | refine R.box rfl rfl rfl ?_ | refine R.shr rfl rfl (by omega) ?_ | refine R.shrU1 rfl rfl ?_ | refine R.shrU rfl rfl (by omega) ?_ | refine R.cvU rfl (by omega) ?_ | refine R.condT rfl ?_ | refine R.condF rfl ?_ | refine R.cond rfl (fun hc => ?_) (fun hc => ?_) | refine R.condN rfl (fun hc => ?_) (fun hc => ?_) | refine R.condB rfl (fun hc => ?_) (fun hc => ?_) | refine R.gP rfl (fun hc => ?_) (fun hc => ?_) | refine R.gN rfl (fun hc => ?_) (fun hc => ?_) | refine R.gB rfl (fun hc => ?_) (fun hc => ?_))
  refine R.loop (G := Nat × Nat) (fun g' => [(0, rdA kPlaced (l.map enPlaced)), (2, .v (.c (.d (.fn g [])))), (4, .v (.c (.ptr 4 0))), (8, pvA (.int .i64 l.length)), (9, pvA (.int .i64 g'.1)), (10, pvA (.int .i64 g'.2))]) (fun _ => [(4, .box 34 ((enPoint p).map B.d))]) (inv2 l p) (fun g => g.2 - g.1) (0, l.length) inv2_0 (Weak.frame _ _ ⟨rfl, rfl, rfl, rfl, rfl, rfl, trivial⟩ ⟨rfl, trivial⟩ rfl rfl) fun ⟨i, j⟩ hi => ?_
  obtain ⟨h1, h2, h3, h4⟩ := hi
  simp only at h1 h2 h3 h4
  repeat' (first | refine R.mv rfl ?_ | refine R.reg ?_ | refine R.nil ?_ | refine R.seq ?_ | refine R.nseq ?_ | refine R.nblk ?_ | refine R.skip ?_ | refine R.blk ?_ | refine R.exit rfl ?_ | refine R.gRun rfl ?_ | refine R.gSkip rfl ?_ | refine R.gSkip0 rfl ?_ | refine R.gUndef rfl ?_ | refine R.gUndef0 rfl ?_ | refine R.ldEp rfl rfl (by assumption) rfl rfl ?_ | refine R.ldaEp rfl rfl (by assumption) (Nat.le_of_ble_eq_true rfl) rfl rfl ?_ | refine R.ld rfl rfl rfl ?_ | refine R.lda rfl rfl (Nat.le_of_ble_eq_true rfl) rfl ?_ | refine R.lenM rfl ?_ | refine R.lenO rfl rfl ?_ | refine R.len rfl rfl ?_ | refine R.lss rfl rfl ?_ | refine R.eql rfl rfl ?_ | refine R.add rfl rfl (by omega) ?_ | refine R.ixN rfl rfl rfl (by omega) (fun a ha => ?_) | refine R.ixM rfl rfl rfl (by omega) (fun a ha => ?_) | refine R.ixON rfl rfl rfl (by first | omega | (simp; omega)) (fun a' ha' => ?_) | refine R.ixO rfl rfl rfl (by first | omega | (simp; omega)) (fun a' ha' => ?_) | refine R.cv64 rfl (by omega) ?_ | refine R.pickT rfl rfl ?_ | refine R.pickF rfl rfl ?_ | refine R.box rfl rfl rfl ?_ | refine R.shr rfl rfl (by omega) ?_ | refine R.shrU1 rfl rfl ?_ | refine R.shrU rfl rfl (by omega) ?_ | refine R.cvU rfl (by omega) ?_ | refine R.condT rfl ?_ | refine R.condF rfl ?_ | refine R.call (bor := false) rfl rfl (hg _ (List.mem_of_getElem? ha)) rfl rfl rfl ?_ | refine R.call (bor := true) rfl rfl (hg _ (List.mem_of_getElem? ha)) rfl rfl rfl ?_ | refine R.fcal (bor := false) rfl rfl (hg _ (List.mem_of_getElem? ha)) rfl rfl rfl ?_ | refine R.fcal (bor := true) rfl rfl (hg _ (List.mem_of_getElem? ha)) rfl rfl rfl ?_ | refine R.cond rfl (fun hc => ?_) (fun hc => ?_) | refine R.condN rfl (fun hc => ?_) (fun hc => ?_) | refine R.condB rfl (fun hc => ?_) (fun hc => ?_) | refine R.gP rfl (fun hc => ?_) (fun hc => ?_) | refine R.gN rfl (fun hc => ?_) (fun hc => ?_) | refine R.gB rfl (fun hc => ?_) (fun hc => ?_))
  · rename_i hij
    simp only at hij ha
    rw [cmpP_lt] at hc
    exact R.nloop (R.again ((((i : Int) + (j : Int)) / 2).toNat + 1, j) ⟨by simp only; omega, h2, cut_up hs ha hc, h4⟩ (by simp only; omega) ⟨rfl, rfl, rfl, rfl, congrArg (fun z => pvA (.int .i64 z)) (by simp only; omega), rfl, trivial⟩ ⟨rfl, trivial⟩ rfl rfl)
  · rename_i hij
    simp only at hij ha
    rw [cmpP_lt] at hc
    exact R.nloop (R.again (i, (((i : Int) + (j : Int)) / 2).toNat) ⟨by simp only; omega, by simp only; omega, h3, cut_down hs ha hc⟩ (by simp only; omega) ⟨rfl, rfl, rfl, rfl, rfl, congrArg (fun z => pvA (.int .i64 z)) (by simp only; omega), trivial⟩ ⟨rfl, trivial⟩ rfl rfl)
  · rename_i hij
    simp only at hij ha hc
    obtain rfl : i = j := by omega
    have hcut : cut l p i := ⟨h2, h3, h4⟩
    refine R.ret ⟨.inr rfl, R.outIB rfl rfl rfl (by rw [cut_eq hcut]) ?_⟩
    rw [Bool.eq_iff_iff, decide_eq_true_eq, cmpP_eq]
    unfold fnd
    constructor
    · intro e; rw [atF_some hcut ha e]; rfl
    · intro e
      refine Classical.byContradiction fun hne => ?_
      rw [atF_none hs hcut fun t ht => by rw [ha] at ht; cases ht; exact hne] at e
      cases e
  · rename_i hij
    simp only at hij hc
    obtain rfl : i = j := by omega
    have hcut : cut l p i := ⟨h2, h3, h4⟩
    refine R.ret ⟨.inr rfl, R.outIB rfl rfl rfl (by rw [cut_eq hcut]) ?_⟩
    unfold fnd
    rw [atF_none hs hcut fun t ht => by have := (List.getElem?_eq_some_iff.1 ht).1; omega]
    rfl
theorem iComparePlaced (t : TPlaced) (p : TPoint) : Spec Try.prog 53 [.agg (enPlaced t), .agg (enPoint p)] (oI (cmpP t.fAt p)) := by
  refine Spec.walk T.mixed Try.func53 S.ok53 (by simp [Try.f53]) fun hk => ?_
  unfold S.s53
  repeat' (first | refine R.mv rfl ?_ | refine R.reg ?_ | refine R.nil ?_ | refine R.seq ?_ | refine R.nseq ?_ | refine R.nblk ?_ | refine R.skip ?_ | refine R.blk ?_ | refine R.exit rfl ?_ | refine R.ldEp rfl rfl (by assumption) rfl rfl ?_ | refine R.ldaEp rfl rfl (by assumption) (Nat.le_of_ble_eq_true rfl) rfl rfl ?_ | refine R.ld rfl rfl rfl ?_ | refine R.lda rfl rfl (Nat.le_of_ble_eq_true rfl) rfl ?_ | refine R.fa rfl rfl ?_ | refine R.box rfl rfl rfl ?_ | refine R.condT rfl ?_ | refine R.condF rfl ?_ | refine R.call (bor := false) rfl rfl (iComparePoints t.fAt p) rfl rfl rfl ?_ | refine R.call (bor := true) rfl rfl (iComparePoints t.fAt p) rfl rfl rfl ?_ | refine R.fcal (bor := false) rfl rfl (iComparePoints t.fAt p) rfl rfl rfl ?_ | refine R.fcal (bor := true) rfl rfl (iComparePoints t.fAt p) rfl rfl rfl ?_ | refine R.cond rfl (fun hc => ?_) (fun hc => ?_) | refine R.condN rfl (fun hc => ?_) (fun hc => ?_) | refine R.condB rfl (fun hc => ?_) (fun hc => ?_))
  exact R.ret ⟨.inr rfl, R.outI rfl rfl rfl⟩
theorem fnd_tile {l : List TPlaced} {p : TPoint} (hs : atTo l l.length) {n : Nat} (hc : cut l p n) (h : fnd l p = true) : ∃ t, l[n]? = some t ∧ tileAt l p = t.fTile ∧ t.fAt = p := by
  unfold fnd at h
  cases hn : l[n]? with
  | none =>
    rw [atF_none hs hc fun t ht => by rw [hn] at ht; cases ht] at h
    cases h
  | some t =>
    by_cases e : t.fAt = p
    · exact ⟨t, rfl, by unfold tileAt; rw [atF_some hc hn e], e⟩
    · rw [atF_none hs hc fun t' ht => by rw [hn] at ht; cases ht; exact e] at h
      cases h
theorem fnd_no {l : List TPlaced} {p : TPoint} (h : fnd l p = false) : tileAt l p = -1 := by
  unfold fnd at h
  unfold tileAt
  cases hf : atF l p with
  | none => rfl
  | some t => rw [hf] at h; cases h
theorem cut_cutN {l : List TPlaced} {p : TPoint} (hs : atTo l l.length) : cut l p (cutN l p) := by
  have hc : ∀ (m : Nat), m ≤ l.length → (∀ (i : Nat) t, i < m → l[i]? = some t → ltP t.fAt p) → cut l p (cutN l p) := fun m hm h => by
    induction hk : l.length - m generalizing m with
    | zero =>
      have hc : cut l p m := ⟨hm, h, fun i t hi ht => by have := (List.getElem?_eq_some_iff.1 ht).1; omega⟩
      rw [cut_eq hc]; exact hc
    | succ k ih =>
      by_cases hlt : ltP (l[m]'(by omega)).fAt p
      · exact ih (m + 1) (by omega) (cut_up hs (List.getElem?_eq_getElem (by omega)) hlt) (by omega)
      · have hc : cut l p m := ⟨hm, h, cut_down hs (List.getElem?_eq_getElem (by omega)) hlt⟩
        rw [cut_eq hc]; exact hc
  exact hc 0 (by omega) fun i t h => by omega
theorem iTileAt' (A : TAssembly) (p : TPoint) (hs : okA A.fTiles) : Spec Try.prog 32 [.agg (enAssembly A), .agg (enPoint p)] (oI (tileAt A.fTiles p)) := by
  refine Spec.walk T.mixed Try.func32 S.ok32 (by simp [Try.f32]) fun hk => ?_
  have hlen := hs.1
  have hcut := cut_cutN (p := p) hs.2
  unfold S.s32
  repeat' (first | refine R.mv rfl ?_ | refine R.reg ?_ | refine R.nil ?_ | refine R.seq ?_ | refine R.nseq ?_ | refine R.nblk ?_ | refine R.skip ?_ | refine R.blk ?_ | refine R.exit rfl ?_ | refine R.ldEp rfl rfl (by assumption) rfl rfl ?_ | refine R.ldaEp rfl rfl (by assumption) (Nat.le_of_ble_eq_true rfl) rfl rfl ?_ | refine R.ld rfl rfl rfl ?_ | refine R.lda rfl rfl (Nat.le_of_ble_eq_true rfl) rfl ?_ | refine R.fa rfl rfl ?_ | refine R.ixN rfl rfl rfl (by omega) (fun a ha => ?_) | refine R.ixM rfl rfl rfl (by omega) (fun a ha => ?_) | refine R.ixON rfl rfl rfl (by first | omega | (simp; omega)) (fun a' ha' => ?_) | refine R.ixO rfl rfl rfl (by first | omega | (simp; omega)) (fun a' ha' => ?_) | refine R.mvU rfl ?_ | refine R.ext rfl rfl ?_ | refine R.box rfl rfl rfl ?_ | refine R.condT rfl ?_ | refine R.condF rfl ?_ | refine R.call (bor := false) rfl rfl (lib_search hs.2 (by omega) fun t _ => iComparePlaced t p) rfl rfl rfl ?_ | refine R.call (bor := true) rfl rfl (lib_search hs.2 (by omega) fun t _ => iComparePlaced t p) rfl rfl rfl ?_ | refine R.fcal (bor := false) rfl rfl (lib_search hs.2 (by omega) fun t _ => iComparePlaced t p) rfl rfl rfl ?_ | refine R.fcal (bor := true) rfl rfl (lib_search hs.2 (by omega) fun t _ => iComparePlaced t p) rfl rfl rfl ?_ | refine R.cond rfl (fun hc => ?_) (fun hc => ?_) | refine R.condN rfl (fun hc => ?_) (fun hc => ?_) | refine R.condB rfl (fun hc => ?_) (fun hc => ?_))
  · obtain ⟨t, ht, h1, _⟩ := fnd_tile hs.2 hcut hc
    have hlt := (List.getElem?_eq_some_iff.1 ht).1
    repeat' (first | refine R.mv rfl ?_ | refine R.reg ?_ | refine R.nil ?_ | refine R.seq ?_ | refine R.nseq ?_ | refine R.nblk ?_ | refine R.skip ?_ | refine R.blk ?_ | refine R.exit rfl ?_ | refine R.ldEp rfl rfl (by assumption) rfl rfl ?_ | refine R.ldaEp rfl rfl (by assumption) (Nat.le_of_ble_eq_true rfl) rfl rfl ?_ | refine R.ld rfl rfl rfl ?_ | refine R.lda rfl rfl (Nat.le_of_ble_eq_true rfl) rfl ?_ | refine R.fa rfl rfl ?_ | refine R.ixN rfl rfl rfl (by omega) (fun a ha => ?_) | refine R.ixM rfl rfl rfl (by omega) (fun a ha => ?_) | refine R.ixON rfl rfl rfl (by first | omega | (simp; omega)) (fun a' ha' => ?_) | refine R.ixO rfl rfl rfl (by first | omega | (simp; omega)) (fun a' ha' => ?_) | refine R.mvU rfl ?_ | refine R.ext rfl rfl ?_ | refine R.box rfl rfl rfl ?_ | refine R.condT rfl ?_ | refine R.condF rfl ?_ | refine R.cond rfl (fun hc => ?_) (fun hc => ?_) | refine R.condN rfl (fun hc => ?_) (fun hc => ?_) | refine R.condB rfl (fun hc => ?_) (fun hc => ?_))
    rw [ht] at ha; cases ha
    exact R.ret ⟨.inr rfl, R.outI rfl rfl h1.symm⟩
  · exact R.ret ⟨.inr rfl, R.outI rfl rfl (fnd_no hc).symm⟩
end Go.Proofs.Ytghpeccaknhjiaa
