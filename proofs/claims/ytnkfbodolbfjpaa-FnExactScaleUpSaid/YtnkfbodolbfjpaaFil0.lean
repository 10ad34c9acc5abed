/- Rectangles of points. -/
import Derived.Test.YtnkfbodolbfjpaaAsm3
namespace Go.Proofs.Ytnkfbodolbfjpaa
open Go.RowKit
set_option maxRecDepth 10000
def rectL (lo : TPoint) (w n : Nat) : List TPoint := (List.range n).map fun i => ⟨lo.fX + ((i % w : Nat) : Int), lo.fY + ((i / w : Nat) : Int)⟩
theorem rectL_len {lo : TPoint} {w n : Nat} : (rectL lo w n).length = n := by unfold rectL; simp
theorem rectL_get {lo : TPoint} {w n i : Nat} (h : i < n) : (rectL lo w n)[i]? = some ⟨lo.fX + ((i % w : Nat) : Int), lo.fY + ((i / w : Nat) : Int)⟩ := by
  unfold rectL
  rw [List.getElem?_map, List.getElem?_range h]
  rfl
theorem rectL_succ {lo : TPoint} {w : Nat} {i j : Nat} (h : j < w) : rectL lo w (i * w + (j + 1)) = rectL lo w (i * w + j) ++ [⟨lo.fX + (j : Int), lo.fY + (i : Int)⟩] := by
  unfold rectL
  rw [← Nat.add_assoc, List.range_succ, List.map_append, List.map_singleton, show (i * w + j) % w = j by rw [Nat.add_comm, Nat.add_mul_mod_self_right, Nat.mod_eq_of_lt h], show (i * w + j) / w = i by rw [Nat.add_comm, Nat.add_mul_div_right _ _ (by omega), Nat.div_eq_of_lt h, Nat.zero_add]]
/-- The least and the greatest coordinates. -/
def bst (q : TPoint × TPoint) (p : TPoint) : TPoint × TPoint := (⟨min q.1.fX p.fX, min q.1.fY p.fY⟩, ⟨max q.2.fX p.fX, max q.2.fY p.fY⟩)
def bndL (p : TPoint) (l : List TPoint) : TPoint × TPoint := l.foldl bst (p, p)
theorem bndL_snoc {p a : TPoint} {l : List TPoint} : bndL p (l ++ [a]) = bst (bndL p l) a := by unfold bndL; rw [List.foldl_append]; rfl
structure BndOk (S : List TPoint) (q : TPoint × TPoint) : Prop where
  all : ∀ p ∈ S, (q.1.fX ≤ p.fX ∧ p.fX ≤ q.2.fX) ∧ (q.1.fY ≤ p.fY ∧ p.fY ≤ q.2.fY)
  x0 : ∃ p ∈ S, p.fX = q.1.fX
  x1 : ∃ p ∈ S, p.fX = q.2.fX
  y0 : ∃ p ∈ S, p.fY = q.1.fY
  y1 : ∃ p ∈ S, p.fY = q.2.fY
theorem BndOk.step {S : List TPoint} {q : TPoint × TPoint} (h : BndOk S q) (a : TPoint) : BndOk (S ++ [a]) (bst q a) := by
  have pick : ∀ (f : TPoint → Int) (m : Int), (∃ p ∈ S, f p = m) → ∀ n, (n = m ∨ n = f a) → ∃ p ∈ S ++ [a], f p = n := fun f m ⟨p, hp, hm⟩ n hn => by
    rcases hn with rfl | rfl
    · exact ⟨p, List.mem_append_left _ hp, hm⟩
    · exact ⟨a, by simp, rfl⟩
  refine ⟨fun p hp => ?_, pick (·.fX) _ h.x0 _ ?_, pick (·.fX) _ h.x1 _ ?_, pick (·.fY) _ h.y0 _ ?_, pick (·.fY) _ h.y1 _ ?_⟩
  · rcases List.mem_append.1 hp with hp | hp
    · have := h.all p hp
      simp only [bst]
      omega
    · rw [List.mem_singleton.1 hp]
      simp only [bst]
      omega
  all_goals (simp only [bst]; omega)
theorem bndL_ok (p : TPoint) : ∀ (l : List TPoint), BndOk (p :: l) (bndL p l) := by
  have : ∀ (l S : List TPoint) (q : TPoint × TPoint), BndOk S q → BndOk (S ++ l) (l.foldl bst q) := by
    intro l
    induction l with
    | nil => intro S q h; simpa using h
    | cons a l ih =>
      intro S q h
      have := ih (S ++ [a]) (bst q a) (h.step a)
      simpa using this
  intro l
  have h := this l [p] (p, p) ⟨fun r hr => by rw [List.mem_singleton.1 hr]; simp, ⟨p, by simp, rfl⟩, ⟨p, by simp, rfl⟩, ⟨p, by simp, rfl⟩, ⟨p, by simp, rfl⟩⟩
  exact h
theorem BndOk.same {S T : List TPoint} {q : TPoint × TPoint} (h : BndOk S q) (hm : ∀ p, p ∈ S ↔ p ∈ T) : BndOk T q :=
  ⟨fun p hp => h.all p ((hm p).2 hp), let ⟨p, a, b⟩ := h.x0; ⟨p, (hm p).1 a, b⟩, let ⟨p, a, b⟩ := h.x1; ⟨p, (hm p).1 a, b⟩, let ⟨p, a, b⟩ := h.y0; ⟨p, (hm p).1 a, b⟩, let ⟨p, a, b⟩ := h.y1; ⟨p, (hm p).1 a, b⟩⟩
theorem mul_ge {a w : Int} (h : 1 ≤ a) (hw : 0 ≤ w) : w ≤ a * w := by
  have := Int.mul_le_mul_of_nonneg_right h hw
  omega
theorem fill_iff {P : List TPoint} {q : TPoint × TPoint} {w h : Nat} (hs : ∀ (i : Nat) s t, P[i]? = some s → P[i + 1]? = some t → ltP s t) (hl : P.length = w * h) (hw : 1 ≤ w) (hh : 1 ≤ h) (hq : BndOk P q) :
    P = rectL q.1 w (w * h) ↔ (q.2.fX - q.1.fX + 1 = (w : Int) ∧ q.2.fY - q.1.fY + 1 = (h : Int)) := by
  have hwh : w ≤ w * h := Nat.le_mul_of_pos_right w hh
  constructor
  · intro e
    have hget : ∀ i, i < w * h → P[i]? = some ⟨q.1.fX + ((i % w : Nat) : Int), q.1.fY + ((i / w : Nat) : Int)⟩ := fun i hi => by rw [e]; exact rectL_get hi
    have hmem : ∀ p ∈ P, ∃ i, i < w * h ∧ p = ⟨q.1.fX + ((i % w : Nat) : Int), q.1.fY + ((i / w : Nat) : Int)⟩ := fun p hp => by
      obtain ⟨i, hi⟩ := List.getElem?_of_mem hp
      have hlt : i < w * h := by have := (List.getElem?_eq_some_iff.1 hi).1; omega
      rw [hget i hlt] at hi
      exact ⟨i, hlt, by cases hi; rfl⟩
    constructor
    · obtain ⟨p, hp, hx⟩ := hq.x1
      obtain ⟨i, hi, rfl⟩ := hmem p hp
      have h1 := Nat.mod_lt i (show 0 < w by omega)
      have h2 := (hq.all _ (List.mem_of_getElem? (hget (w - 1) (by omega)))).1
      rw [show (w - 1) % w = w - 1 from Nat.mod_eq_of_lt (by omega)] at h2
      simp only at hx h2
      omega
    · obtain ⟨p, hp, hy⟩ := hq.y1
      obtain ⟨i, hi, rfl⟩ := hmem p hp
      have h1 : i / w < h := Nat.div_lt_of_lt_mul hi
      have hlt : (h - 1) * w < w * h := by
        rw [Nat.mul_comm w h]
        exact Nat.mul_lt_mul_of_pos_right (by omega) (by omega)
      have h2 := (hq.all _ (List.mem_of_getElem? (hget ((h - 1) * w) hlt))).2
      rw [Nat.mul_div_cancel _ (show 0 < w by omega)] at h2
      simp only at hy h2
      omega
  · rintro ⟨hX, hY⟩
    have hbox : ∀ p ∈ P, (0 ≤ p.fX - q.1.fX ∧ p.fX - q.1.fX ≤ w - 1) ∧ (0 ≤ p.fY - q.1.fY ∧ p.fY - q.1.fY ≤ h - 1) := fun p hp => by
      have := hq.all p hp
      omega
    have hlt : ∀ (i : Nat) s t, P[i]? = some s → P[i + 1]? = some t → (s.fY - q.1.fY) * w + (s.fX - q.1.fX) < (t.fY - q.1.fY) * w + (t.fX - q.1.fX) := fun i s t h1 h2 => by
      have b1 := hbox s (List.mem_of_getElem? h1)
      have b2 := hbox t (List.mem_of_getElem? h2)
      rcases hs i s t h1 h2 with h3 | ⟨h3, h4⟩
      · have h5 := mul_ge (a := (t.fY - q.1.fY) - (s.fY - q.1.fY)) (w := (w : Int)) (by omega) (by omega)
        rw [Int.sub_mul] at h5
        omega
      · rw [h3]
        omega
    have hge : ∀ (i : Nat) s, P[i]? = some s → (i : Int) ≤ (s.fY - q.1.fY) * w + (s.fX - q.1.fX) := by
      intro i
      induction i with
      | zero =>
        intro s h1
        have b1 := hbox s (List.mem_of_getElem? h1)
        have := Int.mul_nonneg b1.2.1 (show (0 : Int) ≤ w by omega)
        omega
      | succ i ih =>
        intro t h1
        have hi := (List.getElem?_eq_some_iff.1 h1).1
        obtain ⟨s, h2⟩ : ∃ s, P[i]? = some s := ⟨_, List.getElem?_eq_getElem (by omega)⟩
        have := ih s h2
        have := hlt i s t h2 h1
        omega
    have hle : ∀ (j i : Nat) s, i + j + 1 = P.length → P[i]? = some s → (s.fY - q.1.fY) * w + (s.fX - q.1.fX) ≤ i := by
      intro j
      induction j with
      | zero =>
        intro i s hi h1
        have b1 := hbox s (List.mem_of_getElem? h1)
        have h5 := Int.mul_le_mul_of_nonneg_right b1.2.2 (show (0 : Int) ≤ w by omega)
        have h7 : ((h : Int) - 1) * w = h * w - w := by rw [Int.sub_mul, Int.one_mul]
        have h6 : ((w * h : Nat) : Int) = (h : Int) * w := by rw [Int.natCast_mul, Int.mul_comm]
        omega
      | succ j ih =>
        intro i s hi h1
        obtain ⟨t, h2⟩ : ∃ t, P[i + 1]? = some t := ⟨_, List.getElem?_eq_getElem (by omega)⟩
        have := ih (i + 1) t (by omega) h2
        have := hlt i s t h1 h2
        omega
    refine List.ext_getElem? fun i => ?_
    by_cases hi : i < w * h
    · obtain ⟨s, h1⟩ : ∃ s, P[i]? = some s := ⟨_, List.getElem?_eq_getElem (by omega)⟩
      rw [h1, rectL_get hi]
      have b1 := hbox s (List.mem_of_getElem? h1)
      have e1 := hge i s h1
      have e2 := hle (P.length - i - 1) i s (by omega) h1
      obtain ⟨a, ha⟩ : ∃ a : Nat, s.fY - q.1.fY = a := ⟨(s.fY - q.1.fY).toNat, by omega⟩
      obtain ⟨b, hb⟩ : ∃ b : Nat, s.fX - q.1.fX = b := ⟨(s.fX - q.1.fX).toNat, by omega⟩
      rw [ha, hb] at e1 e2
      have e3 : i = b + a * w := by
        have h6 : ((a * w : Nat) : Int) = (a : Int) * w := Int.natCast_mul _ _
        omega
      have hbw : b < w := by omega
      have e4 : i % w = b := by rw [e3, Nat.add_mul_mod_self_right, Nat.mod_eq_of_lt hbw]
      have e5 : i / w = a := by rw [e3, Nat.add_mul_div_right _ _ (by omega), Nat.div_eq_of_lt hbw, Nat.zero_add]
      rw [e4, e5]
      exact congrArg some (pt_ext (show s.fX = q.1.fX + (b : Int) by omega) (show s.fY = q.1.fY + (a : Int) by omega))
    · rw [List.getElem?_eq_none (by omega), List.getElem?_eq_none (by rw [rectL_len]; omega)]
end Go.Proofs.Ytnkfbodolbfjpaa
