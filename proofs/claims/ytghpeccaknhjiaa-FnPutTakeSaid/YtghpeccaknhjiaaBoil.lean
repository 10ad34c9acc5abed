/- What the laws do beside the functions: sizes, copies, comparisons, marks. Numbers, Bools, rows of numbers. -/
import Derived.Test.YtghpeccaknhjiaaBasic
namespace Go.Proofs.Ytghpeccaknhjiaa
open Go.RowKit
set_option maxRecDepth 10000
set_option maxHeartbeats 4000000
-- sizes
def szV (left n : Int) : Int := if left - n < 0 then -1 else left - n
def szSq (s1 s2 : Int → Int) (left : Int) : Int := if s1 left < 0 then -1 else s2 (s1 left)
def szLp {α : Type} (sz : α → Int → Int) : List α → Int → Int
  | [], left => left
  | a :: l, left => if sz a left < 0 then -1 else szLp sz l (sz a left)
def szS {α : Type} (sz : α → Int → Int) (l : List α) (left : Int) : Int := if szV left l.length < 0 then -1 else szLp sz l (szV left l.length)
def rng (left : Int) : Prop := -1 ≤ left ∧ left ≤ 1048576
theorem rng_V {left : Int} {n : Nat} (h : rng left) : rng (szV left n) := by unfold rng szV at *; split <;> omega
theorem rng_Sq {s1 s2 : Int → Int} {left : Int} (h1 : ∀ q, rng q → rng (s1 q)) (h2 : ∀ q, rng q → rng (s2 q)) (h : rng left) : rng (szSq s1 s2 left) := by
  unfold szSq
  split
  · exact ⟨by omega, by omega⟩
  · exact h2 _ (h1 _ h)
theorem rng_Lp {α : Type} {sz : α → Int → Int} (h1 : ∀ a q, rng q → rng (sz a q)) : ∀ {l : List α} {left : Int}, rng left → rng (szLp sz l left)
  | [], _, h => h
  | a :: l, left, h => by
    unfold szLp
    split
    · exact ⟨by omega, by omega⟩
    · exact rng_Lp h1 (h1 _ _ h)
theorem rng_S {α : Type} {sz : α → Int → Int} {l : List α} {left : Int} (h1 : ∀ a q, rng q → rng (sz a q)) (h : rng left) : rng (szS sz l left) := by
  unfold szS
  split
  · exact ⟨by omega, by omega⟩
  · exact rng_Lp h1 (rng_V h)
theorem gd_V {left : Int} {n : Nat} (h : rng left) (h0 : 0 ≤ szV left n) : n ≤ 1048576 := by unfold rng szV at *; split at h0 <;> omega
theorem gd_Sq {s1 s2 : Int → Int} {left : Int} (h : 0 ≤ szSq s1 s2 left) : 0 ≤ s1 left ∧ 0 ≤ s2 (s1 left) := by
  unfold szSq at h
  split at h
  · omega
  · exact ⟨by omega, h⟩
theorem gd_Lp {α : Type} {sz : α → Int → Int} {bd : α → Prop} (hr : ∀ a q, rng q → rng (sz a q)) (hb : ∀ a q, rng q → 0 ≤ sz a q → bd a) : ∀ {l : List α} {left : Int}, rng left → 0 ≤ szLp sz l left → ∀ a ∈ l, bd a
  | [], _, _, _, a, ha => by cases ha
  | b :: l, left, h, h0, a, ha => by
    unfold szLp at h0
    split at h0
    · omega
    · rcases List.mem_cons.1 ha with rfl | ha
      · exact hb _ _ h (by omega)
      · exact gd_Lp hr hb (hr _ _ h) h0 a ha
def bdS {α : Type} (bd : α → Prop) (l : List α) : Prop := l.length ≤ 1048576 ∧ ∀ a ∈ l, bd a
theorem gd_S {α : Type} {sz : α → Int → Int} {bd : α → Prop} {l : List α} {left : Int} (hr : ∀ a q, rng q → rng (sz a q)) (hb : ∀ a q, rng q → 0 ≤ sz a q → bd a) (h : rng left) (h0 : 0 ≤ szS sz l left) : bdS bd l := by
  unfold szS at h0
  split at h0
  · omega
  · exact ⟨gd_V h (by omega), gd_Lp hr hb (rng_V h) h0⟩
theorem szLp_step {α : Type} {sz : α → Int → Int} {l : List α} {i : Nat} {a : α} {cur r : Int} (ha : l[i]? = some a) (h : r = szLp sz (l.drop i) cur) : r = if sz a cur < 0 then -1 else szLp sz (l.drop (i + 1)) (sz a cur) := by
  obtain ⟨hi, hx⟩ := List.getElem?_eq_some_iff.1 ha
  rw [h, List.drop_eq_getElem_cons hi, hx]
  rfl
-- marks
def mkS0 {α : Type} (m : α → Int → α) (c : α → Nat) : List α → Int → List α
  | [], _ => []
  | a :: l, k => m a k :: mkS0 m c l (k + c a)
@[irreducible] def mkS {α : Type} (m : α → Int → α) (c : α → Nat) (l : List α) (k : Int) : List α := mkS0 m c l k
@[irreducible] def cnt {α : Type} (c : α → Nat) (l : List α) : Nat := (l.map c).sum
theorem mkS_nil {α : Type} {m : α → Int → α} {c : α → Nat} {k : Int} : mkS m c [] k = [] := by unfold mkS; rfl
theorem mkS_cons {α : Type} {m : α → Int → α} {c : α → Nat} {a : α} {l : List α} {k : Int} : mkS m c (a :: l) k = m a k :: mkS m c l (k + c a) := by unfold mkS; rfl
theorem cnt_nil {α : Type} {c : α → Nat} : cnt c [] = 0 := by unfold cnt; rfl
theorem cnt_cons {α : Type} {c : α → Nat} {a : α} {l : List α} : cnt c (a :: l) = c a + cnt c l := by unfold cnt; simp
theorem mkS_length {α : Type} {m : α → Int → α} {c : α → Nat} : ∀ {l : List α} {k : Int}, (mkS m c l k).length = l.length
  | [], _ => by rw [mkS_nil]
  | a :: l, k => by simp [mkS_cons, mkS_length]
theorem cnt_take {α : Type} {c : α → Nat} {l : List α} {i : Nat} {a : α} (h : l[i]? = some a) : cnt c (l.take (i + 1)) = cnt c (l.take i) + c a := by
  unfold cnt
  rw [take_snoc h]
  simp
theorem cnt_le {α : Type} {c : α → Nat} {l : List α} (i : Nat) : cnt c (l.take i) ≤ cnt c l := by
  unfold cnt
  conv => rhs; rw [← List.take_append_drop i l]
  rw [List.map_append, List.sum_append]
  omega
theorem cnt_mem {α : Type} {c : α → Nat} {l : List α} {i : Nat} {a : α} (h : l[i]? = some a) : cnt c (l.take i) + c a ≤ cnt c l := by
  rw [← cnt_take h]; exact cnt_le _
theorem mkS_get {α : Type} {m : α → Int → α} {c : α → Nat} : ∀ {l : List α} {k : Int} {i : Nat} {a : α}, l[i]? = some a → (mkS m c l k)[i]? = some (m a (k + cnt c (l.take i)))
  | [], _, _, _, h => by simp at h
  | b :: l, k, 0, a, h => by simp at h; subst h; simp [mkS_cons, cnt_nil]
  | b :: l, k, i + 1, a, h => by
    have := mkS_get (m := m) (c := c) (k := k + c b) (i := i) (a := a) (l := l) (by simpa using h)
    simp only [mkS_cons, List.getElem?_cons_succ, this, List.take_succ_cons, cnt_cons]
    congr 2
    omega
theorem mkS_snoc {α : Type} {m : α → Int → α} {c : α → Nat} : ∀ {l : List α} {k : Int} {a : α}, mkS m c (l ++ [a]) k = mkS m c l k ++ [m a (k + cnt c l)]
  | [], k, a => by simp [mkS_cons, mkS_nil, cnt_nil]
  | b :: l, k, a => by
    simp only [List.cons_append, mkS_cons, mkS_snoc, cnt_cons]
    congr 4
    omega
/-- One more element is marked. -/
theorem mk_fill {α : Type} {m : α → Int → α} {c : α → Nat} {l : List α} {i : Nat} {a : α} {k : Int} (h : l[i]? = some a) : (mkS m c (l.take i) k ++ l.drop i).set i (m a (k + cnt c (l.take i))) = mkS m c (l.take (i + 1)) k ++ l.drop (i + 1) := by
  obtain ⟨hi, hx⟩ := List.getElem?_eq_some_iff.1 h
  have hl : (mkS m c (l.take i) k).length = i := by rw [mkS_length, List.length_take]; omega
  rw [take_snoc h, mkS_snoc, List.set_append, if_neg (by omega), hl, Nat.sub_self, List.drop_eq_getElem_cons hi, hx]
  simp
theorem mk_get {α : Type} {m : α → Int → α} {c : α → Nat} {l : List α} {i : Nat} {k : Int} (hi : i < l.length) : ∃ a, l[i]? = some a ∧ (mkS m c (l.take i) k ++ l.drop i)[i]? = some a := by
  have hl : (mkS m c (l.take i) k).length = i := by rw [mkS_length, List.length_take]; omega
  refine ⟨l[i], List.getElem?_eq_getElem hi, ?_⟩
  rw [List.getElem?_append_right (by omega), hl, Nat.sub_self, List.getElem?_drop]
  exact List.getElem?_eq_getElem hi
theorem mk_len {α : Type} {m : α → Int → α} {c : α → Nat} {l : List α} {i : Nat} {k : Int} (hi : i ≤ l.length) : (mkS m c (l.take i) k ++ l.drop i).length = l.length := by
  rw [List.length_append, mkS_length, List.length_take, List.length_drop]
  omega
abbrev pin (i : Nat) : Nat := 1000000 + i
def c1 {α : Type} (_ : α) : Nat := 1
theorem againW {G : Type} {E : G → List (Nat × AV)} {O : G → List (Nat × Ob)} {F : G → Prop} {m : G → Nat} {g : G} {st st' : St} (hw : Weak st st') (h : ∃ g', F g' ∧ m g' < m g ∧ Weak st' ⟨frE (E g'), frO (O g')⟩) : ∃ g', F g' ∧ m g' < m g ∧ Weak st ⟨frE (E g'), frO (O g')⟩ := by
  obtain ⟨g', h1, h2, h3⟩ := h
  exact ⟨g', h1, h2, hw.trans h3⟩
def mI (_ k : Int) : Int := k
end Go.Proofs.Ytghpeccaknhjiaa
