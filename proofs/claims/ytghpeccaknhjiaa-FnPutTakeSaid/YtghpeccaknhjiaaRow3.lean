/- Rows of placed tiles, told cell by cell. -/
import Derived.Test.YtghpeccaknhjiaaAsm3
import Derived.Laws.CopyRow
namespace Go.Proofs.Ytghpeccaknhjiaa
open Go.RowKit
set_option maxRecDepth 100000
set_option maxHeartbeats 1000000
def c3 (q : TPlaced) : List Value := [.int .i64 q.fAt.fX, .int .i64 q.fAt.fY, .int .i64 q.fTile]
def flat3 : List TPlaced → List Value
  | [] => []
  | q :: l => c3 q ++ flat3 l
theorem c3_len (q : TPlaced) : (c3 q).length = 3 := rfl
theorem flat3_len : ∀ l : List TPlaced, (flat3 l).length = l.length * 3
  | [] => rfl
  | q :: l => by rw [flat3, List.length_append, c3_len, flat3_len l, List.length_cons]; omega
theorem flat3_append : ∀ a b : List TPlaced, flat3 (a ++ b) = flat3 a ++ flat3 b
  | [], b => rfl
  | q :: a, b => by rw [List.cons_append, flat3, flat3_append a b, flat3, List.append_assoc]
theorem flat3_take : ∀ (l : List TPlaced) (i : Nat), (flat3 l).take (i * 3) = flat3 (l.take i)
  | [], i => by simp [flat3]
  | q :: l, 0 => by simp [flat3]
  | q :: l, i + 1 => by
    rw [flat3, List.take_append, List.take_of_length_le (by rw [c3_len]; omega), c3_len, show (i + 1) * 3 - 3 = i * 3 by omega, flat3_take l i]
    rfl
theorem flat3_drop : ∀ (l : List TPlaced) (i : Nat), (flat3 l).drop (i * 3) = flat3 (l.drop i)
  | [], i => by simp [flat3]
  | q :: l, 0 => by simp
  | q :: l, i + 1 => by
    rw [flat3, List.drop_append, List.drop_of_length_le (by rw [c3_len]; omega), c3_len, show (i + 1) * 3 - 3 = i * 3 by omega, flat3_drop l i]
    rfl
theorem flat3_get {l : List TPlaced} {i : Nat} {q : TPlaced} (h : l[i]? = some q) {j : Nat} (hj : j < 3) : (flat3 l)[i * 3 + j]? = (c3 q)[j]? := by
  have h1 : l = l.take i ++ q :: l.drop (i + 1) := by
    have := List.getElem?_eq_some_iff.1 h
    obtain ⟨hi, rfl⟩ := this
    simp
  have hi : i < l.length := (List.getElem?_eq_some_iff.1 h).1
  have h2 : (flat3 (l.take i)).length = i * 3 := by rw [flat3_len, List.length_take]; omega
  rw [h1, flat3_append, List.getElem?_append_right (by omega), h2, flat3, List.getElem?_append_left (by rw [c3_len]; omega)]
  congr 1
  omega
theorem flat3_one {l : List TPlaced} {v : Value} (h : v ∈ flat3 l) : v.oneCell' = true := by
  induction l with
  | nil => cases h
  | cons q l ih =>
    rw [flat3] at h
    rcases List.mem_append.1 h with h | h
    · simp only [c3, List.mem_cons, List.not_mem_nil, or_false] at h
      rcases h with rfl | rfl | rfl <;> rfl
    · exact ih h
/-- The block holds these cells. -/
def Bk (w : World) (g : Nat) (X : List Value) : Prop := w.heap[g]? = some (.cells X.toArray 50 (0, 0))
theorem Bk.cell {w : World} {g : Nat} {X : List Value} (h : Bk w g X) {o : Nat} {v : Value} (hx : X[o]? = some v) : w.cell? ⟨g, o, none⟩ = some v := by
  have h : w.heap[g]? = _ := h
  simp [World.cell?, h, hx]
theorem Bk.frz {w : World} {g : Nat} {X : List Value} (h : Bk w g X) (o : Nat) : w.frozen? ⟨g, o, none⟩ = false := by
  have h : w.heap[g]? = _ := h
  simp [World.frozen?, h]
theorem Bk.lt {w : World} {g : Nat} {X : List Value} (h : Bk w g X) : g < w.heap.size := by
  have h : w.heap[g]? = _ := h
  exact (Array.getElem?_eq_some_iff.1 h).1
theorem Bk.keep {w w' : World} {g : Nat} {X : List Value} (h : Bk w g X) (hb : Below w.heap.size w w') : Bk w' g X := (hb.block g h.lt).trans h
/-- The three cells of a tile. -/
theorem Bk.tile {w : World} {g : Nat} {X : List Value} {n : Nat} {l : List TPlaced} (h : Bk w g X) (hX : X.take (n * 3) = flat3 l) {i : Nat} {q : TPlaced} (hq : l[i]? = some q) (hi : i < n) : w.cell? ⟨g, i * 3, none⟩ = some (.int .i64 q.fAt.fX) ∧ w.cell? ⟨g, i * 3 + 1, none⟩ = some (.int .i64 q.fAt.fY) ∧ w.cell? ⟨g, i * 3 + 2, none⟩ = some (.int .i64 q.fTile) := by
  have key : ∀ j, j < 3 → X[i * 3 + j]? = (c3 q)[j]? := fun j hj => by
    rw [← flat3_get hq hj, ← hX, List.getElem?_take_of_lt (by omega)]
  exact ⟨h.cell (key 0 (by omega)), h.cell (key 1 (by omega)), h.cell (key 2 (by omega))⟩
/-- Nothing of what was there has turned, but for one block. -/
abbrev But (g : Nat) (w w' : World) : Prop := BelowM (fun b => b = g) w w'
theorem But.below {g : Nat} {a b c : World} (h : But g a b) (hb : Below b.heap.size b c) : But g a c := h.then hb
theorem But.trans {g : Nat} {a b c : World} (h : But g a b) (k : But g b c) : But g a c := BelowM.trans h k fun _ h => .inl h
theorem Bk.row {w : World} {g : Nat} {X : List Value} (h : Bk w g X) (Y : List Value) : Bk (w.setRow g Y.toArray) g Y ∧ But g w (w.setRow g Y.toArray) ∧ (w.setRow g Y.toArray).heap.size = w.heap.size := by
  have hs : (w.setRow g Y.toArray).heap.size = w.heap.size := by simp [World.setRow]
  exact ⟨setRow_heap w g _ _ _ _ h, ⟨rfl, rfl, rfl, by rw [hs]; exact Nat.le_refl _, fun k _ hk => setRow_other w g k _ hk⟩, hs⟩
/-- Some cells are written. -/
def putX (X : List Value) (o : Nat) (vs : List Value) : List Value := X.take o ++ vs ++ X.drop (o + vs.length)
theorem putX_len {X vs : List Value} {o : Nat} (h : o + vs.length ≤ X.length) : (putX X o vs).length = X.length := by
  unfold putX
  simp only [List.length_append, List.length_take, List.length_drop]
  omega
theorem Bk.put {w : World} {g : Nat} {X : List Value} (h : Bk w g X) {o : Nat} {vs : List Value} (hfit : o + vs.length ≤ X.length) (h1 : ∀ v ∈ vs, v.oneCell' = true) : (storeCells ⟨g, o, none⟩ vs 0).run Try.prog w = .ok () (w.setRow g (putX X o vs).toArray) := by
  have := run_storeCells_at Try.prog g o 50 vs 0 X.toArray w h (by simpa using hfit) h1
  simpa [putX] using this
theorem put3_list (X : List Value) (o : Nat) (x y z : Value) (h : o + 3 ≤ X.length) : ((X.set o x).set (o + 1) y).set (o + 2) z = putX X o [x, y, z] := by
  have h3 : (X.take o).length = o := by rw [List.length_take]; omega
  unfold putX
  apply List.ext_getElem?
  intro j
  rw [List.append_assoc]
  by_cases hj : j < o
  · rw [List.getElem?_append_left (by omega), List.getElem?_take_of_lt hj, List.getElem?_set_ne (by omega), List.getElem?_set_ne (by omega), List.getElem?_set_ne (by omega)]
  · rw [List.getElem?_append_right (by omega), h3]
    by_cases h0 : j = o
    · subst h0
      rw [List.getElem?_set_ne (by omega), List.getElem?_set_ne (by omega), List.getElem?_set_self (by omega)]
      simp
    · by_cases h1 : j = o + 1
      · subst h1
        rw [List.getElem?_set_ne (by omega), List.getElem?_set_self (by rw [List.length_set]; omega), show o + 1 - o = 1 by omega]
        rfl
      · by_cases h2 : j = o + 2
        · subst h2
          rw [List.getElem?_set_self (by rw [List.length_set, List.length_set]; omega), show o + 2 - o = 2 by omega]
          rfl
        · rw [List.getElem?_set_ne (by omega), List.getElem?_set_ne (by omega), List.getElem?_set_ne (by omega), List.getElem?_append_right (by simp; omega), List.getElem?_drop]
          congr 1
          simp
          omega
theorem Bk.set3 {w : World} {g : Nat} {X : List Value} (h : Bk w g X) (o : Nat) (x y z : Value) (hfit : o + 3 ≤ X.length) : ((w.setCell ⟨g, o, none⟩ x).setCell ⟨g, o + 1, none⟩ y).setCell ⟨g, o + 2, none⟩ z = w.setRow g (putX X o [x, y, z]).toArray := by
  have h0 : w.heap[g]? = _ := h
  rw [setCell_eq_setRow w g o _ _ _ x h0]
  have h1 := setRow_heap w g _ (X.toArray.setIfInBounds o x) _ _ h0
  rw [setCell_eq_setRow _ g (o + 1) _ _ _ y h1]
  have h2 := setRow_heap _ g _ ((X.toArray.setIfInBounds o x).setIfInBounds (o + 1) y) _ _ h1
  rw [setCell_eq_setRow _ g (o + 2) _ _ _ z h2, setRow_setRow, setRow_setRow, ← put3_list X o x y z hfit]
  simp
theorem Bk.some3 {w : World} {g : Nat} {X : List Value} (h : Bk w g X) {o : Nat} (hfit : o < X.length) : ∃ v, w.cell? ⟨g, o, none⟩ = some v := ⟨X[o], h.cell (List.getElem?_eq_getElem hfit)⟩
theorem take3 {A B C : List Value} {N : Nat} (h : A.length + B.length ≤ N) : (A ++ B ++ C).take N = A ++ B ++ C.take (N - A.length - B.length) := by
  rw [List.take_append, List.take_of_length_le (by rw [List.length_append]; omega), List.length_append, Nat.sub_sub]
theorem putX_row {X : List Value} {l m : List TPlaced} {n i : Nat} (hX : X.take (n * 3) = flat3 l) (hi : i + m.length ≤ n) (hn : n * 3 ≤ X.length) : (putX X (i * 3) (flat3 m)).take (n * 3) = flat3 (l.take i ++ m ++ l.drop (i + m.length)) := by
  have hm := flat3_len m
  have h1 : X.take (i * 3) = flat3 (l.take i) := by
    rw [← flat3_take, ← hX, List.take_take, Nat.min_eq_left (by omega)]
  have h2 : (X.drop (i * 3 + (flat3 m).length)).take (n * 3 - (i * 3 + (flat3 m).length)) = flat3 (l.drop (i + m.length)) := by
    rw [← flat3_drop, ← hX, List.drop_take, hm, show (i + m.length) * 3 = i * 3 + m.length * 3 by omega]
  have h3 : (X.take (i * 3)).length = i * 3 := by rw [List.length_take]; omega
  unfold putX
  rw [take3 (by rw [h3]; omega), h3, flat3_append, flat3_append, h1, ← h2, show n * 3 - i * 3 - (flat3 m).length = n * 3 - (i * 3 + (flat3 m).length) by omega]
/-- A whole row set apart: what a slice of the call's own is. -/
theorem own_bk {w : World} {B : Nat} {v : Value} {n : Nat} {l : List TPlaced} (h : w.ownsRow B 50 3 v n (flat3 l)) : (v = .slice none 0 0 ∧ l = [] ∧ n = 0) ∨ ∃ g cap X, v = .slice (some ⟨g, 0, none⟩) n cap ∧ B ≤ g ∧ Bk w g X ∧ n ≤ cap ∧ cap ≤ maxLen ∧ X.length = cap * 3 ∧ X.take (n * 3) = flat3 l ∧ l.length = n := by
  have hn : l.length = n := by
    have := h.1
    rw [flat3_len] at this
    omega
  rcases h.2 with ⟨h1, h2⟩ | ⟨g, cap, cur, h1, h2, h3, h4, h5, h6, h7⟩
  · exact .inl ⟨h1, List.eq_nil_of_length_eq_zero (by omega), h2⟩
  · exact .inr ⟨g, cap, cur.toList, h1, h2, by unfold Bk; rw [Array.toArray_toList]; exact h3, h4, h5, by rw [← h6]; simp, h7, hn⟩
theorem bk_own {w : World} {B : Nat} {n cap g : Nat} {X : List Value} {l : List TPlaced} (hB : B ≤ g) (h : Bk w g X) (hc : n ≤ cap) (hm : cap ≤ maxLen) (hx : X.length = cap * 3) (ht : X.take (n * 3) = flat3 l) (hl : l.length = n) : w.ownsRow B 50 3 (.slice (some ⟨g, 0, none⟩) n cap) n (flat3 l) :=
  ⟨by rw [flat3_len, hl], .inr ⟨g, cap, X.toArray, rfl, hB, h, hc, hm, by simpa using hx, by simpa using ht⟩⟩
theorem ET.ofTiles {W : World} : ∀ {l : List TPlaced} {vs : List Value} {S : List Nat}, ET W vs (l.map enPlaced).flatten S → vs = flat3 l ∧ S = [] ∧ ∀ q ∈ l, okI (.int .i64 q.fAt.fX) ∧ okI (.int .i64 q.fAt.fY) ∧ okI (.int .i64 q.fTile)
  | [], _, _, h => by cases h; exact ⟨rfl, rfl, fun n h => by cases h⟩
  | q :: l, _, _, h => by
    cases h with
    | pv h1 i1 h2 => cases h2 with
      | pv h3 i2 h4 => cases h4 with
        | pv h5 i3 h6 =>
          obtain ⟨rfl, rfl, h3⟩ := ET.ofTiles h6
          exact ⟨rfl, rfl, fun m hm => by
            rcases List.mem_cons.1 hm with rfl | hm
            · exact ⟨i1, i2, i3⟩
            · exact h3 m hm⟩
theorem ET.toTiles {W : World} : ∀ {l : List TPlaced}, (∀ q ∈ l, okI (.int .i64 q.fAt.fX) ∧ okI (.int .i64 q.fAt.fY) ∧ okI (.int .i64 q.fTile)) → ET W (flat3 l) (l.map enPlaced).flatten []
  | [], _ => .nil
  | q :: l, h => .pv rfl (h q (by simp)).1 (.pv rfl (h q (by simp)).2.1 (.pv rfl (h q (by simp)).2.2 (ET.toTiles fun m hm => h m (by simp [hm]))))
end Go.Proofs.Ytghpeccaknhjiaa
