/- Blocks of memory that are known whole, and how they stay. No program is named here. -/
import Derived.Test.YtlblmofimjhbbaaDoorBase
import Derived.Test.YtlblmofimjhbbaaDoorRg
import Derived.Laws.NewBlocks
import Derived.Deep.Heap
import Derived.OwnWalk
import Derived.Laws.OwnMore
namespace Go.Proofs.YtlblmofimjhbbaaDoor
open Go.RowKit
/-- What is said of the value stays so when nothing that was there has turned. -/
def Stab (p : Value → World → Prop) : Prop := ∀ v w w', Below w.heap.size w w' → p v w → p v w'
/-- Block b holds just these cells, none of them frozen. -/
structure Blk (w : World) (b : Nat) (cs : List Value) (t : TypeId) : Prop where
  out : w.heap[b]? = some (.cells cs.toArray t (0, 0))
section
variable {w w' : World} {b : Nat} {cs : List Value} {t : TypeId}
theorem Blk.lt (h : Blk w b cs t) : b < w.heap.size := by
  rcases Nat.lt_or_ge b w.heap.size with h' | h'
  · exact h'
  · have := h.out; rw [Array.getElem?_eq_none h'] at this; cases this
theorem Blk.of_eq (e : w'.heap[b]? = w.heap[b]?) (h : Blk w b cs t) : Blk w' b cs t := ⟨e.trans h.out⟩
theorem Blk.below (hb : Below w.heap.size w w') (h : Blk w b cs t) : Blk w' b cs t := ⟨(hb.block b h.lt).trans h.out⟩
theorem Blk.drew (h : Blk w b cs t) : Blk w.drew b cs t := ⟨h.out⟩
theorem Blk.alloc_old (o : Obj) (h : Blk w b cs t) : Blk (w.alloc o) b cs t := ⟨(Deep.blk_alloc_lt w o b h.lt).trans h.out⟩
theorem Blk.alloc_new (l : List Value) : Blk (w.alloc (.cells l.toArray t)) w.heap.size l t := ⟨Deep.blk_alloc_new w _⟩
theorem Blk.alloc_at {l : List Value} (hb : b = w.heap.size) : Blk (w.alloc (.cells l.toArray t)) b l t := hb ▸ Blk.alloc_new l
theorem Blk.set_other {a : Addr} (v : Value) (hne : b ≠ a.block) (h : Blk w b cs t) : Blk (w.setCell a v) b cs t := ⟨(Deep.blk_setCell_other w a v b hne).trans h.out⟩
theorem Blk.set (i : Nat) (v : Value) (h : Blk w b cs t) : Blk (w.setCell ⟨b, i, none⟩ v) b (cs.set i v) t := by
  have h1 := h.out
  refine ⟨?_⟩
  simp only [World.setCell, Array.getElem?_modify, if_pos, h1]
  simp
theorem Blk.cell {i : Nat} {v : Value} (h : Blk w b cs t) (hi : cs[i]? = some v) : w.cell? ⟨b, i, none⟩ = some v := by
  simp [World.cell?, h.out, hi]
theorem Blk.frozen (h : Blk w b cs t) (i : Nat) : w.frozen? ⟨b, i, none⟩ = false := by
  simp [World.frozen?, h.out]
/-- A new variable: a pointer to a block of its own. -/
def NewBox (lo : Nat) (cs : List Value) (t : TypeId) (v : Value) (w : World) : Prop := ∃ g, v = .pointer (some ⟨g, 0, none⟩) ∧ lo ≤ g ∧ Blk w g cs t
theorem NewBox.stab (lo : Nat) (cs : List Value) (t : TypeId) : Stab (NewBox lo cs t) := fun _ _ _ hb ⟨g, e, hl, h⟩ => ⟨g, e, hl, h.below hb⟩
/-- The world at hand under a name: its blocks are the old ones. -/
theorem wp_world {P : Program} {c : Code} {Q : Exit → Act → World → Prop} {a : Act} {W : World}
    (h : ∀ w0 : World, Below W.heap.size W w0 → (∀ k : Nat, w0.heap[k]? = W.heap[k]?) → w0.heap.size = W.heap.size → c.wp P Q a w0) : c.wp P Q a W :=
  h W (Below.refl _ _) (fun _ => rfl) rfl
end
/-- n zero elements. -/
def zeros (z : Value) (n : Nat) : List Value := (List.replicate n z.cells.toList).flatten
theorem zeros_one {z : Value} (h : z.cells = #[z]) (n : Nat) : zeros z n = List.replicate n z := by
  unfold zeros
  rw [h]
  induction n with
  | zero => rfl
  | succ n ih => simp [List.replicate_succ, ih]
theorem madeCells_zeros (c : Array Value) (hc : 0 < c.size) : ∀ n, (madeCells c (n * c.size)).toList = (List.replicate n c.toList).flatten := by
  intro n
  apply List.ext_getElem?
  intro j
  have h1 : (madeCells c (n * c.size)).toList[j]? = if j < n * c.size then c[j % c.size]? else none := by
    have hm : j % c.size < c.size := Nat.mod_lt _ hc
    by_cases hj : j < n * c.size
    · simp [madeCells, hj, hm]
    · simp [madeCells, hj]
  rw [h1]
  induction n generalizing j with
  | zero => simp
  | succ n ih =>
    rw [List.replicate_succ, List.flatten_cons]
    by_cases hj : j < c.size
    · rw [List.getElem?_append_left (by simpa using hj), if_pos (by rw [Nat.succ_mul]; omega), Nat.mod_eq_of_lt hj]
      simp
    · rw [List.getElem?_append_right (by simpa using Nat.le_of_not_lt hj)]
      have e := ih (j - c.size) (by
        have hm : (j - c.size) % c.size < c.size := Nat.mod_lt _ hc
        by_cases hj' : j - c.size < n * c.size
        · simp [madeCells, hj', hm]
        · simp [madeCells, hj'])
      rw [show c.toList.length = c.size by simp, ← e, ← Nat.mod_eq_sub_mod (by omega)]
      have : (j < (n + 1) * c.size) = (j - c.size < n * c.size) := by rw [Nat.succ_mul]; apply propext; omega
      simp only [this]
/-- 'make([]T, n)': a new block of n zero elements. -/
theorem wpList_make_blk {P : Program} (w : World) {ops : Array Oper} {rest : List Oper} {o : Oper} {a : Act} {Q : Exit → Act → World → Prop}
    (hg : o.guard = none) (l c : Operand) (t : TypeId) (hop : o.op = Op.makeSlice t l c)
    (e : TypeId) (z : Value) (size bytes : Nat) (h1 : P.underlying t = some (.slice e)) (h2 : (P.info? e).map (fun i => (i.zero, i.size, i.bytes)) = some (some z, size, bytes)) (hs : z.cells.size = size) (hs0 : 0 < size)
    (n : Nat) (hl : a.eval l = .int .i64 (n : Int)) (hc : a.eval c = .int .i64 (n : Int)) (b2 : bytes * n ≤ 281474976710656) (b3 : n ≤ maxLen)
    (hK : ∀ w', Blk w' w.heap.size (zeros z n) e → Below w.heap.size w w' → w'.heap.size = w.heap.size + 1 → wpList P ops Q rest (a.put o.dst (.slice (some ⟨w.heap.size, 0, none⟩) n n)) w') :
    wpList P ops Q (o :: rest) a w := by
  obtain ⟨i, hi, hz0, hz1, hz2⟩ := info_parts h2
  refine wpList_plain hg fun K hK' => ?_
  have hrun := run_make (P := P) w t e i z h1 hi hz0 .i64 .i64 n n (by omega) (Int.le_refl _) (by
    have h : ((i.bytes * n : Nat) : Int) ≤ 281474976710656 := by rw [hz2]; omega
    rwa [Int.natCast_mul] at h) (by unfold maxLen at b3; omega)
  simp only [Int.toNat_natCast] at hrun
  unfold Oper.wp
  simp [execOp, hop, hl, hc, hrun, Result.andThen]
  refine hK' _ _ (hK _ ?_ ((Below.refl _ _).alloc (Nat.le_refl _) _) (by simp))
  have e1 : (madeCells z.cells (n * i.size)) = (zeros z n).toArray := by
    rw [hz1, ← hs]
    have := madeCells_zeros z.cells (by omega) n
    unfold zeros
    rw [← this]
  rw [e1]
  exact Blk.alloc_new _
end Go.Proofs.YtlblmofimjhbbaaDoor
