/- Blocks of memory that are known whole, and how they stay. No program is named here. -/
import Derived.Test.YtghecnlgainfkaaBase
import Derived.Test.YtghecnlgainfkaaRg
import Derived.Laws.NewBlocks
import Derived.Deep.Heap
namespace Go.Proofs.Ytghecnlgainfkaa
open Go.RowKit
/-- Block b holds just these cells, none of them frozen. -/
structure Blk (w : World) (b : Nat) (cs : List Value) (t : TypeId) : Prop where
  out : w.heap[b]? = some (.cells cs.toArray t (0, 0))
section
variable {w w' : World} {b : Nat} {cs : List Value} {t : TypeId}
theorem Blk.lt (h : Blk w b cs t) : b < w.heap.size := by
  rcases Nat.lt_or_ge b w.heap.size with h' | h'
  · exact h'
  · have := h.out; rw [Array.getElem?_eq_none h'] at this; cases this
theorem Blk.of_eq (e : w'.heap[b]? = w.heap[b]?) (h : Blk w b cs t) : Blk w' b cs t := ⟨e.trans h.out⟩
theorem Blk.below (hb : Below w.heap.size w w') (h : Blk w b cs t) : Blk w' b cs t := ⟨(hb.block b h.lt).trans h.out⟩
theorem Blk.drew (h : Blk w b cs t) : Blk w.drew b cs t := ⟨h.out⟩
theorem Blk.alloc_old (o : Obj) (h : Blk w b cs t) : Blk (w.alloc o) b cs t := ⟨(Deep.blk_alloc_lt w o b h.lt).trans h.out⟩
theorem Blk.alloc_new (l : List Value) : Blk (w.alloc (.cells l.toArray t)) w.heap.size l t := ⟨Deep.blk_alloc_new w _⟩
theorem Blk.alloc_at {l : List Value} (hb : b = w.heap.size) : Blk (w.alloc (.cells l.toArray t)) b l t := hb ▸ Blk.alloc_new l
theorem Blk.set_other {a : Addr} (v : Value) (hne : b ≠ a.block) (h : Blk w b cs t) : Blk (w.setCell a v) b cs t := ⟨(Deep.blk_setCell_other w a v b hne).trans h.out⟩
theorem Blk.set (i : Nat) (v : Value) (h : Blk w b cs t) : Blk (w.setCell ⟨b, i, none⟩ v) b (cs.set i v) t := by
  have h1 := h.out
  refine ⟨?_⟩
  simp only [World.setCell, Array.getElem?_modify, if_pos, h1]
  simp
theorem Blk.cell {i : Nat} {v : Value} (h : Blk w b cs t) (hi : cs[i]? = some v) : w.cell? ⟨b, i, none⟩ = some v := by
  simp [World.cell?, h.out, hi]
theorem Blk.frozen (h : Blk w b cs t) (i : Nat) : w.frozen? ⟨b, i, none⟩ = false := by
  simp [World.frozen?, h.out]
/-- A new variable: a pointer to a block of its own. -/
def NewBox (lo : Nat) (cs : List Value) (t : TypeId) (v : Value) (w : World) : Prop := ∃ g, v = .pointer (some ⟨g, 0, none⟩) ∧ lo ≤ g ∧ Blk w g cs t
theorem NewBox.stab (lo : Nat) (cs : List Value) (t : TypeId) : Stab (NewBox lo cs t) := fun _ _ _ hb ⟨g, e, hl, h⟩ => ⟨g, e, hl, h.below hb⟩
/-- The world at hand under a name: its blocks are the old ones. -/
theorem wp_world {P : Program} {c : Code} {Q : Exit → Act → World → Prop} {a : Act} {W : World}
    (h : ∀ w0 : World, Below W.heap.size W w0 → (∀ k : Nat, w0.heap[k]? = W.heap[k]?) → w0.heap.size = W.heap.size → c.wp P Q a w0) : c.wp P Q a W :=
  h W (Below.refl _ _) (fun _ => rfl) rfl
end
end Go.Proofs.Ytghecnlgainfkaa
