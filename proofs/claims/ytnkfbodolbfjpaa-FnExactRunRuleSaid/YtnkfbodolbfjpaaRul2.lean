/- Rows of rows: what is told of them while a loop lays them. -/
import Derived.Test.YtnkfbodolbfjpaaRul1
namespace Go.Proofs.Ytnkfbodolbfjpaa
open Go.RowKit
set_option maxRecDepth 100000
set_option maxHeartbeats 1000000
theorem infoSlr : (Try.prog.info? 49).map (fun i => (i.zero, i.size, i.bytes)) = some (some (.slice none 0 0), 1, 24) := by kernel_rfl
/-- One slice behind those of a row of the call's own. -/
theorem app_val {w : World} {B n : Nat} {v : Value} {us : List Value} (h : w.ownsRow B 49 1 v n us) (hl : n ≤ 1048576) (hB : B ≤ w.heap.size) (x : Value) (hx : x.oneCell' = true) : ∀ ty, ∃ v' w', (Builtin.append_ #[98, 98] ty #[v, .slice (some ⟨w.heap.size, 0, none⟩) 1 1]).run Try.prog (w.alloc (.cells #[x] 49)) = .ok v' w' ∧ w'.ownsRow B 49 1 v' (n + 1) (us ++ [x]) ∧ Below B w w' ∧ (∀ k, k < w.heap.size → v.ownBlock ≠ some k → w'.heap[k]? = w.heap[k]?) ∧ (v'.ownBlock = v.ownBlock ∨ ∃ g, v'.ownBlock = some g ∧ w.heap.size ≤ g) := fun ty => by
  obtain ⟨i0, hi, hz0, hz1, hz2⟩ := info_parts infoSlr
  have hal : Below w.heap.size w (w.alloc (.cells #[x] 49)) := (Below.refl _ w).alloc (Nat.le_refl _) _
  obtain ⟨v', w', hr, h1, h2, _, h5⟩ := run_append_own_at (P := Try.prog) (w.alloc (.cells #[x] 49)) B 98 ty 49 i0 (.slice none 0 0) 1 24 Try.underlying98 hi hz0 hz1 hz2 rfl (by decide) v n _ (own_keep h hal) ⟨w.heap.size, 0, none⟩ 1 1 [x] rfl (cell_one_new _ _ _) (by simpa using hx) (by unfold maxLen; omega) (by omega) (by rw [World.size_alloc]; omega)
  refine ⟨v', w', hr, h1, ?_, ?_, ?_⟩
  · refine (hal.mono hB).grown h2 (by rw [World.size_alloc]; omega) (fun k e => ?_)
    exact (h.lt k e).1
  · intro k hk hne
    exact (h2.block k (by rw [World.size_alloc]; omega) (fun e => hne e.symm)).trans (hal.block k hk)
  · rcases h5 with h5 | h5
    · exact .inl h5
    · exact .inr ⟨_, h5, by rw [World.size_alloc]; omega⟩
/-- What may be read: what came in, and what is new but for the block of v. -/
def RnD (R : Nat → Prop) (B : Nat) (w : World) (v : Value) (b : Nat) : Prop := (R b ∨ (B ≤ b ∧ b < w.heap.size)) ∧ v.ownBlock ≠ some b
theorem rnd_step {R : Nat → Prop} {B : Nat} {w w' : World} {v u : Value} {d : D} (hR : ∀ b, R b → b < w.heap.size) (h : RD w (RnD R B w v) u d) (hb : Below w.heap.size w w') : RD w' (RnD R B w' v) u d :=
  h.keep (fun _ ⟨h1, h2⟩ => ⟨h1.imp id fun h3 => ⟨h3.1, Nat.lt_of_lt_of_le h3.2 hb.size⟩, h2⟩) fun b ⟨h1, _⟩ => hb.block b (h1.elim (hR b) fun h3 => h3.2)
theorem rnd_app {R : Nat → Prop} {B : Nat} {w w' : World} {v v' u : Value} {d : D} (hR : ∀ b, R b → b < w.heap.size) (h : RD w (RnD R B w v) u d) (hz : w.heap.size ≤ w'.heap.size) (hk : ∀ k, k < w.heap.size → v.ownBlock ≠ some k → w'.heap[k]? = w.heap[k]?) (ha : v'.ownBlock = v.ownBlock ∨ ∃ g, v'.ownBlock = some g ∧ w.heap.size ≤ g) : RD w' (RnD R B w' v') u d :=
  h.keep (fun b ⟨h1, h2⟩ => ⟨h1.imp id fun h3 => ⟨h3.1, Nat.lt_of_lt_of_le h3.2 hz⟩, fun e => by
    rcases ha with ha | ⟨g, ha, hg⟩
    · exact h2 (ha ▸ e)
    · rw [ha] at e
      cases e
      rcases h1 with h1 | h1
      · have := hR _ h1; omega
      · omega⟩) fun b ⟨h1, h2⟩ => hk b (h1.elim (hR b) fun h3 => h3.2) h2
theorem okI_small {n : Int} (h : -1000 ≤ n ∧ n ≤ 1000) : okI (.int .i64 n) := by
  show (Lit.int .i64 n).wf = true
  rw [wf_iff]
  simp [IntKind.min, IntKind.max, IntKind.signed, IntKind.bits]
  omega
/-- A row of the call's own is that datum. -/
theorem rd_own {w : World} {R : Nat → Prop} {B e n : Nat} {v : Value} {l : List Int} (h : w.ownsRow B e 1 v n (l.map (Value.int .i64))) (hn : n = l.length) (hR : ∀ b, v.ownBlock = some b → R b) (hl : ∀ x ∈ l, okI (.int .i64 x)) : RD w R v (.rd kI (ints l)) := by
  subst hn
  rcases h.2 with ⟨rfl, h0⟩ | ⟨g, cap, cur, rfl, hb, hg, hnc, hcm, hcs, htake⟩
  · obtain rfl : l = [] := List.eq_nil_of_length_eq_zero h0
    exact .nil
  · by_cases h0 : l.length = 0
    · obtain rfl : l = [] := List.eq_nil_of_length_eq_zero h0
      exact .nil
    · have hln : (ints l).length = l.length := by simp
      rw [← hln]
      refine RD.rd (κ := kI) (xs := ints l) (b := g) (off := 0) (fun i _ => .int .i64 (l.getD i 0)) (by omega) (by omega) hcm (hR g rfl) (fun i es hi => ?_) (fun i es j hi hj => ?_) (fun i es j d hi hd => ?_)
      · rw [List.getElem?_map] at hi
        obtain ⟨x, _, rfl⟩ := Option.map_eq_some_iff.1 hi
        rfl
      · rw [List.getElem?_map] at hi
        obtain ⟨x, hx, rfl⟩ := Option.map_eq_some_iff.1 hi
        have hj0 : j = 0 := by have : j < 1 := hj; omega
        subst hj0
        have := h.cells (g := g) rfl i (.int .i64 x) (by rw [List.getElem?_map, hx]; rfl)
        rw [add_at] at this
        have e3 : 0 + i * kI.k + 0 = 0 + i := by show 0 + i * 1 + 0 = 0 + i; omega
        rw [e3, List.getD, hx]
        exact this
      · rw [List.getElem?_map] at hi
        obtain ⟨x, hx, rfl⟩ := Option.map_eq_some_iff.1 hi
        rw [List.getD, hx]
        have hd' : d = iD x := by
          rcases j with _ | j
          · exact (Option.some.inj hd).symm
          · cases hd
        rw [hd']
        exact .pv rfl (hl x (List.mem_of_getElem? hx))
end Go.Proofs.Ytnkfbodolbfjpaa
