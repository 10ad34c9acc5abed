/- The laws on points: the walks. -/
import Derived.Test.YtghecnlgainfkaaPoints
import Derived.Test.YtghecnlgainfkaaMem
import Derived.Deep.DeepCutAuto
namespace Go.Proofs.Ytghecnlgainfkaa
open Go.RowKit
theorem law_CellOf_in (bx by' x y k : Int) (w : World) (H : CellGood bx by' x y k) : Calls Try.prog 5 #[ptV bx by', ptV x y, .int .i64 k] w (Ret (.bool true) w) := by
  go_enter Try.func5, Try.ntmps5
  go_wp2_with fail
  refine wp_world ?_; intro w0 hb0 hh0 hz0; (try simp at hz0)
  have K0 : Blk w0 (w.heap.size) [.int .i64 bx, .int .i64 by'] 32 := Blk.of_eq (hh0 _) (by repeat (first | assumption | exact Blk.alloc_at (by (first | omega | (simp; done) | (simp; omega))) | refine Blk.set_other _ (by (first | omega | (simp; done) | (simp; omega))) ?_ | refine Blk.alloc_old _ ?_ | refine Blk.drew ?_ | refine Blk.of_eq (by assumption) ?_ | refine Blk.below (by assumption) ?_))
  have K0L := K0.lt
  have K1 : Blk w0 (w.heap.size + 1) [.int .i64 x, .int .i64 y] 32 := Blk.of_eq (hh0 _) (by repeat (first | assumption | exact Blk.alloc_at (by (first | omega | (simp; done) | (simp; omega))) | refine Blk.set_other _ (by (first | omega | (simp; done) | (simp; omega))) ?_ | refine Blk.alloc_old _ ?_ | refine Blk.drew ?_ | refine Blk.of_eq (by assumption) ?_ | refine Blk.below (by assumption) ?_))
  have K1L := K1.lt
  refine wp_region_rgl 10 [Is (ptV bx by'), Is (ptV bx by'), Is (ptV x y), Is (ptV x y), Is (.int .i64 k), Is (.tuple #[ptV (bx * k + x) (by' * k + y), .int .i64 0]), Is (.tuple #[ptV (bx * k + x) (by' * k + y), .int .i64 0]), Is (ptV (bx * k + x) (by' * k + y)), Is (.int .i64 0), NewBox w0.heap.size [.int .i64 0, .int .i64 0] 33] (fun _ _ _ _ _ h => h) (by kernel_rfl) (by kernel_rfl) ⟨Stab.is _, Stab.is _, Stab.is _, Stab.is _, Stab.is _, Stab.is _, Stab.is _, Stab.is _, Stab.is _, NewBox.stab _ _ _, trivial⟩ ⟨?_, ?_, ?_, ?_, ?_, ?_, ?_, ?_, ?_, ?_, ?_, ?_, trivial⟩ ?_
  · intro _ v w1 hb hd; have hz := hb.size
    have K0 := K0.below hb
    have K0c0 := K0.cell (i := 0) rfl
    have K0c1 := K0.cell (i := 1) rfl
    have K1 := K1.below hb
    have K1c0 := K1.cell (i := 0) rfl
    have K1c1 := K1.cell (i := 1) rfl
    clear hd; (try unfold Is at *); simp only [rgPut, rgDst, Act.put, List.getElem?_cons_zero, List.getElem?_cons_succ, Option.bind_some, List.setIfInBounds_toArray, List.set_cons_zero, List.set_cons_succ]
    go_wp2_with (first | (go_at_call 21; refine (toPoint_any _ _ _).mono ?_; rintro e w1 ⟨rfl, hb⟩; (obtain ⟨hc, hf⟩ := bcell hb; have hz := hb.size; have ht := below_lt hb; (try simp at hz); (try have z0 : w.heap.size < w1.heap.size := by omega); (try have z1 : w.heap.size + 1 < w1.heap.size := by omega); (try have z2 : w.heap.size + 1 + 1 < w1.heap.size := by omega); (try have z3 : w.heap.size + 1 + 1 + 1 < w1.heap.size := by omega); (try have z4 : w.heap.size + 1 + 1 + 1 + 1 < w1.heap.size := by omega))) | (go_at_call 20; refine (sCellOf _ _ _ _ _ _).mono ?_; rintro e w1 ⟨hb, ⟨h1, rfl⟩ | ⟨h1, rfl⟩⟩ <;> (try (exfalso; exact h1 H)) <;> (try (exfalso; exact H h1)) <;> (obtain ⟨hc, hf⟩ := bcell hb; have hz := hb.size; have ht := below_lt hb; (try simp at hz); (try have z0 : w.heap.size < w1.heap.size := by omega); (try have z1 : w.heap.size + 1 < w1.heap.size := by omega); (try have z2 : w.heap.size + 1 + 1 < w1.heap.size := by omega); (try have z3 : w.heap.size + 1 + 1 + 1 < w1.heap.size := by omega); (try have z4 : w.heap.size + 1 + 1 + 1 + 1 < w1.heap.size := by omega))))
    exact ⟨rfl, (by repeat (first | exact Below.refl _ _ | refine Below.setCell ?_ (by first | omega | (simp; done) | (simp; omega)) _ | refine Below.alloc ?_ (by first | omega | (simp; done) | (simp; omega)) _ | refine Below.drew ?_ | refine Below.trans ?_ (Below.mono (by assumption) (by first | omega | (simp; done) | (simp; omega))))), (by first | rfl | assumption)⟩
  · intro _ v w1 hb hd; have hz := hb.size
    have K0 := K0.below hb
    have K0c0 := K0.cell (i := 0) rfl
    have K0c1 := K0.cell (i := 1) rfl
    have K1 := K1.below hb
    have K1c0 := K1.cell (i := 0) rfl
    have K1c1 := K1.cell (i := 1) rfl
    have d0 : (Is (ptV bx by')) (v 0) w1 := hd 0 (by kernel_rfl)
    clear hd; (try unfold Is at *); simp only [rgPut, rgDst, Act.put, List.getElem?_cons_zero, List.getElem?_cons_succ, Option.bind_some, List.setIfInBounds_toArray, List.set_cons_zero, List.set_cons_succ]
    go_wp2_with (first | (go_at_call 21; refine (toPoint_any _ _ _).mono ?_; rintro e w1 ⟨rfl, hb⟩; (obtain ⟨hc, hf⟩ := bcell hb; have hz := hb.size; have ht := below_lt hb; (try simp at hz); (try have z0 : w.heap.size < w1.heap.size := by omega); (try have z1 : w.heap.size + 1 < w1.heap.size := by omega); (try have z2 : w.heap.size + 1 + 1 < w1.heap.size := by omega); (try have z3 : w.heap.size + 1 + 1 + 1 < w1.heap.size := by omega); (try have z4 : w.heap.size + 1 + 1 + 1 + 1 < w1.heap.size := by omega))) | (go_at_call 20; refine (sCellOf _ _ _ _ _ _).mono ?_; rintro e w1 ⟨hb, ⟨h1, rfl⟩ | ⟨h1, rfl⟩⟩ <;> (try (exfalso; exact h1 H)) <;> (try (exfalso; exact H h1)) <;> (obtain ⟨hc, hf⟩ := bcell hb; have hz := hb.size; have ht := below_lt hb; (try simp at hz); (try have z0 : w.heap.size < w1.heap.size := by omega); (try have z1 : w.heap.size + 1 < w1.heap.size := by omega); (try have z2 : w.heap.size + 1 + 1 < w1.heap.size := by omega); (try have z3 : w.heap.size + 1 + 1 + 1 < w1.heap.size := by omega); (try have z4 : w.heap.size + 1 + 1 + 1 + 1 < w1.heap.size := by omega))))
    exact ⟨rfl, (by repeat (first | exact Below.refl _ _ | refine Below.setCell ?_ (by first | omega | (simp; done) | (simp; omega)) _ | refine Below.alloc ?_ (by first | omega | (simp; done) | (simp; omega)) _ | refine Below.drew ?_ | refine Below.trans ?_ (Below.mono (by assumption) (by first | omega | (simp; done) | (simp; omega))))), (by first | rfl | assumption)⟩
  · intro _ v w1 hb hd; have hz := hb.size
    have K0 := K0.below hb
    have K0c0 := K0.cell (i := 0) rfl
    have K0c1 := K0.cell (i := 1) rfl
    have K1 := K1.below hb
    have K1c0 := K1.cell (i := 0) rfl
    have K1c1 := K1.cell (i := 1) rfl
    clear hd; (try unfold Is at *); simp only [rgPut, rgDst, Act.put, List.getElem?_cons_zero, List.getElem?_cons_succ, Option.bind_some, List.setIfInBounds_toArray, List.set_cons_zero, List.set_cons_succ]
    go_wp2_with (first | (go_at_call 21; refine (toPoint_any _ _ _).mono ?_; rintro e w1 ⟨rfl, hb⟩; (obtain ⟨hc, hf⟩ := bcell hb; have hz := hb.size; have ht := below_lt hb; (try simp at hz); (try have z0 : w.heap.size < w1.heap.size := by omega); (try have z1 : w.heap.size + 1 < w1.heap.size := by omega); (try have z2 : w.heap.size + 1 + 1 < w1.heap.size := by omega); (try have z3 : w.heap.size + 1 + 1 + 1 < w1.heap.size := by omega); (try have z4 : w.heap.size + 1 + 1 + 1 + 1 < w1.heap.size := by omega))) | (go_at_call 20; refine (sCellOf _ _ _ _ _ _).mono ?_; rintro e w1 ⟨hb, ⟨h1, rfl⟩ | ⟨h1, rfl⟩⟩ <;> (try (exfalso; exact h1 H)) <;> (try (exfalso; exact H h1)) <;> (obtain ⟨hc, hf⟩ := bcell hb; have hz := hb.size; have ht := below_lt hb; (try simp at hz); (try have z0 : w.heap.size < w1.heap.size := by omega); (try have z1 : w.heap.size + 1 < w1.heap.size := by omega); (try have z2 : w.heap.size + 1 + 1 < w1.heap.size := by omega); (try have z3 : w.heap.size + 1 + 1 + 1 < w1.heap.size := by omega); (try have z4 : w.heap.size + 1 + 1 + 1 + 1 < w1.heap.size := by omega))))
    exact ⟨rfl, (by repeat (first | exact Below.refl _ _ | refine Below.setCell ?_ (by first | omega | (simp; done) | (simp; omega)) _ | refine Below.alloc ?_ (by first | omega | (simp; done) | (simp; omega)) _ | refine Below.drew ?_ | refine Below.trans ?_ (Below.mono (by assumption) (by first | omega | (simp; done) | (simp; omega))))), (by first | rfl | assumption)⟩
  · intro _ v w1 hb hd; have hz := hb.size
    have K0 := K0.below hb
    have K0c0 := K0.cell (i := 0) rfl
    have K0c1 := K0.cell (i := 1) rfl
    have K1 := K1.below hb
    have K1c0 := K1.cell (i := 0) rfl
    have K1c1 := K1.cell (i := 1) rfl
    have d2 : (Is (ptV x y)) (v 2) w1 := hd 2 (by kernel_rfl)
    clear hd; (try unfold Is at *); simp only [rgPut, rgDst, Act.put, List.getElem?_cons_zero, List.getElem?_cons_succ, Option.bind_some, List.setIfInBounds_toArray, List.set_cons_zero, List.set_cons_succ]
    go_wp2_with (first | (go_at_call 21; refine (toPoint_any _ _ _).mono ?_; rintro e w1 ⟨rfl, hb⟩; (obtain ⟨hc, hf⟩ := bcell hb; have hz := hb.size; have ht := below_lt hb; (try simp at hz); (try have z0 : w.heap.size < w1.heap.size := by omega); (try have z1 : w.heap.size + 1 < w1.heap.size := by omega); (try have z2 : w.heap.size + 1 + 1 < w1.heap.size := by omega); (try have z3 : w.heap.size + 1 + 1 + 1 < w1.heap.size := by omega); (try have z4 : w.heap.size + 1 + 1 + 1 + 1 < w1.heap.size := by omega))) | (go_at_call 20; refine (sCellOf _ _ _ _ _ _).mono ?_; rintro e w1 ⟨hb, ⟨h1, rfl⟩ | ⟨h1, rfl⟩⟩ <;> (try (exfalso; exact h1 H)) <;> (try (exfalso; exact H h1)) <;> (obtain ⟨hc, hf⟩ := bcell hb; have hz := hb.size; have ht := below_lt hb; (try simp at hz); (try have z0 : w.heap.size < w1.heap.size := by omega); (try have z1 : w.heap.size + 1 < w1.heap.size := by omega); (try have z2 : w.heap.size + 1 + 1 < w1.heap.size := by omega); (try have z3 : w.heap.size + 1 + 1 + 1 < w1.heap.size := by omega); (try have z4 : w.heap.size + 1 + 1 + 1 + 1 < w1.heap.size := by omega))))
    exact ⟨rfl, (by repeat (first | exact Below.refl _ _ | refine Below.setCell ?_ (by first | omega | (simp; done) | (simp; omega)) _ | refine Below.alloc ?_ (by first | omega | (simp; done) | (simp; omega)) _ | refine Below.drew ?_ | refine Below.trans ?_ (Below.mono (by assumption) (by first | omega | (simp; done) | (simp; omega))))), (by first | rfl | assumption)⟩
  · intro _ v w1 hb hd; have hz := hb.size
    have K0 := K0.below hb
    have K0c0 := K0.cell (i := 0) rfl
    have K0c1 := K0.cell (i := 1) rfl
    have K1 := K1.below hb
    have K1c0 := K1.cell (i := 0) rfl
    have K1c1 := K1.cell (i := 1) rfl
    clear hd; (try unfold Is at *); simp only [rgPut, rgDst, Act.put, List.getElem?_cons_zero, List.getElem?_cons_succ, Option.bind_some, List.setIfInBounds_toArray, List.set_cons_zero, List.set_cons_succ]
    go_wp2_with (first | (go_at_call 21; refine (toPoint_any _ _ _).mono ?_; rintro e w1 ⟨rfl, hb⟩; (obtain ⟨hc, hf⟩ := bcell hb; have hz := hb.size; have ht := below_lt hb; (try simp at hz); (try have z0 : w.heap.size < w1.heap.size := by omega); (try have z1 : w.heap.size + 1 < w1.heap.size := by omega); (try have z2 : w.heap.size + 1 + 1 < w1.heap.size := by omega); (try have z3 : w.heap.size + 1 + 1 + 1 < w1.heap.size := by omega); (try have z4 : w.heap.size + 1 + 1 + 1 + 1 < w1.heap.size := by omega))) | (go_at_call 20; refine (sCellOf _ _ _ _ _ _).mono ?_; rintro e w1 ⟨hb, ⟨h1, rfl⟩ | ⟨h1, rfl⟩⟩ <;> (try (exfalso; exact h1 H)) <;> (try (exfalso; exact H h1)) <;> (obtain ⟨hc, hf⟩ := bcell hb; have hz := hb.size; have ht := below_lt hb; (try simp at hz); (try have z0 : w.heap.size < w1.heap.size := by omega); (try have z1 : w.heap.size + 1 < w1.heap.size := by omega); (try have z2 : w.heap.size + 1 + 1 < w1.heap.size := by omega); (try have z3 : w.heap.size + 1 + 1 + 1 < w1.heap.size := by omega); (try have z4 : w.heap.size + 1 + 1 + 1 + 1 < w1.heap.size := by omega))))
    exact ⟨rfl, (by repeat (first | exact Below.refl _ _ | refine Below.setCell ?_ (by first | omega | (simp; done) | (simp; omega)) _ | refine Below.alloc ?_ (by first | omega | (simp; done) | (simp; omega)) _ | refine Below.drew ?_ | refine Below.trans ?_ (Below.mono (by assumption) (by first | omega | (simp; done) | (simp; omega))))), (by first | rfl | assumption)⟩
  · intro _ v w1 hb hd; have hz := hb.size
    have K0 := K0.below hb
    have K0c0 := K0.cell (i := 0) rfl
    have K0c1 := K0.cell (i := 1) rfl
    have K1 := K1.below hb
    have K1c0 := K1.cell (i := 0) rfl
    have K1c1 := K1.cell (i := 1) rfl
    have d1 : (Is (ptV bx by')) (v 1) w1 := hd 1 (by kernel_rfl)
    have d3 : (Is (ptV x y)) (v 3) w1 := hd 3 (by kernel_rfl)
    have d4 : (Is (.int .i64 k)) (v 4) w1 := hd 4 (by kernel_rfl)
    clear hd; (try unfold Is at *); simp only [rgPut, rgDst, Act.put, List.getElem?_cons_zero, List.getElem?_cons_succ, Option.bind_some, List.setIfInBounds_toArray, List.set_cons_zero, List.set_cons_succ]
    go_wp2_with (first | (go_at_call 21; refine (toPoint_any _ _ _).mono ?_; rintro e w1 ⟨rfl, hb⟩; (obtain ⟨hc, hf⟩ := bcell hb; have hz := hb.size; have ht := below_lt hb; (try simp at hz); (try have z0 : w.heap.size < w1.heap.size := by omega); (try have z1 : w.heap.size + 1 < w1.heap.size := by omega); (try have z2 : w.heap.size + 1 + 1 < w1.heap.size := by omega); (try have z3 : w.heap.size + 1 + 1 + 1 < w1.heap.size := by omega); (try have z4 : w.heap.size + 1 + 1 + 1 + 1 < w1.heap.size := by omega))) | (go_at_call 20; refine (sCellOf _ _ _ _ _ _).mono ?_; rintro e w1 ⟨hb, ⟨h1, rfl⟩ | ⟨h1, rfl⟩⟩ <;> (try (exfalso; exact h1 H)) <;> (try (exfalso; exact H h1)) <;> (obtain ⟨hc, hf⟩ := bcell hb; have hz := hb.size; have ht := below_lt hb; (try simp at hz); (try have z0 : w.heap.size < w1.heap.size := by omega); (try have z1 : w.heap.size + 1 < w1.heap.size := by omega); (try have z2 : w.heap.size + 1 + 1 < w1.heap.size := by omega); (try have z3 : w.heap.size + 1 + 1 + 1 < w1.heap.size := by omega); (try have z4 : w.heap.size + 1 + 1 + 1 + 1 < w1.heap.size := by omega))))
    exact ⟨rfl, (by repeat (first | exact Below.refl _ _ | refine Below.setCell ?_ (by first | omega | (simp; done) | (simp; omega)) _ | refine Below.alloc ?_ (by first | omega | (simp; done) | (simp; omega)) _ | refine Below.drew ?_ | refine Below.trans ?_ (Below.mono (by assumption) (by first | omega | (simp; done) | (simp; omega))))), (by first | rfl | assumption)⟩
  · intro _ v w1 hb hd; have hz := hb.size
    have K0 := K0.below hb
    have K0c0 := K0.cell (i := 0) rfl
    have K0c1 := K0.cell (i := 1) rfl
    have K1 := K1.below hb
    have K1c0 := K1.cell (i := 0) rfl
    have K1c1 := K1.cell (i := 1) rfl
    have d5 : (Is (.tuple #[ptV (bx * k + x) (by' * k + y), .int .i64 0])) (v 5) w1 := hd 5 (by kernel_rfl)
    clear hd; (try unfold Is at *); simp only [rgPut, rgDst, Act.put, List.getElem?_cons_zero, List.getElem?_cons_succ, Option.bind_some, List.setIfInBounds_toArray, List.set_cons_zero, List.set_cons_succ]
    go_wp2_with (first | (go_at_call 21; refine (toPoint_any _ _ _).mono ?_; rintro e w1 ⟨rfl, hb⟩; (obtain ⟨hc, hf⟩ := bcell hb; have hz := hb.size; have ht := below_lt hb; (try simp at hz); (try have z0 : w.heap.size < w1.heap.size := by omega); (try have z1 : w.heap.size + 1 < w1.heap.size := by omega); (try have z2 : w.heap.size + 1 + 1 < w1.heap.size := by omega); (try have z3 : w.heap.size + 1 + 1 + 1 < w1.heap.size := by omega); (try have z4 : w.heap.size + 1 + 1 + 1 + 1 < w1.heap.size := by omega))) | (go_at_call 20; refine (sCellOf _ _ _ _ _ _).mono ?_; rintro e w1 ⟨hb, ⟨h1, rfl⟩ | ⟨h1, rfl⟩⟩ <;> (try (exfalso; exact h1 H)) <;> (try (exfalso; exact H h1)) <;> (obtain ⟨hc, hf⟩ := bcell hb; have hz := hb.size; have ht := below_lt hb; (try simp at hz); (try have z0 : w.heap.size < w1.heap.size := by omega); (try have z1 : w.heap.size + 1 < w1.heap.size := by omega); (try have z2 : w.heap.size + 1 + 1 < w1.heap.size := by omega); (try have z3 : w.heap.size + 1 + 1 + 1 < w1.heap.size := by omega); (try have z4 : w.heap.size + 1 + 1 + 1 + 1 < w1.heap.size := by omega))))
    exact ⟨rfl, (by repeat (first | exact Below.refl _ _ | refine Below.setCell ?_ (by first | omega | (simp; done) | (simp; omega)) _ | refine Below.alloc ?_ (by first | omega | (simp; done) | (simp; omega)) _ | refine Below.drew ?_ | refine Below.trans ?_ (Below.mono (by assumption) (by first | omega | (simp; done) | (simp; omega))))), (by first | rfl | assumption)⟩
  · intro _ v w1 hb hd; have hz := hb.size
    have K0 := K0.below hb
    have K0c0 := K0.cell (i := 0) rfl
    have K0c1 := K0.cell (i := 1) rfl
    have K1 := K1.below hb
    have K1c0 := K1.cell (i := 0) rfl
    have K1c1 := K1.cell (i := 1) rfl
    have d6 : (Is (.tuple #[ptV (bx * k + x) (by' * k + y), .int .i64 0])) (v 6) w1 := hd 6 (by kernel_rfl)
    clear hd; (try unfold Is at *); simp only [rgPut, rgDst, Act.put, List.getElem?_cons_zero, List.getElem?_cons_succ, Option.bind_some, List.setIfInBounds_toArray, List.set_cons_zero, List.set_cons_succ]
    go_wp2_with (first | (go_at_call 21; refine (toPoint_any _ _ _).mono ?_; rintro e w1 ⟨rfl, hb⟩; (obtain ⟨hc, hf⟩ := bcell hb; have hz := hb.size; have ht := below_lt hb; (try simp at hz); (try have z0 : w.heap.size < w1.heap.size := by omega); (try have z1 : w.heap.size + 1 < w1.heap.size := by omega); (try have z2 : w.heap.size + 1 + 1 < w1.heap.size := by omega); (try have z3 : w.heap.size + 1 + 1 + 1 < w1.heap.size := by omega); (try have z4 : w.heap.size + 1 + 1 + 1 + 1 < w1.heap.size := by omega))) | (go_at_call 20; refine (sCellOf _ _ _ _ _ _).mono ?_; rintro e w1 ⟨hb, ⟨h1, rfl⟩ | ⟨h1, rfl⟩⟩ <;> (try (exfalso; exact h1 H)) <;> (try (exfalso; exact H h1)) <;> (obtain ⟨hc, hf⟩ := bcell hb; have hz := hb.size; have ht := below_lt hb; (try simp at hz); (try have z0 : w.heap.size < w1.heap.size := by omega); (try have z1 : w.heap.size + 1 < w1.heap.size := by omega); (try have z2 : w.heap.size + 1 + 1 < w1.heap.size := by omega); (try have z3 : w.heap.size + 1 + 1 + 1 < w1.heap.size := by omega); (try have z4 : w.heap.size + 1 + 1 + 1 + 1 < w1.heap.size := by omega))))
    exact ⟨rfl, (by repeat (first | exact Below.refl _ _ | refine Below.setCell ?_ (by first | omega | (simp; done) | (simp; omega)) _ | refine Below.alloc ?_ (by first | omega | (simp; done) | (simp; omega)) _ | refine Below.drew ?_ | refine Below.trans ?_ (Below.mono (by assumption) (by first | omega | (simp; done) | (simp; omega))))), (by first | rfl | assumption)⟩
  · intro _ v w1 hb hd; have hz := hb.size
    have K0 := K0.below hb
    have K0c0 := K0.cell (i := 0) rfl
    have K0c1 := K0.cell (i := 1) rfl
    have K1 := K1.below hb
    have K1c0 := K1.cell (i := 0) rfl
    have K1c1 := K1.cell (i := 1) rfl
    have d6 : (Is (.tuple #[ptV (bx * k + x) (by' * k + y), .int .i64 0])) (v 6) w1 := hd 6 (by kernel_rfl)
    clear hd; (try unfold Is at *); simp only [rgPut, rgDst, Act.put, List.getElem?_cons_zero, List.getElem?_cons_succ, Option.bind_some, List.setIfInBounds_toArray, List.set_cons_zero, List.set_cons_succ]
    go_wp2_with (first | (go_at_call 21; refine (toPoint_any _ _ _).mono ?_; rintro e w1 ⟨rfl, hb⟩; (obtain ⟨hc, hf⟩ := bcell hb; have hz := hb.size; have ht := below_lt hb; (try simp at hz); (try have z0 : w.heap.size < w1.heap.size := by omega); (try have z1 : w.heap.size + 1 < w1.heap.size := by omega); (try have z2 : w.heap.size + 1 + 1 < w1.heap.size := by omega); (try have z3 : w.heap.size + 1 + 1 + 1 < w1.heap.size := by omega); (try have z4 : w.heap.size + 1 + 1 + 1 + 1 < w1.heap.size := by omega))) | (go_at_call 20; refine (sCellOf _ _ _ _ _ _).mono ?_; rintro e w1 ⟨hb, ⟨h1, rfl⟩ | ⟨h1, rfl⟩⟩ <;> (try (exfalso; exact h1 H)) <;> (try (exfalso; exact H h1)) <;> (obtain ⟨hc, hf⟩ := bcell hb; have hz := hb.size; have ht := below_lt hb; (try simp at hz); (try have z0 : w.heap.size < w1.heap.size := by omega); (try have z1 : w.heap.size + 1 < w1.heap.size := by omega); (try have z2 : w.heap.size + 1 + 1 < w1.heap.size := by omega); (try have z3 : w.heap.size + 1 + 1 + 1 < w1.heap.size := by omega); (try have z4 : w.heap.size + 1 + 1 + 1 + 1 < w1.heap.size := by omega))))
    exact ⟨rfl, (by repeat (first | exact Below.refl _ _ | refine Below.setCell ?_ (by first | omega | (simp; done) | (simp; omega)) _ | refine Below.alloc ?_ (by first | omega | (simp; done) | (simp; omega)) _ | refine Below.drew ?_ | refine Below.trans ?_ (Below.mono (by assumption) (by first | omega | (simp; done) | (simp; omega))))), (by first | rfl | assumption)⟩
  · intro _ v w1 hb hd; have hz := hb.size
    have K0 := K0.below hb
    have K0c0 := K0.cell (i := 0) rfl
    have K0c1 := K0.cell (i := 1) rfl
    have K1 := K1.below hb
    have K1c0 := K1.cell (i := 0) rfl
    have K1c1 := K1.cell (i := 1) rfl
    clear hd; (try unfold Is at *); simp only [rgPut, rgDst, Act.put, List.getElem?_cons_zero, List.getElem?_cons_succ, Option.bind_some, List.setIfInBounds_toArray, List.set_cons_zero, List.set_cons_succ]
    go_wp2_with (first | (go_at_call 21; refine (toPoint_any _ _ _).mono ?_; rintro e w1 ⟨rfl, hb⟩; (obtain ⟨hc, hf⟩ := bcell hb; have hz := hb.size; have ht := below_lt hb; (try simp at hz); (try have z0 : w.heap.size < w1.heap.size := by omega); (try have z1 : w.heap.size + 1 < w1.heap.size := by omega); (try have z2 : w.heap.size + 1 + 1 < w1.heap.size := by omega); (try have z3 : w.heap.size + 1 + 1 + 1 < w1.heap.size := by omega); (try have z4 : w.heap.size + 1 + 1 + 1 + 1 < w1.heap.size := by omega))) | (go_at_call 20; refine (sCellOf _ _ _ _ _ _).mono ?_; rintro e w1 ⟨hb, ⟨h1, rfl⟩ | ⟨h1, rfl⟩⟩ <;> (try (exfalso; exact h1 H)) <;> (try (exfalso; exact H h1)) <;> (obtain ⟨hc, hf⟩ := bcell hb; have hz := hb.size; have ht := below_lt hb; (try simp at hz); (try have z0 : w.heap.size < w1.heap.size := by omega); (try have z1 : w.heap.size + 1 < w1.heap.size := by omega); (try have z2 : w.heap.size + 1 + 1 < w1.heap.size := by omega); (try have z3 : w.heap.size + 1 + 1 + 1 < w1.heap.size := by omega); (try have z4 : w.heap.size + 1 + 1 + 1 + 1 < w1.heap.size := by omega))))
    exact ⟨rfl, (by repeat (first | exact Below.refl _ _ | refine Below.setCell ?_ (by first | omega | (simp; done) | (simp; omega)) _ | refine Below.alloc ?_ (by first | omega | (simp; done) | (simp; omega)) _ | refine Below.drew ?_ | refine Below.trans ?_ (Below.mono (by assumption) (by first | omega | (simp; done) | (simp; omega))))), ⟨_, rfl, by (first | omega | (simp; done) | (simp; omega)), Blk.alloc_at (by (first | omega | (simp; done) | (simp; omega)))⟩⟩
  · (intro hk; exact absurd hk (by decide))
  · (intro hk; exact absurd hk (by decide))
  intro v w1 hb hA
  have a0 : (Is (ptV bx by')) (v 0) w1 := hA 0 (by decide)
  have a1 : (Is (ptV bx by')) (v 1) w1 := hA 1 (by decide)
  have a2 : (Is (ptV x y)) (v 2) w1 := hA 2 (by decide)
  have a3 : (Is (ptV x y)) (v 3) w1 := hA 3 (by decide)
  have a4 : (Is (.int .i64 k)) (v 4) w1 := hA 4 (by decide)
  have a5 : (Is (.tuple #[ptV (bx * k + x) (by' * k + y), .int .i64 0])) (v 5) w1 := hA 5 (by decide)
  have a6 : (Is (.tuple #[ptV (bx * k + x) (by' * k + y), .int .i64 0])) (v 6) w1 := hA 6 (by decide)
  have a7 : (Is (ptV (bx * k + x) (by' * k + y))) (v 7) w1 := hA 7 (by decide)
  have a8 : (Is (.int .i64 0)) (v 8) w1 := hA 8 (by decide)
  have a9 : (NewBox w0.heap.size [.int .i64 0, .int .i64 0] 33) (v 9) w1 := hA 9 (by decide)
  clear hA; (try unfold Is at *); simp only [rgPut, rgDst, Act.put, List.getElem?_cons_zero, List.getElem?_cons_succ, Option.bind_some, List.setIfInBounds_toArray, List.set_cons_zero, List.set_cons_succ, List.drop_succ_cons, List.drop_zero]
  simp only [a0, a1, a2, a3, a4, a5, a6, a7, a8]; clear a0 a1 a2 a3 a4 a5 a6 a7 a8
  generalize v 9 = v7 at *
  have hz := hb.size
  have K0 := K0.below hb
  have K1 := K1.below hb
  obtain ⟨g7, rfl, l7, B7⟩ := a9
  have B7c0 := B7.cell (i := 0) rfl
  have B7c1 := B7.cell (i := 1) rfl
  have B7f0 := B7.frozen 0
  have B7f1 := B7.frozen 1
  have N7K0 : ¬ (w.heap.size = g7) := by omega
  have M7K0 : ¬ (g7 = w.heap.size) := by omega
  have N7K1 : ¬ (w.heap.size + 1 = g7) := by omega
  have M7K1 : ¬ (g7 = w.heap.size + 1) := by omega
  go_wp2_with fail
  have B7 := (B7.set 0 (.int .i64 (bx * k + x))).set 1 (.int .i64 (by' * k + y))
  refine wp_world ?_; intro w0 hb0 hh0 hz0; (try simp at hz0)
  have K0 : Blk w0 (w.heap.size) [.int .i64 bx, .int .i64 by'] 32 := Blk.of_eq (hh0 _) (by repeat (first | assumption | exact Blk.alloc_at (by (first | omega | (simp; done) | (simp; omega))) | refine Blk.set_other _ (by (first | omega | (simp; done) | (simp; omega))) ?_ | refine Blk.alloc_old _ ?_ | refine Blk.drew ?_ | refine Blk.of_eq (by assumption) ?_ | refine Blk.below (by assumption) ?_))
  have K0L := K0.lt
  have K1 : Blk w0 (w.heap.size + 1) [.int .i64 x, .int .i64 y] 32 := Blk.of_eq (hh0 _) (by repeat (first | assumption | exact Blk.alloc_at (by (first | omega | (simp; done) | (simp; omega))) | refine Blk.set_other _ (by (first | omega | (simp; done) | (simp; omega))) ?_ | refine Blk.alloc_old _ ?_ | refine Blk.drew ?_ | refine Blk.of_eq (by assumption) ?_ | refine Blk.below (by assumption) ?_))
  have K1L := K1.lt
  have K7 : Blk w0 (g7) [.int .i64 (bx * k + x), .int .i64 (by' * k + y)] 33 := Blk.of_eq (hh0 _) (by repeat (first | assumption | exact Blk.alloc_at (by (first | omega | (simp; done) | (simp; omega))) | refine Blk.set_other _ (by (first | omega | (simp; done) | (simp; omega))) ?_ | refine Blk.alloc_old _ ?_ | refine Blk.drew ?_ | refine Blk.of_eq (by assumption) ?_ | refine Blk.below (by assumption) ?_))
  have K7L := K7.lt
  refine wp_region_rgl 10 [Is (ptV bx by'), Is (ptV bx by'), Is (ptV x y), Is (ptV x y), Is (.int .i64 k), Is (.tuple #[ptV (bx * k + x) (by' * k + y), .int .i64 0]), Is (.tuple #[ptV (bx * k + x) (by' * k + y), .int .i64 0]), Is (ptV (bx * k + x) (by' * k + y)), Is (.int .i64 0), NewBox w0.heap.size [.int .i64 0, .int .i64 0] 33] (fun _ _ _ _ _ h => h) (by kernel_rfl) (by kernel_rfl) ⟨Stab.is _, Stab.is _, Stab.is _, Stab.is _, Stab.is _, Stab.is _, Stab.is _, Stab.is _, Stab.is _, NewBox.stab _ _ _, trivial⟩ ⟨?_, ?_, ?_, ?_, ?_, ?_, ?_, ?_, ?_, ?_, ?_, ?_, trivial⟩ ?_
  · intro _ v w1 hb hd; have hz := hb.size
    have K0 := K0.below hb
    have K0c0 := K0.cell (i := 0) rfl
    have K0c1 := K0.cell (i := 1) rfl
    have K1 := K1.below hb
    have K1c0 := K1.cell (i := 0) rfl
    have K1c1 := K1.cell (i := 1) rfl
    have K7 := K7.below hb
    have K7c0 := K7.cell (i := 0) rfl
    have K7c1 := K7.cell (i := 1) rfl
    clear hd; (try unfold Is at *); simp only [rgPut, rgDst, Act.put, List.getElem?_cons_zero, List.getElem?_cons_succ, Option.bind_some, List.setIfInBounds_toArray, List.set_cons_zero, List.set_cons_succ]
    go_wp2_with (first | (go_at_call 21; refine (toPoint_any _ _ _).mono ?_; rintro e w1 ⟨rfl, hb⟩; (obtain ⟨hc, hf⟩ := bcell hb; have hz := hb.size; have ht := below_lt hb; (try simp at hz); (try have z0 : w.heap.size < w1.heap.size := by omega); (try have z1 : w.heap.size + 1 < w1.heap.size := by omega); (try have z2 : w.heap.size + 1 + 1 < w1.heap.size := by omega); (try have z3 : w.heap.size + 1 + 1 + 1 < w1.heap.size := by omega); (try have z4 : w.heap.size + 1 + 1 + 1 + 1 < w1.heap.size := by omega))) | (go_at_call 22; refine (iCellOf _ _ _ _ _ _).mono ?_; rintro e w1 ⟨hb, ⟨h1, rfl⟩ | ⟨h1, rfl⟩⟩ <;> (try (exfalso; exact h1 H)) <;> (try (exfalso; exact H h1)) <;> (obtain ⟨hc, hf⟩ := bcell hb; have hz := hb.size; have ht := below_lt hb; (try simp at hz); (try have z0 : w.heap.size < w1.heap.size := by omega); (try have z1 : w.heap.size + 1 < w1.heap.size := by omega); (try have z2 : w.heap.size + 1 + 1 < w1.heap.size := by omega); (try have z3 : w.heap.size + 1 + 1 + 1 < w1.heap.size := by omega); (try have z4 : w.heap.size + 1 + 1 + 1 + 1 < w1.heap.size := by omega))))
    exact ⟨rfl, (by repeat (first | exact Below.refl _ _ | refine Below.setCell ?_ (by first | omega | (simp; done) | (simp; omega)) _ | refine Below.alloc ?_ (by first | omega | (simp; done) | (simp; omega)) _ | refine Below.drew ?_ | refine Below.trans ?_ (Below.mono (by assumption) (by first | omega | (simp; done) | (simp; omega))))), (by first | rfl | assumption)⟩
  · intro _ v w1 hb hd; have hz := hb.size
    have K0 := K0.below hb
    have K0c0 := K0.cell (i := 0) rfl
    have K0c1 := K0.cell (i := 1) rfl
    have K1 := K1.below hb
    have K1c0 := K1.cell (i := 0) rfl
    have K1c1 := K1.cell (i := 1) rfl
    have K7 := K7.below hb
    have K7c0 := K7.cell (i := 0) rfl
    have K7c1 := K7.cell (i := 1) rfl
    have d0 : (Is (ptV bx by')) (v 0) w1 := hd 0 (by kernel_rfl)
    clear hd; (try unfold Is at *); simp only [rgPut, rgDst, Act.put, List.getElem?_cons_zero, List.getElem?_cons_succ, Option.bind_some, List.setIfInBounds_toArray, List.set_cons_zero, List.set_cons_succ]
    go_wp2_with (first | (go_at_call 21; refine (toPoint_any _ _ _).mono ?_; rintro e w1 ⟨rfl, hb⟩; (obtain ⟨hc, hf⟩ := bcell hb; have hz := hb.size; have ht := below_lt hb; (try simp at hz); (try have z0 : w.heap.size < w1.heap.size := by omega); (try have z1 : w.heap.size + 1 < w1.heap.size := by omega); (try have z2 : w.heap.size + 1 + 1 < w1.heap.size := by omega); (try have z3 : w.heap.size + 1 + 1 + 1 < w1.heap.size := by omega); (try have z4 : w.heap.size + 1 + 1 + 1 + 1 < w1.heap.size := by omega))) | (go_at_call 22; refine (iCellOf _ _ _ _ _ _).mono ?_; rintro e w1 ⟨hb, ⟨h1, rfl⟩ | ⟨h1, rfl⟩⟩ <;> (try (exfalso; exact h1 H)) <;> (try (exfalso; exact H h1)) <;> (obtain ⟨hc, hf⟩ := bcell hb; have hz := hb.size; have ht := below_lt hb; (try simp at hz); (try have z0 : w.heap.size < w1.heap.size := by omega); (try have z1 : w.heap.size + 1 < w1.heap.size := by omega); (try have z2 : w.heap.size + 1 + 1 < w1.heap.size := by omega); (try have z3 : w.heap.size + 1 + 1 + 1 < w1.heap.size := by omega); (try have z4 : w.heap.size + 1 + 1 + 1 + 1 < w1.heap.size := by omega))))
    exact ⟨rfl, (by repeat (first | exact Below.refl _ _ | refine Below.setCell ?_ (by first | omega | (simp; done) | (simp; omega)) _ | refine Below.alloc ?_ (by first | omega | (simp; done) | (simp; omega)) _ | refine Below.drew ?_ | refine Below.trans ?_ (Below.mono (by assumption) (by first | omega | (simp; done) | (simp; omega))))), (by first | rfl | assumption)⟩
  · intro _ v w1 hb hd; have hz := hb.size
    have K0 := K0.below hb
    have K0c0 := K0.cell (i := 0) rfl
    have K0c1 := K0.cell (i := 1) rfl
    have K1 := K1.below hb
    have K1c0 := K1.cell (i := 0) rfl
    have K1c1 := K1.cell (i := 1) rfl
    have K7 := K7.below hb
    have K7c0 := K7.cell (i := 0) rfl
    have K7c1 := K7.cell (i := 1) rfl
    clear hd; (try unfold Is at *); simp only [rgPut, rgDst, Act.put, List.getElem?_cons_zero, List.getElem?_cons_succ, Option.bind_some, List.setIfInBounds_toArray, List.set_cons_zero, List.set_cons_succ]
    go_wp2_with (first | (go_at_call 21; refine (toPoint_any _ _ _).mono ?_; rintro e w1 ⟨rfl, hb⟩; (obtain ⟨hc, hf⟩ := bcell hb; have hz := hb.size; have ht := below_lt hb; (try simp at hz); (try have z0 : w.heap.size < w1.heap.size := by omega); (try have z1 : w.heap.size + 1 < w1.heap.size := by omega); (try have z2 : w.heap.size + 1 + 1 < w1.heap.size := by omega); (try have z3 : w.heap.size + 1 + 1 + 1 < w1.heap.size := by omega); (try have z4 : w.heap.size + 1 + 1 + 1 + 1 < w1.heap.size := by omega))) | (go_at_call 22; refine (iCellOf _ _ _ _ _ _).mono ?_; rintro e w1 ⟨hb, ⟨h1, rfl⟩ | ⟨h1, rfl⟩⟩ <;> (try (exfalso; exact h1 H)) <;> (try (exfalso; exact H h1)) <;> (obtain ⟨hc, hf⟩ := bcell hb; have hz := hb.size; have ht := below_lt hb; (try simp at hz); (try have z0 : w.heap.size < w1.heap.size := by omega); (try have z1 : w.heap.size + 1 < w1.heap.size := by omega); (try have z2 : w.heap.size + 1 + 1 < w1.heap.size := by omega); (try have z3 : w.heap.size + 1 + 1 + 1 < w1.heap.size := by omega); (try have z4 : w.heap.size + 1 + 1 + 1 + 1 < w1.heap.size := by omega))))
    exact ⟨rfl, (by repeat (first | exact Below.refl _ _ | refine Below.setCell ?_ (by first | omega | (simp; done) | (simp; omega)) _ | refine Below.alloc ?_ (by first | omega | (simp; done) | (simp; omega)) _ | refine Below.drew ?_ | refine Below.trans ?_ (Below.mono (by assumption) (by first | omega | (simp; done) | (simp; omega))))), (by first | rfl | assumption)⟩
  · intro _ v w1 hb hd; have hz := hb.size
    have K0 := K0.below hb
    have K0c0 := K0.cell (i := 0) rfl
    have K0c1 := K0.cell (i := 1) rfl
    have K1 := K1.below hb
    have K1c0 := K1.cell (i := 0) rfl
    have K1c1 := K1.cell (i := 1) rfl
    have K7 := K7.below hb
    have K7c0 := K7.cell (i := 0) rfl
    have K7c1 := K7.cell (i := 1) rfl
    have d2 : (Is (ptV x y)) (v 2) w1 := hd 2 (by kernel_rfl)
    clear hd; (try unfold Is at *); simp only [rgPut, rgDst, Act.put, List.getElem?_cons_zero, List.getElem?_cons_succ, Option.bind_some, List.setIfInBounds_toArray, List.set_cons_zero, List.set_cons_succ]
    go_wp2_with (first | (go_at_call 21; refine (toPoint_any _ _ _).mono ?_; rintro e w1 ⟨rfl, hb⟩; (obtain ⟨hc, hf⟩ := bcell hb; have hz := hb.size; have ht := below_lt hb; (try simp at hz); (try have z0 : w.heap.size < w1.heap.size := by omega); (try have z1 : w.heap.size + 1 < w1.heap.size := by omega); (try have z2 : w.heap.size + 1 + 1 < w1.heap.size := by omega); (try have z3 : w.heap.size + 1 + 1 + 1 < w1.heap.size := by omega); (try have z4 : w.heap.size + 1 + 1 + 1 + 1 < w1.heap.size := by omega))) | (go_at_call 22; refine (iCellOf _ _ _ _ _ _).mono ?_; rintro e w1 ⟨hb, ⟨h1, rfl⟩ | ⟨h1, rfl⟩⟩ <;> (try (exfalso; exact h1 H)) <;> (try (exfalso; exact H h1)) <;> (obtain ⟨hc, hf⟩ := bcell hb; have hz := hb.size; have ht := below_lt hb; (try simp at hz); (try have z0 : w.heap.size < w1.heap.size := by omega); (try have z1 : w.heap.size + 1 < w1.heap.size := by omega); (try have z2 : w.heap.size + 1 + 1 < w1.heap.size := by omega); (try have z3 : w.heap.size + 1 + 1 + 1 < w1.heap.size := by omega); (try have z4 : w.heap.size + 1 + 1 + 1 + 1 < w1.heap.size := by omega))))
    exact ⟨rfl, (by repeat (first | exact Below.refl _ _ | refine Below.setCell ?_ (by first | omega | (simp; done) | (simp; omega)) _ | refine Below.alloc ?_ (by first | omega | (simp; done) | (simp; omega)) _ | refine Below.drew ?_ | refine Below.trans ?_ (Below.mono (by assumption) (by first | omega | (simp; done) | (simp; omega))))), (by first | rfl | assumption)⟩
  · intro _ v w1 hb hd; have hz := hb.size
    have K0 := K0.below hb
    have K0c0 := K0.cell (i := 0) rfl
    have K0c1 := K0.cell (i := 1) rfl
    have K1 := K1.below hb
    have K1c0 := K1.cell (i := 0) rfl
    have K1c1 := K1.cell (i := 1) rfl
    have K7 := K7.below hb
    have K7c0 := K7.cell (i := 0) rfl
    have K7c1 := K7.cell (i := 1) rfl
    clear hd; (try unfold Is at *); simp only [rgPut, rgDst, Act.put, List.getElem?_cons_zero, List.getElem?_cons_succ, Option.bind_some, List.setIfInBounds_toArray, List.set_cons_zero, List.set_cons_succ]
    go_wp2_with (first | (go_at_call 21; refine (toPoint_any _ _ _).mono ?_; rintro e w1 ⟨rfl, hb⟩; (obtain ⟨hc, hf⟩ := bcell hb; have hz := hb.size; have ht := below_lt hb; (try simp at hz); (try have z0 : w.heap.size < w1.heap.size := by omega); (try have z1 : w.heap.size + 1 < w1.heap.size := by omega); (try have z2 : w.heap.size + 1 + 1 < w1.heap.size := by omega); (try have z3 : w.heap.size + 1 + 1 + 1 < w1.heap.size := by omega); (try have z4 : w.heap.size + 1 + 1 + 1 + 1 < w1.heap.size := by omega))) | (go_at_call 22; refine (iCellOf _ _ _ _ _ _).mono ?_; rintro e w1 ⟨hb, ⟨h1, rfl⟩ | ⟨h1, rfl⟩⟩ <;> (try (exfalso; exact h1 H)) <;> (try (exfalso; exact H h1)) <;> (obtain ⟨hc, hf⟩ := bcell hb; have hz := hb.size; have ht := below_lt hb; (try simp at hz); (try have z0 : w.heap.size < w1.heap.size := by omega); (try have z1 : w.heap.size + 1 < w1.heap.size := by omega); (try have z2 : w.heap.size + 1 + 1 < w1.heap.size := by omega); (try have z3 : w.heap.size + 1 + 1 + 1 < w1.heap.size := by omega); (try have z4 : w.heap.size + 1 + 1 + 1 + 1 < w1.heap.size := by omega))))
    exact ⟨rfl, (by repeat (first | exact Below.refl _ _ | refine Below.setCell ?_ (by first | omega | (simp; done) | (simp; omega)) _ | refine Below.alloc ?_ (by first | omega | (simp; done) | (simp; omega)) _ | refine Below.drew ?_ | refine Below.trans ?_ (Below.mono (by assumption) (by first | omega | (simp; done) | (simp; omega))))), (by first | rfl | assumption)⟩
  · intro _ v w1 hb hd; have hz := hb.size
    have K0 := K0.below hb
    have K0c0 := K0.cell (i := 0) rfl
    have K0c1 := K0.cell (i := 1) rfl
    have K1 := K1.below hb
    have K1c0 := K1.cell (i := 0) rfl
    have K1c1 := K1.cell (i := 1) rfl
    have K7 := K7.below hb
    have K7c0 := K7.cell (i := 0) rfl
    have K7c1 := K7.cell (i := 1) rfl
    have d1 : (Is (ptV bx by')) (v 1) w1 := hd 1 (by kernel_rfl)
    have d3 : (Is (ptV x y)) (v 3) w1 := hd 3 (by kernel_rfl)
    have d4 : (Is (.int .i64 k)) (v 4) w1 := hd 4 (by kernel_rfl)
    clear hd; (try unfold Is at *); simp only [rgPut, rgDst, Act.put, List.getElem?_cons_zero, List.getElem?_cons_succ, Option.bind_some, List.setIfInBounds_toArray, List.set_cons_zero, List.set_cons_succ]
    go_wp2_with (first | (go_at_call 21; refine (toPoint_any _ _ _).mono ?_; rintro e w1 ⟨rfl, hb⟩; (obtain ⟨hc, hf⟩ := bcell hb; have hz := hb.size; have ht := below_lt hb; (try simp at hz); (try have z0 : w.heap.size < w1.heap.size := by omega); (try have z1 : w.heap.size + 1 < w1.heap.size := by omega); (try have z2 : w.heap.size + 1 + 1 < w1.heap.size := by omega); (try have z3 : w.heap.size + 1 + 1 + 1 < w1.heap.size := by omega); (try have z4 : w.heap.size + 1 + 1 + 1 + 1 < w1.heap.size := by omega))) | (go_at_call 22; refine (iCellOf _ _ _ _ _ _).mono ?_; rintro e w1 ⟨hb, ⟨h1, rfl⟩ | ⟨h1, rfl⟩⟩ <;> (try (exfalso; exact h1 H)) <;> (try (exfalso; exact H h1)) <;> (obtain ⟨hc, hf⟩ := bcell hb; have hz := hb.size; have ht := below_lt hb; (try simp at hz); (try have z0 : w.heap.size < w1.heap.size := by omega); (try have z1 : w.heap.size + 1 < w1.heap.size := by omega); (try have z2 : w.heap.size + 1 + 1 < w1.heap.size := by omega); (try have z3 : w.heap.size + 1 + 1 + 1 < w1.heap.size := by omega); (try have z4 : w.heap.size + 1 + 1 + 1 + 1 < w1.heap.size := by omega))))
    exact ⟨rfl, (by repeat (first | exact Below.refl _ _ | refine Below.setCell ?_ (by first | omega | (simp; done) | (simp; omega)) _ | refine Below.alloc ?_ (by first | omega | (simp; done) | (simp; omega)) _ | refine Below.drew ?_ | refine Below.trans ?_ (Below.mono (by assumption) (by first | omega | (simp; done) | (simp; omega))))), (by first | rfl | assumption)⟩
  · intro _ v w1 hb hd; have hz := hb.size
    have K0 := K0.below hb
    have K0c0 := K0.cell (i := 0) rfl
    have K0c1 := K0.cell (i := 1) rfl
    have K1 := K1.below hb
    have K1c0 := K1.cell (i := 0) rfl
    have K1c1 := K1.cell (i := 1) rfl
    have K7 := K7.below hb
    have K7c0 := K7.cell (i := 0) rfl
    have K7c1 := K7.cell (i := 1) rfl
    have d5 : (Is (.tuple #[ptV (bx * k + x) (by' * k + y), .int .i64 0])) (v 5) w1 := hd 5 (by kernel_rfl)
    clear hd; (try unfold Is at *); simp only [rgPut, rgDst, Act.put, List.getElem?_cons_zero, List.getElem?_cons_succ, Option.bind_some, List.setIfInBounds_toArray, List.set_cons_zero, List.set_cons_succ]
    go_wp2_with (first | (go_at_call 21; refine (toPoint_any _ _ _).mono ?_; rintro e w1 ⟨rfl, hb⟩; (obtain ⟨hc, hf⟩ := bcell hb; have hz := hb.size; have ht := below_lt hb; (try simp at hz); (try have z0 : w.heap.size < w1.heap.size := by omega); (try have z1 : w.heap.size + 1 < w1.heap.size := by omega); (try have z2 : w.heap.size + 1 + 1 < w1.heap.size := by omega); (try have z3 : w.heap.size + 1 + 1 + 1 < w1.heap.size := by omega); (try have z4 : w.heap.size + 1 + 1 + 1 + 1 < w1.heap.size := by omega))) | (go_at_call 22; refine (iCellOf _ _ _ _ _ _).mono ?_; rintro e w1 ⟨hb, ⟨h1, rfl⟩ | ⟨h1, rfl⟩⟩ <;> (try (exfalso; exact h1 H)) <;> (try (exfalso; exact H h1)) <;> (obtain ⟨hc, hf⟩ := bcell hb; have hz := hb.size; have ht := below_lt hb; (try simp at hz); (try have z0 : w.heap.size < w1.heap.size := by omega); (try have z1 : w.heap.size + 1 < w1.heap.size := by omega); (try have z2 : w.heap.size + 1 + 1 < w1.heap.size := by omega); (try have z3 : w.heap.size + 1 + 1 + 1 < w1.heap.size := by omega); (try have z4 : w.heap.size + 1 + 1 + 1 + 1 < w1.heap.size := by omega))))
    exact ⟨rfl, (by repeat (first | exact Below.refl _ _ | refine Below.setCell ?_ (by first | omega | (simp; done) | (simp; omega)) _ | refine Below.alloc ?_ (by first | omega | (simp; done) | (simp; omega)) _ | refine Below.drew ?_ | refine Below.trans ?_ (Below.mono (by assumption) (by first | omega | (simp; done) | (simp; omega))))), (by first | rfl | assumption)⟩
  · intro _ v w1 hb hd; have hz := hb.size
    have K0 := K0.below hb
    have K0c0 := K0.cell (i := 0) rfl
    have K0c1 := K0.cell (i := 1) rfl
    have K1 := K1.below hb
    have K1c0 := K1.cell (i := 0) rfl
    have K1c1 := K1.cell (i := 1) rfl
    have K7 := K7.below hb
    have K7c0 := K7.cell (i := 0) rfl
    have K7c1 := K7.cell (i := 1) rfl
    have d6 : (Is (.tuple #[ptV (bx * k + x) (by' * k + y), .int .i64 0])) (v 6) w1 := hd 6 (by kernel_rfl)
    clear hd; (try unfold Is at *); simp only [rgPut, rgDst, Act.put, List.getElem?_cons_zero, List.getElem?_cons_succ, Option.bind_some, List.setIfInBounds_toArray, List.set_cons_zero, List.set_cons_succ]
    go_wp2_with (first | (go_at_call 21; refine (toPoint_any _ _ _).mono ?_; rintro e w1 ⟨rfl, hb⟩; (obtain ⟨hc, hf⟩ := bcell hb; have hz := hb.size; have ht := below_lt hb; (try simp at hz); (try have z0 : w.heap.size < w1.heap.size := by omega); (try have z1 : w.heap.size + 1 < w1.heap.size := by omega); (try have z2 : w.heap.size + 1 + 1 < w1.heap.size := by omega); (try have z3 : w.heap.size + 1 + 1 + 1 < w1.heap.size := by omega); (try have z4 : w.heap.size + 1 + 1 + 1 + 1 < w1.heap.size := by omega))) | (go_at_call 22; refine (iCellOf _ _ _ _ _ _).mono ?_; rintro e w1 ⟨hb, ⟨h1, rfl⟩ | ⟨h1, rfl⟩⟩ <;> (try (exfalso; exact h1 H)) <;> (try (exfalso; exact H h1)) <;> (obtain ⟨hc, hf⟩ := bcell hb; have hz := hb.size; have ht := below_lt hb; (try simp at hz); (try have z0 : w.heap.size < w1.heap.size := by omega); (try have z1 : w.heap.size + 1 < w1.heap.size := by omega); (try have z2 : w.heap.size + 1 + 1 < w1.heap.size := by omega); (try have z3 : w.heap.size + 1 + 1 + 1 < w1.heap.size := by omega); (try have z4 : w.heap.size + 1 + 1 + 1 + 1 < w1.heap.size := by omega))))
    exact ⟨rfl, (by repeat (first | exact Below.refl _ _ | refine Below.setCell ?_ (by first | omega | (simp; done) | (simp; omega)) _ | refine Below.alloc ?_ (by first | omega | (simp; done) | (simp; omega)) _ | refine Below.drew ?_ | refine Below.trans ?_ (Below.mono (by assumption) (by first | omega | (simp; done) | (simp; omega))))), (by first | rfl | assumption)⟩
  · intro _ v w1 hb hd; have hz := hb.size
    have K0 := K0.below hb
    have K0c0 := K0.cell (i := 0) rfl
    have K0c1 := K0.cell (i := 1) rfl
    have K1 := K1.below hb
    have K1c0 := K1.cell (i := 0) rfl
    have K1c1 := K1.cell (i := 1) rfl
    have K7 := K7.below hb
    have K7c0 := K7.cell (i := 0) rfl
    have K7c1 := K7.cell (i := 1) rfl
    have d6 : (Is (.tuple #[ptV (bx * k + x) (by' * k + y), .int .i64 0])) (v 6) w1 := hd 6 (by kernel_rfl)
    clear hd; (try unfold Is at *); simp only [rgPut, rgDst, Act.put, List.getElem?_cons_zero, List.getElem?_cons_succ, Option.bind_some, List.setIfInBounds_toArray, List.set_cons_zero, List.set_cons_succ]
    go_wp2_with (first | (go_at_call 21; refine (toPoint_any _ _ _).mono ?_; rintro e w1 ⟨rfl, hb⟩; (obtain ⟨hc, hf⟩ := bcell hb; have hz := hb.size; have ht := below_lt hb; (try simp at hz); (try have z0 : w.heap.size < w1.heap.size := by omega); (try have z1 : w.heap.size + 1 < w1.heap.size := by omega); (try have z2 : w.heap.size + 1 + 1 < w1.heap.size := by omega); (try have z3 : w.heap.size + 1 + 1 + 1 < w1.heap.size := by omega); (try have z4 : w.heap.size + 1 + 1 + 1 + 1 < w1.heap.size := by omega))) | (go_at_call 22; refine (iCellOf _ _ _ _ _ _).mono ?_; rintro e w1 ⟨hb, ⟨h1, rfl⟩ | ⟨h1, rfl⟩⟩ <;> (try (exfalso; exact h1 H)) <;> (try (exfalso; exact H h1)) <;> (obtain ⟨hc, hf⟩ := bcell hb; have hz := hb.size; have ht := below_lt hb; (try simp at hz); (try have z0 : w.heap.size < w1.heap.size := by omega); (try have z1 : w.heap.size + 1 < w1.heap.size := by omega); (try have z2 : w.heap.size + 1 + 1 < w1.heap.size := by omega); (try have z3 : w.heap.size + 1 + 1 + 1 < w1.heap.size := by omega); (try have z4 : w.heap.size + 1 + 1 + 1 + 1 < w1.heap.size := by omega))))
    exact ⟨rfl, (by repeat (first | exact Below.refl _ _ | refine Below.setCell ?_ (by first | omega | (simp; done) | (simp; omega)) _ | refine Below.alloc ?_ (by first | omega | (simp; done) | (simp; omega)) _ | refine Below.drew ?_ | refine Below.trans ?_ (Below.mono (by assumption) (by first | omega | (simp; done) | (simp; omega))))), (by first | rfl | assumption)⟩
  · intro _ v w1 hb hd; have hz := hb.size
    have K0 := K0.below hb
    have K0c0 := K0.cell (i := 0) rfl
    have K0c1 := K0.cell (i := 1) rfl
    have K1 := K1.below hb
    have K1c0 := K1.cell (i := 0) rfl
    have K1c1 := K1.cell (i := 1) rfl
    have K7 := K7.below hb
    have K7c0 := K7.cell (i := 0) rfl
    have K7c1 := K7.cell (i := 1) rfl
    clear hd; (try unfold Is at *); simp only [rgPut, rgDst, Act.put, List.getElem?_cons_zero, List.getElem?_cons_succ, Option.bind_some, List.setIfInBounds_toArray, List.set_cons_zero, List.set_cons_succ]
    go_wp2_with (first | (go_at_call 21; refine (toPoint_any _ _ _).mono ?_; rintro e w1 ⟨rfl, hb⟩; (obtain ⟨hc, hf⟩ := bcell hb; have hz := hb.size; have ht := below_lt hb; (try simp at hz); (try have z0 : w.heap.size < w1.heap.size := by omega); (try have z1 : w.heap.size + 1 < w1.heap.size := by omega); (try have z2 : w.heap.size + 1 + 1 < w1.heap.size := by omega); (try have z3 : w.heap.size + 1 + 1 + 1 < w1.heap.size := by omega); (try have z4 : w.heap.size + 1 + 1 + 1 + 1 < w1.heap.size := by omega))) | (go_at_call 22; refine (iCellOf _ _ _ _ _ _).mono ?_; rintro e w1 ⟨hb, ⟨h1, rfl⟩ | ⟨h1, rfl⟩⟩ <;> (try (exfalso; exact h1 H)) <;> (try (exfalso; exact H h1)) <;> (obtain ⟨hc, hf⟩ := bcell hb; have hz := hb.size; have ht := below_lt hb; (try simp at hz); (try have z0 : w.heap.size < w1.heap.size := by omega); (try have z1 : w.heap.size + 1 < w1.heap.size := by omega); (try have z2 : w.heap.size + 1 + 1 < w1.heap.size := by omega); (try have z3 : w.heap.size + 1 + 1 + 1 < w1.heap.size := by omega); (try have z4 : w.heap.size + 1 + 1 + 1 + 1 < w1.heap.size := by omega))))
    exact ⟨rfl, (by repeat (first | exact Below.refl _ _ | refine Below.setCell ?_ (by first | omega | (simp; done) | (simp; omega)) _ | refine Below.alloc ?_ (by first | omega | (simp; done) | (simp; omega)) _ | refine Below.drew ?_ | refine Below.trans ?_ (Below.mono (by assumption) (by first | omega | (simp; done) | (simp; omega))))), ⟨_, rfl, by (first | omega | (simp; done) | (simp; omega)), Blk.alloc_at (by (first | omega | (simp; done) | (simp; omega)))⟩⟩
  · (intro hk; exact absurd hk (by decide))
  · (intro hk; exact absurd hk (by decide))
  intro v w1 hb hA
  have a0 : (Is (ptV bx by')) (v 0) w1 := hA 0 (by decide)
  have a1 : (Is (ptV bx by')) (v 1) w1 := hA 1 (by decide)
  have a2 : (Is (ptV x y)) (v 2) w1 := hA 2 (by decide)
  have a3 : (Is (ptV x y)) (v 3) w1 := hA 3 (by decide)
  have a4 : (Is (.int .i64 k)) (v 4) w1 := hA 4 (by decide)
  have a5 : (Is (.tuple #[ptV (bx * k + x) (by' * k + y), .int .i64 0])) (v 5) w1 := hA 5 (by decide)
  have a6 : (Is (.tuple #[ptV (bx * k + x) (by' * k + y), .int .i64 0])) (v 6) w1 := hA 6 (by decide)
  have a7 : (Is (ptV (bx * k + x) (by' * k + y))) (v 7) w1 := hA 7 (by decide)
  have a8 : (Is (.int .i64 0)) (v 8) w1 := hA 8 (by decide)
  have a9 : (NewBox w0.heap.size [.int .i64 0, .int .i64 0] 33) (v 9) w1 := hA 9 (by decide)
  clear hA; (try unfold Is at *); simp only [rgPut, rgDst, Act.put, List.getElem?_cons_zero, List.getElem?_cons_succ, Option.bind_some, List.setIfInBounds_toArray, List.set_cons_zero, List.set_cons_succ, List.drop_succ_cons, List.drop_zero]
  simp only [a0, a1, a2, a3, a4, a5, a6, a7, a8]; clear a0 a1 a2 a3 a4 a5 a6 a7 a8
  generalize v 9 = v9 at *
  have hz := hb.size
  have K0 := K0.below hb
  have K1 := K1.below hb
  have K7 := K7.below hb
  obtain ⟨g9, rfl, l9, B9⟩ := a9
  have B9c0 := B9.cell (i := 0) rfl
  have B9c1 := B9.cell (i := 1) rfl
  have B9f0 := B9.frozen 0
  have B9f1 := B9.frozen 1
  have N9K0 : ¬ (w.heap.size = g9) := by omega
  have M9K0 : ¬ (g9 = w.heap.size) := by omega
  have N9K1 : ¬ (w.heap.size + 1 = g9) := by omega
  have M9K1 : ¬ (g9 = w.heap.size + 1) := by omega
  have N9K7 : ¬ (g7 = g9) := by omega
  have M9K7 : ¬ (g9 = g7) := by omega
  have K7c0 := K7.cell (i := 0) rfl
  have K7c1 := K7.cell (i := 1) rfl
  go_wp2_with ((go_at_call 23; refine (eqPoint_any _ _ _ _ _).mono ?_; rintro e w1 ⟨hb, ⟨h1, rfl⟩ | ⟨h1, rfl⟩⟩ <;> (try (exfalso; omega)) <;> (obtain ⟨hc, hf⟩ := bcell hb; have hz := hb.size; have ht := below_lt hb; (try simp at hz); (try have z0 : w.heap.size < w1.heap.size := by omega); (try have z1 : w.heap.size + 1 < w1.heap.size := by omega); (try have z2 : w.heap.size + 1 + 1 < w1.heap.size := by omega); (try have z3 : w.heap.size + 1 + 1 + 1 < w1.heap.size := by omega); (try have z4 : w.heap.size + 1 + 1 + 1 + 1 < w1.heap.size := by omega))))
  go_ret
  exact ⟨rfl, (by repeat (first | exact Below.refl _ _ | refine Below.setCell ?_ (by first | omega | (simp; done) | (simp; omega)) _ | refine Below.alloc ?_ (by first | omega | (simp; done) | (simp; omega)) _ | refine Below.drew ?_ | refine Below.trans ?_ (Below.mono (by assumption) (by first | omega | (simp; done) | (simp; omega)))))⟩
theorem law_CellOf_out (bx by' x y k : Int) (w : World) (H : ¬ CellGood bx by' x y k) : Calls Try.prog 5 #[ptV bx by', ptV x y, .int .i64 k] w (Ret (.bool true) w) := by
  go_enter Try.func5, Try.ntmps5
  go_wp2_with fail
  refine wp_world ?_; intro w0 hb0 hh0 hz0; (try simp at hz0)
  have K0 : Blk w0 (w.heap.size) [.int .i64 bx, .int .i64 by'] 32 := Blk.of_eq (hh0 _) (by repeat (first | assumption | exact Blk.alloc_at (by (first | omega | (simp; done) | (simp; omega))) | refine Blk.set_other _ (by (first | omega | (simp; done) | (simp; omega))) ?_ | refine Blk.alloc_old _ ?_ | refine Blk.drew ?_ | refine Blk.of_eq (by assumption) ?_ | refine Blk.below (by assumption) ?_))
  have K0L := K0.lt
  have K1 : Blk w0 (w.heap.size + 1) [.int .i64 x, .int .i64 y] 32 := Blk.of_eq (hh0 _) (by repeat (first | assumption | exact Blk.alloc_at (by (first | omega | (simp; done) | (simp; omega))) | refine Blk.set_other _ (by (first | omega | (simp; done) | (simp; omega))) ?_ | refine Blk.alloc_old _ ?_ | refine Blk.drew ?_ | refine Blk.of_eq (by assumption) ?_ | refine Blk.below (by assumption) ?_))
  have K1L := K1.lt
  refine wp_region_rgl 10 [Is (ptV bx by'), Is (ptV bx by'), Is (ptV x y), Is (ptV x y), Is (.int .i64 k), Is (.tuple #[ptV 0 0, .int .i64 2]), Is (.tuple #[ptV 0 0, .int .i64 2]), Is (ptV 0 0), Is (.int .i64 2), NewBox w0.heap.size [.int .i64 0, .int .i64 0] 33] (fun _ _ _ _ _ h => h) (by kernel_rfl) (by kernel_rfl) ⟨Stab.is _, Stab.is _, Stab.is _, Stab.is _, Stab.is _, Stab.is _, Stab.is _, Stab.is _, Stab.is _, NewBox.stab _ _ _, trivial⟩ ⟨?_, ?_, ?_, ?_, ?_, ?_, ?_, ?_, ?_, ?_, ?_, ?_, trivial⟩ ?_
  · intro _ v w1 hb hd; have hz := hb.size
    have K0 := K0.below hb
    have K0c0 := K0.cell (i := 0) rfl
    have K0c1 := K0.cell (i := 1) rfl
    have K1 := K1.below hb
    have K1c0 := K1.cell (i := 0) rfl
    have K1c1 := K1.cell (i := 1) rfl
    clear hd; (try unfold Is at *); simp only [rgPut, rgDst, Act.put, List.getElem?_cons_zero, List.getElem?_cons_succ, Option.bind_some, List.setIfInBounds_toArray, List.set_cons_zero, List.set_cons_succ]
    go_wp2_with (first | (go_at_call 21; refine (toPoint_any _ _ _).mono ?_; rintro e w1 ⟨rfl, hb⟩; (obtain ⟨hc, hf⟩ := bcell hb; have hz := hb.size; have ht := below_lt hb; (try simp at hz); (try have z0 : w.heap.size < w1.heap.size := by omega); (try have z1 : w.heap.size + 1 < w1.heap.size := by omega); (try have z2 : w.heap.size + 1 + 1 < w1.heap.size := by omega); (try have z3 : w.heap.size + 1 + 1 + 1 < w1.heap.size := by omega); (try have z4 : w.heap.size + 1 + 1 + 1 + 1 < w1.heap.size := by omega))) | (go_at_call 20; refine (sCellOf _ _ _ _ _ _).mono ?_; rintro e w1 ⟨hb, ⟨h1, rfl⟩ | ⟨h1, rfl⟩⟩ <;> (try (exfalso; exact h1 H)) <;> (try (exfalso; exact H h1)) <;> (obtain ⟨hc, hf⟩ := bcell hb; have hz := hb.size; have ht := below_lt hb; (try simp at hz); (try have z0 : w.heap.size < w1.heap.size := by omega); (try have z1 : w.heap.size + 1 < w1.heap.size := by omega); (try have z2 : w.heap.size + 1 + 1 < w1.heap.size := by omega); (try have z3 : w.heap.size + 1 + 1 + 1 < w1.heap.size := by omega); (try have z4 : w.heap.size + 1 + 1 + 1 + 1 < w1.heap.size := by omega))))
    exact ⟨rfl, (by repeat (first | exact Below.refl _ _ | refine Below.setCell ?_ (by first | omega | (simp; done) | (simp; omega)) _ | refine Below.alloc ?_ (by first | omega | (simp; done) | (simp; omega)) _ | refine Below.drew ?_ | refine Below.trans ?_ (Below.mono (by assumption) (by first | omega | (simp; done) | (simp; omega))))), (by first | rfl | assumption)⟩
  · intro _ v w1 hb hd; have hz := hb.size
    have K0 := K0.below hb
    have K0c0 := K0.cell (i := 0) rfl
    have K0c1 := K0.cell (i := 1) rfl
    have K1 := K1.below hb
    have K1c0 := K1.cell (i := 0) rfl
    have K1c1 := K1.cell (i := 1) rfl
    have d0 : (Is (ptV bx by')) (v 0) w1 := hd 0 (by kernel_rfl)
    clear hd; (try unfold Is at *); simp only [rgPut, rgDst, Act.put, List.getElem?_cons_zero, List.getElem?_cons_succ, Option.bind_some, List.setIfInBounds_toArray, List.set_cons_zero, List.set_cons_succ]
    go_wp2_with (first | (go_at_call 21; refine (toPoint_any _ _ _).mono ?_; rintro e w1 ⟨rfl, hb⟩; (obtain ⟨hc, hf⟩ := bcell hb; have hz := hb.size; have ht := below_lt hb; (try simp at hz); (try have z0 : w.heap.size < w1.heap.size := by omega); (try have z1 : w.heap.size + 1 < w1.heap.size := by omega); (try have z2 : w.heap.size + 1 + 1 < w1.heap.size := by omega); (try have z3 : w.heap.size + 1 + 1 + 1 < w1.heap.size := by omega); (try have z4 : w.heap.size + 1 + 1 + 1 + 1 < w1.heap.size := by omega))) | (go_at_call 20; refine (sCellOf _ _ _ _ _ _).mono ?_; rintro e w1 ⟨hb, ⟨h1, rfl⟩ | ⟨h1, rfl⟩⟩ <;> (try (exfalso; exact h1 H)) <;> (try (exfalso; exact H h1)) <;> (obtain ⟨hc, hf⟩ := bcell hb; have hz := hb.size; have ht := below_lt hb; (try simp at hz); (try have z0 : w.heap.size < w1.heap.size := by omega); (try have z1 : w.heap.size + 1 < w1.heap.size := by omega); (try have z2 : w.heap.size + 1 + 1 < w1.heap.size := by omega); (try have z3 : w.heap.size + 1 + 1 + 1 < w1.heap.size := by omega); (try have z4 : w.heap.size + 1 + 1 + 1 + 1 < w1.heap.size := by omega))))
    exact ⟨rfl, (by repeat (first | exact Below.refl _ _ | refine Below.setCell ?_ (by first | omega | (simp; done) | (simp; omega)) _ | refine Below.alloc ?_ (by first | omega | (simp; done) | (simp; omega)) _ | refine Below.drew ?_ | refine Below.trans ?_ (Below.mono (by assumption) (by first | omega | (simp; done) | (simp; omega))))), (by first | rfl | assumption)⟩
  · intro _ v w1 hb hd; have hz := hb.size
    have K0 := K0.below hb
    have K0c0 := K0.cell (i := 0) rfl
    have K0c1 := K0.cell (i := 1) rfl
    have K1 := K1.below hb
    have K1c0 := K1.cell (i := 0) rfl
    have K1c1 := K1.cell (i := 1) rfl
    clear hd; (try unfold Is at *); simp only [rgPut, rgDst, Act.put, List.getElem?_cons_zero, List.getElem?_cons_succ, Option.bind_some, List.setIfInBounds_toArray, List.set_cons_zero, List.set_cons_succ]
    go_wp2_with (first | (go_at_call 21; refine (toPoint_any _ _ _).mono ?_; rintro e w1 ⟨rfl, hb⟩; (obtain ⟨hc, hf⟩ := bcell hb; have hz := hb.size; have ht := below_lt hb; (try simp at hz); (try have z0 : w.heap.size < w1.heap.size := by omega); (try have z1 : w.heap.size + 1 < w1.heap.size := by omega); (try have z2 : w.heap.size + 1 + 1 < w1.heap.size := by omega); (try have z3 : w.heap.size + 1 + 1 + 1 < w1.heap.size := by omega); (try have z4 : w.heap.size + 1 + 1 + 1 + 1 < w1.heap.size := by omega))) | (go_at_call 20; refine (sCellOf _ _ _ _ _ _).mono ?_; rintro e w1 ⟨hb, ⟨h1, rfl⟩ | ⟨h1, rfl⟩⟩ <;> (try (exfalso; exact h1 H)) <;> (try (exfalso; exact H h1)) <;> (obtain ⟨hc, hf⟩ := bcell hb; have hz := hb.size; have ht := below_lt hb; (try simp at hz); (try have z0 : w.heap.size < w1.heap.size := by omega); (try have z1 : w.heap.size + 1 < w1.heap.size := by omega); (try have z2 : w.heap.size + 1 + 1 < w1.heap.size := by omega); (try have z3 : w.heap.size + 1 + 1 + 1 < w1.heap.size := by omega); (try have z4 : w.heap.size + 1 + 1 + 1 + 1 < w1.heap.size := by omega))))
    exact ⟨rfl, (by repeat (first | exact Below.refl _ _ | refine Below.setCell ?_ (by first | omega | (simp; done) | (simp; omega)) _ | refine Below.alloc ?_ (by first | omega | (simp; done) | (simp; omega)) _ | refine Below.drew ?_ | refine Below.trans ?_ (Below.mono (by assumption) (by first | omega | (simp; done) | (simp; omega))))), (by first | rfl | assumption)⟩
  · intro _ v w1 hb hd; have hz := hb.size
    have K0 := K0.below hb
    have K0c0 := K0.cell (i := 0) rfl
    have K0c1 := K0.cell (i := 1) rfl
    have K1 := K1.below hb
    have K1c0 := K1.cell (i := 0) rfl
    have K1c1 := K1.cell (i := 1) rfl
    have d2 : (Is (ptV x y)) (v 2) w1 := hd 2 (by kernel_rfl)
    clear hd; (try unfold Is at *); simp only [rgPut, rgDst, Act.put, List.getElem?_cons_zero, List.getElem?_cons_succ, Option.bind_some, List.setIfInBounds_toArray, List.set_cons_zero, List.set_cons_succ]
    go_wp2_with (first | (go_at_call 21; refine (toPoint_any _ _ _).mono ?_; rintro e w1 ⟨rfl, hb⟩; (obtain ⟨hc, hf⟩ := bcell hb; have hz := hb.size; have ht := below_lt hb; (try simp at hz); (try have z0 : w.heap.size < w1.heap.size := by omega); (try have z1 : w.heap.size + 1 < w1.heap.size := by omega); (try have z2 : w.heap.size + 1 + 1 < w1.heap.size := by omega); (try have z3 : w.heap.size + 1 + 1 + 1 < w1.heap.size := by omega); (try have z4 : w.heap.size + 1 + 1 + 1 + 1 < w1.heap.size := by omega))) | (go_at_call 20; refine (sCellOf _ _ _ _ _ _).mono ?_; rintro e w1 ⟨hb, ⟨h1, rfl⟩ | ⟨h1, rfl⟩⟩ <;> (try (exfalso; exact h1 H)) <;> (try (exfalso; exact H h1)) <;> (obtain ⟨hc, hf⟩ := bcell hb; have hz := hb.size; have ht := below_lt hb; (try simp at hz); (try have z0 : w.heap.size < w1.heap.size := by omega); (try have z1 : w.heap.size + 1 < w1.heap.size := by omega); (try have z2 : w.heap.size + 1 + 1 < w1.heap.size := by omega); (try have z3 : w.heap.size + 1 + 1 + 1 < w1.heap.size := by omega); (try have z4 : w.heap.size + 1 + 1 + 1 + 1 < w1.heap.size := by omega))))
    exact ⟨rfl, (by repeat (first | exact Below.refl _ _ | refine Below.setCell ?_ (by first | omega | (simp; done) | (simp; omega)) _ | refine Below.alloc ?_ (by first | omega | (simp; done) | (simp; omega)) _ | refine Below.drew ?_ | refine Below.trans ?_ (Below.mono (by assumption) (by first | omega | (simp; done) | (simp; omega))))), (by first | rfl | assumption)⟩
  · intro _ v w1 hb hd; have hz := hb.size
    have K0 := K0.below hb
    have K0c0 := K0.cell (i := 0) rfl
    have K0c1 := K0.cell (i := 1) rfl
    have K1 := K1.below hb
    have K1c0 := K1.cell (i := 0) rfl
    have K1c1 := K1.cell (i := 1) rfl
    clear hd; (try unfold Is at *); simp only [rgPut, rgDst, Act.put, List.getElem?_cons_zero, List.getElem?_cons_succ, Option.bind_some, List.setIfInBounds_toArray, List.set_cons_zero, List.set_cons_succ]
    go_wp2_with (first | (go_at_call 21; refine (toPoint_any _ _ _).mono ?_; rintro e w1 ⟨rfl, hb⟩; (obtain ⟨hc, hf⟩ := bcell hb; have hz := hb.size; have ht := below_lt hb; (try simp at hz); (try have z0 : w.heap.size < w1.heap.size := by omega); (try have z1 : w.heap.size + 1 < w1.heap.size := by omega); (try have z2 : w.heap.size + 1 + 1 < w1.heap.size := by omega); (try have z3 : w.heap.size + 1 + 1 + 1 < w1.heap.size := by omega); (try have z4 : w.heap.size + 1 + 1 + 1 + 1 < w1.heap.size := by omega))) | (go_at_call 20; refine (sCellOf _ _ _ _ _ _).mono ?_; rintro e w1 ⟨hb, ⟨h1, rfl⟩ | ⟨h1, rfl⟩⟩ <;> (try (exfalso; exact h1 H)) <;> (try (exfalso; exact H h1)) <;> (obtain ⟨hc, hf⟩ := bcell hb; have hz := hb.size; have ht := below_lt hb; (try simp at hz); (try have z0 : w.heap.size < w1.heap.size := by omega); (try have z1 : w.heap.size + 1 < w1.heap.size := by omega); (try have z2 : w.heap.size + 1 + 1 < w1.heap.size := by omega); (try have z3 : w.heap.size + 1 + 1 + 1 < w1.heap.size := by omega); (try have z4 : w.heap.size + 1 + 1 + 1 + 1 < w1.heap.size := by omega))))
    exact ⟨rfl, (by repeat (first | exact Below.refl _ _ | refine Below.setCell ?_ (by first | omega | (simp; done) | (simp; omega)) _ | refine Below.alloc ?_ (by first | omega | (simp; done) | (simp; omega)) _ | refine Below.drew ?_ | refine Below.trans ?_ (Below.mono (by assumption) (by first | omega | (simp; done) | (simp; omega))))), (by first | rfl | assumption)⟩
  · intro _ v w1 hb hd; have hz := hb.size
    have K0 := K0.below hb
    have K0c0 := K0.cell (i := 0) rfl
    have K0c1 := K0.cell (i := 1) rfl
    have K1 := K1.below hb
    have K1c0 := K1.cell (i := 0) rfl
    have K1c1 := K1.cell (i := 1) rfl
    have d1 : (Is (ptV bx by')) (v 1) w1 := hd 1 (by kernel_rfl)
    have d3 : (Is (ptV x y)) (v 3) w1 := hd 3 (by kernel_rfl)
    have d4 : (Is (.int .i64 k)) (v 4) w1 := hd 4 (by kernel_rfl)
    clear hd; (try unfold Is at *); simp only [rgPut, rgDst, Act.put, List.getElem?_cons_zero, List.getElem?_cons_succ, Option.bind_some, List.setIfInBounds_toArray, List.set_cons_zero, List.set_cons_succ]
    go_wp2_with (first | (go_at_call 21; refine (toPoint_any _ _ _).mono ?_; rintro e w1 ⟨rfl, hb⟩; (obtain ⟨hc, hf⟩ := bcell hb; have hz := hb.size; have ht := below_lt hb; (try simp at hz); (try have z0 : w.heap.size < w1.heap.size := by omega); (try have z1 : w.heap.size + 1 < w1.heap.size := by omega); (try have z2 : w.heap.size + 1 + 1 < w1.heap.size := by omega); (try have z3 : w.heap.size + 1 + 1 + 1 < w1.heap.size := by omega); (try have z4 : w.heap.size + 1 + 1 + 1 + 1 < w1.heap.size := by omega))) | (go_at_call 20; refine (sCellOf _ _ _ _ _ _).mono ?_; rintro e w1 ⟨hb, ⟨h1, rfl⟩ | ⟨h1, rfl⟩⟩ <;> (try (exfalso; exact h1 H)) <;> (try (exfalso; exact H h1)) <;> (obtain ⟨hc, hf⟩ := bcell hb; have hz := hb.size; have ht := below_lt hb; (try simp at hz); (try have z0 : w.heap.size < w1.heap.size := by omega); (try have z1 : w.heap.size + 1 < w1.heap.size := by omega); (try have z2 : w.heap.size + 1 + 1 < w1.heap.size := by omega); (try have z3 : w.heap.size + 1 + 1 + 1 < w1.heap.size := by omega); (try have z4 : w.heap.size + 1 + 1 + 1 + 1 < w1.heap.size := by omega))))
    exact ⟨rfl, (by repeat (first | exact Below.refl _ _ | refine Below.setCell ?_ (by first | omega | (simp; done) | (simp; omega)) _ | refine Below.alloc ?_ (by first | omega | (simp; done) | (simp; omega)) _ | refine Below.drew ?_ | refine Below.trans ?_ (Below.mono (by assumption) (by first | omega | (simp; done) | (simp; omega))))), (by first | rfl | assumption)⟩
  · intro _ v w1 hb hd; have hz := hb.size
    have K0 := K0.below hb
    have K0c0 := K0.cell (i := 0) rfl
    have K0c1 := K0.cell (i := 1) rfl
    have K1 := K1.below hb
    have K1c0 := K1.cell (i := 0) rfl
    have K1c1 := K1.cell (i := 1) rfl
    have d5 : (Is (.tuple #[ptV 0 0, .int .i64 2])) (v 5) w1 := hd 5 (by kernel_rfl)
    clear hd; (try unfold Is at *); simp only [rgPut, rgDst, Act.put, List.getElem?_cons_zero, List.getElem?_cons_succ, Option.bind_some, List.setIfInBounds_toArray, List.set_cons_zero, List.set_cons_succ]
    go_wp2_with (first | (go_at_call 21; refine (toPoint_any _ _ _).mono ?_; rintro e w1 ⟨rfl, hb⟩; (obtain ⟨hc, hf⟩ := bcell hb; have hz := hb.size; have ht := below_lt hb; (try simp at hz); (try have z0 : w.heap.size < w1.heap.size := by omega); (try have z1 : w.heap.size + 1 < w1.heap.size := by omega); (try have z2 : w.heap.size + 1 + 1 < w1.heap.size := by omega); (try have z3 : w.heap.size + 1 + 1 + 1 < w1.heap.size := by omega); (try have z4 : w.heap.size + 1 + 1 + 1 + 1 < w1.heap.size := by omega))) | (go_at_call 20; refine (sCellOf _ _ _ _ _ _).mono ?_; rintro e w1 ⟨hb, ⟨h1, rfl⟩ | ⟨h1, rfl⟩⟩ <;> (try (exfalso; exact h1 H)) <;> (try (exfalso; exact H h1)) <;> (obtain ⟨hc, hf⟩ := bcell hb; have hz := hb.size; have ht := below_lt hb; (try simp at hz); (try have z0 : w.heap.size < w1.heap.size := by omega); (try have z1 : w.heap.size + 1 < w1.heap.size := by omega); (try have z2 : w.heap.size + 1 + 1 < w1.heap.size := by omega); (try have z3 : w.heap.size + 1 + 1 + 1 < w1.heap.size := by omega); (try have z4 : w.heap.size + 1 + 1 + 1 + 1 < w1.heap.size := by omega))))
    exact ⟨rfl, (by repeat (first | exact Below.refl _ _ | refine Below.setCell ?_ (by first | omega | (simp; done) | (simp; omega)) _ | refine Below.alloc ?_ (by first | omega | (simp; done) | (simp; omega)) _ | refine Below.drew ?_ | refine Below.trans ?_ (Below.mono (by assumption) (by first | omega | (simp; done) | (simp; omega))))), (by first | rfl | assumption)⟩
  · intro _ v w1 hb hd; have hz := hb.size
    have K0 := K0.below hb
    have K0c0 := K0.cell (i := 0) rfl
    have K0c1 := K0.cell (i := 1) rfl
    have K1 := K1.below hb
    have K1c0 := K1.cell (i := 0) rfl
    have K1c1 := K1.cell (i := 1) rfl
    have d6 : (Is (.tuple #[ptV 0 0, .int .i64 2])) (v 6) w1 := hd 6 (by kernel_rfl)
    clear hd; (try unfold Is at *); simp only [rgPut, rgDst, Act.put, List.getElem?_cons_zero, List.getElem?_cons_succ, Option.bind_some, List.setIfInBounds_toArray, List.set_cons_zero, List.set_cons_succ]
    go_wp2_with (first | (go_at_call 21; refine (toPoint_any _ _ _).mono ?_; rintro e w1 ⟨rfl, hb⟩; (obtain ⟨hc, hf⟩ := bcell hb; have hz := hb.size; have ht := below_lt hb; (try simp at hz); (try have z0 : w.heap.size < w1.heap.size := by omega); (try have z1 : w.heap.size + 1 < w1.heap.size := by omega); (try have z2 : w.heap.size + 1 + 1 < w1.heap.size := by omega); (try have z3 : w.heap.size + 1 + 1 + 1 < w1.heap.size := by omega); (try have z4 : w.heap.size + 1 + 1 + 1 + 1 < w1.heap.size := by omega))) | (go_at_call 20; refine (sCellOf _ _ _ _ _ _).mono ?_; rintro e w1 ⟨hb, ⟨h1, rfl⟩ | ⟨h1, rfl⟩⟩ <;> (try (exfalso; exact h1 H)) <;> (try (exfalso; exact H h1)) <;> (obtain ⟨hc, hf⟩ := bcell hb; have hz := hb.size; have ht := below_lt hb; (try simp at hz); (try have z0 : w.heap.size < w1.heap.size := by omega); (try have z1 : w.heap.size + 1 < w1.heap.size := by omega); (try have z2 : w.heap.size + 1 + 1 < w1.heap.size := by omega); (try have z3 : w.heap.size + 1 + 1 + 1 < w1.heap.size := by omega); (try have z4 : w.heap.size + 1 + 1 + 1 + 1 < w1.heap.size := by omega))))
    exact ⟨rfl, (by repeat (first | exact Below.refl _ _ | refine Below.setCell ?_ (by first | omega | (simp; done) | (simp; omega)) _ | refine Below.alloc ?_ (by first | omega | (simp; done) | (simp; omega)) _ | refine Below.drew ?_ | refine Below.trans ?_ (Below.mono (by assumption) (by first | omega | (simp; done) | (simp; omega))))), (by first | rfl | assumption)⟩
  · intro _ v w1 hb hd; have hz := hb.size
    have K0 := K0.below hb
    have K0c0 := K0.cell (i := 0) rfl
    have K0c1 := K0.cell (i := 1) rfl
    have K1 := K1.below hb
    have K1c0 := K1.cell (i := 0) rfl
    have K1c1 := K1.cell (i := 1) rfl
    have d6 : (Is (.tuple #[ptV 0 0, .int .i64 2])) (v 6) w1 := hd 6 (by kernel_rfl)
    clear hd; (try unfold Is at *); simp only [rgPut, rgDst, Act.put, List.getElem?_cons_zero, List.getElem?_cons_succ, Option.bind_some, List.setIfInBounds_toArray, List.set_cons_zero, List.set_cons_succ]
    go_wp2_with (first | (go_at_call 21; refine (toPoint_any _ _ _).mono ?_; rintro e w1 ⟨rfl, hb⟩; (obtain ⟨hc, hf⟩ := bcell hb; have hz := hb.size; have ht := below_lt hb; (try simp at hz); (try have z0 : w.heap.size < w1.heap.size := by omega); (try have z1 : w.heap.size + 1 < w1.heap.size := by omega); (try have z2 : w.heap.size + 1 + 1 < w1.heap.size := by omega); (try have z3 : w.heap.size + 1 + 1 + 1 < w1.heap.size := by omega); (try have z4 : w.heap.size + 1 + 1 + 1 + 1 < w1.heap.size := by omega))) | (go_at_call 20; refine (sCellOf _ _ _ _ _ _).mono ?_; rintro e w1 ⟨hb, ⟨h1, rfl⟩ | ⟨h1, rfl⟩⟩ <;> (try (exfalso; exact h1 H)) <;> (try (exfalso; exact H h1)) <;> (obtain ⟨hc, hf⟩ := bcell hb; have hz := hb.size; have ht := below_lt hb; (try simp at hz); (try have z0 : w.heap.size < w1.heap.size := by omega); (try have z1 : w.heap.size + 1 < w1.heap.size := by omega); (try have z2 : w.heap.size + 1 + 1 < w1.heap.size := by omega); (try have z3 : w.heap.size + 1 + 1 + 1 < w1.heap.size := by omega); (try have z4 : w.heap.size + 1 + 1 + 1 + 1 < w1.heap.size := by omega))))
    exact ⟨rfl, (by repeat (first | exact Below.refl _ _ | refine Below.setCell ?_ (by first | omega | (simp; done) | (simp; omega)) _ | refine Below.alloc ?_ (by first | omega | (simp; done) | (simp; omega)) _ | refine Below.drew ?_ | refine Below.trans ?_ (Below.mono (by assumption) (by first | omega | (simp; done) | (simp; omega))))), (by first | rfl | assumption)⟩
  · intro _ v w1 hb hd; have hz := hb.size
    have K0 := K0.below hb
    have K0c0 := K0.cell (i := 0) rfl
    have K0c1 := K0.cell (i := 1) rfl
    have K1 := K1.below hb
    have K1c0 := K1.cell (i := 0) rfl
    have K1c1 := K1.cell (i := 1) rfl
    clear hd; (try unfold Is at *); simp only [rgPut, rgDst, Act.put, List.getElem?_cons_zero, List.getElem?_cons_succ, Option.bind_some, List.setIfInBounds_toArray, List.set_cons_zero, List.set_cons_succ]
    go_wp2_with (first | (go_at_call 21; refine (toPoint_any _ _ _).mono ?_; rintro e w1 ⟨rfl, hb⟩; (obtain ⟨hc, hf⟩ := bcell hb; have hz := hb.size; have ht := below_lt hb; (try simp at hz); (try have z0 : w.heap.size < w1.heap.size := by omega); (try have z1 : w.heap.size + 1 < w1.heap.size := by omega); (try have z2 : w.heap.size + 1 + 1 < w1.heap.size := by omega); (try have z3 : w.heap.size + 1 + 1 + 1 < w1.heap.size := by omega); (try have z4 : w.heap.size + 1 + 1 + 1 + 1 < w1.heap.size := by omega))) | (go_at_call 20; refine (sCellOf _ _ _ _ _ _).mono ?_; rintro e w1 ⟨hb, ⟨h1, rfl⟩ | ⟨h1, rfl⟩⟩ <;> (try (exfalso; exact h1 H)) <;> (try (exfalso; exact H h1)) <;> (obtain ⟨hc, hf⟩ := bcell hb; have hz := hb.size; have ht := below_lt hb; (try simp at hz); (try have z0 : w.heap.size < w1.heap.size := by omega); (try have z1 : w.heap.size + 1 < w1.heap.size := by omega); (try have z2 : w.heap.size + 1 + 1 < w1.heap.size := by omega); (try have z3 : w.heap.size + 1 + 1 + 1 < w1.heap.size := by omega); (try have z4 : w.heap.size + 1 + 1 + 1 + 1 < w1.heap.size := by omega))))
    exact ⟨rfl, (by repeat (first | exact Below.refl _ _ | refine Below.setCell ?_ (by first | omega | (simp; done) | (simp; omega)) _ | refine Below.alloc ?_ (by first | omega | (simp; done) | (simp; omega)) _ | refine Below.drew ?_ | refine Below.trans ?_ (Below.mono (by assumption) (by first | omega | (simp; done) | (simp; omega))))), ⟨_, rfl, by (first | omega | (simp; done) | (simp; omega)), Blk.alloc_at (by (first | omega | (simp; done) | (simp; omega)))⟩⟩
  · (intro hk; exact absurd hk (by decide))
  · (intro hk; exact absurd hk (by decide))
  intro v w1 hb hA
  have a0 : (Is (ptV bx by')) (v 0) w1 := hA 0 (by decide)
  have a1 : (Is (ptV bx by')) (v 1) w1 := hA 1 (by decide)
  have a2 : (Is (ptV x y)) (v 2) w1 := hA 2 (by decide)
  have a3 : (Is (ptV x y)) (v 3) w1 := hA 3 (by decide)
  have a4 : (Is (.int .i64 k)) (v 4) w1 := hA 4 (by decide)
  have a5 : (Is (.tuple #[ptV 0 0, .int .i64 2])) (v 5) w1 := hA 5 (by decide)
  have a6 : (Is (.tuple #[ptV 0 0, .int .i64 2])) (v 6) w1 := hA 6 (by decide)
  have a7 : (Is (ptV 0 0)) (v 7) w1 := hA 7 (by decide)
  have a8 : (Is (.int .i64 2)) (v 8) w1 := hA 8 (by decide)
  have a9 : (NewBox w0.heap.size [.int .i64 0, .int .i64 0] 33) (v 9) w1 := hA 9 (by decide)
  clear hA; (try unfold Is at *); simp only [rgPut, rgDst, Act.put, List.getElem?_cons_zero, List.getElem?_cons_succ, Option.bind_some, List.setIfInBounds_toArray, List.set_cons_zero, List.set_cons_succ, List.drop_succ_cons, List.drop_zero]
  simp only [a0, a1, a2, a3, a4, a5, a6, a7, a8]; clear a0 a1 a2 a3 a4 a5 a6 a7 a8
  generalize v 9 = v7 at *
  have hz := hb.size
  have K0 := K0.below hb
  have K1 := K1.below hb
  obtain ⟨g7, rfl, l7, B7⟩ := a9
  have B7c0 := B7.cell (i := 0) rfl
  have B7c1 := B7.cell (i := 1) rfl
  have B7f0 := B7.frozen 0
  have B7f1 := B7.frozen 1
  have N7K0 : ¬ (w.heap.size = g7) := by omega
  have M7K0 : ¬ (g7 = w.heap.size) := by omega
  have N7K1 : ¬ (w.heap.size + 1 = g7) := by omega
  have M7K1 : ¬ (g7 = w.heap.size + 1) := by omega
  go_wp2_with fail
  have B7 := (B7.set 0 (.int .i64 0)).set 1 (.int .i64 0)
  refine wp_world ?_; intro w0 hb0 hh0 hz0; (try simp at hz0)
  have K0 : Blk w0 (w.heap.size) [.int .i64 bx, .int .i64 by'] 32 := Blk.of_eq (hh0 _) (by repeat (first | assumption | exact Blk.alloc_at (by (first | omega | (simp; done) | (simp; omega))) | refine Blk.set_other _ (by (first | omega | (simp; done) | (simp; omega))) ?_ | refine Blk.alloc_old _ ?_ | refine Blk.drew ?_ | refine Blk.of_eq (by assumption) ?_ | refine Blk.below (by assumption) ?_))
  have K0L := K0.lt
  have K1 : Blk w0 (w.heap.size + 1) [.int .i64 x, .int .i64 y] 32 := Blk.of_eq (hh0 _) (by repeat (first | assumption | exact Blk.alloc_at (by (first | omega | (simp; done) | (simp; omega))) | refine Blk.set_other _ (by (first | omega | (simp; done) | (simp; omega))) ?_ | refine Blk.alloc_old _ ?_ | refine Blk.drew ?_ | refine Blk.of_eq (by assumption) ?_ | refine Blk.below (by assumption) ?_))
  have K1L := K1.lt
  have K7 : Blk w0 (g7) [.int .i64 0, .int .i64 0] 33 := Blk.of_eq (hh0 _) (by repeat (first | assumption | exact Blk.alloc_at (by (first | omega | (simp; done) | (simp; omega))) | refine Blk.set_other _ (by (first | omega | (simp; done) | (simp; omega))) ?_ | refine Blk.alloc_old _ ?_ | refine Blk.drew ?_ | refine Blk.of_eq (by assumption) ?_ | refine Blk.below (by assumption) ?_))
  have K7L := K7.lt
  refine wp_region_rgl 10 [Is (ptV bx by'), Is (ptV bx by'), Is (ptV x y), Is (ptV x y), Is (.int .i64 k), Is (.tuple #[ptV 0 0, .int .i64 2]), Is (.tuple #[ptV 0 0, .int .i64 2]), Is (ptV 0 0), Is (.int .i64 2), NewBox w0.heap.size [.int .i64 0, .int .i64 0] 33] (fun _ _ _ _ _ h => h) (by kernel_rfl) (by kernel_rfl) ⟨Stab.is _, Stab.is _, Stab.is _, Stab.is _, Stab.is _, Stab.is _, Stab.is _, Stab.is _, Stab.is _, NewBox.stab _ _ _, trivial⟩ ⟨?_, ?_, ?_, ?_, ?_, ?_, ?_, ?_, ?_, ?_, ?_, ?_, trivial⟩ ?_
  · intro _ v w1 hb hd; have hz := hb.size
    have K0 := K0.below hb
    have K0c0 := K0.cell (i := 0) rfl
    have K0c1 := K0.cell (i := 1) rfl
    have K1 := K1.below hb
    have K1c0 := K1.cell (i := 0) rfl
    have K1c1 := K1.cell (i := 1) rfl
    have K7 := K7.below hb
    have K7c0 := K7.cell (i := 0) rfl
    have K7c1 := K7.cell (i := 1) rfl
    clear hd; (try unfold Is at *); simp only [rgPut, rgDst, Act.put, List.getElem?_cons_zero, List.getElem?_cons_succ, Option.bind_some, List.setIfInBounds_toArray, List.set_cons_zero, List.set_cons_succ]
    go_wp2_with (first | (go_at_call 21; refine (toPoint_any _ _ _).mono ?_; rintro e w1 ⟨rfl, hb⟩; (obtain ⟨hc, hf⟩ := bcell hb; have hz := hb.size; have ht := below_lt hb; (try simp at hz); (try have z0 : w.heap.size < w1.heap.size := by omega); (try have z1 : w.heap.size + 1 < w1.heap.size := by omega); (try have z2 : w.heap.size + 1 + 1 < w1.heap.size := by omega); (try have z3 : w.heap.size + 1 + 1 + 1 < w1.heap.size := by omega); (try have z4 : w.heap.size + 1 + 1 + 1 + 1 < w1.heap.size := by omega))) | (go_at_call 22; refine (iCellOf _ _ _ _ _ _).mono ?_; rintro e w1 ⟨hb, ⟨h1, rfl⟩ | ⟨h1, rfl⟩⟩ <;> (try (exfalso; exact h1 H)) <;> (try (exfalso; exact H h1)) <;> (obtain ⟨hc, hf⟩ := bcell hb; have hz := hb.size; have ht := below_lt hb; (try simp at hz); (try have z0 : w.heap.size < w1.heap.size := by omega); (try have z1 : w.heap.size + 1 < w1.heap.size := by omega); (try have z2 : w.heap.size + 1 + 1 < w1.heap.size := by omega); (try have z3 : w.heap.size + 1 + 1 + 1 < w1.heap.size := by omega); (try have z4 : w.heap.size + 1 + 1 + 1 + 1 < w1.heap.size := by omega))))
    exact ⟨rfl, (by repeat (first | exact Below.refl _ _ | refine Below.setCell ?_ (by first | omega | (simp; done) | (simp; omega)) _ | refine Below.alloc ?_ (by first | omega | (simp; done) | (simp; omega)) _ | refine Below.drew ?_ | refine Below.trans ?_ (Below.mono (by assumption) (by first | omega | (simp; done) | (simp; omega))))), (by first | rfl | assumption)⟩
  · intro _ v w1 hb hd; have hz := hb.size
    have K0 := K0.below hb
    have K0c0 := K0.cell (i := 0) rfl
    have K0c1 := K0.cell (i := 1) rfl
    have K1 := K1.below hb
    have K1c0 := K1.cell (i := 0) rfl
    have K1c1 := K1.cell (i := 1) rfl
    have K7 := K7.below hb
    have K7c0 := K7.cell (i := 0) rfl
    have K7c1 := K7.cell (i := 1) rfl
    have d0 : (Is (ptV bx by')) (v 0) w1 := hd 0 (by kernel_rfl)
    clear hd; (try unfold Is at *); simp only [rgPut, rgDst, Act.put, List.getElem?_cons_zero, List.getElem?_cons_succ, Option.bind_some, List.setIfInBounds_toArray, List.set_cons_zero, List.set_cons_succ]
    go_wp2_with (first | (go_at_call 21; refine (toPoint_any _ _ _).mono ?_; rintro e w1 ⟨rfl, hb⟩; (obtain ⟨hc, hf⟩ := bcell hb; have hz := hb.size; have ht := below_lt hb; (try simp at hz); (try have z0 : w.heap.size < w1.heap.size := by omega); (try have z1 : w.heap.size + 1 < w1.heap.size := by omega); (try have z2 : w.heap.size + 1 + 1 < w1.heap.size := by omega); (try have z3 : w.heap.size + 1 + 1 + 1 < w1.heap.size := by omega); (try have z4 : w.heap.size + 1 + 1 + 1 + 1 < w1.heap.size := by omega))) | (go_at_call 22; refine (iCellOf _ _ _ _ _ _).mono ?_; rintro e w1 ⟨hb, ⟨h1, rfl⟩ | ⟨h1, rfl⟩⟩ <;> (try (exfalso; exact h1 H)) <;> (try (exfalso; exact H h1)) <;> (obtain ⟨hc, hf⟩ := bcell hb; have hz := hb.size; have ht := below_lt hb; (try simp at hz); (try have z0 : w.heap.size < w1.heap.size := by omega); (try have z1 : w.heap.size + 1 < w1.heap.size := by omega); (try have z2 : w.heap.size + 1 + 1 < w1.heap.size := by omega); (try have z3 : w.heap.size + 1 + 1 + 1 < w1.heap.size := by omega); (try have z4 : w.heap.size + 1 + 1 + 1 + 1 < w1.heap.size := by omega))))
    exact ⟨rfl, (by repeat (first | exact Below.refl _ _ | refine Below.setCell ?_ (by first | omega | (simp; done) | (simp; omega)) _ | refine Below.alloc ?_ (by first | omega | (simp; done) | (simp; omega)) _ | refine Below.drew ?_ | refine Below.trans ?_ (Below.mono (by assumption) (by first | omega | (simp; done) | (simp; omega))))), (by first | rfl | assumption)⟩
  · intro _ v w1 hb hd; have hz := hb.size
    have K0 := K0.below hb
    have K0c0 := K0.cell (i := 0) rfl
    have K0c1 := K0.cell (i := 1) rfl
    have K1 := K1.below hb
    have K1c0 := K1.cell (i := 0) rfl
    have K1c1 := K1.cell (i := 1) rfl
    have K7 := K7.below hb
    have K7c0 := K7.cell (i := 0) rfl
    have K7c1 := K7.cell (i := 1) rfl
    clear hd; (try unfold Is at *); simp only [rgPut, rgDst, Act.put, List.getElem?_cons_zero, List.getElem?_cons_succ, Option.bind_some, List.setIfInBounds_toArray, List.set_cons_zero, List.set_cons_succ]
    go_wp2_with (first | (go_at_call 21; refine (toPoint_any _ _ _).mono ?_; rintro e w1 ⟨rfl, hb⟩; (obtain ⟨hc, hf⟩ := bcell hb; have hz := hb.size; have ht := below_lt hb; (try simp at hz); (try have z0 : w.heap.size < w1.heap.size := by omega); (try have z1 : w.heap.size + 1 < w1.heap.size := by omega); (try have z2 : w.heap.size + 1 + 1 < w1.heap.size := by omega); (try have z3 : w.heap.size + 1 + 1 + 1 < w1.heap.size := by omega); (try have z4 : w.heap.size + 1 + 1 + 1 + 1 < w1.heap.size := by omega))) | (go_at_call 22; refine (iCellOf _ _ _ _ _ _).mono ?_; rintro e w1 ⟨hb, ⟨h1, rfl⟩ | ⟨h1, rfl⟩⟩ <;> (try (exfalso; exact h1 H)) <;> (try (exfalso; exact H h1)) <;> (obtain ⟨hc, hf⟩ := bcell hb; have hz := hb.size; have ht := below_lt hb; (try simp at hz); (try have z0 : w.heap.size < w1.heap.size := by omega); (try have z1 : w.heap.size + 1 < w1.heap.size := by omega); (try have z2 : w.heap.size + 1 + 1 < w1.heap.size := by omega); (try have z3 : w.heap.size + 1 + 1 + 1 < w1.heap.size := by omega); (try have z4 : w.heap.size + 1 + 1 + 1 + 1 < w1.heap.size := by omega))))
    exact ⟨rfl, (by repeat (first | exact Below.refl _ _ | refine Below.setCell ?_ (by first | omega | (simp; done) | (simp; omega)) _ | refine Below.alloc ?_ (by first | omega | (simp; done) | (simp; omega)) _ | refine Below.drew ?_ | refine Below.trans ?_ (Below.mono (by assumption) (by first | omega | (simp; done) | (simp; omega))))), (by first | rfl | assumption)⟩
  · intro _ v w1 hb hd; have hz := hb.size
    have K0 := K0.below hb
    have K0c0 := K0.cell (i := 0) rfl
    have K0c1 := K0.cell (i := 1) rfl
    have K1 := K1.below hb
    have K1c0 := K1.cell (i := 0) rfl
    have K1c1 := K1.cell (i := 1) rfl
    have K7 := K7.below hb
    have K7c0 := K7.cell (i := 0) rfl
    have K7c1 := K7.cell (i := 1) rfl
    have d2 : (Is (ptV x y)) (v 2) w1 := hd 2 (by kernel_rfl)
    clear hd; (try unfold Is at *); simp only [rgPut, rgDst, Act.put, List.getElem?_cons_zero, List.getElem?_cons_succ, Option.bind_some, List.setIfInBounds_toArray, List.set_cons_zero, List.set_cons_succ]
    go_wp2_with (first | (go_at_call 21; refine (toPoint_any _ _ _).mono ?_; rintro e w1 ⟨rfl, hb⟩; (obtain ⟨hc, hf⟩ := bcell hb; have hz := hb.size; have ht := below_lt hb; (try simp at hz); (try have z0 : w.heap.size < w1.heap.size := by omega); (try have z1 : w.heap.size + 1 < w1.heap.size := by omega); (try have z2 : w.heap.size + 1 + 1 < w1.heap.size := by omega); (try have z3 : w.heap.size + 1 + 1 + 1 < w1.heap.size := by omega); (try have z4 : w.heap.size + 1 + 1 + 1 + 1 < w1.heap.size := by omega))) | (go_at_call 22; refine (iCellOf _ _ _ _ _ _).mono ?_; rintro e w1 ⟨hb, ⟨h1, rfl⟩ | ⟨h1, rfl⟩⟩ <;> (try (exfalso; exact h1 H)) <;> (try (exfalso; exact H h1)) <;> (obtain ⟨hc, hf⟩ := bcell hb; have hz := hb.size; have ht := below_lt hb; (try simp at hz); (try have z0 : w.heap.size < w1.heap.size := by omega); (try have z1 : w.heap.size + 1 < w1.heap.size := by omega); (try have z2 : w.heap.size + 1 + 1 < w1.heap.size := by omega); (try have z3 : w.heap.size + 1 + 1 + 1 < w1.heap.size := by omega); (try have z4 : w.heap.size + 1 + 1 + 1 + 1 < w1.heap.size := by omega))))
    exact ⟨rfl, (by repeat (first | exact Below.refl _ _ | refine Below.setCell ?_ (by first | omega | (simp; done) | (simp; omega)) _ | refine Below.alloc ?_ (by first | omega | (simp; done) | (simp; omega)) _ | refine Below.drew ?_ | refine Below.trans ?_ (Below.mono (by assumption) (by first | omega | (simp; done) | (simp; omega))))), (by first | rfl | assumption)⟩
  · intro _ v w1 hb hd; have hz := hb.size
    have K0 := K0.below hb
    have K0c0 := K0.cell (i := 0) rfl
    have K0c1 := K0.cell (i := 1) rfl
    have K1 := K1.below hb
    have K1c0 := K1.cell (i := 0) rfl
    have K1c1 := K1.cell (i := 1) rfl
    have K7 := K7.below hb
    have K7c0 := K7.cell (i := 0) rfl
    have K7c1 := K7.cell (i := 1) rfl
    clear hd; (try unfold Is at *); simp only [rgPut, rgDst, Act.put, List.getElem?_cons_zero, List.getElem?_cons_succ, Option.bind_some, List.setIfInBounds_toArray, List.set_cons_zero, List.set_cons_succ]
    go_wp2_with (first | (go_at_call 21; refine (toPoint_any _ _ _).mono ?_; rintro e w1 ⟨rfl, hb⟩; (obtain ⟨hc, hf⟩ := bcell hb; have hz := hb.size; have ht := below_lt hb; (try simp at hz); (try have z0 : w.heap.size < w1.heap.size := by omega); (try have z1 : w.heap.size + 1 < w1.heap.size := by omega); (try have z2 : w.heap.size + 1 + 1 < w1.heap.size := by omega); (try have z3 : w.heap.size + 1 + 1 + 1 < w1.heap.size := by omega); (try have z4 : w.heap.size + 1 + 1 + 1 + 1 < w1.heap.size := by omega))) | (go_at_call 22; refine (iCellOf _ _ _ _ _ _).mono ?_; rintro e w1 ⟨hb, ⟨h1, rfl⟩ | ⟨h1, rfl⟩⟩ <;> (try (exfalso; exact h1 H)) <;> (try (exfalso; exact H h1)) <;> (obtain ⟨hc, hf⟩ := bcell hb; have hz := hb.size; have ht := below_lt hb; (try simp at hz); (try have z0 : w.heap.size < w1.heap.size := by omega); (try have z1 : w.heap.size + 1 < w1.heap.size := by omega); (try have z2 : w.heap.size + 1 + 1 < w1.heap.size := by omega); (try have z3 : w.heap.size + 1 + 1 + 1 < w1.heap.size := by omega); (try have z4 : w.heap.size + 1 + 1 + 1 + 1 < w1.heap.size := by omega))))
    exact ⟨rfl, (by repeat (first | exact Below.refl _ _ | refine Below.setCell ?_ (by first | omega | (simp; done) | (simp; omega)) _ | refine Below.alloc ?_ (by first | omega | (simp; done) | (simp; omega)) _ | refine Below.drew ?_ | refine Below.trans ?_ (Below.mono (by assumption) (by first | omega | (simp; done) | (simp; omega))))), (by first | rfl | assumption)⟩
  · intro _ v w1 hb hd; have hz := hb.size
    have K0 := K0.below hb
    have K0c0 := K0.cell (i := 0) rfl
    have K0c1 := K0.cell (i := 1) rfl
    have K1 := K1.below hb
    have K1c0 := K1.cell (i := 0) rfl
    have K1c1 := K1.cell (i := 1) rfl
    have K7 := K7.below hb
    have K7c0 := K7.cell (i := 0) rfl
    have K7c1 := K7.cell (i := 1) rfl
    have d1 : (Is (ptV bx by')) (v 1) w1 := hd 1 (by kernel_rfl)
    have d3 : (Is (ptV x y)) (v 3) w1 := hd 3 (by kernel_rfl)
    have d4 : (Is (.int .i64 k)) (v 4) w1 := hd 4 (by kernel_rfl)
    clear hd; (try unfold Is at *); simp only [rgPut, rgDst, Act.put, List.getElem?_cons_zero, List.getElem?_cons_succ, Option.bind_some, List.setIfInBounds_toArray, List.set_cons_zero, List.set_cons_succ]
    go_wp2_with (first | (go_at_call 21; refine (toPoint_any _ _ _).mono ?_; rintro e w1 ⟨rfl, hb⟩; (obtain ⟨hc, hf⟩ := bcell hb; have hz := hb.size; have ht := below_lt hb; (try simp at hz); (try have z0 : w.heap.size < w1.heap.size := by omega); (try have z1 : w.heap.size + 1 < w1.heap.size := by omega); (try have z2 : w.heap.size + 1 + 1 < w1.heap.size := by omega); (try have z3 : w.heap.size + 1 + 1 + 1 < w1.heap.size := by omega); (try have z4 : w.heap.size + 1 + 1 + 1 + 1 < w1.heap.size := by omega))) | (go_at_call 22; refine (iCellOf _ _ _ _ _ _).mono ?_; rintro e w1 ⟨hb, ⟨h1, rfl⟩ | ⟨h1, rfl⟩⟩ <;> (try (exfalso; exact h1 H)) <;> (try (exfalso; exact H h1)) <;> (obtain ⟨hc, hf⟩ := bcell hb; have hz := hb.size; have ht := below_lt hb; (try simp at hz); (try have z0 : w.heap.size < w1.heap.size := by omega); (try have z1 : w.heap.size + 1 < w1.heap.size := by omega); (try have z2 : w.heap.size + 1 + 1 < w1.heap.size := by omega); (try have z3 : w.heap.size + 1 + 1 + 1 < w1.heap.size := by omega); (try have z4 : w.heap.size + 1 + 1 + 1 + 1 < w1.heap.size := by omega))))
    exact ⟨rfl, (by repeat (first | exact Below.refl _ _ | refine Below.setCell ?_ (by first | omega | (simp; done) | (simp; omega)) _ | refine Below.alloc ?_ (by first | omega | (simp; done) | (simp; omega)) _ | refine Below.drew ?_ | refine Below.trans ?_ (Below.mono (by assumption) (by first | omega | (simp; done) | (simp; omega))))), (by first | rfl | assumption)⟩
  · intro _ v w1 hb hd; have hz := hb.size
    have K0 := K0.below hb
    have K0c0 := K0.cell (i := 0) rfl
    have K0c1 := K0.cell (i := 1) rfl
    have K1 := K1.below hb
    have K1c0 := K1.cell (i := 0) rfl
    have K1c1 := K1.cell (i := 1) rfl
    have K7 := K7.below hb
    have K7c0 := K7.cell (i := 0) rfl
    have K7c1 := K7.cell (i := 1) rfl
    have d5 : (Is (.tuple #[ptV 0 0, .int .i64 2])) (v 5) w1 := hd 5 (by kernel_rfl)
    clear hd; (try unfold Is at *); simp only [rgPut, rgDst, Act.put, List.getElem?_cons_zero, List.getElem?_cons_succ, Option.bind_some, List.setIfInBounds_toArray, List.set_cons_zero, List.set_cons_succ]
    go_wp2_with (first | (go_at_call 21; refine (toPoint_any _ _ _).mono ?_; rintro e w1 ⟨rfl, hb⟩; (obtain ⟨hc, hf⟩ := bcell hb; have hz := hb.size; have ht := below_lt hb; (try simp at hz); (try have z0 : w.heap.size < w1.heap.size := by omega); (try have z1 : w.heap.size + 1 < w1.heap.size := by omega); (try have z2 : w.heap.size + 1 + 1 < w1.heap.size := by omega); (try have z3 : w.heap.size + 1 + 1 + 1 < w1.heap.size := by omega); (try have z4 : w.heap.size + 1 + 1 + 1 + 1 < w1.heap.size := by omega))) | (go_at_call 22; refine (iCellOf _ _ _ _ _ _).mono ?_; rintro e w1 ⟨hb, ⟨h1, rfl⟩ | ⟨h1, rfl⟩⟩ <;> (try (exfalso; exact h1 H)) <;> (try (exfalso; exact H h1)) <;> (obtain ⟨hc, hf⟩ := bcell hb; have hz := hb.size; have ht := below_lt hb; (try simp at hz); (try have z0 : w.heap.size < w1.heap.size := by omega); (try have z1 : w.heap.size + 1 < w1.heap.size := by omega); (try have z2 : w.heap.size + 1 + 1 < w1.heap.size := by omega); (try have z3 : w.heap.size + 1 + 1 + 1 < w1.heap.size := by omega); (try have z4 : w.heap.size + 1 + 1 + 1 + 1 < w1.heap.size := by omega))))
    exact ⟨rfl, (by repeat (first | exact Below.refl _ _ | refine Below.setCell ?_ (by first | omega | (simp; done) | (simp; omega)) _ | refine Below.alloc ?_ (by first | omega | (simp; done) | (simp; omega)) _ | refine Below.drew ?_ | refine Below.trans ?_ (Below.mono (by assumption) (by first | omega | (simp; done) | (simp; omega))))), (by first | rfl | assumption)⟩
  · intro _ v w1 hb hd; have hz := hb.size
    have K0 := K0.below hb
    have K0c0 := K0.cell (i := 0) rfl
    have K0c1 := K0.cell (i := 1) rfl
    have K1 := K1.below hb
    have K1c0 := K1.cell (i := 0) rfl
    have K1c1 := K1.cell (i := 1) rfl
    have K7 := K7.below hb
    have K7c0 := K7.cell (i := 0) rfl
    have K7c1 := K7.cell (i := 1) rfl
    have d6 : (Is (.tuple #[ptV 0 0, .int .i64 2])) (v 6) w1 := hd 6 (by kernel_rfl)
    clear hd; (try unfold Is at *); simp only [rgPut, rgDst, Act.put, List.getElem?_cons_zero, List.getElem?_cons_succ, Option.bind_some, List.setIfInBounds_toArray, List.set_cons_zero, List.set_cons_succ]
    go_wp2_with (first | (go_at_call 21; refine (toPoint_any _ _ _).mono ?_; rintro e w1 ⟨rfl, hb⟩; (obtain ⟨hc, hf⟩ := bcell hb; have hz := hb.size; have ht := below_lt hb; (try simp at hz); (try have z0 : w.heap.size < w1.heap.size := by omega); (try have z1 : w.heap.size + 1 < w1.heap.size := by omega); (try have z2 : w.heap.size + 1 + 1 < w1.heap.size := by omega); (try have z3 : w.heap.size + 1 + 1 + 1 < w1.heap.size := by omega); (try have z4 : w.heap.size + 1 + 1 + 1 + 1 < w1.heap.size := by omega))) | (go_at_call 22; refine (iCellOf _ _ _ _ _ _).mono ?_; rintro e w1 ⟨hb, ⟨h1, rfl⟩ | ⟨h1, rfl⟩⟩ <;> (try (exfalso; exact h1 H)) <;> (try (exfalso; exact H h1)) <;> (obtain ⟨hc, hf⟩ := bcell hb; have hz := hb.size; have ht := below_lt hb; (try simp at hz); (try have z0 : w.heap.size < w1.heap.size := by omega); (try have z1 : w.heap.size + 1 < w1.heap.size := by omega); (try have z2 : w.heap.size + 1 + 1 < w1.heap.size := by omega); (try have z3 : w.heap.size + 1 + 1 + 1 < w1.heap.size := by omega); (try have z4 : w.heap.size + 1 + 1 + 1 + 1 < w1.heap.size := by omega))))
    exact ⟨rfl, (by repeat (first | exact Below.refl _ _ | refine Below.setCell ?_ (by first | omega | (simp; done) | (simp; omega)) _ | refine Below.alloc ?_ (by first | omega | (simp; done) | (simp; omega)) _ | refine Below.drew ?_ | refine Below.trans ?_ (Below.mono (by assumption) (by first | omega | (simp; done) | (simp; omega))))), (by first | rfl | assumption)⟩
  · intro _ v w1 hb hd; have hz := hb.size
    have K0 := K0.below hb
    have K0c0 := K0.cell (i := 0) rfl
    have K0c1 := K0.cell (i := 1) rfl
    have K1 := K1.below hb
    have K1c0 := K1.cell (i := 0) rfl
    have K1c1 := K1.cell (i := 1) rfl
    have K7 := K7.below hb
    have K7c0 := K7.cell (i := 0) rfl
    have K7c1 := K7.cell (i := 1) rfl
    have d6 : (Is (.tuple #[ptV 0 0, .int .i64 2])) (v 6) w1 := hd 6 (by kernel_rfl)
    clear hd; (try unfold Is at *); simp only [rgPut, rgDst, Act.put, List.getElem?_cons_zero, List.getElem?_cons_succ, Option.bind_some, List.setIfInBounds_toArray, List.set_cons_zero, List.set_cons_succ]
    go_wp2_with (first | (go_at_call 21; refine (toPoint_any _ _ _).mono ?_; rintro e w1 ⟨rfl, hb⟩; (obtain ⟨hc, hf⟩ := bcell hb; have hz := hb.size; have ht := below_lt hb; (try simp at hz); (try have z0 : w.heap.size < w1.heap.size := by omega); (try have z1 : w.heap.size + 1 < w1.heap.size := by omega); (try have z2 : w.heap.size + 1 + 1 < w1.heap.size := by omega); (try have z3 : w.heap.size + 1 + 1 + 1 < w1.heap.size := by omega); (try have z4 : w.heap.size + 1 + 1 + 1 + 1 < w1.heap.size := by omega))) | (go_at_call 22; refine (iCellOf _ _ _ _ _ _).mono ?_; rintro e w1 ⟨hb, ⟨h1, rfl⟩ | ⟨h1, rfl⟩⟩ <;> (try (exfalso; exact h1 H)) <;> (try (exfalso; exact H h1)) <;> (obtain ⟨hc, hf⟩ := bcell hb; have hz := hb.size; have ht := below_lt hb; (try simp at hz); (try have z0 : w.heap.size < w1.heap.size := by omega); (try have z1 : w.heap.size + 1 < w1.heap.size := by omega); (try have z2 : w.heap.size + 1 + 1 < w1.heap.size := by omega); (try have z3 : w.heap.size + 1 + 1 + 1 < w1.heap.size := by omega); (try have z4 : w.heap.size + 1 + 1 + 1 + 1 < w1.heap.size := by omega))))
    exact ⟨rfl, (by repeat (first | exact Below.refl _ _ | refine Below.setCell ?_ (by first | omega | (simp; done) | (simp; omega)) _ | refine Below.alloc ?_ (by first | omega | (simp; done) | (simp; omega)) _ | refine Below.drew ?_ | refine Below.trans ?_ (Below.mono (by assumption) (by first | omega | (simp; done) | (simp; omega))))), (by first | rfl | assumption)⟩
  · intro _ v w1 hb hd; have hz := hb.size
    have K0 := K0.below hb
    have K0c0 := K0.cell (i := 0) rfl
    have K0c1 := K0.cell (i := 1) rfl
    have K1 := K1.below hb
    have K1c0 := K1.cell (i := 0) rfl
    have K1c1 := K1.cell (i := 1) rfl
    have K7 := K7.below hb
    have K7c0 := K7.cell (i := 0) rfl
    have K7c1 := K7.cell (i := 1) rfl
    clear hd; (try unfold Is at *); simp only [rgPut, rgDst, Act.put, List.getElem?_cons_zero, List.getElem?_cons_succ, Option.bind_some, List.setIfInBounds_toArray, List.set_cons_zero, List.set_cons_succ]
    go_wp2_with (first | (go_at_call 21; refine (toPoint_any _ _ _).mono ?_; rintro e w1 ⟨rfl, hb⟩; (obtain ⟨hc, hf⟩ := bcell hb; have hz := hb.size; have ht := below_lt hb; (try simp at hz); (try have z0 : w.heap.size < w1.heap.size := by omega); (try have z1 : w.heap.size + 1 < w1.heap.size := by omega); (try have z2 : w.heap.size + 1 + 1 < w1.heap.size := by omega); (try have z3 : w.heap.size + 1 + 1 + 1 < w1.heap.size := by omega); (try have z4 : w.heap.size + 1 + 1 + 1 + 1 < w1.heap.size := by omega))) | (go_at_call 22; refine (iCellOf _ _ _ _ _ _).mono ?_; rintro e w1 ⟨hb, ⟨h1, rfl⟩ | ⟨h1, rfl⟩⟩ <;> (try (exfalso; exact h1 H)) <;> (try (exfalso; exact H h1)) <;> (obtain ⟨hc, hf⟩ := bcell hb; have hz := hb.size; have ht := below_lt hb; (try simp at hz); (try have z0 : w.heap.size < w1.heap.size := by omega); (try have z1 : w.heap.size + 1 < w1.heap.size := by omega); (try have z2 : w.heap.size + 1 + 1 < w1.heap.size := by omega); (try have z3 : w.heap.size + 1 + 1 + 1 < w1.heap.size := by omega); (try have z4 : w.heap.size + 1 + 1 + 1 + 1 < w1.heap.size := by omega))))
    exact ⟨rfl, (by repeat (first | exact Below.refl _ _ | refine Below.setCell ?_ (by first | omega | (simp; done) | (simp; omega)) _ | refine Below.alloc ?_ (by first | omega | (simp; done) | (simp; omega)) _ | refine Below.drew ?_ | refine Below.trans ?_ (Below.mono (by assumption) (by first | omega | (simp; done) | (simp; omega))))), ⟨_, rfl, by (first | omega | (simp; done) | (simp; omega)), Blk.alloc_at (by (first | omega | (simp; done) | (simp; omega)))⟩⟩
  · (intro hk; exact absurd hk (by decide))
  · (intro hk; exact absurd hk (by decide))
  intro v w1 hb hA
  have a0 : (Is (ptV bx by')) (v 0) w1 := hA 0 (by decide)
  have a1 : (Is (ptV bx by')) (v 1) w1 := hA 1 (by decide)
  have a2 : (Is (ptV x y)) (v 2) w1 := hA 2 (by decide)
  have a3 : (Is (ptV x y)) (v 3) w1 := hA 3 (by decide)
  have a4 : (Is (.int .i64 k)) (v 4) w1 := hA 4 (by decide)
  have a5 : (Is (.tuple #[ptV 0 0, .int .i64 2])) (v 5) w1 := hA 5 (by decide)
  have a6 : (Is (.tuple #[ptV 0 0, .int .i64 2])) (v 6) w1 := hA 6 (by decide)
  have a7 : (Is (ptV 0 0)) (v 7) w1 := hA 7 (by decide)
  have a8 : (Is (.int .i64 2)) (v 8) w1 := hA 8 (by decide)
  have a9 : (NewBox w0.heap.size [.int .i64 0, .int .i64 0] 33) (v 9) w1 := hA 9 (by decide)
  clear hA; (try unfold Is at *); simp only [rgPut, rgDst, Act.put, List.getElem?_cons_zero, List.getElem?_cons_succ, Option.bind_some, List.setIfInBounds_toArray, List.set_cons_zero, List.set_cons_succ, List.drop_succ_cons, List.drop_zero]
  simp only [a0, a1, a2, a3, a4, a5, a6, a7, a8]; clear a0 a1 a2 a3 a4 a5 a6 a7 a8
  generalize v 9 = v9 at *
  have hz := hb.size
  have K0 := K0.below hb
  have K1 := K1.below hb
  have K7 := K7.below hb
  obtain ⟨g9, rfl, l9, B9⟩ := a9
  have B9c0 := B9.cell (i := 0) rfl
  have B9c1 := B9.cell (i := 1) rfl
  have B9f0 := B9.frozen 0
  have B9f1 := B9.frozen 1
  have N9K0 : ¬ (w.heap.size = g9) := by omega
  have M9K0 : ¬ (g9 = w.heap.size) := by omega
  have N9K1 : ¬ (w.heap.size + 1 = g9) := by omega
  have M9K1 : ¬ (g9 = w.heap.size + 1) := by omega
  have N9K7 : ¬ (g7 = g9) := by omega
  have M9K7 : ¬ (g9 = g7) := by omega
  have K7c0 := K7.cell (i := 0) rfl
  have K7c1 := K7.cell (i := 1) rfl
  go_wp2_with ((go_at_call 23; refine (eqPoint_any _ _ _ _ _).mono ?_; rintro e w1 ⟨hb, ⟨h1, rfl⟩ | ⟨h1, rfl⟩⟩ <;> (try (exfalso; omega)) <;> (obtain ⟨hc, hf⟩ := bcell hb; have hz := hb.size; have ht := below_lt hb; (try simp at hz); (try have z0 : w.heap.size < w1.heap.size := by omega); (try have z1 : w.heap.size + 1 < w1.heap.size := by omega); (try have z2 : w.heap.size + 1 + 1 < w1.heap.size := by omega); (try have z3 : w.heap.size + 1 + 1 + 1 < w1.heap.size := by omega); (try have z4 : w.heap.size + 1 + 1 + 1 + 1 < w1.heap.size := by omega))))
  go_ret
  exact ⟨rfl, (by repeat (first | exact Below.refl _ _ | refine Below.setCell ?_ (by first | omega | (simp; done) | (simp; omega)) _ | refine Below.alloc ?_ (by first | omega | (simp; done) | (simp; omega)) _ | refine Below.drew ?_ | refine Below.trans ?_ (Below.mono (by assumption) (by first | omega | (simp; done) | (simp; omega)))))⟩
theorem law_CellOf (bx by' x y k : Int) (w : World) : Calls Try.prog 5 #[ptV bx by', ptV x y, .int .i64 k] w (Ret (.bool true) w) := by
  by_cases H : CellGood bx by' x y k
  · exact law_CellOf_in bx by' x y k w H
  · exact law_CellOf_out bx by' x y k w H
end Go.Proofs.Ytghecnlgainfkaa
