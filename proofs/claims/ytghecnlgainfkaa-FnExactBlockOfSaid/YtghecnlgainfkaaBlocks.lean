/- Contracts: the block and the cell of a point. -/
import Derived.Test.YtghecnlgainfkaaPoints
import Derived.Test.YtghecnlgainfkaaMem
import Derived.RegionTactic
import Derived.BigRegion
namespace Go.Proofs.Ytghecnlgainfkaa
open Go.RowKit
theorem tdiv_neg (n k : Int) (h : n < 0) : n.tdiv k = -((-n) / k) := by
  have := Int.neg_tdiv (a := -n) (b := k)
  rw [Int.neg_neg] at this
  rw [this, Int.tdiv_eq_ediv_of_nonneg (by omega)]
theorem tmod_neg (n k : Int) (h : n < 0) : n.tmod k = -((-n) % k) := by
  have := Int.neg_tmod (a := -n) (b := k)
  rw [Int.neg_neg] at this
  rw [this, Int.tmod_eq_emod_of_nonneg (by omega)]
theorem floor_bd (n k : Int) (h : -60 ≤ n ∧ n ≤ 60) (hk : 1 ≤ k ∧ k ≤ 4) : (-60 ≤ n / k ∧ n / k ≤ 60) ∧ (0 ≤ n % k ∧ n % k ≤ 4) ∧ n % k = n - k * (n / k) := by
  obtain rfl | rfl | rfl | rfl : k = 1 ∨ k = 2 ∨ k = 3 ∨ k = 4 := by omega
  all_goals omega
theorem sFloor (n k : Int) (h : -60 ≤ n ∧ n ≤ 60) (hk : 1 ≤ k ∧ k ≤ 4) (w : World) : Calls Try.prog 98 #[.int .i64 n, .int .i64 k] w (Gives (.tuple #[.int .i64 (n / k), .int .i64 (n % k)]) w) := by
  by_cases h0 : 0 ≤ n
  · obtain rfl | rfl | rfl | rfl : k = 1 ∨ k = 2 ∨ k = 3 ∨ k = 4 := by omega
    all_goals
      go_enter Try.func98, Try.ntmps98
      go_wp2
      go_ret2
      exact ⟨ret_ii (by omega) (by omega), rfl⟩
  · have e1 := tdiv_neg n k (by omega)
    have e2 := tmod_neg n k (by omega)
    have hb : (-60 ≤ n.tdiv k ∧ n.tdiv k ≤ 0) ∧ (-4 < n.tmod k ∧ n.tmod k ≤ 0) := by
      rw [e1, e2]
      obtain rfl | rfl | rfl | rfl : k = 1 ∨ k = 2 ∨ k = 3 ∨ k = 4 := by omega
      all_goals omega
    obtain ⟨⟨b1, b2⟩, b3, b4⟩ := hb
    have E1 := Lib.hid e1; have E2 := Lib.hid e2; clear e1 e2
    obtain rfl | rfl | rfl | rfl : k = 1 ∨ k = 2 ∨ k = 3 ∨ k = 4 := by omega
    all_goals
      go_enter Try.func98, Try.ntmps98
      go_wp2
      all_goals
        go_ret2
        exact ⟨ret_ii (by have := E1.out; have := E2.out; omega) (by have := E1.out; have := E2.out; omega), rfl⟩
theorem iFloor (n k : Int) (h : -60 ≤ n ∧ n ≤ 60) (hk : 1 ≤ k ∧ k ≤ 4) (w : World) : Calls Try.prog 99 #[.int .i64 n, .int .i64 k] w (Gives (.int .i64 (n / k)) w) := by
  by_cases h0 : 0 ≤ n
  · obtain rfl | rfl | rfl | rfl : k = 1 ∨ k = 2 ∨ k = 3 ∨ k = 4 := by omega
    all_goals
      go_enter Try.func99, Try.ntmps99
      go_wp2
      go_ret
      exact ⟨ret_int (by omega), rfl⟩
  · obtain rfl | rfl | rfl | rfl : k = 1 ∨ k = 2 ∨ k = 3 ∨ k = 4 := by omega
    all_goals
      go_enter Try.func99, Try.ntmps99
      go_wp2
      go_ret
      exact ⟨ret_int (by omega), rfl⟩
theorem sBlock (x y k : Int) (hx : -60 ≤ x ∧ x ≤ 60) (hy : -60 ≤ y ∧ y ≤ 60) (hk : 1 ≤ k ∧ k ≤ 4) (w : World) : Calls Try.prog 73 #[ptV x y, .int .i64 k] w (Ret (.tuple #[ptV (x / k) (y / k), ptV (x % k) (y % k)]) w) := by
  go_enter Try.func73, Try.ntmps73
  go_wp2_with ((go_at_call 98; refine (sFloor _ _ (by omega) (by omega) _).mono ?_; rintro e w' ⟨rfl, rfl⟩))
  refine bodyPost_ret (v := .tuple #[ptV (x / k) (y / k), ptV (x % k) (y % k)]) ?_ rfl ⟨rfl, (by repeat (first | exact Below.refl _ _ | refine Below.setCell ?_ (by first | omega | (simp; done) | (simp; omega)) _ | refine Below.alloc ?_ (by first | omega | (simp; done) | (simp; omega)) _ | refine Below.drew ?_ | refine Below.trans ?_ (Below.mono (by assumption) (by first | omega | (simp; done) | (simp; omega)))))⟩
  simp only [results, Try.results73]; go_simp
set_option maxHeartbeats 1600000 in
theorem iBlock (x y k : Int) (hx : -60 ≤ x ∧ x ≤ 60) (hy : -60 ≤ y ∧ y ≤ 60) (hk : 1 ≤ k ∧ k ≤ 4) (w : World) : Calls Try.prog 74 #[ptV x y, .int .i64 k] w (Ret (.tuple #[ptV (x / k) (y / k), ptV (x % k) (y % k)]) w) := by
  obtain ⟨⟨f1, f2⟩, ⟨f3, f4⟩, f5⟩ := floor_bd x k hx hk
  obtain ⟨⟨g1, g2⟩, ⟨g3, g4⟩, g5⟩ := floor_bd y k hy hk
  obtain ⟨m1, m2⟩ := mul_bd (x / k) k ⟨f1, f2⟩ hk
  obtain ⟨m3, m4⟩ := mul_bd (y / k) k ⟨g1, g2⟩ hk
  have F5 := Lib.hid f5; have G5 := Lib.hid g5; clear f5 g5
  rw [Int.mul_comm] at m1 m2 m3 m4
  go_enter Try.func74, Try.ntmps74
  go_wp2_with fail
  refine wp_world ?_; intro w0 hb0 hh0 hz0; (try simp at hz0)
  have K0 : Blk w0 (w.heap.size) [.int .i64 x, .int .i64 y] 33 := Blk.of_eq (hh0 _) (by repeat (first | assumption | exact Blk.alloc_at (by (first | omega | (simp; done) | (simp; omega))) | refine Blk.set_other _ (by (first | omega | (simp; done) | (simp; omega))) ?_ | refine Blk.alloc_old _ ?_ | refine Blk.drew ?_ | refine Blk.below (by assumption) ?_))
  have K0L := K0.lt
  have K1 : Blk w0 (w.heap.size + 1) [.int .i64 0, .int .i64 0] 33 := Blk.of_eq (hh0 _) (by repeat (first | assumption | exact Blk.alloc_at (by (first | omega | (simp; done) | (simp; omega))) | refine Blk.set_other _ (by (first | omega | (simp; done) | (simp; omega))) ?_ | refine Blk.alloc_old _ ?_ | refine Blk.drew ?_ | refine Blk.below (by assumption) ?_))
  have K1L := K1.lt
  have K2 : Blk w0 (w.heap.size + 1 + 1) [.int .i64 0, .int .i64 0] 33 := Blk.of_eq (hh0 _) (by repeat (first | assumption | exact Blk.alloc_at (by (first | omega | (simp; done) | (simp; omega))) | refine Blk.set_other _ (by (first | omega | (simp; done) | (simp; omega))) ?_ | refine Blk.alloc_old _ ?_ | refine Blk.drew ?_ | refine Blk.below (by assumption) ?_))
  have K2L := K2.lt
  refine wp_region_rgl 10 [Is (.pointer (some ⟨w.heap.size, 0, none⟩)), Is (.int .i64 x), Is (.int .i64 k), Is (.int .i64 (x / k)), Is (.pointer (some ⟨w.heap.size, 1, none⟩)), Is (.int .i64 y), Is (.int .i64 k), Is (.int .i64 (y / k)), Is (ptV (x / k) (y / k)), NewBox w0.heap.size [.int .i64 0, .int .i64 0] 33] (fun _ _ _ _ _ h => h) (by kernel_rfl) (by kernel_rfl) ⟨Stab.is _, Stab.is _, Stab.is _, Stab.is _, Stab.is _, Stab.is _, Stab.is _, Stab.is _, Stab.is _, NewBox.stab _ _ _, trivial⟩ ⟨?_, ?_, ?_, ?_, ?_, ?_, ?_, ?_, ?_, ?_, ?_, trivial⟩ ?_
  · intro _ v w1 hb hd; have hz := hb.size
    have K0 := K0.below hb
    have K0c0 := K0.cell (i := 0) rfl
    have K0c1 := K0.cell (i := 1) rfl
    have K1 := K1.below hb
    have K1c0 := K1.cell (i := 0) rfl
    have K1c1 := K1.cell (i := 1) rfl
    have K2 := K2.below hb
    have K2c0 := K2.cell (i := 0) rfl
    have K2c1 := K2.cell (i := 1) rfl
    clear hd; (try unfold Is at *); simp only [rgPut, rgDst, Act.put, List.getElem?_cons_zero, List.getElem?_cons_succ, Option.bind_some, List.setIfInBounds_toArray, List.set_cons_zero, List.set_cons_succ]
    go_wp2_with (first | (go_at_call 99; refine (iFloor _ _ (by omega) (by omega) _).mono ?_; rintro e w' ⟨rfl, rfl⟩))
    exact ⟨rfl, (by repeat (first | exact Below.refl _ _ | refine Below.setCell ?_ (by first | omega | (simp; done) | (simp; omega)) _ | refine Below.alloc ?_ (by first | omega | (simp; done) | (simp; omega)) _ | refine Below.drew ?_ | refine Below.trans ?_ (Below.mono (by assumption) (by first | omega | (simp; done) | (simp; omega))))), (by first | rfl | assumption)⟩
  · intro _ v w1 hb hd; have hz := hb.size
    have K0 := K0.below hb
    have K0c0 := K0.cell (i := 0) rfl
    have K0c1 := K0.cell (i := 1) rfl
    have K1 := K1.below hb
    have K1c0 := K1.cell (i := 0) rfl
    have K1c1 := K1.cell (i := 1) rfl
    have K2 := K2.below hb
    have K2c0 := K2.cell (i := 0) rfl
    have K2c1 := K2.cell (i := 1) rfl
    have d0 : (Is (.pointer (some ⟨w.heap.size, 0, none⟩))) (v 0) w1 := hd 0 (by kernel_rfl)
    clear hd; (try unfold Is at *); simp only [rgPut, rgDst, Act.put, List.getElem?_cons_zero, List.getElem?_cons_succ, Option.bind_some, List.setIfInBounds_toArray, List.set_cons_zero, List.set_cons_succ]
    go_wp2_with (first | (go_at_call 99; refine (iFloor _ _ (by omega) (by omega) _).mono ?_; rintro e w' ⟨rfl, rfl⟩))
    exact ⟨rfl, (by repeat (first | exact Below.refl _ _ | refine Below.setCell ?_ (by first | omega | (simp; done) | (simp; omega)) _ | refine Below.alloc ?_ (by first | omega | (simp; done) | (simp; omega)) _ | refine Below.drew ?_ | refine Below.trans ?_ (Below.mono (by assumption) (by first | omega | (simp; done) | (simp; omega))))), (by first | rfl | assumption)⟩
  · intro _ v w1 hb hd; have hz := hb.size
    have K0 := K0.below hb
    have K0c0 := K0.cell (i := 0) rfl
    have K0c1 := K0.cell (i := 1) rfl
    have K1 := K1.below hb
    have K1c0 := K1.cell (i := 0) rfl
    have K1c1 := K1.cell (i := 1) rfl
    have K2 := K2.below hb
    have K2c0 := K2.cell (i := 0) rfl
    have K2c1 := K2.cell (i := 1) rfl
    clear hd; (try unfold Is at *); simp only [rgPut, rgDst, Act.put, List.getElem?_cons_zero, List.getElem?_cons_succ, Option.bind_some, List.setIfInBounds_toArray, List.set_cons_zero, List.set_cons_succ]
    go_wp2_with (first | (go_at_call 99; refine (iFloor _ _ (by omega) (by omega) _).mono ?_; rintro e w' ⟨rfl, rfl⟩))
    exact ⟨rfl, (by repeat (first | exact Below.refl _ _ | refine Below.setCell ?_ (by first | omega | (simp; done) | (simp; omega)) _ | refine Below.alloc ?_ (by first | omega | (simp; done) | (simp; omega)) _ | refine Below.drew ?_ | refine Below.trans ?_ (Below.mono (by assumption) (by first | omega | (simp; done) | (simp; omega))))), (by first | rfl | assumption)⟩
  · intro _ v w1 hb hd; have hz := hb.size
    have K0 := K0.below hb
    have K0c0 := K0.cell (i := 0) rfl
    have K0c1 := K0.cell (i := 1) rfl
    have K1 := K1.below hb
    have K1c0 := K1.cell (i := 0) rfl
    have K1c1 := K1.cell (i := 1) rfl
    have K2 := K2.below hb
    have K2c0 := K2.cell (i := 0) rfl
    have K2c1 := K2.cell (i := 1) rfl
    have d1 : (Is (.int .i64 x)) (v 1) w1 := hd 1 (by kernel_rfl)
    have d2 : (Is (.int .i64 k)) (v 2) w1 := hd 2 (by kernel_rfl)
    clear hd; (try unfold Is at *); simp only [rgPut, rgDst, Act.put, List.getElem?_cons_zero, List.getElem?_cons_succ, Option.bind_some, List.setIfInBounds_toArray, List.set_cons_zero, List.set_cons_succ]
    go_wp2_with (first | (go_at_call 99; refine (iFloor _ _ (by omega) (by omega) _).mono ?_; rintro e w' ⟨rfl, rfl⟩))
    exact ⟨rfl, (by repeat (first | exact Below.refl _ _ | refine Below.setCell ?_ (by first | omega | (simp; done) | (simp; omega)) _ | refine Below.alloc ?_ (by first | omega | (simp; done) | (simp; omega)) _ | refine Below.drew ?_ | refine Below.trans ?_ (Below.mono (by assumption) (by first | omega | (simp; done) | (simp; omega))))), (by first | rfl | assumption)⟩
  · intro _ v w1 hb hd; have hz := hb.size
    have K0 := K0.below hb
    have K0c0 := K0.cell (i := 0) rfl
    have K0c1 := K0.cell (i := 1) rfl
    have K1 := K1.below hb
    have K1c0 := K1.cell (i := 0) rfl
    have K1c1 := K1.cell (i := 1) rfl
    have K2 := K2.below hb
    have K2c0 := K2.cell (i := 0) rfl
    have K2c1 := K2.cell (i := 1) rfl
    clear hd; (try unfold Is at *); simp only [rgPut, rgDst, Act.put, List.getElem?_cons_zero, List.getElem?_cons_succ, Option.bind_some, List.setIfInBounds_toArray, List.set_cons_zero, List.set_cons_succ]
    go_wp2_with (first | (go_at_call 99; refine (iFloor _ _ (by omega) (by omega) _).mono ?_; rintro e w' ⟨rfl, rfl⟩))
    exact ⟨rfl, (by repeat (first | exact Below.refl _ _ | refine Below.setCell ?_ (by first | omega | (simp; done) | (simp; omega)) _ | refine Below.alloc ?_ (by first | omega | (simp; done) | (simp; omega)) _ | refine Below.drew ?_ | refine Below.trans ?_ (Below.mono (by assumption) (by first | omega | (simp; done) | (simp; omega))))), (by first | rfl | assumption)⟩
  · intro _ v w1 hb hd; have hz := hb.size
    have K0 := K0.below hb
    have K0c0 := K0.cell (i := 0) rfl
    have K0c1 := K0.cell (i := 1) rfl
    have K1 := K1.below hb
    have K1c0 := K1.cell (i := 0) rfl
    have K1c1 := K1.cell (i := 1) rfl
    have K2 := K2.below hb
    have K2c0 := K2.cell (i := 0) rfl
    have K2c1 := K2.cell (i := 1) rfl
    have d4 : (Is (.pointer (some ⟨w.heap.size, 1, none⟩))) (v 4) w1 := hd 4 (by kernel_rfl)
    clear hd; (try unfold Is at *); simp only [rgPut, rgDst, Act.put, List.getElem?_cons_zero, List.getElem?_cons_succ, Option.bind_some, List.setIfInBounds_toArray, List.set_cons_zero, List.set_cons_succ]
    go_wp2_with (first | (go_at_call 99; refine (iFloor _ _ (by omega) (by omega) _).mono ?_; rintro e w' ⟨rfl, rfl⟩))
    exact ⟨rfl, (by repeat (first | exact Below.refl _ _ | refine Below.setCell ?_ (by first | omega | (simp; done) | (simp; omega)) _ | refine Below.alloc ?_ (by first | omega | (simp; done) | (simp; omega)) _ | refine Below.drew ?_ | refine Below.trans ?_ (Below.mono (by assumption) (by first | omega | (simp; done) | (simp; omega))))), (by first | rfl | assumption)⟩
  · intro _ v w1 hb hd; have hz := hb.size
    have K0 := K0.below hb
    have K0c0 := K0.cell (i := 0) rfl
    have K0c1 := K0.cell (i := 1) rfl
    have K1 := K1.below hb
    have K1c0 := K1.cell (i := 0) rfl
    have K1c1 := K1.cell (i := 1) rfl
    have K2 := K2.below hb
    have K2c0 := K2.cell (i := 0) rfl
    have K2c1 := K2.cell (i := 1) rfl
    clear hd; (try unfold Is at *); simp only [rgPut, rgDst, Act.put, List.getElem?_cons_zero, List.getElem?_cons_succ, Option.bind_some, List.setIfInBounds_toArray, List.set_cons_zero, List.set_cons_succ]
    go_wp2_with (first | (go_at_call 99; refine (iFloor _ _ (by omega) (by omega) _).mono ?_; rintro e w' ⟨rfl, rfl⟩))
    exact ⟨rfl, (by repeat (first | exact Below.refl _ _ | refine Below.setCell ?_ (by first | omega | (simp; done) | (simp; omega)) _ | refine Below.alloc ?_ (by first | omega | (simp; done) | (simp; omega)) _ | refine Below.drew ?_ | refine Below.trans ?_ (Below.mono (by assumption) (by first | omega | (simp; done) | (simp; omega))))), (by first | rfl | assumption)⟩
  · intro _ v w1 hb hd; have hz := hb.size
    have K0 := K0.below hb
    have K0c0 := K0.cell (i := 0) rfl
    have K0c1 := K0.cell (i := 1) rfl
    have K1 := K1.below hb
    have K1c0 := K1.cell (i := 0) rfl
    have K1c1 := K1.cell (i := 1) rfl
    have K2 := K2.below hb
    have K2c0 := K2.cell (i := 0) rfl
    have K2c1 := K2.cell (i := 1) rfl
    have d5 : (Is (.int .i64 y)) (v 5) w1 := hd 5 (by kernel_rfl)
    have d6 : (Is (.int .i64 k)) (v 6) w1 := hd 6 (by kernel_rfl)
    clear hd; (try unfold Is at *); simp only [rgPut, rgDst, Act.put, List.getElem?_cons_zero, List.getElem?_cons_succ, Option.bind_some, List.setIfInBounds_toArray, List.set_cons_zero, List.set_cons_succ]
    go_wp2_with (first | (go_at_call 99; refine (iFloor _ _ (by omega) (by omega) _).mono ?_; rintro e w' ⟨rfl, rfl⟩))
    exact ⟨rfl, (by repeat (first | exact Below.refl _ _ | refine Below.setCell ?_ (by first | omega | (simp; done) | (simp; omega)) _ | refine Below.alloc ?_ (by first | omega | (simp; done) | (simp; omega)) _ | refine Below.drew ?_ | refine Below.trans ?_ (Below.mono (by assumption) (by first | omega | (simp; done) | (simp; omega))))), (by first | rfl | assumption)⟩
  · intro _ v w1 hb hd; have hz := hb.size
    have K0 := K0.below hb
    have K0c0 := K0.cell (i := 0) rfl
    have K0c1 := K0.cell (i := 1) rfl
    have K1 := K1.below hb
    have K1c0 := K1.cell (i := 0) rfl
    have K1c1 := K1.cell (i := 1) rfl
    have K2 := K2.below hb
    have K2c0 := K2.cell (i := 0) rfl
    have K2c1 := K2.cell (i := 1) rfl
    have d3 : (Is (.int .i64 (x / k))) (v 3) w1 := hd 3 (by kernel_rfl)
    have d7 : (Is (.int .i64 (y / k))) (v 7) w1 := hd 7 (by kernel_rfl)
    clear hd; (try unfold Is at *); simp only [rgPut, rgDst, Act.put, List.getElem?_cons_zero, List.getElem?_cons_succ, Option.bind_some, List.setIfInBounds_toArray, List.set_cons_zero, List.set_cons_succ]
    go_wp2_with (first | (go_at_call 99; refine (iFloor _ _ (by omega) (by omega) _).mono ?_; rintro e w' ⟨rfl, rfl⟩))
    exact ⟨rfl, (by repeat (first | exact Below.refl _ _ | refine Below.setCell ?_ (by first | omega | (simp; done) | (simp; omega)) _ | refine Below.alloc ?_ (by first | omega | (simp; done) | (simp; omega)) _ | refine Below.drew ?_ | refine Below.trans ?_ (Below.mono (by assumption) (by first | omega | (simp; done) | (simp; omega))))), (by first | rfl | assumption)⟩
  · intro _ v w1 hb hd; have hz := hb.size
    have K0 := K0.below hb
    have K0c0 := K0.cell (i := 0) rfl
    have K0c1 := K0.cell (i := 1) rfl
    have K1 := K1.below hb
    have K1c0 := K1.cell (i := 0) rfl
    have K1c1 := K1.cell (i := 1) rfl
    have K2 := K2.below hb
    have K2c0 := K2.cell (i := 0) rfl
    have K2c1 := K2.cell (i := 1) rfl
    clear hd; (try unfold Is at *); simp only [rgPut, rgDst, Act.put, List.getElem?_cons_zero, List.getElem?_cons_succ, Option.bind_some, List.setIfInBounds_toArray, List.set_cons_zero, List.set_cons_succ]
    go_wp2_with (first | (go_at_call 99; refine (iFloor _ _ (by omega) (by omega) _).mono ?_; rintro e w' ⟨rfl, rfl⟩))
    exact ⟨rfl, (by repeat (first | exact Below.refl _ _ | refine Below.setCell ?_ (by first | omega | (simp; done) | (simp; omega)) _ | refine Below.alloc ?_ (by first | omega | (simp; done) | (simp; omega)) _ | refine Below.drew ?_ | refine Below.trans ?_ (Below.mono (by assumption) (by first | omega | (simp; done) | (simp; omega))))), ⟨_, rfl, by (first | omega | (simp; done) | (simp; omega)), Blk.alloc_at (by (first | omega | (simp; done) | (simp; omega)))⟩⟩
  · (intro hk; exact absurd hk (by decide))
  intro v w1 hb hA
  have a0 : (Is (.pointer (some ⟨w.heap.size, 0, none⟩))) (v 0) w1 := hA 0 (by decide)
  have a1 : (Is (.int .i64 x)) (v 1) w1 := hA 1 (by decide)
  have a2 : (Is (.int .i64 k)) (v 2) w1 := hA 2 (by decide)
  have a3 : (Is (.int .i64 (x / k))) (v 3) w1 := hA 3 (by decide)
  have a4 : (Is (.pointer (some ⟨w.heap.size, 1, none⟩))) (v 4) w1 := hA 4 (by decide)
  have a5 : (Is (.int .i64 y)) (v 5) w1 := hA 5 (by decide)
  have a6 : (Is (.int .i64 k)) (v 6) w1 := hA 6 (by decide)
  have a7 : (Is (.int .i64 (y / k))) (v 7) w1 := hA 7 (by decide)
  have a8 : (Is (ptV (x / k) (y / k))) (v 8) w1 := hA 8 (by decide)
  have a9 : (NewBox w0.heap.size [.int .i64 0, .int .i64 0] 33) (v 9) w1 := hA 9 (by decide)
  clear hA; (try unfold Is at *); simp only [rgPut, rgDst, Act.put, List.getElem?_cons_zero, List.getElem?_cons_succ, Option.bind_some, List.setIfInBounds_toArray, List.set_cons_zero, List.set_cons_succ, List.drop_succ_cons, List.drop_zero]
  simp only [a0, a1, a2, a3, a4, a5, a6, a7, a8]; clear a0 a1 a2 a3 a4 a5 a6 a7 a8
  generalize v 9 = v6 at *
  have hz := hb.size
  have K0 := K0.below hb
  have K0c0 := K0.cell (i := 0) rfl
  have K0c1 := K0.cell (i := 1) rfl
  have K0f0 := K0.frozen 0
  have K0f1 := K0.frozen 1
  have K1 := K1.below hb
  have K1c0 := K1.cell (i := 0) rfl
  have K1c1 := K1.cell (i := 1) rfl
  have K1f0 := K1.frozen 0
  have K1f1 := K1.frozen 1
  have K2 := K2.below hb
  have K2c0 := K2.cell (i := 0) rfl
  have K2c1 := K2.cell (i := 1) rfl
  have K2f0 := K2.frozen 0
  have K2f1 := K2.frozen 1
  obtain ⟨g6, rfl, l6, B6⟩ := a9
  have B6c0 := B6.cell (i := 0) rfl
  have B6c1 := B6.cell (i := 1) rfl
  have B6f0 := B6.frozen 0
  have B6f1 := B6.frozen 1
  have N6K0 : ¬ (w.heap.size = g6) := by omega
  have M6K0 : ¬ (g6 = w.heap.size) := by omega
  have N6K1 : ¬ (w.heap.size + 1 = g6) := by omega
  have M6K1 : ¬ (g6 = w.heap.size + 1) := by omega
  have N6K2 : ¬ (w.heap.size + 1 + 1 = g6) := by omega
  have M6K2 : ¬ (g6 = w.heap.size + 1 + 1) := by omega
  go_wp2_with fail
  have B6 := (B6.set 0 (.int .i64 (x / k))).set 1 (.int .i64 (y / k))
  refine wp_world ?_; intro w0 hb0 hh0 hz0; (try simp at hz0)
  have K0 : Blk w0 (w.heap.size) [.int .i64 x, .int .i64 y] 33 := Blk.of_eq (hh0 _) (by repeat (first | assumption | exact Blk.alloc_at (by (first | omega | (simp; done) | (simp; omega))) | refine Blk.set_other _ (by (first | omega | (simp; done) | (simp; omega))) ?_ | refine Blk.alloc_old _ ?_ | refine Blk.drew ?_ | refine Blk.below (by assumption) ?_))
  have K0c0 := K0.cell (i := 0) rfl
  have K0c1 := K0.cell (i := 1) rfl
  have K1 : Blk w0 (w.heap.size + 1) [.int .i64 0, .int .i64 0] 33 := Blk.of_eq (hh0 _) (by repeat (first | assumption | exact Blk.alloc_at (by (first | omega | (simp; done) | (simp; omega))) | refine Blk.set_other _ (by (first | omega | (simp; done) | (simp; omega))) ?_ | refine Blk.alloc_old _ ?_ | refine Blk.drew ?_ | refine Blk.below (by assumption) ?_))
  have K1c0 := K1.cell (i := 0) rfl
  have K1c1 := K1.cell (i := 1) rfl
  have K2 : Blk w0 (w.heap.size + 1 + 1) [.int .i64 0, .int .i64 0] 33 := Blk.of_eq (hh0 _) (by repeat (first | assumption | exact Blk.alloc_at (by (first | omega | (simp; done) | (simp; omega))) | refine Blk.set_other _ (by (first | omega | (simp; done) | (simp; omega))) ?_ | refine Blk.alloc_old _ ?_ | refine Blk.drew ?_ | refine Blk.below (by assumption) ?_))
  have K2c0 := K2.cell (i := 0) rfl
  have K2c1 := K2.cell (i := 1) rfl
  have K6 : Blk w0 (g6) [.int .i64 (x / k), .int .i64 (y / k)] 33 := Blk.of_eq (hh0 _) (by repeat (first | assumption | exact Blk.alloc_at (by (first | omega | (simp; done) | (simp; omega))) | refine Blk.set_other _ (by (first | omega | (simp; done) | (simp; omega))) ?_ | refine Blk.alloc_old _ ?_ | refine Blk.drew ?_ | refine Blk.below (by assumption) ?_))
  have K6c0 := K6.cell (i := 0) rfl
  have K6c1 := K6.cell (i := 1) rfl
  have K1f0 := K1.frozen 0
  have K1f1 := K1.frozen 1
  have K2f0 := K2.frozen 0
  have K2f1 := K2.frozen 1
  go_region
  all_goals
    go_wp2_with fail
    rw [← F5.out, ← G5.out]
    refine bodyPost_ret (v := .tuple #[ptV (x / k) (y / k), ptV (x % k) (y % k)]) ?_ rfl ⟨rfl, (by repeat (first | exact Below.refl _ _ | refine Below.setCell ?_ (by first | omega | (simp; done) | (simp; omega)) _ | refine Below.alloc ?_ (by first | omega | (simp; done) | (simp; omega)) _ | refine Below.drew ?_ | refine Below.trans ?_ (Below.mono (by assumption) (by first | omega | (simp; done) | (simp; omega)))))⟩
    simp only [results, Try.results74]; go_simp
def BlockAsk (x y k : Int) : Prop := PtOk x y ∧ (1 ≤ k ∧ k ≤ 4)
end Go.Proofs.Ytghecnlgainfkaa
