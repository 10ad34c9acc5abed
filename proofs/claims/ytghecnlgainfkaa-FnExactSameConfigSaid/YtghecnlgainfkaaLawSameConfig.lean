/- The law on SameConfig: the walk. -/
import Derived.Test.YtghecnlgainfkaaConfig2
namespace Go.Proofs.Ytghecnlgainfkaa
open Go.RowKit
set_option maxHeartbeats 4000000 in
theorem law_SameConfig (n1 n2 m1 m2 : Int) (va ub : Value) (xs ys : List Int) (w : World) (hv : SlAt 1 rI w (· < w.heap.size) va xs) (hu : SlAt 1 rI w (· < w.heap.size) ub ys) :
    Calls Try.prog 10 #[.agg #[va, .int .i64 n1, .int .i64 n2], .agg #[ub, .int .i64 m1, .int .i64 m2]] w (Ret (.bool true) w) := by
  have h63 := hv.le
  have h64 := hu.le
  have HI := Lib.hid hv.inI64; have HJ := Lib.hid hu.inI64
  have HV := Lib.hid hv; have HU := Lib.hid hu
  clear hv hu
  by_cases l1 : xs.length ≤ 1048576
  case neg =>
    have E1 := Lib.hid (show szI 1048576 xs.length = -1 by unfold szI; rw [if_pos (by omega)])
    go_enter Try.func10, Try.ntmps10
    go_wp2_with fail
    have K : Blk ((w.alloc (.cells #[va, .int .i64 n1, .int .i64 n2] 50)).alloc (.cells #[ub, .int .i64 m1, .int .i64 m2] 50)) w.heap.size [va, .int .i64 n1, .int .i64 n2] 50 := (by repeat (first | with_reducible assumption | (with_reducible refine Blk.alloc_at ?_; next => (first | omega | (simp; done) | (simp; omega))) | (with_reducible refine Blk.set_other _ ?_ ?_; next => (first | omega | (simp; done) | (simp; omega))) | with_reducible refine Blk.alloc_old _ ?_ | with_reducible refine Blk.drew ?_ | with_reducible refine Blk.below (by assumption) ?_))
    have J : Blk ((w.alloc (.cells #[va, .int .i64 n1, .int .i64 n2] 50)).alloc (.cells #[ub, .int .i64 m1, .int .i64 m2] 50)) (w.heap.size + 1) [ub, .int .i64 m1, .int .i64 m2] 50 := (by repeat (first | with_reducible assumption | (with_reducible refine Blk.alloc_at ?_; next => (first | omega | (simp; done) | (simp; omega))) | (with_reducible refine Blk.set_other _ ?_ ?_; next => (first | omega | (simp; done) | (simp; omega))) | with_reducible refine Blk.alloc_old _ ?_ | with_reducible refine Blk.drew ?_ | with_reducible refine Blk.below (by assumption) ?_))
    refine (szConfig_any _ _ _ xs 1048576 _ _ (HV.out.below (B := w.heap.size) (by repeat (first | with_reducible exact Below.refl _ _ | with_reducible assumption | (with_reducible refine Below.setCell ?_ ?_ _; rotate_left; next => (first | omega | (simp; done) | (simp; omega) | exact Below.size (by assumption))) | (with_reducible refine Below.alloc ?_ ?_ _; rotate_left; next => (first | omega | (simp; done) | (simp; omega) | exact Below.size (by assumption))) | with_reducible refine Below.drew ?_ | with_reducible refine below_drewN ?_ _ | (with_reducible refine Below.trans ?_ (Below.mono (by assumption) ?_); rotate_left; next => (first | omega | (simp; done) | (simp; omega) | exact Below.size (by assumption))))) (fun b h => h)) (fun b hb => by (first | omega | (simp; done) | (simp; omega))) (by omega)).mono ?_
    rintro e wA ⟨rfl, bA⟩
    rw [E1.out]
    have BA : Below w.heap.size w wA := (by repeat (first | with_reducible exact Below.refl _ _ | with_reducible assumption | (with_reducible refine Below.setCell ?_ ?_ _; rotate_left; next => (first | omega | (simp; done) | (simp; omega) | exact Below.size (by assumption))) | (with_reducible refine Below.alloc ?_ ?_ _; rotate_left; next => (first | omega | (simp; done) | (simp; omega) | exact Below.size (by assumption))) | with_reducible refine Below.drew ?_ | with_reducible refine below_drewN ?_ _ | (with_reducible refine Below.trans ?_ (Below.mono (by assumption) ?_); rotate_left; next => (first | omega | (simp; done) | (simp; omega) | exact Below.size (by assumption)))))
    have K := K.below bA; have J := J.below bA
    have Kc0 := K.cell (i := 0) rfl; have Kc1 := K.cell (i := 1) rfl; have Kc2 := K.cell (i := 2) rfl; have Jc0 := J.cell (i := 0) rfl; have Jc1 := J.cell (i := 1) rfl; have Jc2 := J.cell (i := 2) rfl; have KL := K.lt; have JL := J.lt
    clear bA
    go_wp2
    go_ret
    exact ⟨rfl, (by repeat (first | with_reducible exact Below.refl _ _ | with_reducible assumption | (with_reducible refine Below.setCell ?_ ?_ _; rotate_left; next => (first | omega | (simp; done) | (simp; omega) | exact Below.size (by assumption))) | (with_reducible refine Below.alloc ?_ ?_ _; rotate_left; next => (first | omega | (simp; done) | (simp; omega) | exact Below.size (by assumption))) | with_reducible refine Below.drew ?_ | with_reducible refine below_drewN ?_ _ | (with_reducible refine Below.trans ?_ (Below.mono (by assumption) ?_); rotate_left; next => (first | omega | (simp; done) | (simp; omega) | exact Below.size (by assumption)))))⟩
  have E1 := Lib.hid (show szI 1048576 xs.length = 1048576 - xs.length by unfold szI; rw [if_neg (by omega)])
  by_cases l2 : (ys.length : Int) ≤ 1048576 - xs.length
  case neg =>
    have E2 := Lib.hid (show szI (1048576 - xs.length) ys.length = -1 by unfold szI; rw [if_pos (by omega)])
    go_enter Try.func10, Try.ntmps10
    go_wp2_with fail
    have K : Blk ((w.alloc (.cells #[va, .int .i64 n1, .int .i64 n2] 50)).alloc (.cells #[ub, .int .i64 m1, .int .i64 m2] 50)) w.heap.size [va, .int .i64 n1, .int .i64 n2] 50 := (by repeat (first | with_reducible assumption | (with_reducible refine Blk.alloc_at ?_; next => (first | omega | (simp; done) | (simp; omega))) | (with_reducible refine Blk.set_other _ ?_ ?_; next => (first | omega | (simp; done) | (simp; omega))) | with_reducible refine Blk.alloc_old _ ?_ | with_reducible refine Blk.drew ?_ | with_reducible refine Blk.below (by assumption) ?_))
    have J : Blk ((w.alloc (.cells #[va, .int .i64 n1, .int .i64 n2] 50)).alloc (.cells #[ub, .int .i64 m1, .int .i64 m2] 50)) (w.heap.size + 1) [ub, .int .i64 m1, .int .i64 m2] 50 := (by repeat (first | with_reducible assumption | (with_reducible refine Blk.alloc_at ?_; next => (first | omega | (simp; done) | (simp; omega))) | (with_reducible refine Blk.set_other _ ?_ ?_; next => (first | omega | (simp; done) | (simp; omega))) | with_reducible refine Blk.alloc_old _ ?_ | with_reducible refine Blk.drew ?_ | with_reducible refine Blk.below (by assumption) ?_))
    refine (szConfig_any _ _ _ xs 1048576 _ _ (HV.out.below (B := w.heap.size) (by repeat (first | with_reducible exact Below.refl _ _ | with_reducible assumption | (with_reducible refine Below.setCell ?_ ?_ _; rotate_left; next => (first | omega | (simp; done) | (simp; omega) | exact Below.size (by assumption))) | (with_reducible refine Below.alloc ?_ ?_ _; rotate_left; next => (first | omega | (simp; done) | (simp; omega) | exact Below.size (by assumption))) | with_reducible refine Below.drew ?_ | with_reducible refine below_drewN ?_ _ | (with_reducible refine Below.trans ?_ (Below.mono (by assumption) ?_); rotate_left; next => (first | omega | (simp; done) | (simp; omega) | exact Below.size (by assumption))))) (fun b h => h)) (fun b hb => by (first | omega | (simp; done) | (simp; omega))) (by omega)).mono ?_
    rintro e wA ⟨rfl, bA⟩
    rw [E1.out]
    have BA : Below w.heap.size w wA := (by repeat (first | with_reducible exact Below.refl _ _ | with_reducible assumption | (with_reducible refine Below.setCell ?_ ?_ _; rotate_left; next => (first | omega | (simp; done) | (simp; omega) | exact Below.size (by assumption))) | (with_reducible refine Below.alloc ?_ ?_ _; rotate_left; next => (first | omega | (simp; done) | (simp; omega) | exact Below.size (by assumption))) | with_reducible refine Below.drew ?_ | with_reducible refine below_drewN ?_ _ | (with_reducible refine Below.trans ?_ (Below.mono (by assumption) ?_); rotate_left; next => (first | omega | (simp; done) | (simp; omega) | exact Below.size (by assumption)))))
    have K := K.below bA; have J := J.below bA
    have Kc0 := K.cell (i := 0) rfl; have Kc1 := K.cell (i := 1) rfl; have Kc2 := K.cell (i := 2) rfl; have Jc0 := J.cell (i := 0) rfl; have Jc1 := J.cell (i := 1) rfl; have Jc2 := J.cell (i := 2) rfl; have KL := K.lt; have JL := J.lt
    clear bA
    go_wp2_with fail
    refine (szConfig_any _ _ _ ys (1048576 - xs.length) _ _ (HU.out.below (B := w.heap.size) (by repeat (first | with_reducible exact Below.refl _ _ | with_reducible assumption | (with_reducible refine Below.setCell ?_ ?_ _; rotate_left; next => (first | omega | (simp; done) | (simp; omega) | exact Below.size (by assumption))) | (with_reducible refine Below.alloc ?_ ?_ _; rotate_left; next => (first | omega | (simp; done) | (simp; omega) | exact Below.size (by assumption))) | with_reducible refine Below.drew ?_ | with_reducible refine below_drewN ?_ _ | (with_reducible refine Below.trans ?_ (Below.mono (by assumption) ?_); rotate_left; next => (first | omega | (simp; done) | (simp; omega) | exact Below.size (by assumption))))) (fun b h => h)) (fun b hb => by (first | omega | (simp; done) | (simp; omega))) (by omega)).mono ?_
    rintro e wB ⟨rfl, bB⟩
    rw [E2.out]
    have BB : Below w.heap.size w wB := BA.trans (bB.mono BA.size)
    have K := K.below bB; have J := J.below bB
    have Kc0 := K.cell (i := 0) rfl; have Kc1 := K.cell (i := 1) rfl; have Kc2 := K.cell (i := 2) rfl; have Jc0 := J.cell (i := 0) rfl; have Jc1 := J.cell (i := 1) rfl; have Jc2 := J.cell (i := 2) rfl; have KL := K.lt; have JL := J.lt
    clear bB BA
    go_wp2
    go_ret
    exact ⟨rfl, (by repeat (first | with_reducible exact Below.refl _ _ | with_reducible assumption | (with_reducible refine Below.setCell ?_ ?_ _; rotate_left; next => (first | omega | (simp; done) | (simp; omega) | exact Below.size (by assumption))) | (with_reducible refine Below.alloc ?_ ?_ _; rotate_left; next => (first | omega | (simp; done) | (simp; omega) | exact Below.size (by assumption))) | with_reducible refine Below.drew ?_ | with_reducible refine below_drewN ?_ _ | (with_reducible refine Below.trans ?_ (Below.mono (by assumption) ?_); rotate_left; next => (first | omega | (simp; done) | (simp; omega) | exact Below.size (by assumption)))))⟩
  have E2 := Lib.hid (show szI (1048576 - xs.length) ys.length = 1048576 - xs.length - ys.length by unfold szI; rw [if_neg (by omega)])
  have l3 : ys.length ≤ 1048576 := by omega
  by_cases g : xs = ys ∧ n1 = m1 ∧ n2 = m2
  · have HG := Lib.hid g; clear g
    go_enter Try.func10, Try.ntmps10
    go_wp2_with fail
    have K : Blk ((w.alloc (.cells #[va, .int .i64 n1, .int .i64 n2] 50)).alloc (.cells #[ub, .int .i64 m1, .int .i64 m2] 50)) w.heap.size [va, .int .i64 n1, .int .i64 n2] 50 := (by repeat (first | with_reducible assumption | (with_reducible refine Blk.alloc_at ?_; next => (first | omega | (simp; done) | (simp; omega))) | (with_reducible refine Blk.set_other _ ?_ ?_; next => (first | omega | (simp; done) | (simp; omega))) | with_reducible refine Blk.alloc_old _ ?_ | with_reducible refine Blk.drew ?_ | with_reducible refine Blk.below (by assumption) ?_))
    have J : Blk ((w.alloc (.cells #[va, .int .i64 n1, .int .i64 n2] 50)).alloc (.cells #[ub, .int .i64 m1, .int .i64 m2] 50)) (w.heap.size + 1) [ub, .int .i64 m1, .int .i64 m2] 50 := (by repeat (first | with_reducible assumption | (with_reducible refine Blk.alloc_at ?_; next => (first | omega | (simp; done) | (simp; omega))) | (with_reducible refine Blk.set_other _ ?_ ?_; next => (first | omega | (simp; done) | (simp; omega))) | with_reducible refine Blk.alloc_old _ ?_ | with_reducible refine Blk.drew ?_ | with_reducible refine Blk.below (by assumption) ?_))
    refine (szConfig_any _ _ _ xs 1048576 _ _ (HV.out.below (B := w.heap.size) (by repeat (first | with_reducible exact Below.refl _ _ | with_reducible assumption | (with_reducible refine Below.setCell ?_ ?_ _; rotate_left; next => (first | omega | (simp; done) | (simp; omega) | exact Below.size (by assumption))) | (with_reducible refine Below.alloc ?_ ?_ _; rotate_left; next => (first | omega | (simp; done) | (simp; omega) | exact Below.size (by assumption))) | with_reducible refine Below.drew ?_ | with_reducible refine below_drewN ?_ _ | (with_reducible refine Below.trans ?_ (Below.mono (by assumption) ?_); rotate_left; next => (first | omega | (simp; done) | (simp; omega) | exact Below.size (by assumption))))) (fun b h => h)) (fun b hb => by (first | omega | (simp; done) | (simp; omega))) (by omega)).mono ?_
    rintro e wA ⟨rfl, bA⟩
    rw [E1.out]
    have BA : Below w.heap.size w wA := (by repeat (first | with_reducible exact Below.refl _ _ | with_reducible assumption | (with_reducible refine Below.setCell ?_ ?_ _; rotate_left; next => (first | omega | (simp; done) | (simp; omega) | exact Below.size (by assumption))) | (with_reducible refine Below.alloc ?_ ?_ _; rotate_left; next => (first | omega | (simp; done) | (simp; omega) | exact Below.size (by assumption))) | with_reducible refine Below.drew ?_ | with_reducible refine below_drewN ?_ _ | (with_reducible refine Below.trans ?_ (Below.mono (by assumption) ?_); rotate_left; next => (first | omega | (simp; done) | (simp; omega) | exact Below.size (by assumption)))))
    have K := K.below bA; have J := J.below bA
    have Kc0 := K.cell (i := 0) rfl; have Kc1 := K.cell (i := 1) rfl; have Kc2 := K.cell (i := 2) rfl; have Jc0 := J.cell (i := 0) rfl; have Jc1 := J.cell (i := 1) rfl; have Jc2 := J.cell (i := 2) rfl; have KL := K.lt; have JL := J.lt
    clear bA
    go_wp2_with fail
    refine (szConfig_any _ _ _ ys (1048576 - xs.length) _ _ (HU.out.below (B := w.heap.size) (by repeat (first | with_reducible exact Below.refl _ _ | with_reducible assumption | (with_reducible refine Below.setCell ?_ ?_ _; rotate_left; next => (first | omega | (simp; done) | (simp; omega) | exact Below.size (by assumption))) | (with_reducible refine Below.alloc ?_ ?_ _; rotate_left; next => (first | omega | (simp; done) | (simp; omega) | exact Below.size (by assumption))) | with_reducible refine Below.drew ?_ | with_reducible refine below_drewN ?_ _ | (with_reducible refine Below.trans ?_ (Below.mono (by assumption) ?_); rotate_left; next => (first | omega | (simp; done) | (simp; omega) | exact Below.size (by assumption))))) (fun b h => h)) (fun b hb => by (first | omega | (simp; done) | (simp; omega))) (by omega)).mono ?_
    rintro e wB ⟨rfl, bB⟩
    rw [E2.out]
    have BB : Below w.heap.size w wB := BA.trans (bB.mono BA.size)
    have K := K.below bB; have J := J.below bB
    have Kc0 := K.cell (i := 0) rfl; have Kc1 := K.cell (i := 1) rfl; have Kc2 := K.cell (i := 2) rfl; have Jc0 := J.cell (i := 0) rfl; have Jc1 := J.cell (i := 1) rfl; have Jc2 := J.cell (i := 2) rfl; have KL := K.lt; have JL := J.lt
    clear bB BA
    have z1 := BB.size
    go_wp2_with fail
    refine wp_world ?_; intro w0 hb0 hh0 hz0; (try simp at hz0)
    have K : Blk w0 (w.heap.size) [va, .int .i64 n1, .int .i64 n2] 50 := Blk.of_eq (hh0 _) (by repeat (first | with_reducible assumption | (with_reducible refine Blk.alloc_at ?_; next => (first | omega | (simp; done) | (simp; omega))) | (with_reducible refine Blk.set_other _ ?_ ?_; next => (first | omega | (simp; done) | (simp; omega))) | with_reducible refine Blk.alloc_old _ ?_ | with_reducible refine Blk.drew ?_ | with_reducible refine Blk.below (by assumption) ?_))
    have KL := K.lt
    have J : Blk w0 (w.heap.size + 1) [ub, .int .i64 m1, .int .i64 m2] 50 := Blk.of_eq (hh0 _) (by repeat (first | with_reducible assumption | (with_reducible refine Blk.alloc_at ?_; next => (first | omega | (simp; done) | (simp; omega))) | (with_reducible refine Blk.set_other _ ?_ ?_; next => (first | omega | (simp; done) | (simp; omega))) | with_reducible refine Blk.alloc_old _ ?_ | with_reducible refine Blk.drew ?_ | with_reducible refine Blk.below (by assumption) ?_))
    have JL := J.lt
    refine wp_region_rgl 5 [Is (.agg #[va, .int .i64 n1, .int .i64 n2]), (fun r W => ∃ u, r = .agg #[u, .int .i64 n1, .int .i64 n2] ∧ SlAt 1 rI W (· < W.heap.size) u xs), Is (.agg #[ub, .int .i64 m1, .int .i64 m2]), (fun r W => ∃ u, r = .agg #[u, .int .i64 m1, .int .i64 m2] ∧ SlAt 1 rI W (· < W.heap.size) u ys), Is (.bool true)] (fun _ _ _ _ _ h => h) (by kernel_rfl) (by kernel_rfl) ⟨Stab.is _, (fun _ _ _ hb ⟨u, e, h⟩ => ⟨u, e, h.keep (fun b hb' => Nat.lt_of_lt_of_le hb' hb.size) (fun b hb' => hb.block b hb')⟩), Stab.is _, (fun _ _ _ hb ⟨u, e, h⟩ => ⟨u, e, h.keep (fun b hb' => Nat.lt_of_lt_of_le hb' hb.size) (fun b hb' => hb.block b hb')⟩), Stab.is _, trivial⟩ ⟨?_, ?_, ?_, ?_, ?_, ?_, trivial⟩ ?_
    · intro _ v w1 hb hd; have hz := hb.size
      have K := K.below hb
      have Kc0 := K.cell (i := 0) rfl
      have Kc1 := K.cell (i := 1) rfl
      have Kc2 := K.cell (i := 2) rfl
      have J := J.below hb
      have Jc0 := J.cell (i := 0) rfl
      have Jc1 := J.cell (i := 1) rfl
      have Jc2 := J.cell (i := 2) rfl
      clear hd; (try unfold Is at *); simp only [rgPut, rgDst, Act.put, List.getElem?_cons_zero, List.getElem?_cons_succ, Option.bind_some, List.setIfInBounds_toArray, List.set_cons_zero, List.set_cons_succ]
      go_wp2_with fail
      exact ⟨rfl, (by repeat (first | with_reducible exact Below.refl _ _ | with_reducible assumption | (with_reducible refine Below.setCell ?_ ?_ _; rotate_left; next => (first | omega | (simp; done) | (simp; omega) | exact Below.size (by assumption))) | (with_reducible refine Below.alloc ?_ ?_ _; rotate_left; next => (first | omega | (simp; done) | (simp; omega) | exact Below.size (by assumption))) | with_reducible refine Below.drew ?_ | with_reducible refine below_drewN ?_ _ | (with_reducible refine Below.trans ?_ (Below.mono (by assumption) ?_); rotate_left; next => (first | omega | (simp; done) | (simp; omega) | exact Below.size (by assumption))))), (by first | rfl | assumption)⟩
    · intro _ v w1 hb hd; have hz := hb.size
      have K := K.below hb
      have Kc0 := K.cell (i := 0) rfl
      have Kc1 := K.cell (i := 1) rfl
      have Kc2 := K.cell (i := 2) rfl
      have J := J.below hb
      have Jc0 := J.cell (i := 0) rfl
      have Jc1 := J.cell (i := 1) rfl
      have Jc2 := J.cell (i := 2) rfl
      have d0 : (Is (.agg #[va, .int .i64 n1, .int .i64 n2])) (v 0) w1 := hd 0 (by kernel_rfl)
      clear hd; (try unfold Is at *); simp only [rgPut, rgDst, Act.put, List.getElem?_cons_zero, List.getElem?_cons_succ, Option.bind_some, List.setIfInBounds_toArray, List.set_cons_zero, List.set_cons_succ]
      go_wp2_with fail
      (first | (go_at_call 36; (have BF : Below w.heap.size w w1 := (by repeat (first | with_reducible exact Below.refl _ _ | with_reducible assumption | (with_reducible refine Below.setCell ?_ ?_ _; rotate_left; next => (first | omega | (simp; done) | (simp; omega) | exact Below.size (by assumption))) | (with_reducible refine Below.alloc ?_ ?_ _; rotate_left; next => (first | omega | (simp; done) | (simp; omega) | exact Below.size (by assumption))) | with_reducible refine Below.drew ?_ | with_reducible refine below_drewN ?_ _ | (with_reducible refine Below.trans ?_ (Below.mono (by assumption) ?_); rotate_left; next => (first | omega | (simp; done) | (simp; omega) | exact Below.size (by assumption))))); have sv := HV.out.below (B := w.heap.size) BF (fun b h => h); have su := HU.out.below (B := w.heap.size) BF (fun b h => h); refine (toConfig_any _ _ _ _ (· < w.heap.size) _ (by assumption) (by assumption) (fun b hb => Nat.lt_of_lt_of_le hb BF.size)).mono ?_; rintro e wG ⟨_, rfl, ⟨u3, rfl, M3⟩, bG⟩; have st := (M3.slAt (by first | exact HI.out | exact HJ.out) (by assumption)).keep (S' := fun b => b < wG.heap.size) (fun b h => h.2) (fun _ _ => rfl))) | (go_at_call 35; (obtain ⟨u3, hu3, s3⟩ := d1; rw [hu3]; obtain ⟨u4, hu4, s4⟩ := d3; rw [hu4]; refine (sSameC _ _ _ _ _ _ xs ys _ _ s3 s4 (fun b h => h)).mono ?_; rintro e wH ⟨bH, ⟨f, rfl⟩ | ⟨f, rfl⟩⟩ <;> try (exfalso; exact f HG.out))))
      go_wp2_with fail
      exact ⟨rfl, (by repeat (first | with_reducible exact Below.refl _ _ | with_reducible assumption | (with_reducible refine Below.setCell ?_ ?_ _; rotate_left; next => (first | omega | (simp; done) | (simp; omega) | exact Below.size (by assumption))) | (with_reducible refine Below.alloc ?_ ?_ _; rotate_left; next => (first | omega | (simp; done) | (simp; omega) | exact Below.size (by assumption))) | with_reducible refine Below.drew ?_ | with_reducible refine below_drewN ?_ _ | (with_reducible refine Below.trans ?_ (Below.mono (by assumption) ?_); rotate_left; next => (first | omega | (simp; done) | (simp; omega) | exact Below.size (by assumption))))), ⟨_, rfl, st⟩⟩
    · intro _ v w1 hb hd; have hz := hb.size
      have K := K.below hb
      have Kc0 := K.cell (i := 0) rfl
      have Kc1 := K.cell (i := 1) rfl
      have Kc2 := K.cell (i := 2) rfl
      have J := J.below hb
      have Jc0 := J.cell (i := 0) rfl
      have Jc1 := J.cell (i := 1) rfl
      have Jc2 := J.cell (i := 2) rfl
      clear hd; (try unfold Is at *); simp only [rgPut, rgDst, Act.put, List.getElem?_cons_zero, List.getElem?_cons_succ, Option.bind_some, List.setIfInBounds_toArray, List.set_cons_zero, List.set_cons_succ]
      go_wp2_with fail
      exact ⟨rfl, (by repeat (first | with_reducible exact Below.refl _ _ | with_reducible assumption | (with_reducible refine Below.setCell ?_ ?_ _; rotate_left; next => (first | omega | (simp; done) | (simp; omega) | exact Below.size (by assumption))) | (with_reducible refine Below.alloc ?_ ?_ _; rotate_left; next => (first | omega | (simp; done) | (simp; omega) | exact Below.size (by assumption))) | with_reducible refine Below.drew ?_ | with_reducible refine below_drewN ?_ _ | (with_reducible refine Below.trans ?_ (Below.mono (by assumption) ?_); rotate_left; next => (first | omega | (simp; done) | (simp; omega) | exact Below.size (by assumption))))), (by first | rfl | assumption)⟩
    · intro _ v w1 hb hd; have hz := hb.size
      have K := K.below hb
      have Kc0 := K.cell (i := 0) rfl
      have Kc1 := K.cell (i := 1) rfl
      have Kc2 := K.cell (i := 2) rfl
      have J := J.below hb
      have Jc0 := J.cell (i := 0) rfl
      have Jc1 := J.cell (i := 1) rfl
      have Jc2 := J.cell (i := 2) rfl
      have d2 : (Is (.agg #[ub, .int .i64 m1, .int .i64 m2])) (v 2) w1 := hd 2 (by kernel_rfl)
      clear hd; (try unfold Is at *); simp only [rgPut, rgDst, Act.put, List.getElem?_cons_zero, List.getElem?_cons_succ, Option.bind_some, List.setIfInBounds_toArray, List.set_cons_zero, List.set_cons_succ]
      go_wp2_with fail
      (first | (go_at_call 36; (have BF : Below w.heap.size w w1 := (by repeat (first | with_reducible exact Below.refl _ _ | with_reducible assumption | (with_reducible refine Below.setCell ?_ ?_ _; rotate_left; next => (first | omega | (simp; done) | (simp; omega) | exact Below.size (by assumption))) | (with_reducible refine Below.alloc ?_ ?_ _; rotate_left; next => (first | omega | (simp; done) | (simp; omega) | exact Below.size (by assumption))) | with_reducible refine Below.drew ?_ | with_reducible refine below_drewN ?_ _ | (with_reducible refine Below.trans ?_ (Below.mono (by assumption) ?_); rotate_left; next => (first | omega | (simp; done) | (simp; omega) | exact Below.size (by assumption))))); have sv := HV.out.below (B := w.heap.size) BF (fun b h => h); have su := HU.out.below (B := w.heap.size) BF (fun b h => h); refine (toConfig_any _ _ _ _ (· < w.heap.size) _ (by assumption) (by assumption) (fun b hb => Nat.lt_of_lt_of_le hb BF.size)).mono ?_; rintro e wG ⟨_, rfl, ⟨u3, rfl, M3⟩, bG⟩; have st := (M3.slAt (by first | exact HI.out | exact HJ.out) (by assumption)).keep (S' := fun b => b < wG.heap.size) (fun b h => h.2) (fun _ _ => rfl))) | (go_at_call 35; (obtain ⟨u3, hu3, s3⟩ := d1; rw [hu3]; obtain ⟨u4, hu4, s4⟩ := d3; rw [hu4]; refine (sSameC _ _ _ _ _ _ xs ys _ _ s3 s4 (fun b h => h)).mono ?_; rintro e wH ⟨bH, ⟨f, rfl⟩ | ⟨f, rfl⟩⟩ <;> try (exfalso; exact f HG.out))))
      go_wp2_with fail
      exact ⟨rfl, (by repeat (first | with_reducible exact Below.refl _ _ | with_reducible assumption | (with_reducible refine Below.setCell ?_ ?_ _; rotate_left; next => (first | omega | (simp; done) | (simp; omega) | exact Below.size (by assumption))) | (with_reducible refine Below.alloc ?_ ?_ _; rotate_left; next => (first | omega | (simp; done) | (simp; omega) | exact Below.size (by assumption))) | with_reducible refine Below.drew ?_ | with_reducible refine below_drewN ?_ _ | (with_reducible refine Below.trans ?_ (Below.mono (by assumption) ?_); rotate_left; next => (first | omega | (simp; done) | (simp; omega) | exact Below.size (by assumption))))), ⟨_, rfl, st⟩⟩
    · intro _ v w1 hb hd; have hz := hb.size
      have K := K.below hb
      have Kc0 := K.cell (i := 0) rfl
      have Kc1 := K.cell (i := 1) rfl
      have Kc2 := K.cell (i := 2) rfl
      have J := J.below hb
      have Jc0 := J.cell (i := 0) rfl
      have Jc1 := J.cell (i := 1) rfl
      have Jc2 := J.cell (i := 2) rfl
      have d1 : ((fun r W => ∃ u, r = .agg #[u, .int .i64 n1, .int .i64 n2] ∧ SlAt 1 rI W (· < W.heap.size) u xs)) (v 1) w1 := hd 1 (by kernel_rfl)
      have d3 : ((fun r W => ∃ u, r = .agg #[u, .int .i64 m1, .int .i64 m2] ∧ SlAt 1 rI W (· < W.heap.size) u ys)) (v 3) w1 := hd 3 (by kernel_rfl)
      clear hd; (try unfold Is at *); simp only [rgPut, rgDst, Act.put, List.getElem?_cons_zero, List.getElem?_cons_succ, Option.bind_some, List.setIfInBounds_toArray, List.set_cons_zero, List.set_cons_succ]
      go_wp2_with fail
      (first | (go_at_call 36; (have BF : Below w.heap.size w w1 := (by repeat (first | with_reducible exact Below.refl _ _ | with_reducible assumption | (with_reducible refine Below.setCell ?_ ?_ _; rotate_left; next => (first | omega | (simp; done) | (simp; omega) | exact Below.size (by assumption))) | (with_reducible refine Below.alloc ?_ ?_ _; rotate_left; next => (first | omega | (simp; done) | (simp; omega) | exact Below.size (by assumption))) | with_reducible refine Below.drew ?_ | with_reducible refine below_drewN ?_ _ | (with_reducible refine Below.trans ?_ (Below.mono (by assumption) ?_); rotate_left; next => (first | omega | (simp; done) | (simp; omega) | exact Below.size (by assumption))))); have sv := HV.out.below (B := w.heap.size) BF (fun b h => h); have su := HU.out.below (B := w.heap.size) BF (fun b h => h); refine (toConfig_any _ _ _ _ (· < w.heap.size) _ (by assumption) (by assumption) (fun b hb => Nat.lt_of_lt_of_le hb BF.size)).mono ?_; rintro e wG ⟨_, rfl, ⟨u3, rfl, M3⟩, bG⟩; have st := (M3.slAt (by first | exact HI.out | exact HJ.out) (by assumption)).keep (S' := fun b => b < wG.heap.size) (fun b h => h.2) (fun _ _ => rfl))) | (go_at_call 35; (obtain ⟨u3, hu3, s3⟩ := d1; rw [hu3]; obtain ⟨u4, hu4, s4⟩ := d3; rw [hu4]; refine (sSameC _ _ _ _ _ _ xs ys _ _ s3 s4 (fun b h => h)).mono ?_; rintro e wH ⟨bH, ⟨f, rfl⟩ | ⟨f, rfl⟩⟩ <;> try (exfalso; exact f HG.out))))
      go_wp2_with fail
      exact ⟨rfl, (by repeat (first | with_reducible exact Below.refl _ _ | with_reducible assumption | (with_reducible refine Below.setCell ?_ ?_ _; rotate_left; next => (first | omega | (simp; done) | (simp; omega) | exact Below.size (by assumption))) | (with_reducible refine Below.alloc ?_ ?_ _; rotate_left; next => (first | omega | (simp; done) | (simp; omega) | exact Below.size (by assumption))) | with_reducible refine Below.drew ?_ | with_reducible refine below_drewN ?_ _ | (with_reducible refine Below.trans ?_ (Below.mono (by assumption) ?_); rotate_left; next => (first | omega | (simp; done) | (simp; omega) | exact Below.size (by assumption))))), (by first | rfl | assumption)⟩
    · (intro hk; exact absurd hk (by decide))
    intro v w1 hb hA
    have a0 : (Is (.agg #[va, .int .i64 n1, .int .i64 n2])) (v 0) w1 := hA 0 (by decide)
    have a1 : ((fun r W => ∃ u, r = .agg #[u, .int .i64 n1, .int .i64 n2] ∧ SlAt 1 rI W (· < W.heap.size) u xs)) (v 1) w1 := hA 1 (by decide)
    have a2 : (Is (.agg #[ub, .int .i64 m1, .int .i64 m2])) (v 2) w1 := hA 2 (by decide)
    have a3 : ((fun r W => ∃ u, r = .agg #[u, .int .i64 m1, .int .i64 m2] ∧ SlAt 1 rI W (· < W.heap.size) u ys)) (v 3) w1 := hA 3 (by decide)
    have a4 : (Is (.bool true)) (v 4) w1 := hA 4 (by decide)
    clear hA; (try unfold Is at *); simp only [rgPut, rgDst, Act.put, List.getElem?_cons_zero, List.getElem?_cons_succ, Option.bind_some, List.setIfInBounds_toArray, List.set_cons_zero, List.set_cons_succ, List.drop_succ_cons, List.drop_zero]
    simp only [a0, a2, a4]; clear a0 a2 a4
    generalize v 1 = v21 at *
    generalize v 3 = v23 at *
    have hz := hb.size
    have K := K.below hb
    have Kc0 := K.cell (i := 0) rfl
    have Kc1 := K.cell (i := 1) rfl
    have Kc2 := K.cell (i := 2) rfl
    have Kf0 := K.frozen 0
    have Kf1 := K.frozen 1
    have Kf2 := K.frozen 2
    have J := J.below hb
    have Jc0 := J.cell (i := 0) rfl
    have Jc1 := J.cell (i := 1) rfl
    have Jc2 := J.cell (i := 2) rfl
    have Jf0 := J.frozen 0
    have Jf1 := J.frozen 1
    have Jf2 := J.frozen 2
    have BC : Below w.heap.size w w1 := (by repeat (first | with_reducible exact Below.refl _ _ | with_reducible assumption | (with_reducible refine Below.setCell ?_ ?_ _; rotate_left; next => (first | omega | (simp; done) | (simp; omega) | exact Below.size (by assumption))) | (with_reducible refine Below.alloc ?_ ?_ _; rotate_left; next => (first | omega | (simp; done) | (simp; omega) | exact Below.size (by assumption))) | with_reducible refine Below.drew ?_ | with_reducible refine below_drewN ?_ _ | (with_reducible refine Below.trans ?_ (Below.mono (by assumption) ?_); rotate_left; next => (first | omega | (simp; done) | (simp; omega) | exact Below.size (by assumption)))))
    go_wp2_with fail
    refine (toConfig_any n1 n2 va xs _ _ (HV.out.below (B := w.heap.size) BC (fun b h => h)) l1 (fun b hb => Nat.lt_of_lt_of_le hb BC.size)).mono ?_
    rintro e wD ⟨_, rfl, ⟨u2, rfl, M2⟩, bD⟩
    have BD : Below w.heap.size w wD := BC.trans (bD.mono BC.size)
    have K := K.below bD; have J := J.below bD
    have Kc0 := K.cell (i := 0) rfl; have Kc1 := K.cell (i := 1) rfl; have Kc2 := K.cell (i := 2) rfl; have Jc0 := J.cell (i := 0) rfl; have Jc1 := J.cell (i := 1) rfl; have Jc2 := J.cell (i := 2) rfl; have KL := K.lt; have JL := J.lt
    have sA := (M2.slAt HI.out h63).keep (S' := fun b => b < wD.heap.size) (fun b h => h.2) (fun _ _ => rfl)
    obtain ⟨g2, rfl, lg2, G2⟩ := M2
    have G2L := G2.lt
    have zD := BD.size
    clear bD
    go_wp2_with fail
    have G : Blk (wD.alloc (.cells #[.slice (some ⟨g2, 0, none⟩) xs.length xs.length, .int .i64 n1, .int .i64 n2] 53)) wD.heap.size [.slice (some ⟨g2, 0, none⟩) xs.length xs.length, .int .i64 n1, .int .i64 n2] 53 := (by repeat (first | with_reducible assumption | (with_reducible refine Blk.alloc_at ?_; next => (first | omega | (simp; done) | (simp; omega))) | (with_reducible refine Blk.set_other _ ?_ ?_; next => (first | omega | (simp; done) | (simp; omega))) | with_reducible refine Blk.alloc_old _ ?_ | with_reducible refine Blk.drew ?_ | with_reducible refine Blk.below (by assumption) ?_))
    have BD2 : Below w.heap.size w (wD.alloc (.cells #[.slice (some ⟨g2, 0, none⟩) xs.length xs.length, .int .i64 n1, .int .i64 n2] 53)) := (by repeat (first | with_reducible exact Below.refl _ _ | with_reducible assumption | (with_reducible refine Below.setCell ?_ ?_ _; rotate_left; next => (first | omega | (simp; done) | (simp; omega) | exact Below.size (by assumption))) | (with_reducible refine Below.alloc ?_ ?_ _; rotate_left; next => (first | omega | (simp; done) | (simp; omega) | exact Below.size (by assumption))) | with_reducible refine Below.drew ?_ | with_reducible refine below_drewN ?_ _ | (with_reducible refine Below.trans ?_ (Below.mono (by assumption) ?_); rotate_left; next => (first | omega | (simp; done) | (simp; omega) | exact Below.size (by assumption)))))
    refine (toConfig_any m1 m2 ub ys _ _ (HU.out.below (B := w.heap.size) BD2 (fun b h => h)) l3 (fun b hb => Nat.lt_of_lt_of_le hb BD2.size)).mono ?_
    rintro e wE ⟨_, rfl, ⟨u4, rfl, M4⟩, bE⟩
    have BE : Below w.heap.size w wE := BD2.trans (bE.mono BD2.size)
    have bDE : Below wD.heap.size wD wE := (Below.alloc (Below.refl _ _) (Nat.le_refl _) _).trans (bE.mono (by simp))
    have K := K.below bDE; have J := J.below bDE; have G := G.below bE
    have GL := G.lt
    have Kc0 := K.cell (i := 0) rfl; have Kc1 := K.cell (i := 1) rfl; have Kc2 := K.cell (i := 2) rfl; have Jc0 := J.cell (i := 0) rfl; have Jc1 := J.cell (i := 1) rfl; have Jc2 := J.cell (i := 2) rfl; have KL := K.lt; have JL := J.lt
    have Gc0 := G.cell (i := 0) rfl; have Gc1 := G.cell (i := 1) rfl; have Gc2 := G.cell (i := 2) rfl
    have sA := sA.keep (W' := wE) (S' := fun b => b < wE.heap.size) (fun b h => Nat.lt_of_lt_of_le h bDE.size) (fun b h => bDE.block b h)
    have sB := (M4.slAt HJ.out h64).keep (S' := fun b => b < wE.heap.size) (fun b h => h.2) (fun _ _ => rfl)
    obtain ⟨g4, rfl, lg4, G4⟩ := M4
    have G4L := G4.lt
    have zE := BE.size
    have zDE := bDE.size
    clear bE
    go_wp2_with fail
    have M : Blk (wE.alloc (.cells #[.slice (some ⟨g4, 0, none⟩) ys.length ys.length, .int .i64 m1, .int .i64 m2] 53)) wE.heap.size [.slice (some ⟨g4, 0, none⟩) ys.length ys.length, .int .i64 m1, .int .i64 m2] 53 := (by repeat (first | with_reducible assumption | (with_reducible refine Blk.alloc_at ?_; next => (first | omega | (simp; done) | (simp; omega))) | (with_reducible refine Blk.set_other _ ?_ ?_; next => (first | omega | (simp; done) | (simp; omega))) | with_reducible refine Blk.alloc_old _ ?_ | with_reducible refine Blk.drew ?_ | with_reducible refine Blk.below (by assumption) ?_))
    have bEF : Below wE.heap.size wE (wE.alloc (.cells #[.slice (some ⟨g4, 0, none⟩) ys.length ys.length, .int .i64 m1, .int .i64 m2] 53)) := (by repeat (first | with_reducible exact Below.refl _ _ | with_reducible assumption | (with_reducible refine Below.setCell ?_ ?_ _; rotate_left; next => (first | omega | (simp; done) | (simp; omega) | exact Below.size (by assumption))) | (with_reducible refine Below.alloc ?_ ?_ _; rotate_left; next => (first | omega | (simp; done) | (simp; omega) | exact Below.size (by assumption))) | with_reducible refine Below.drew ?_ | with_reducible refine below_drewN ?_ _ | (with_reducible refine Below.trans ?_ (Below.mono (by assumption) ?_); rotate_left; next => (first | omega | (simp; done) | (simp; omega) | exact Below.size (by assumption)))))
    refine (iSameC _ _ _ _ _ _ xs ys (fun b => b < wE.heap.size) _ (sA.keep (fun b h => h) (fun b h => bEF.block b h)) (sB.keep (fun b h => h) (fun b h => bEF.block b h)) (fun b h => Nat.lt_of_lt_of_le h bEF.size)).mono ?_
    rintro e wF ⟨bF, ⟨f, rfl⟩ | ⟨f, rfl⟩⟩ <;> try (exfalso; exact f HG.out)
    clear f
    have bEF : Below wE.heap.size wE wF := bEF.trans (bF.mono bEF.size)
    have zEF := bEF.size
    have BF : Below w.heap.size w wF := BE.trans (bEF.mono BE.size)
    have zF := BF.size
    have K := K.below bEF; have J := J.below bEF; have G := G.below bEF; have M := M.below bF
    have GL := G.lt; have ML := M.lt
    have Kc0 := K.cell (i := 0) rfl; have Kc1 := K.cell (i := 1) rfl; have Kc2 := K.cell (i := 2) rfl; have Jc0 := J.cell (i := 0) rfl; have Jc1 := J.cell (i := 1) rfl; have Jc2 := J.cell (i := 2) rfl; have KL := K.lt; have JL := J.lt
    have sA := sA.keep (W' := wF) (S' := fun b => b < wF.heap.size) (fun b h => Nat.lt_of_lt_of_le h bEF.size) (fun b h => bEF.block b h)
    have sB := sB.keep (W' := wF) (S' := fun b => b < wF.heap.size) (fun b h => Nat.lt_of_lt_of_le h bEF.size) (fun b h => bEF.block b h)
    clear bF
    go_wp2_with fail
    refine wp_world ?_; intro w0 hb0 hh0 hz0; (try simp at hz0)
    have K : Blk w0 (w.heap.size) [va, .int .i64 n1, .int .i64 n2] 50 := Blk.of_eq (hh0 _) (by repeat (first | with_reducible assumption | (with_reducible refine Blk.alloc_at ?_; next => (first | omega | (simp; done) | (simp; omega))) | (with_reducible refine Blk.set_other _ ?_ ?_; next => (first | omega | (simp; done) | (simp; omega))) | with_reducible refine Blk.alloc_old _ ?_ | with_reducible refine Blk.drew ?_ | with_reducible refine Blk.below (by assumption) ?_))
    have KL := K.lt
    have J : Blk w0 (w.heap.size + 1) [ub, .int .i64 m1, .int .i64 m2] 50 := Blk.of_eq (hh0 _) (by repeat (first | with_reducible assumption | (with_reducible refine Blk.alloc_at ?_; next => (first | omega | (simp; done) | (simp; omega))) | (with_reducible refine Blk.set_other _ ?_ ?_; next => (first | omega | (simp; done) | (simp; omega))) | with_reducible refine Blk.alloc_old _ ?_ | with_reducible refine Blk.drew ?_ | with_reducible refine Blk.below (by assumption) ?_))
    have JL := J.lt
    have G : Blk w0 (wD.heap.size) [.slice (some ⟨g2, 0, none⟩) xs.length xs.length, .int .i64 n1, .int .i64 n2] 53 := Blk.of_eq (hh0 _) (by repeat (first | with_reducible assumption | (with_reducible refine Blk.alloc_at ?_; next => (first | omega | (simp; done) | (simp; omega))) | (with_reducible refine Blk.set_other _ ?_ ?_; next => (first | omega | (simp; done) | (simp; omega))) | with_reducible refine Blk.alloc_old _ ?_ | with_reducible refine Blk.drew ?_ | with_reducible refine Blk.below (by assumption) ?_))
    have GL := G.lt
    have M : Blk w0 (wE.heap.size) [.slice (some ⟨g4, 0, none⟩) ys.length ys.length, .int .i64 m1, .int .i64 m2] 53 := Blk.of_eq (hh0 _) (by repeat (first | with_reducible assumption | (with_reducible refine Blk.alloc_at ?_; next => (first | omega | (simp; done) | (simp; omega))) | (with_reducible refine Blk.set_other _ ?_ ?_; next => (first | omega | (simp; done) | (simp; omega))) | with_reducible refine Blk.alloc_old _ ?_ | with_reducible refine Blk.drew ?_ | with_reducible refine Blk.below (by assumption) ?_))
    have ML := M.lt
    refine wp_region_rgl 5 [Is (.agg #[.slice (some ⟨g2, 0, none⟩) xs.length xs.length, .int .i64 n1, .int .i64 n2]), Is (.agg #[va, .int .i64 n1, .int .i64 n2]), (fun r W => ∃ u, r = .agg #[u, .int .i64 n1, .int .i64 n2] ∧ SlAt 1 rI W (· < W.heap.size) u xs), Is (.bool true), Is (.bool false)] (fun _ _ _ _ _ h => h) (by kernel_rfl) (by kernel_rfl) ⟨Stab.is _, Stab.is _, (fun _ _ _ hb ⟨u, e, h⟩ => ⟨u, e, h.keep (fun b hb' => Nat.lt_of_lt_of_le hb' hb.size) (fun b hb' => hb.block b hb')⟩), Stab.is _, Stab.is _, trivial⟩ ⟨?_, ?_, ?_, ?_, ?_, trivial⟩ ?_
    · intro _ v w1 hb hd; have hz := hb.size
      have K := K.below hb
      have Kc0 := K.cell (i := 0) rfl
      have Kc1 := K.cell (i := 1) rfl
      have Kc2 := K.cell (i := 2) rfl
      have J := J.below hb
      have Jc0 := J.cell (i := 0) rfl
      have Jc1 := J.cell (i := 1) rfl
      have Jc2 := J.cell (i := 2) rfl
      have G := G.below hb
      have Gc0 := G.cell (i := 0) rfl
      have Gc1 := G.cell (i := 1) rfl
      have Gc2 := G.cell (i := 2) rfl
      have M := M.below hb
      have Mc0 := M.cell (i := 0) rfl
      have Mc1 := M.cell (i := 1) rfl
      have Mc2 := M.cell (i := 2) rfl
      clear hd; (try unfold Is at *); simp only [rgPut, rgDst, Act.put, List.getElem?_cons_zero, List.getElem?_cons_succ, Option.bind_some, List.setIfInBounds_toArray, List.set_cons_zero, List.set_cons_succ]
      go_wp2_with fail
      exact ⟨rfl, (by repeat (first | with_reducible exact Below.refl _ _ | with_reducible assumption | (with_reducible refine Below.setCell ?_ ?_ _; rotate_left; next => (first | omega | (simp; done) | (simp; omega) | exact Below.size (by assumption))) | (with_reducible refine Below.alloc ?_ ?_ _; rotate_left; next => (first | omega | (simp; done) | (simp; omega) | exact Below.size (by assumption))) | with_reducible refine Below.drew ?_ | with_reducible refine below_drewN ?_ _ | (with_reducible refine Below.trans ?_ (Below.mono (by assumption) ?_); rotate_left; next => (first | omega | (simp; done) | (simp; omega) | exact Below.size (by assumption))))), (by first | rfl | assumption)⟩
    · intro _ v w1 hb hd; have hz := hb.size
      have K := K.below hb
      have Kc0 := K.cell (i := 0) rfl
      have Kc1 := K.cell (i := 1) rfl
      have Kc2 := K.cell (i := 2) rfl
      have J := J.below hb
      have Jc0 := J.cell (i := 0) rfl
      have Jc1 := J.cell (i := 1) rfl
      have Jc2 := J.cell (i := 2) rfl
      have G := G.below hb
      have Gc0 := G.cell (i := 0) rfl
      have Gc1 := G.cell (i := 1) rfl
      have Gc2 := G.cell (i := 2) rfl
      have M := M.below hb
      have Mc0 := M.cell (i := 0) rfl
      have Mc1 := M.cell (i := 1) rfl
      have Mc2 := M.cell (i := 2) rfl
      clear hd; (try unfold Is at *); simp only [rgPut, rgDst, Act.put, List.getElem?_cons_zero, List.getElem?_cons_succ, Option.bind_some, List.setIfInBounds_toArray, List.set_cons_zero, List.set_cons_succ]
      go_wp2_with fail
      exact ⟨rfl, (by repeat (first | with_reducible exact Below.refl _ _ | with_reducible assumption | (with_reducible refine Below.setCell ?_ ?_ _; rotate_left; next => (first | omega | (simp; done) | (simp; omega) | exact Below.size (by assumption))) | (with_reducible refine Below.alloc ?_ ?_ _; rotate_left; next => (first | omega | (simp; done) | (simp; omega) | exact Below.size (by assumption))) | with_reducible refine Below.drew ?_ | with_reducible refine below_drewN ?_ _ | (with_reducible refine Below.trans ?_ (Below.mono (by assumption) ?_); rotate_left; next => (first | omega | (simp; done) | (simp; omega) | exact Below.size (by assumption))))), (by first | rfl | assumption)⟩
    · intro _ v w1 hb hd; have hz := hb.size
      have K := K.below hb
      have Kc0 := K.cell (i := 0) rfl
      have Kc1 := K.cell (i := 1) rfl
      have Kc2 := K.cell (i := 2) rfl
      have J := J.below hb
      have Jc0 := J.cell (i := 0) rfl
      have Jc1 := J.cell (i := 1) rfl
      have Jc2 := J.cell (i := 2) rfl
      have G := G.below hb
      have Gc0 := G.cell (i := 0) rfl
      have Gc1 := G.cell (i := 1) rfl
      have Gc2 := G.cell (i := 2) rfl
      have M := M.below hb
      have Mc0 := M.cell (i := 0) rfl
      have Mc1 := M.cell (i := 1) rfl
      have Mc2 := M.cell (i := 2) rfl
      have d1 : (Is (.agg #[va, .int .i64 n1, .int .i64 n2])) (v 1) w1 := hd 1 (by kernel_rfl)
      clear hd; (try unfold Is at *); simp only [rgPut, rgDst, Act.put, List.getElem?_cons_zero, List.getElem?_cons_succ, Option.bind_some, List.setIfInBounds_toArray, List.set_cons_zero, List.set_cons_succ]
      go_wp2_with fail
      (first | (go_at_call 36; (have BF : Below w.heap.size w w1 := (by repeat (first | with_reducible exact Below.refl _ _ | with_reducible assumption | (with_reducible refine Below.setCell ?_ ?_ _; rotate_left; next => (first | omega | (simp; done) | (simp; omega) | exact Below.size (by assumption))) | (with_reducible refine Below.alloc ?_ ?_ _; rotate_left; next => (first | omega | (simp; done) | (simp; omega) | exact Below.size (by assumption))) | with_reducible refine Below.drew ?_ | with_reducible refine below_drewN ?_ _ | (with_reducible refine Below.trans ?_ (Below.mono (by assumption) ?_); rotate_left; next => (first | omega | (simp; done) | (simp; omega) | exact Below.size (by assumption))))); have sv := HV.out.below (B := w.heap.size) BF (fun b h => h); have su := HU.out.below (B := w.heap.size) BF (fun b h => h); refine (toConfig_any _ _ _ _ (· < w.heap.size) _ (by assumption) (by assumption) (fun b hb => Nat.lt_of_lt_of_le hb BF.size)).mono ?_; rintro e wG ⟨_, rfl, ⟨u3, rfl, M3⟩, bG⟩; have st := (M3.slAt (by first | exact HI.out | exact HJ.out) (by assumption)).keep (S' := fun b => b < wG.heap.size) (fun b h => h.2) (fun _ _ => rfl))) | (go_at_call 38; (obtain ⟨u3, hu3, s4⟩ := d2; rw [hu3]; refine (eqConfig_any _ _ _ _ _ _ xs xs (fun b => b < w1.heap.size) _ (sA.keep (fun b h => by have h' := (hz0.symm ▸ h); exact Nat.lt_of_lt_of_le h' hb.size) (fun b h => (hb.block b ((hz0.symm ▸ h))).trans (hh0 b))) s4 (fun b h => h)).mono ?_; rintro e wH ⟨bH, ⟨_, rfl⟩ | ⟨f, _⟩⟩ <;> try (exfalso; exact f (by simp)))))
      go_wp2_with fail
      exact ⟨rfl, (by repeat (first | with_reducible exact Below.refl _ _ | with_reducible assumption | (with_reducible refine Below.setCell ?_ ?_ _; rotate_left; next => (first | omega | (simp; done) | (simp; omega) | exact Below.size (by assumption))) | (with_reducible refine Below.alloc ?_ ?_ _; rotate_left; next => (first | omega | (simp; done) | (simp; omega) | exact Below.size (by assumption))) | with_reducible refine Below.drew ?_ | with_reducible refine below_drewN ?_ _ | (with_reducible refine Below.trans ?_ (Below.mono (by assumption) ?_); rotate_left; next => (first | omega | (simp; done) | (simp; omega) | exact Below.size (by assumption))))), ⟨_, rfl, st⟩⟩
    · intro _ v w1 hb hd; have hz := hb.size
      have K := K.below hb
      have Kc0 := K.cell (i := 0) rfl
      have Kc1 := K.cell (i := 1) rfl
      have Kc2 := K.cell (i := 2) rfl
      have J := J.below hb
      have Jc0 := J.cell (i := 0) rfl
      have Jc1 := J.cell (i := 1) rfl
      have Jc2 := J.cell (i := 2) rfl
      have G := G.below hb
      have Gc0 := G.cell (i := 0) rfl
      have Gc1 := G.cell (i := 1) rfl
      have Gc2 := G.cell (i := 2) rfl
      have M := M.below hb
      have Mc0 := M.cell (i := 0) rfl
      have Mc1 := M.cell (i := 1) rfl
      have Mc2 := M.cell (i := 2) rfl
      have d0 : (Is (.agg #[.slice (some ⟨g2, 0, none⟩) xs.length xs.length, .int .i64 n1, .int .i64 n2])) (v 0) w1 := hd 0 (by kernel_rfl)
      have d2 : ((fun r W => ∃ u, r = .agg #[u, .int .i64 n1, .int .i64 n2] ∧ SlAt 1 rI W (· < W.heap.size) u xs)) (v 2) w1 := hd 2 (by kernel_rfl)
      clear hd; (try unfold Is at *); simp only [rgPut, rgDst, Act.put, List.getElem?_cons_zero, List.getElem?_cons_succ, Option.bind_some, List.setIfInBounds_toArray, List.set_cons_zero, List.set_cons_succ]
      go_wp2_with fail
      (first | (go_at_call 36; (have BF : Below w.heap.size w w1 := (by repeat (first | with_reducible exact Below.refl _ _ | with_reducible assumption | (with_reducible refine Below.setCell ?_ ?_ _; rotate_left; next => (first | omega | (simp; done) | (simp; omega) | exact Below.size (by assumption))) | (with_reducible refine Below.alloc ?_ ?_ _; rotate_left; next => (first | omega | (simp; done) | (simp; omega) | exact Below.size (by assumption))) | with_reducible refine Below.drew ?_ | with_reducible refine below_drewN ?_ _ | (with_reducible refine Below.trans ?_ (Below.mono (by assumption) ?_); rotate_left; next => (first | omega | (simp; done) | (simp; omega) | exact Below.size (by assumption))))); have sv := HV.out.below (B := w.heap.size) BF (fun b h => h); have su := HU.out.below (B := w.heap.size) BF (fun b h => h); refine (toConfig_any _ _ _ _ (· < w.heap.size) _ (by assumption) (by assumption) (fun b hb => Nat.lt_of_lt_of_le hb BF.size)).mono ?_; rintro e wG ⟨_, rfl, ⟨u3, rfl, M3⟩, bG⟩; have st := (M3.slAt (by first | exact HI.out | exact HJ.out) (by assumption)).keep (S' := fun b => b < wG.heap.size) (fun b h => h.2) (fun _ _ => rfl))) | (go_at_call 38; (obtain ⟨u3, hu3, s4⟩ := d2; rw [hu3]; refine (eqConfig_any _ _ _ _ _ _ xs xs (fun b => b < w1.heap.size) _ (sA.keep (fun b h => by have h' := (hz0.symm ▸ h); exact Nat.lt_of_lt_of_le h' hb.size) (fun b h => (hb.block b ((hz0.symm ▸ h))).trans (hh0 b))) s4 (fun b h => h)).mono ?_; rintro e wH ⟨bH, ⟨_, rfl⟩ | ⟨f, _⟩⟩ <;> try (exfalso; exact f (by simp)))))
      go_wp2_with fail
      exact ⟨rfl, (by repeat (first | with_reducible exact Below.refl _ _ | with_reducible assumption | (with_reducible refine Below.setCell ?_ ?_ _; rotate_left; next => (first | omega | (simp; done) | (simp; omega) | exact Below.size (by assumption))) | (with_reducible refine Below.alloc ?_ ?_ _; rotate_left; next => (first | omega | (simp; done) | (simp; omega) | exact Below.size (by assumption))) | with_reducible refine Below.drew ?_ | with_reducible refine below_drewN ?_ _ | (with_reducible refine Below.trans ?_ (Below.mono (by assumption) ?_); rotate_left; next => (first | omega | (simp; done) | (simp; omega) | exact Below.size (by assumption))))), (by first | rfl | assumption)⟩
    · intro _ v w1 hb hd; have hz := hb.size
      have K := K.below hb
      have Kc0 := K.cell (i := 0) rfl
      have Kc1 := K.cell (i := 1) rfl
      have Kc2 := K.cell (i := 2) rfl
      have J := J.below hb
      have Jc0 := J.cell (i := 0) rfl
      have Jc1 := J.cell (i := 1) rfl
      have Jc2 := J.cell (i := 2) rfl
      have G := G.below hb
      have Gc0 := G.cell (i := 0) rfl
      have Gc1 := G.cell (i := 1) rfl
      have Gc2 := G.cell (i := 2) rfl
      have M := M.below hb
      have Mc0 := M.cell (i := 0) rfl
      have Mc1 := M.cell (i := 1) rfl
      have Mc2 := M.cell (i := 2) rfl
      have d3 : (Is (.bool true)) (v 3) w1 := hd 3 (by kernel_rfl)
      clear hd; (try unfold Is at *); simp only [rgPut, rgDst, Act.put, List.getElem?_cons_zero, List.getElem?_cons_succ, Option.bind_some, List.setIfInBounds_toArray, List.set_cons_zero, List.set_cons_succ]
      go_wp2_with fail
      exact ⟨rfl, (by repeat (first | with_reducible exact Below.refl _ _ | with_reducible assumption | (with_reducible refine Below.setCell ?_ ?_ _; rotate_left; next => (first | omega | (simp; done) | (simp; omega) | exact Below.size (by assumption))) | (with_reducible refine Below.alloc ?_ ?_ _; rotate_left; next => (first | omega | (simp; done) | (simp; omega) | exact Below.size (by assumption))) | with_reducible refine Below.drew ?_ | with_reducible refine below_drewN ?_ _ | (with_reducible refine Below.trans ?_ (Below.mono (by assumption) ?_); rotate_left; next => (first | omega | (simp; done) | (simp; omega) | exact Below.size (by assumption))))), (by first | rfl | assumption)⟩
    intro v w1 hb hA
    have a0 : (Is (.agg #[.slice (some ⟨g2, 0, none⟩) xs.length xs.length, .int .i64 n1, .int .i64 n2])) (v 0) w1 := hA 0 (by decide)
    have a1 : (Is (.agg #[va, .int .i64 n1, .int .i64 n2])) (v 1) w1 := hA 1 (by decide)
    have a2 : ((fun r W => ∃ u, r = .agg #[u, .int .i64 n1, .int .i64 n2] ∧ SlAt 1 rI W (· < W.heap.size) u xs)) (v 2) w1 := hA 2 (by decide)
    have a3 : (Is (.bool true)) (v 3) w1 := hA 3 (by decide)
    have a4 : (Is (.bool false)) (v 4) w1 := hA 4 (by decide)
    clear hA; (try unfold Is at *); simp only [rgPut, rgDst, Act.put, List.getElem?_cons_zero, List.getElem?_cons_succ, Option.bind_some, List.setIfInBounds_toArray, List.set_cons_zero, List.set_cons_succ, List.drop_succ_cons, List.drop_nil]
    simp only [a0, a1, a3, a4]; clear a0 a1 a3 a4
    generalize v 2 = v37 at *
    have hz := hb.size
    have K := K.below hb
    have Kc0 := K.cell (i := 0) rfl
    have Kc1 := K.cell (i := 1) rfl
    have Kc2 := K.cell (i := 2) rfl
    have Kf0 := K.frozen 0
    have Kf1 := K.frozen 1
    have Kf2 := K.frozen 2
    have J := J.below hb
    have Jc0 := J.cell (i := 0) rfl
    have Jc1 := J.cell (i := 1) rfl
    have Jc2 := J.cell (i := 2) rfl
    have Jf0 := J.frozen 0
    have Jf1 := J.frozen 1
    have Jf2 := J.frozen 2
    have G := G.below hb
    have Gc0 := G.cell (i := 0) rfl
    have Gc1 := G.cell (i := 1) rfl
    have Gc2 := G.cell (i := 2) rfl
    have Gf0 := G.frozen 0
    have Gf1 := G.frozen 1
    have Gf2 := G.frozen 2
    have M := M.below hb
    have Mc0 := M.cell (i := 0) rfl
    have Mc1 := M.cell (i := 1) rfl
    have Mc2 := M.cell (i := 2) rfl
    have Mf0 := M.frozen 0
    have Mf1 := M.frozen 1
    have Mf2 := M.frozen 2
    have sB := sB.keep (W' := w1) (S' := fun b => b < w1.heap.size) (fun b h => Nat.lt_of_lt_of_le ((hz0.symm ▸ h)) hb.size) (fun b h => (hb.block b ((hz0.symm ▸ h))).trans (hh0 b))
    have BG : Below w.heap.size w w1 := (by repeat (first | with_reducible exact Below.refl _ _ | with_reducible assumption | (with_reducible refine Below.setCell ?_ ?_ _; rotate_left; next => (first | omega | (simp; done) | (simp; omega) | exact Below.size (by assumption))) | (with_reducible refine Below.alloc ?_ ?_ _; rotate_left; next => (first | omega | (simp; done) | (simp; omega) | exact Below.size (by assumption))) | with_reducible refine Below.drew ?_ | with_reducible refine below_drewN ?_ _ | (with_reducible refine Below.trans ?_ (Below.mono (by assumption) ?_); rotate_left; next => (first | omega | (simp; done) | (simp; omega) | exact Below.size (by assumption)))))
    have zG := BG.size
    go_wp2_with fail
    refine wp_world ?_; intro w0 hb0 hh0 hz0; (try simp at hz0)
    have K : Blk w0 (w.heap.size) [va, .int .i64 n1, .int .i64 n2] 50 := Blk.of_eq (hh0 _) (by repeat (first | with_reducible assumption | (with_reducible refine Blk.alloc_at ?_; next => (first | omega | (simp; done) | (simp; omega))) | (with_reducible refine Blk.set_other _ ?_ ?_; next => (first | omega | (simp; done) | (simp; omega))) | with_reducible refine Blk.alloc_old _ ?_ | with_reducible refine Blk.drew ?_ | with_reducible refine Blk.below (by assumption) ?_))
    have KL := K.lt
    have J : Blk w0 (w.heap.size + 1) [ub, .int .i64 m1, .int .i64 m2] 50 := Blk.of_eq (hh0 _) (by repeat (first | with_reducible assumption | (with_reducible refine Blk.alloc_at ?_; next => (first | omega | (simp; done) | (simp; omega))) | (with_reducible refine Blk.set_other _ ?_ ?_; next => (first | omega | (simp; done) | (simp; omega))) | with_reducible refine Blk.alloc_old _ ?_ | with_reducible refine Blk.drew ?_ | with_reducible refine Blk.below (by assumption) ?_))
    have JL := J.lt
    have G : Blk w0 (wD.heap.size) [.slice (some ⟨g2, 0, none⟩) xs.length xs.length, .int .i64 n1, .int .i64 n2] 53 := Blk.of_eq (hh0 _) (by repeat (first | with_reducible assumption | (with_reducible refine Blk.alloc_at ?_; next => (first | omega | (simp; done) | (simp; omega))) | (with_reducible refine Blk.set_other _ ?_ ?_; next => (first | omega | (simp; done) | (simp; omega))) | with_reducible refine Blk.alloc_old _ ?_ | with_reducible refine Blk.drew ?_ | with_reducible refine Blk.below (by assumption) ?_))
    have GL := G.lt
    have M : Blk w0 (wE.heap.size) [.slice (some ⟨g4, 0, none⟩) ys.length ys.length, .int .i64 m1, .int .i64 m2] 53 := Blk.of_eq (hh0 _) (by repeat (first | with_reducible assumption | (with_reducible refine Blk.alloc_at ?_; next => (first | omega | (simp; done) | (simp; omega))) | (with_reducible refine Blk.set_other _ ?_ ?_; next => (first | omega | (simp; done) | (simp; omega))) | with_reducible refine Blk.alloc_old _ ?_ | with_reducible refine Blk.drew ?_ | with_reducible refine Blk.below (by assumption) ?_))
    have ML := M.lt
    refine wp_region_rgl 5 [Is (.agg #[.slice (some ⟨g4, 0, none⟩) ys.length ys.length, .int .i64 m1, .int .i64 m2]), Is (.agg #[ub, .int .i64 m1, .int .i64 m2]), (fun r W => ∃ u, r = .agg #[u, .int .i64 m1, .int .i64 m2] ∧ SlAt 1 rI W (· < W.heap.size) u ys), Is (.bool true), Is (.bool false)] (fun _ _ _ _ _ h => h) (by kernel_rfl) (by kernel_rfl) ⟨Stab.is _, Stab.is _, (fun _ _ _ hb ⟨u, e, h⟩ => ⟨u, e, h.keep (fun b hb' => Nat.lt_of_lt_of_le hb' hb.size) (fun b hb' => hb.block b hb')⟩), Stab.is _, Stab.is _, trivial⟩ ⟨?_, ?_, ?_, ?_, ?_, trivial⟩ ?_
    · intro _ v w1 hb hd; have hz := hb.size
      have K := K.below hb
      have Kc0 := K.cell (i := 0) rfl
      have Kc1 := K.cell (i := 1) rfl
      have Kc2 := K.cell (i := 2) rfl
      have J := J.below hb
      have Jc0 := J.cell (i := 0) rfl
      have Jc1 := J.cell (i := 1) rfl
      have Jc2 := J.cell (i := 2) rfl
      have G := G.below hb
      have Gc0 := G.cell (i := 0) rfl
      have Gc1 := G.cell (i := 1) rfl
      have Gc2 := G.cell (i := 2) rfl
      have M := M.below hb
      have Mc0 := M.cell (i := 0) rfl
      have Mc1 := M.cell (i := 1) rfl
      have Mc2 := M.cell (i := 2) rfl
      clear hd; (try unfold Is at *); simp only [rgPut, rgDst, Act.put, List.getElem?_cons_zero, List.getElem?_cons_succ, Option.bind_some, List.setIfInBounds_toArray, List.set_cons_zero, List.set_cons_succ]
      go_wp2_with fail
      exact ⟨rfl, (by repeat (first | with_reducible exact Below.refl _ _ | with_reducible assumption | (with_reducible refine Below.setCell ?_ ?_ _; rotate_left; next => (first | omega | (simp; done) | (simp; omega) | exact Below.size (by assumption))) | (with_reducible refine Below.alloc ?_ ?_ _; rotate_left; next => (first | omega | (simp; done) | (simp; omega) | exact Below.size (by assumption))) | with_reducible refine Below.drew ?_ | with_reducible refine below_drewN ?_ _ | (with_reducible refine Below.trans ?_ (Below.mono (by assumption) ?_); rotate_left; next => (first | omega | (simp; done) | (simp; omega) | exact Below.size (by assumption))))), (by first | rfl | assumption)⟩
    · intro _ v w1 hb hd; have hz := hb.size
      have K := K.below hb
      have Kc0 := K.cell (i := 0) rfl
      have Kc1 := K.cell (i := 1) rfl
      have Kc2 := K.cell (i := 2) rfl
      have J := J.below hb
      have Jc0 := J.cell (i := 0) rfl
      have Jc1 := J.cell (i := 1) rfl
      have Jc2 := J.cell (i := 2) rfl
      have G := G.below hb
      have Gc0 := G.cell (i := 0) rfl
      have Gc1 := G.cell (i := 1) rfl
      have Gc2 := G.cell (i := 2) rfl
      have M := M.below hb
      have Mc0 := M.cell (i := 0) rfl
      have Mc1 := M.cell (i := 1) rfl
      have Mc2 := M.cell (i := 2) rfl
      clear hd; (try unfold Is at *); simp only [rgPut, rgDst, Act.put, List.getElem?_cons_zero, List.getElem?_cons_succ, Option.bind_some, List.setIfInBounds_toArray, List.set_cons_zero, List.set_cons_succ]
      go_wp2_with fail
      exact ⟨rfl, (by repeat (first | with_reducible exact Below.refl _ _ | with_reducible assumption | (with_reducible refine Below.setCell ?_ ?_ _; rotate_left; next => (first | omega | (simp; done) | (simp; omega) | exact Below.size (by assumption))) | (with_reducible refine Below.alloc ?_ ?_ _; rotate_left; next => (first | omega | (simp; done) | (simp; omega) | exact Below.size (by assumption))) | with_reducible refine Below.drew ?_ | with_reducible refine below_drewN ?_ _ | (with_reducible refine Below.trans ?_ (Below.mono (by assumption) ?_); rotate_left; next => (first | omega | (simp; done) | (simp; omega) | exact Below.size (by assumption))))), (by first | rfl | assumption)⟩
    · intro _ v w1 hb hd; have hz := hb.size
      have K := K.below hb
      have Kc0 := K.cell (i := 0) rfl
      have Kc1 := K.cell (i := 1) rfl
      have Kc2 := K.cell (i := 2) rfl
      have J := J.below hb
      have Jc0 := J.cell (i := 0) rfl
      have Jc1 := J.cell (i := 1) rfl
      have Jc2 := J.cell (i := 2) rfl
      have G := G.below hb
      have Gc0 := G.cell (i := 0) rfl
      have Gc1 := G.cell (i := 1) rfl
      have Gc2 := G.cell (i := 2) rfl
      have M := M.below hb
      have Mc0 := M.cell (i := 0) rfl
      have Mc1 := M.cell (i := 1) rfl
      have Mc2 := M.cell (i := 2) rfl
      have d1 : (Is (.agg #[ub, .int .i64 m1, .int .i64 m2])) (v 1) w1 := hd 1 (by kernel_rfl)
      clear hd; (try unfold Is at *); simp only [rgPut, rgDst, Act.put, List.getElem?_cons_zero, List.getElem?_cons_succ, Option.bind_some, List.setIfInBounds_toArray, List.set_cons_zero, List.set_cons_succ]
      go_wp2_with fail
      (first | (go_at_call 36; (have BF : Below w.heap.size w w1 := (by repeat (first | with_reducible exact Below.refl _ _ | with_reducible assumption | (with_reducible refine Below.setCell ?_ ?_ _; rotate_left; next => (first | omega | (simp; done) | (simp; omega) | exact Below.size (by assumption))) | (with_reducible refine Below.alloc ?_ ?_ _; rotate_left; next => (first | omega | (simp; done) | (simp; omega) | exact Below.size (by assumption))) | with_reducible refine Below.drew ?_ | with_reducible refine below_drewN ?_ _ | (with_reducible refine Below.trans ?_ (Below.mono (by assumption) ?_); rotate_left; next => (first | omega | (simp; done) | (simp; omega) | exact Below.size (by assumption))))); have sv := HV.out.below (B := w.heap.size) BF (fun b h => h); have su := HU.out.below (B := w.heap.size) BF (fun b h => h); refine (toConfig_any _ _ _ _ (· < w.heap.size) _ (by assumption) (by assumption) (fun b hb => Nat.lt_of_lt_of_le hb BF.size)).mono ?_; rintro e wG ⟨_, rfl, ⟨u3, rfl, M3⟩, bG⟩; have st := (M3.slAt (by first | exact HI.out | exact HJ.out) (by assumption)).keep (S' := fun b => b < wG.heap.size) (fun b h => h.2) (fun _ _ => rfl))) | (go_at_call 38; (obtain ⟨u3, hu3, s4⟩ := d2; rw [hu3]; refine (eqConfig_any _ _ _ _ _ _ ys ys (fun b => b < w1.heap.size) _ (sB.keep (fun b h => by have h' := (hz0.symm ▸ h); exact Nat.lt_of_lt_of_le h' hb.size) (fun b h => (hb.block b ((hz0.symm ▸ h))).trans (hh0 b))) s4 (fun b h => h)).mono ?_; rintro e wH ⟨bH, ⟨_, rfl⟩ | ⟨f, _⟩⟩ <;> try (exfalso; exact f (by simp)))))
      go_wp2_with fail
      exact ⟨rfl, (by repeat (first | with_reducible exact Below.refl _ _ | with_reducible assumption | (with_reducible refine Below.setCell ?_ ?_ _; rotate_left; next => (first | omega | (simp; done) | (simp; omega) | exact Below.size (by assumption))) | (with_reducible refine Below.alloc ?_ ?_ _; rotate_left; next => (first | omega | (simp; done) | (simp; omega) | exact Below.size (by assumption))) | with_reducible refine Below.drew ?_ | with_reducible refine below_drewN ?_ _ | (with_reducible refine Below.trans ?_ (Below.mono (by assumption) ?_); rotate_left; next => (first | omega | (simp; done) | (simp; omega) | exact Below.size (by assumption))))), ⟨_, rfl, st⟩⟩
    · intro _ v w1 hb hd; have hz := hb.size
      have K := K.below hb
      have Kc0 := K.cell (i := 0) rfl
      have Kc1 := K.cell (i := 1) rfl
      have Kc2 := K.cell (i := 2) rfl
      have J := J.below hb
      have Jc0 := J.cell (i := 0) rfl
      have Jc1 := J.cell (i := 1) rfl
      have Jc2 := J.cell (i := 2) rfl
      have G := G.below hb
      have Gc0 := G.cell (i := 0) rfl
      have Gc1 := G.cell (i := 1) rfl
      have Gc2 := G.cell (i := 2) rfl
      have M := M.below hb
      have Mc0 := M.cell (i := 0) rfl
      have Mc1 := M.cell (i := 1) rfl
      have Mc2 := M.cell (i := 2) rfl
      have d0 : (Is (.agg #[.slice (some ⟨g4, 0, none⟩) ys.length ys.length, .int .i64 m1, .int .i64 m2])) (v 0) w1 := hd 0 (by kernel_rfl)
      have d2 : ((fun r W => ∃ u, r = .agg #[u, .int .i64 m1, .int .i64 m2] ∧ SlAt 1 rI W (· < W.heap.size) u ys)) (v 2) w1 := hd 2 (by kernel_rfl)
      clear hd; (try unfold Is at *); simp only [rgPut, rgDst, Act.put, List.getElem?_cons_zero, List.getElem?_cons_succ, Option.bind_some, List.setIfInBounds_toArray, List.set_cons_zero, List.set_cons_succ]
      go_wp2_with fail
      (first | (go_at_call 36; (have BF : Below w.heap.size w w1 := (by repeat (first | with_reducible exact Below.refl _ _ | with_reducible assumption | (with_reducible refine Below.setCell ?_ ?_ _; rotate_left; next => (first | omega | (simp; done) | (simp; omega) | exact Below.size (by assumption))) | (with_reducible refine Below.alloc ?_ ?_ _; rotate_left; next => (first | omega | (simp; done) | (simp; omega) | exact Below.size (by assumption))) | with_reducible refine Below.drew ?_ | with_reducible refine below_drewN ?_ _ | (with_reducible refine Below.trans ?_ (Below.mono (by assumption) ?_); rotate_left; next => (first | omega | (simp; done) | (simp; omega) | exact Below.size (by assumption))))); have sv := HV.out.below (B := w.heap.size) BF (fun b h => h); have su := HU.out.below (B := w.heap.size) BF (fun b h => h); refine (toConfig_any _ _ _ _ (· < w.heap.size) _ (by assumption) (by assumption) (fun b hb => Nat.lt_of_lt_of_le hb BF.size)).mono ?_; rintro e wG ⟨_, rfl, ⟨u3, rfl, M3⟩, bG⟩; have st := (M3.slAt (by first | exact HI.out | exact HJ.out) (by assumption)).keep (S' := fun b => b < wG.heap.size) (fun b h => h.2) (fun _ _ => rfl))) | (go_at_call 38; (obtain ⟨u3, hu3, s4⟩ := d2; rw [hu3]; refine (eqConfig_any _ _ _ _ _ _ ys ys (fun b => b < w1.heap.size) _ (sB.keep (fun b h => by have h' := (hz0.symm ▸ h); exact Nat.lt_of_lt_of_le h' hb.size) (fun b h => (hb.block b ((hz0.symm ▸ h))).trans (hh0 b))) s4 (fun b h => h)).mono ?_; rintro e wH ⟨bH, ⟨_, rfl⟩ | ⟨f, _⟩⟩ <;> try (exfalso; exact f (by simp)))))
      go_wp2_with fail
      exact ⟨rfl, (by repeat (first | with_reducible exact Below.refl _ _ | with_reducible assumption | (with_reducible refine Below.setCell ?_ ?_ _; rotate_left; next => (first | omega | (simp; done) | (simp; omega) | exact Below.size (by assumption))) | (with_reducible refine Below.alloc ?_ ?_ _; rotate_left; next => (first | omega | (simp; done) | (simp; omega) | exact Below.size (by assumption))) | with_reducible refine Below.drew ?_ | with_reducible refine below_drewN ?_ _ | (with_reducible refine Below.trans ?_ (Below.mono (by assumption) ?_); rotate_left; next => (first | omega | (simp; done) | (simp; omega) | exact Below.size (by assumption))))), (by first | rfl | assumption)⟩
    · intro _ v w1 hb hd; have hz := hb.size
      have K := K.below hb
      have Kc0 := K.cell (i := 0) rfl
      have Kc1 := K.cell (i := 1) rfl
      have Kc2 := K.cell (i := 2) rfl
      have J := J.below hb
      have Jc0 := J.cell (i := 0) rfl
      have Jc1 := J.cell (i := 1) rfl
      have Jc2 := J.cell (i := 2) rfl
      have G := G.below hb
      have Gc0 := G.cell (i := 0) rfl
      have Gc1 := G.cell (i := 1) rfl
      have Gc2 := G.cell (i := 2) rfl
      have M := M.below hb
      have Mc0 := M.cell (i := 0) rfl
      have Mc1 := M.cell (i := 1) rfl
      have Mc2 := M.cell (i := 2) rfl
      have d3 : (Is (.bool true)) (v 3) w1 := hd 3 (by kernel_rfl)
      clear hd; (try unfold Is at *); simp only [rgPut, rgDst, Act.put, List.getElem?_cons_zero, List.getElem?_cons_succ, Option.bind_some, List.setIfInBounds_toArray, List.set_cons_zero, List.set_cons_succ]
      go_wp2_with fail
      exact ⟨rfl, (by repeat (first | with_reducible exact Below.refl _ _ | with_reducible assumption | (with_reducible refine Below.setCell ?_ ?_ _; rotate_left; next => (first | omega | (simp; done) | (simp; omega) | exact Below.size (by assumption))) | (with_reducible refine Below.alloc ?_ ?_ _; rotate_left; next => (first | omega | (simp; done) | (simp; omega) | exact Below.size (by assumption))) | with_reducible refine Below.drew ?_ | with_reducible refine below_drewN ?_ _ | (with_reducible refine Below.trans ?_ (Below.mono (by assumption) ?_); rotate_left; next => (first | omega | (simp; done) | (simp; omega) | exact Below.size (by assumption))))), (by first | rfl | assumption)⟩
    intro v w1 hb hA
    have a0 : (Is (.agg #[.slice (some ⟨g4, 0, none⟩) ys.length ys.length, .int .i64 m1, .int .i64 m2])) (v 0) w1 := hA 0 (by decide)
    have a1 : (Is (.agg #[ub, .int .i64 m1, .int .i64 m2])) (v 1) w1 := hA 1 (by decide)
    have a2 : ((fun r W => ∃ u, r = .agg #[u, .int .i64 m1, .int .i64 m2] ∧ SlAt 1 rI W (· < W.heap.size) u ys)) (v 2) w1 := hA 2 (by decide)
    have a3 : (Is (.bool true)) (v 3) w1 := hA 3 (by decide)
    have a4 : (Is (.bool false)) (v 4) w1 := hA 4 (by decide)
    clear hA; (try unfold Is at *); simp only [rgPut, rgDst, Act.put, List.getElem?_cons_zero, List.getElem?_cons_succ, Option.bind_some, List.setIfInBounds_toArray, List.set_cons_zero, List.set_cons_succ, List.drop_succ_cons, List.drop_nil]
    simp only [a0, a1, a3, a4]; clear a0 a1 a3 a4
    generalize v 2 = v42 at *
    have hz := hb.size
    have K := K.below hb
    have Kc0 := K.cell (i := 0) rfl
    have Kc1 := K.cell (i := 1) rfl
    have Kc2 := K.cell (i := 2) rfl
    have Kf0 := K.frozen 0
    have Kf1 := K.frozen 1
    have Kf2 := K.frozen 2
    have J := J.below hb
    have Jc0 := J.cell (i := 0) rfl
    have Jc1 := J.cell (i := 1) rfl
    have Jc2 := J.cell (i := 2) rfl
    have Jf0 := J.frozen 0
    have Jf1 := J.frozen 1
    have Jf2 := J.frozen 2
    have G := G.below hb
    have Gc0 := G.cell (i := 0) rfl
    have Gc1 := G.cell (i := 1) rfl
    have Gc2 := G.cell (i := 2) rfl
    have Gf0 := G.frozen 0
    have Gf1 := G.frozen 1
    have Gf2 := G.frozen 2
    have M := M.below hb
    have Mc0 := M.cell (i := 0) rfl
    have Mc1 := M.cell (i := 1) rfl
    have Mc2 := M.cell (i := 2) rfl
    have Mf0 := M.frozen 0
    have Mf1 := M.frozen 1
    have Mf2 := M.frozen 2
    go_wp2
    go_ret
    exact ⟨rfl, (by repeat (first | with_reducible exact Below.refl _ _ | with_reducible assumption | (with_reducible refine Below.setCell ?_ ?_ _; rotate_left; next => (first | omega | (simp; done) | (simp; omega) | exact Below.size (by assumption))) | (with_reducible refine Below.alloc ?_ ?_ _; rotate_left; next => (first | omega | (simp; done) | (simp; omega) | exact Below.size (by assumption))) | with_reducible refine Below.drew ?_ | with_reducible refine below_drewN ?_ _ | (with_reducible refine Below.trans ?_ (Below.mono (by assumption) ?_); rotate_left; next => (first | omega | (simp; done) | (simp; omega) | exact Below.size (by assumption)))))⟩
  · have HG := Lib.hid g; clear g
    go_enter Try.func10, Try.ntmps10
    go_wp2_with fail
    have K : Blk ((w.alloc (.cells #[va, .int .i64 n1, .int .i64 n2] 50)).alloc (.cells #[ub, .int .i64 m1, .int .i64 m2] 50)) w.heap.size [va, .int .i64 n1, .int .i64 n2] 50 := (by repeat (first | with_reducible assumption | (with_reducible refine Blk.alloc_at ?_; next => (first | omega | (simp; done) | (simp; omega))) | (with_reducible refine Blk.set_other _ ?_ ?_; next => (first | omega | (simp; done) | (simp; omega))) | with_reducible refine Blk.alloc_old _ ?_ | with_reducible refine Blk.drew ?_ | with_reducible refine Blk.below (by assumption) ?_))
    have J : Blk ((w.alloc (.cells #[va, .int .i64 n1, .int .i64 n2] 50)).alloc (.cells #[ub, .int .i64 m1, .int .i64 m2] 50)) (w.heap.size + 1) [ub, .int .i64 m1, .int .i64 m2] 50 := (by repeat (first | with_reducible assumption | (with_reducible refine Blk.alloc_at ?_; next => (first | omega | (simp; done) | (simp; omega))) | (with_reducible refine Blk.set_other _ ?_ ?_; next => (first | omega | (simp; done) | (simp; omega))) | with_reducible refine Blk.alloc_old _ ?_ | with_reducible refine Blk.drew ?_ | with_reducible refine Blk.below (by assumption) ?_))
    refine (szConfig_any _ _ _ xs 1048576 _ _ (HV.out.below (B := w.heap.size) (by repeat (first | with_reducible exact Below.refl _ _ | with_reducible assumption | (with_reducible refine Below.setCell ?_ ?_ _; rotate_left; next => (first | omega | (simp; done) | (simp; omega) | exact Below.size (by assumption))) | (with_reducible refine Below.alloc ?_ ?_ _; rotate_left; next => (first | omega | (simp; done) | (simp; omega) | exact Below.size (by assumption))) | with_reducible refine Below.drew ?_ | with_reducible refine below_drewN ?_ _ | (with_reducible refine Below.trans ?_ (Below.mono (by assumption) ?_); rotate_left; next => (first | omega | (simp; done) | (simp; omega) | exact Below.size (by assumption))))) (fun b h => h)) (fun b hb => by (first | omega | (simp; done) | (simp; omega))) (by omega)).mono ?_
    rintro e wA ⟨rfl, bA⟩
    rw [E1.out]
    have BA : Below w.heap.size w wA := (by repeat (first | with_reducible exact Below.refl _ _ | with_reducible assumption | (with_reducible refine Below.setCell ?_ ?_ _; rotate_left; next => (first | omega | (simp; done) | (simp; omega) | exact Below.size (by assumption))) | (with_reducible refine Below.alloc ?_ ?_ _; rotate_left; next => (first | omega | (simp; done) | (simp; omega) | exact Below.size (by assumption))) | with_reducible refine Below.drew ?_ | with_reducible refine below_drewN ?_ _ | (with_reducible refine Below.trans ?_ (Below.mono (by assumption) ?_); rotate_left; next => (first | omega | (simp; done) | (simp; omega) | exact Below.size (by assumption)))))
    have K := K.below bA; have J := J.below bA
    have Kc0 := K.cell (i := 0) rfl; have Kc1 := K.cell (i := 1) rfl; have Kc2 := K.cell (i := 2) rfl; have Jc0 := J.cell (i := 0) rfl; have Jc1 := J.cell (i := 1) rfl; have Jc2 := J.cell (i := 2) rfl; have KL := K.lt; have JL := J.lt
    clear bA
    go_wp2_with fail
    refine (szConfig_any _ _ _ ys (1048576 - xs.length) _ _ (HU.out.below (B := w.heap.size) (by repeat (first | with_reducible exact Below.refl _ _ | with_reducible assumption | (with_reducible refine Below.setCell ?_ ?_ _; rotate_left; next => (first | omega | (simp; done) | (simp; omega) | exact Below.size (by assumption))) | (with_reducible refine Below.alloc ?_ ?_ _; rotate_left; next => (first | omega | (simp; done) | (simp; omega) | exact Below.size (by assumption))) | with_reducible refine Below.drew ?_ | with_reducible refine below_drewN ?_ _ | (with_reducible refine Below.trans ?_ (Below.mono (by assumption) ?_); rotate_left; next => (first | omega | (simp; done) | (simp; omega) | exact Below.size (by assumption))))) (fun b h => h)) (fun b hb => by (first | omega | (simp; done) | (simp; omega))) (by omega)).mono ?_
    rintro e wB ⟨rfl, bB⟩
    rw [E2.out]
    have BB : Below w.heap.size w wB := BA.trans (bB.mono BA.size)
    have K := K.below bB; have J := J.below bB
    have Kc0 := K.cell (i := 0) rfl; have Kc1 := K.cell (i := 1) rfl; have Kc2 := K.cell (i := 2) rfl; have Jc0 := J.cell (i := 0) rfl; have Jc1 := J.cell (i := 1) rfl; have Jc2 := J.cell (i := 2) rfl; have KL := K.lt; have JL := J.lt
    clear bB BA
    have z1 := BB.size
    go_wp2_with fail
    refine wp_world ?_; intro w0 hb0 hh0 hz0; (try simp at hz0)
    have K : Blk w0 (w.heap.size) [va, .int .i64 n1, .int .i64 n2] 50 := Blk.of_eq (hh0 _) (by repeat (first | with_reducible assumption | (with_reducible refine Blk.alloc_at ?_; next => (first | omega | (simp; done) | (simp; omega))) | (with_reducible refine Blk.set_other _ ?_ ?_; next => (first | omega | (simp; done) | (simp; omega))) | with_reducible refine Blk.alloc_old _ ?_ | with_reducible refine Blk.drew ?_ | with_reducible refine Blk.below (by assumption) ?_))
    have KL := K.lt
    have J : Blk w0 (w.heap.size + 1) [ub, .int .i64 m1, .int .i64 m2] 50 := Blk.of_eq (hh0 _) (by repeat (first | with_reducible assumption | (with_reducible refine Blk.alloc_at ?_; next => (first | omega | (simp; done) | (simp; omega))) | (with_reducible refine Blk.set_other _ ?_ ?_; next => (first | omega | (simp; done) | (simp; omega))) | with_reducible refine Blk.alloc_old _ ?_ | with_reducible refine Blk.drew ?_ | with_reducible refine Blk.below (by assumption) ?_))
    have JL := J.lt
    refine wp_region_rgl 5 [Is (.agg #[va, .int .i64 n1, .int .i64 n2]), (fun r W => ∃ u, r = .agg #[u, .int .i64 n1, .int .i64 n2] ∧ SlAt 1 rI W (· < W.heap.size) u xs), Is (.agg #[ub, .int .i64 m1, .int .i64 m2]), (fun r W => ∃ u, r = .agg #[u, .int .i64 m1, .int .i64 m2] ∧ SlAt 1 rI W (· < W.heap.size) u ys), Is (.bool false)] (fun _ _ _ _ _ h => h) (by kernel_rfl) (by kernel_rfl) ⟨Stab.is _, (fun _ _ _ hb ⟨u, e, h⟩ => ⟨u, e, h.keep (fun b hb' => Nat.lt_of_lt_of_le hb' hb.size) (fun b hb' => hb.block b hb')⟩), Stab.is _, (fun _ _ _ hb ⟨u, e, h⟩ => ⟨u, e, h.keep (fun b hb' => Nat.lt_of_lt_of_le hb' hb.size) (fun b hb' => hb.block b hb')⟩), Stab.is _, trivial⟩ ⟨?_, ?_, ?_, ?_, ?_, ?_, trivial⟩ ?_
    · intro _ v w1 hb hd; have hz := hb.size
      have K := K.below hb
      have Kc0 := K.cell (i := 0) rfl
      have Kc1 := K.cell (i := 1) rfl
      have Kc2 := K.cell (i := 2) rfl
      have J := J.below hb
      have Jc0 := J.cell (i := 0) rfl
      have Jc1 := J.cell (i := 1) rfl
      have Jc2 := J.cell (i := 2) rfl
      clear hd; (try unfold Is at *); simp only [rgPut, rgDst, Act.put, List.getElem?_cons_zero, List.getElem?_cons_succ, Option.bind_some, List.setIfInBounds_toArray, List.set_cons_zero, List.set_cons_succ]
      go_wp2_with fail
      exact ⟨rfl, (by repeat (first | with_reducible exact Below.refl _ _ | with_reducible assumption | (with_reducible refine Below.setCell ?_ ?_ _; rotate_left; next => (first | omega | (simp; done) | (simp; omega) | exact Below.size (by assumption))) | (with_reducible refine Below.alloc ?_ ?_ _; rotate_left; next => (first | omega | (simp; done) | (simp; omega) | exact Below.size (by assumption))) | with_reducible refine Below.drew ?_ | with_reducible refine below_drewN ?_ _ | (with_reducible refine Below.trans ?_ (Below.mono (by assumption) ?_); rotate_left; next => (first | omega | (simp; done) | (simp; omega) | exact Below.size (by assumption))))), (by first | rfl | assumption)⟩
    · intro _ v w1 hb hd; have hz := hb.size
      have K := K.below hb
      have Kc0 := K.cell (i := 0) rfl
      have Kc1 := K.cell (i := 1) rfl
      have Kc2 := K.cell (i := 2) rfl
      have J := J.below hb
      have Jc0 := J.cell (i := 0) rfl
      have Jc1 := J.cell (i := 1) rfl
      have Jc2 := J.cell (i := 2) rfl
      have d0 : (Is (.agg #[va, .int .i64 n1, .int .i64 n2])) (v 0) w1 := hd 0 (by kernel_rfl)
      clear hd; (try unfold Is at *); simp only [rgPut, rgDst, Act.put, List.getElem?_cons_zero, List.getElem?_cons_succ, Option.bind_some, List.setIfInBounds_toArray, List.set_cons_zero, List.set_cons_succ]
      go_wp2_with fail
      (first | (go_at_call 36; (have BF : Below w.heap.size w w1 := (by repeat (first | with_reducible exact Below.refl _ _ | with_reducible assumption | (with_reducible refine Below.setCell ?_ ?_ _; rotate_left; next => (first | omega | (simp; done) | (simp; omega) | exact Below.size (by assumption))) | (with_reducible refine Below.alloc ?_ ?_ _; rotate_left; next => (first | omega | (simp; done) | (simp; omega) | exact Below.size (by assumption))) | with_reducible refine Below.drew ?_ | with_reducible refine below_drewN ?_ _ | (with_reducible refine Below.trans ?_ (Below.mono (by assumption) ?_); rotate_left; next => (first | omega | (simp; done) | (simp; omega) | exact Below.size (by assumption))))); have sv := HV.out.below (B := w.heap.size) BF (fun b h => h); have su := HU.out.below (B := w.heap.size) BF (fun b h => h); refine (toConfig_any _ _ _ _ (· < w.heap.size) _ (by assumption) (by assumption) (fun b hb => Nat.lt_of_lt_of_le hb BF.size)).mono ?_; rintro e wG ⟨_, rfl, ⟨u3, rfl, M3⟩, bG⟩; have st := (M3.slAt (by first | exact HI.out | exact HJ.out) (by assumption)).keep (S' := fun b => b < wG.heap.size) (fun b h => h.2) (fun _ _ => rfl))) | (go_at_call 35; (obtain ⟨u3, hu3, s3⟩ := d1; rw [hu3]; obtain ⟨u4, hu4, s4⟩ := d3; rw [hu4]; refine (sSameC _ _ _ _ _ _ xs ys _ _ s3 s4 (fun b h => h)).mono ?_; rintro e wH ⟨bH, ⟨f, rfl⟩ | ⟨f, rfl⟩⟩ <;> try (exfalso; exact HG.out f))))
      go_wp2_with fail
      exact ⟨rfl, (by repeat (first | with_reducible exact Below.refl _ _ | with_reducible assumption | (with_reducible refine Below.setCell ?_ ?_ _; rotate_left; next => (first | omega | (simp; done) | (simp; omega) | exact Below.size (by assumption))) | (with_reducible refine Below.alloc ?_ ?_ _; rotate_left; next => (first | omega | (simp; done) | (simp; omega) | exact Below.size (by assumption))) | with_reducible refine Below.drew ?_ | with_reducible refine below_drewN ?_ _ | (with_reducible refine Below.trans ?_ (Below.mono (by assumption) ?_); rotate_left; next => (first | omega | (simp; done) | (simp; omega) | exact Below.size (by assumption))))), ⟨_, rfl, st⟩⟩
    · intro _ v w1 hb hd; have hz := hb.size
      have K := K.below hb
      have Kc0 := K.cell (i := 0) rfl
      have Kc1 := K.cell (i := 1) rfl
      have Kc2 := K.cell (i := 2) rfl
      have J := J.below hb
      have Jc0 := J.cell (i := 0) rfl
      have Jc1 := J.cell (i := 1) rfl
      have Jc2 := J.cell (i := 2) rfl
      clear hd; (try unfold Is at *); simp only [rgPut, rgDst, Act.put, List.getElem?_cons_zero, List.getElem?_cons_succ, Option.bind_some, List.setIfInBounds_toArray, List.set_cons_zero, List.set_cons_succ]
      go_wp2_with fail
      exact ⟨rfl, (by repeat (first | with_reducible exact Below.refl _ _ | with_reducible assumption | (with_reducible refine Below.setCell ?_ ?_ _; rotate_left; next => (first | omega | (simp; done) | (simp; omega) | exact Below.size (by assumption))) | (with_reducible refine Below.alloc ?_ ?_ _; rotate_left; next => (first | omega | (simp; done) | (simp; omega) | exact Below.size (by assumption))) | with_reducible refine Below.drew ?_ | with_reducible refine below_drewN ?_ _ | (with_reducible refine Below.trans ?_ (Below.mono (by assumption) ?_); rotate_left; next => (first | omega | (simp; done) | (simp; omega) | exact Below.size (by assumption))))), (by first | rfl | assumption)⟩
    · intro _ v w1 hb hd; have hz := hb.size
      have K := K.below hb
      have Kc0 := K.cell (i := 0) rfl
      have Kc1 := K.cell (i := 1) rfl
      have Kc2 := K.cell (i := 2) rfl
      have J := J.below hb
      have Jc0 := J.cell (i := 0) rfl
      have Jc1 := J.cell (i := 1) rfl
      have Jc2 := J.cell (i := 2) rfl
      have d2 : (Is (.agg #[ub, .int .i64 m1, .int .i64 m2])) (v 2) w1 := hd 2 (by kernel_rfl)
      clear hd; (try unfold Is at *); simp only [rgPut, rgDst, Act.put, List.getElem?_cons_zero, List.getElem?_cons_succ, Option.bind_some, List.setIfInBounds_toArray, List.set_cons_zero, List.set_cons_succ]
      go_wp2_with fail
      (first | (go_at_call 36; (have BF : Below w.heap.size w w1 := (by repeat (first | with_reducible exact Below.refl _ _ | with_reducible assumption | (with_reducible refine Below.setCell ?_ ?_ _; rotate_left; next => (first | omega | (simp; done) | (simp; omega) | exact Below.size (by assumption))) | (with_reducible refine Below.alloc ?_ ?_ _; rotate_left; next => (first | omega | (simp; done) | (simp; omega) | exact Below.size (by assumption))) | with_reducible refine Below.drew ?_ | with_reducible refine below_drewN ?_ _ | (with_reducible refine Below.trans ?_ (Below.mono (by assumption) ?_); rotate_left; next => (first | omega | (simp; done) | (simp; omega) | exact Below.size (by assumption))))); have sv := HV.out.below (B := w.heap.size) BF (fun b h => h); have su := HU.out.below (B := w.heap.size) BF (fun b h => h); refine (toConfig_any _ _ _ _ (· < w.heap.size) _ (by assumption) (by assumption) (fun b hb => Nat.lt_of_lt_of_le hb BF.size)).mono ?_; rintro e wG ⟨_, rfl, ⟨u3, rfl, M3⟩, bG⟩; have st := (M3.slAt (by first | exact HI.out | exact HJ.out) (by assumption)).keep (S' := fun b => b < wG.heap.size) (fun b h => h.2) (fun _ _ => rfl))) | (go_at_call 35; (obtain ⟨u3, hu3, s3⟩ := d1; rw [hu3]; obtain ⟨u4, hu4, s4⟩ := d3; rw [hu4]; refine (sSameC _ _ _ _ _ _ xs ys _ _ s3 s4 (fun b h => h)).mono ?_; rintro e wH ⟨bH, ⟨f, rfl⟩ | ⟨f, rfl⟩⟩ <;> try (exfalso; exact HG.out f))))
      go_wp2_with fail
      exact ⟨rfl, (by repeat (first | with_reducible exact Below.refl _ _ | with_reducible assumption | (with_reducible refine Below.setCell ?_ ?_ _; rotate_left; next => (first | omega | (simp; done) | (simp; omega) | exact Below.size (by assumption))) | (with_reducible refine Below.alloc ?_ ?_ _; rotate_left; next => (first | omega | (simp; done) | (simp; omega) | exact Below.size (by assumption))) | with_reducible refine Below.drew ?_ | with_reducible refine below_drewN ?_ _ | (with_reducible refine Below.trans ?_ (Below.mono (by assumption) ?_); rotate_left; next => (first | omega | (simp; done) | (simp; omega) | exact Below.size (by assumption))))), ⟨_, rfl, st⟩⟩
    · intro _ v w1 hb hd; have hz := hb.size
      have K := K.below hb
      have Kc0 := K.cell (i := 0) rfl
      have Kc1 := K.cell (i := 1) rfl
      have Kc2 := K.cell (i := 2) rfl
      have J := J.below hb
      have Jc0 := J.cell (i := 0) rfl
      have Jc1 := J.cell (i := 1) rfl
      have Jc2 := J.cell (i := 2) rfl
      have d1 : ((fun r W => ∃ u, r = .agg #[u, .int .i64 n1, .int .i64 n2] ∧ SlAt 1 rI W (· < W.heap.size) u xs)) (v 1) w1 := hd 1 (by kernel_rfl)
      have d3 : ((fun r W => ∃ u, r = .agg #[u, .int .i64 m1, .int .i64 m2] ∧ SlAt 1 rI W (· < W.heap.size) u ys)) (v 3) w1 := hd 3 (by kernel_rfl)
      clear hd; (try unfold Is at *); simp only [rgPut, rgDst, Act.put, List.getElem?_cons_zero, List.getElem?_cons_succ, Option.bind_some, List.setIfInBounds_toArray, List.set_cons_zero, List.set_cons_succ]
      go_wp2_with fail
      (first | (go_at_call 36; (have BF : Below w.heap.size w w1 := (by repeat (first | with_reducible exact Below.refl _ _ | with_reducible assumption | (with_reducible refine Below.setCell ?_ ?_ _; rotate_left; next => (first | omega | (simp; done) | (simp; omega) | exact Below.size (by assumption))) | (with_reducible refine Below.alloc ?_ ?_ _; rotate_left; next => (first | omega | (simp; done) | (simp; omega) | exact Below.size (by assumption))) | with_reducible refine Below.drew ?_ | with_reducible refine below_drewN ?_ _ | (with_reducible refine Below.trans ?_ (Below.mono (by assumption) ?_); rotate_left; next => (first | omega | (simp; done) | (simp; omega) | exact Below.size (by assumption))))); have sv := HV.out.below (B := w.heap.size) BF (fun b h => h); have su := HU.out.below (B := w.heap.size) BF (fun b h => h); refine (toConfig_any _ _ _ _ (· < w.heap.size) _ (by assumption) (by assumption) (fun b hb => Nat.lt_of_lt_of_le hb BF.size)).mono ?_; rintro e wG ⟨_, rfl, ⟨u3, rfl, M3⟩, bG⟩; have st := (M3.slAt (by first | exact HI.out | exact HJ.out) (by assumption)).keep (S' := fun b => b < wG.heap.size) (fun b h => h.2) (fun _ _ => rfl))) | (go_at_call 35; (obtain ⟨u3, hu3, s3⟩ := d1; rw [hu3]; obtain ⟨u4, hu4, s4⟩ := d3; rw [hu4]; refine (sSameC _ _ _ _ _ _ xs ys _ _ s3 s4 (fun b h => h)).mono ?_; rintro e wH ⟨bH, ⟨f, rfl⟩ | ⟨f, rfl⟩⟩ <;> try (exfalso; exact HG.out f))))
      go_wp2_with fail
      exact ⟨rfl, (by repeat (first | with_reducible exact Below.refl _ _ | with_reducible assumption | (with_reducible refine Below.setCell ?_ ?_ _; rotate_left; next => (first | omega | (simp; done) | (simp; omega) | exact Below.size (by assumption))) | (with_reducible refine Below.alloc ?_ ?_ _; rotate_left; next => (first | omega | (simp; done) | (simp; omega) | exact Below.size (by assumption))) | with_reducible refine Below.drew ?_ | with_reducible refine below_drewN ?_ _ | (with_reducible refine Below.trans ?_ (Below.mono (by assumption) ?_); rotate_left; next => (first | omega | (simp; done) | (simp; omega) | exact Below.size (by assumption))))), (by first | rfl | assumption)⟩
    · (intro hk; exact absurd hk (by decide))
    intro v w1 hb hA
    have a0 : (Is (.agg #[va, .int .i64 n1, .int .i64 n2])) (v 0) w1 := hA 0 (by decide)
    have a1 : ((fun r W => ∃ u, r = .agg #[u, .int .i64 n1, .int .i64 n2] ∧ SlAt 1 rI W (· < W.heap.size) u xs)) (v 1) w1 := hA 1 (by decide)
    have a2 : (Is (.agg #[ub, .int .i64 m1, .int .i64 m2])) (v 2) w1 := hA 2 (by decide)
    have a3 : ((fun r W => ∃ u, r = .agg #[u, .int .i64 m1, .int .i64 m2] ∧ SlAt 1 rI W (· < W.heap.size) u ys)) (v 3) w1 := hA 3 (by decide)
    have a4 : (Is (.bool false)) (v 4) w1 := hA 4 (by decide)
    clear hA; (try unfold Is at *); simp only [rgPut, rgDst, Act.put, List.getElem?_cons_zero, List.getElem?_cons_succ, Option.bind_some, List.setIfInBounds_toArray, List.set_cons_zero, List.set_cons_succ, List.drop_succ_cons, List.drop_zero]
    simp only [a0, a2, a4]; clear a0 a2 a4
    generalize v 1 = v21 at *
    generalize v 3 = v23 at *
    have hz := hb.size
    have K := K.below hb
    have Kc0 := K.cell (i := 0) rfl
    have Kc1 := K.cell (i := 1) rfl
    have Kc2 := K.cell (i := 2) rfl
    have Kf0 := K.frozen 0
    have Kf1 := K.frozen 1
    have Kf2 := K.frozen 2
    have J := J.below hb
    have Jc0 := J.cell (i := 0) rfl
    have Jc1 := J.cell (i := 1) rfl
    have Jc2 := J.cell (i := 2) rfl
    have Jf0 := J.frozen 0
    have Jf1 := J.frozen 1
    have Jf2 := J.frozen 2
    have BC : Below w.heap.size w w1 := (by repeat (first | with_reducible exact Below.refl _ _ | with_reducible assumption | (with_reducible refine Below.setCell ?_ ?_ _; rotate_left; next => (first | omega | (simp; done) | (simp; omega) | exact Below.size (by assumption))) | (with_reducible refine Below.alloc ?_ ?_ _; rotate_left; next => (first | omega | (simp; done) | (simp; omega) | exact Below.size (by assumption))) | with_reducible refine Below.drew ?_ | with_reducible refine below_drewN ?_ _ | (with_reducible refine Below.trans ?_ (Below.mono (by assumption) ?_); rotate_left; next => (first | omega | (simp; done) | (simp; omega) | exact Below.size (by assumption)))))
    go_wp2_with fail
    refine (toConfig_any n1 n2 va xs _ _ (HV.out.below (B := w.heap.size) BC (fun b h => h)) l1 (fun b hb => Nat.lt_of_lt_of_le hb BC.size)).mono ?_
    rintro e wD ⟨_, rfl, ⟨u2, rfl, M2⟩, bD⟩
    have BD : Below w.heap.size w wD := BC.trans (bD.mono BC.size)
    have K := K.below bD; have J := J.below bD
    have Kc0 := K.cell (i := 0) rfl; have Kc1 := K.cell (i := 1) rfl; have Kc2 := K.cell (i := 2) rfl; have Jc0 := J.cell (i := 0) rfl; have Jc1 := J.cell (i := 1) rfl; have Jc2 := J.cell (i := 2) rfl; have KL := K.lt; have JL := J.lt
    have sA := (M2.slAt HI.out h63).keep (S' := fun b => b < wD.heap.size) (fun b h => h.2) (fun _ _ => rfl)
    obtain ⟨g2, rfl, lg2, G2⟩ := M2
    have G2L := G2.lt
    have zD := BD.size
    clear bD
    go_wp2_with fail
    have G : Blk (wD.alloc (.cells #[.slice (some ⟨g2, 0, none⟩) xs.length xs.length, .int .i64 n1, .int .i64 n2] 53)) wD.heap.size [.slice (some ⟨g2, 0, none⟩) xs.length xs.length, .int .i64 n1, .int .i64 n2] 53 := (by repeat (first | with_reducible assumption | (with_reducible refine Blk.alloc_at ?_; next => (first | omega | (simp; done) | (simp; omega))) | (with_reducible refine Blk.set_other _ ?_ ?_; next => (first | omega | (simp; done) | (simp; omega))) | with_reducible refine Blk.alloc_old _ ?_ | with_reducible refine Blk.drew ?_ | with_reducible refine Blk.below (by assumption) ?_))
    have BD2 : Below w.heap.size w (wD.alloc (.cells #[.slice (some ⟨g2, 0, none⟩) xs.length xs.length, .int .i64 n1, .int .i64 n2] 53)) := (by repeat (first | with_reducible exact Below.refl _ _ | with_reducible assumption | (with_reducible refine Below.setCell ?_ ?_ _; rotate_left; next => (first | omega | (simp; done) | (simp; omega) | exact Below.size (by assumption))) | (with_reducible refine Below.alloc ?_ ?_ _; rotate_left; next => (first | omega | (simp; done) | (simp; omega) | exact Below.size (by assumption))) | with_reducible refine Below.drew ?_ | with_reducible refine below_drewN ?_ _ | (with_reducible refine Below.trans ?_ (Below.mono (by assumption) ?_); rotate_left; next => (first | omega | (simp; done) | (simp; omega) | exact Below.size (by assumption)))))
    refine (toConfig_any m1 m2 ub ys _ _ (HU.out.below (B := w.heap.size) BD2 (fun b h => h)) l3 (fun b hb => Nat.lt_of_lt_of_le hb BD2.size)).mono ?_
    rintro e wE ⟨_, rfl, ⟨u4, rfl, M4⟩, bE⟩
    have BE : Below w.heap.size w wE := BD2.trans (bE.mono BD2.size)
    have bDE : Below wD.heap.size wD wE := (Below.alloc (Below.refl _ _) (Nat.le_refl _) _).trans (bE.mono (by simp))
    have K := K.below bDE; have J := J.below bDE; have G := G.below bE
    have GL := G.lt
    have Kc0 := K.cell (i := 0) rfl; have Kc1 := K.cell (i := 1) rfl; have Kc2 := K.cell (i := 2) rfl; have Jc0 := J.cell (i := 0) rfl; have Jc1 := J.cell (i := 1) rfl; have Jc2 := J.cell (i := 2) rfl; have KL := K.lt; have JL := J.lt
    have Gc0 := G.cell (i := 0) rfl; have Gc1 := G.cell (i := 1) rfl; have Gc2 := G.cell (i := 2) rfl
    have sA := sA.keep (W' := wE) (S' := fun b => b < wE.heap.size) (fun b h => Nat.lt_of_lt_of_le h bDE.size) (fun b h => bDE.block b h)
    have sB := (M4.slAt HJ.out h64).keep (S' := fun b => b < wE.heap.size) (fun b h => h.2) (fun _ _ => rfl)
    obtain ⟨g4, rfl, lg4, G4⟩ := M4
    have G4L := G4.lt
    have zE := BE.size
    have zDE := bDE.size
    clear bE
    go_wp2_with fail
    have M : Blk (wE.alloc (.cells #[.slice (some ⟨g4, 0, none⟩) ys.length ys.length, .int .i64 m1, .int .i64 m2] 53)) wE.heap.size [.slice (some ⟨g4, 0, none⟩) ys.length ys.length, .int .i64 m1, .int .i64 m2] 53 := (by repeat (first | with_reducible assumption | (with_reducible refine Blk.alloc_at ?_; next => (first | omega | (simp; done) | (simp; omega))) | (with_reducible refine Blk.set_other _ ?_ ?_; next => (first | omega | (simp; done) | (simp; omega))) | with_reducible refine Blk.alloc_old _ ?_ | with_reducible refine Blk.drew ?_ | with_reducible refine Blk.below (by assumption) ?_))
    have bEF : Below wE.heap.size wE (wE.alloc (.cells #[.slice (some ⟨g4, 0, none⟩) ys.length ys.length, .int .i64 m1, .int .i64 m2] 53)) := (by repeat (first | with_reducible exact Below.refl _ _ | with_reducible assumption | (with_reducible refine Below.setCell ?_ ?_ _; rotate_left; next => (first | omega | (simp; done) | (simp; omega) | exact Below.size (by assumption))) | (with_reducible refine Below.alloc ?_ ?_ _; rotate_left; next => (first | omega | (simp; done) | (simp; omega) | exact Below.size (by assumption))) | with_reducible refine Below.drew ?_ | with_reducible refine below_drewN ?_ _ | (with_reducible refine Below.trans ?_ (Below.mono (by assumption) ?_); rotate_left; next => (first | omega | (simp; done) | (simp; omega) | exact Below.size (by assumption)))))
    refine (iSameC _ _ _ _ _ _ xs ys (fun b => b < wE.heap.size) _ (sA.keep (fun b h => h) (fun b h => bEF.block b h)) (sB.keep (fun b h => h) (fun b h => bEF.block b h)) (fun b h => Nat.lt_of_lt_of_le h bEF.size)).mono ?_
    rintro e wF ⟨bF, ⟨f, rfl⟩ | ⟨f, rfl⟩⟩ <;> try (exfalso; exact HG.out f)
    clear f
    have bEF : Below wE.heap.size wE wF := bEF.trans (bF.mono bEF.size)
    have zEF := bEF.size
    have BF : Below w.heap.size w wF := BE.trans (bEF.mono BE.size)
    have zF := BF.size
    have K := K.below bEF; have J := J.below bEF; have G := G.below bEF; have M := M.below bF
    have GL := G.lt; have ML := M.lt
    have Kc0 := K.cell (i := 0) rfl; have Kc1 := K.cell (i := 1) rfl; have Kc2 := K.cell (i := 2) rfl; have Jc0 := J.cell (i := 0) rfl; have Jc1 := J.cell (i := 1) rfl; have Jc2 := J.cell (i := 2) rfl; have KL := K.lt; have JL := J.lt
    have sA := sA.keep (W' := wF) (S' := fun b => b < wF.heap.size) (fun b h => Nat.lt_of_lt_of_le h bEF.size) (fun b h => bEF.block b h)
    have sB := sB.keep (W' := wF) (S' := fun b => b < wF.heap.size) (fun b h => Nat.lt_of_lt_of_le h bEF.size) (fun b h => bEF.block b h)
    clear bF
    go_wp2_with fail
    refine wp_world ?_; intro w0 hb0 hh0 hz0; (try simp at hz0)
    have K : Blk w0 (w.heap.size) [va, .int .i64 n1, .int .i64 n2] 50 := Blk.of_eq (hh0 _) (by repeat (first | with_reducible assumption | (with_reducible refine Blk.alloc_at ?_; next => (first | omega | (simp; done) | (simp; omega))) | (with_reducible refine Blk.set_other _ ?_ ?_; next => (first | omega | (simp; done) | (simp; omega))) | with_reducible refine Blk.alloc_old _ ?_ | with_reducible refine Blk.drew ?_ | with_reducible refine Blk.below (by assumption) ?_))
    have KL := K.lt
    have J : Blk w0 (w.heap.size + 1) [ub, .int .i64 m1, .int .i64 m2] 50 := Blk.of_eq (hh0 _) (by repeat (first | with_reducible assumption | (with_reducible refine Blk.alloc_at ?_; next => (first | omega | (simp; done) | (simp; omega))) | (with_reducible refine Blk.set_other _ ?_ ?_; next => (first | omega | (simp; done) | (simp; omega))) | with_reducible refine Blk.alloc_old _ ?_ | with_reducible refine Blk.drew ?_ | with_reducible refine Blk.below (by assumption) ?_))
    have JL := J.lt
    have G : Blk w0 (wD.heap.size) [.slice (some ⟨g2, 0, none⟩) xs.length xs.length, .int .i64 n1, .int .i64 n2] 53 := Blk.of_eq (hh0 _) (by repeat (first | with_reducible assumption | (with_reducible refine Blk.alloc_at ?_; next => (first | omega | (simp; done) | (simp; omega))) | (with_reducible refine Blk.set_other _ ?_ ?_; next => (first | omega | (simp; done) | (simp; omega))) | with_reducible refine Blk.alloc_old _ ?_ | with_reducible refine Blk.drew ?_ | with_reducible refine Blk.below (by assumption) ?_))
    have GL := G.lt
    have M : Blk w0 (wE.heap.size) [.slice (some ⟨g4, 0, none⟩) ys.length ys.length, .int .i64 m1, .int .i64 m2] 53 := Blk.of_eq (hh0 _) (by repeat (first | with_reducible assumption | (with_reducible refine Blk.alloc_at ?_; next => (first | omega | (simp; done) | (simp; omega))) | (with_reducible refine Blk.set_other _ ?_ ?_; next => (first | omega | (simp; done) | (simp; omega))) | with_reducible refine Blk.alloc_old _ ?_ | with_reducible refine Blk.drew ?_ | with_reducible refine Blk.below (by assumption) ?_))
    have ML := M.lt
    refine wp_region_rgl 5 [Is (.agg #[.slice (some ⟨g2, 0, none⟩) xs.length xs.length, .int .i64 n1, .int .i64 n2]), Is (.agg #[va, .int .i64 n1, .int .i64 n2]), (fun r W => ∃ u, r = .agg #[u, .int .i64 n1, .int .i64 n2] ∧ SlAt 1 rI W (· < W.heap.size) u xs), Is (.bool true), Is (.bool false)] (fun _ _ _ _ _ h => h) (by kernel_rfl) (by kernel_rfl) ⟨Stab.is _, Stab.is _, (fun _ _ _ hb ⟨u, e, h⟩ => ⟨u, e, h.keep (fun b hb' => Nat.lt_of_lt_of_le hb' hb.size) (fun b hb' => hb.block b hb')⟩), Stab.is _, Stab.is _, trivial⟩ ⟨?_, ?_, ?_, ?_, ?_, trivial⟩ ?_
    · intro _ v w1 hb hd; have hz := hb.size
      have K := K.below hb
      have Kc0 := K.cell (i := 0) rfl
      have Kc1 := K.cell (i := 1) rfl
      have Kc2 := K.cell (i := 2) rfl
      have J := J.below hb
      have Jc0 := J.cell (i := 0) rfl
      have Jc1 := J.cell (i := 1) rfl
      have Jc2 := J.cell (i := 2) rfl
      have G := G.below hb
      have Gc0 := G.cell (i := 0) rfl
      have Gc1 := G.cell (i := 1) rfl
      have Gc2 := G.cell (i := 2) rfl
      have M := M.below hb
      have Mc0 := M.cell (i := 0) rfl
      have Mc1 := M.cell (i := 1) rfl
      have Mc2 := M.cell (i := 2) rfl
      clear hd; (try unfold Is at *); simp only [rgPut, rgDst, Act.put, List.getElem?_cons_zero, List.getElem?_cons_succ, Option.bind_some, List.setIfInBounds_toArray, List.set_cons_zero, List.set_cons_succ]
      go_wp2_with fail
      exact ⟨rfl, (by repeat (first | with_reducible exact Below.refl _ _ | with_reducible assumption | (with_reducible refine Below.setCell ?_ ?_ _; rotate_left; next => (first | omega | (simp; done) | (simp; omega) | exact Below.size (by assumption))) | (with_reducible refine Below.alloc ?_ ?_ _; rotate_left; next => (first | omega | (simp; done) | (simp; omega) | exact Below.size (by assumption))) | with_reducible refine Below.drew ?_ | with_reducible refine below_drewN ?_ _ | (with_reducible refine Below.trans ?_ (Below.mono (by assumption) ?_); rotate_left; next => (first | omega | (simp; done) | (simp; omega) | exact Below.size (by assumption))))), (by first | rfl | assumption)⟩
    · intro _ v w1 hb hd; have hz := hb.size
      have K := K.below hb
      have Kc0 := K.cell (i := 0) rfl
      have Kc1 := K.cell (i := 1) rfl
      have Kc2 := K.cell (i := 2) rfl
      have J := J.below hb
      have Jc0 := J.cell (i := 0) rfl
      have Jc1 := J.cell (i := 1) rfl
      have Jc2 := J.cell (i := 2) rfl
      have G := G.below hb
      have Gc0 := G.cell (i := 0) rfl
      have Gc1 := G.cell (i := 1) rfl
      have Gc2 := G.cell (i := 2) rfl
      have M := M.below hb
      have Mc0 := M.cell (i := 0) rfl
      have Mc1 := M.cell (i := 1) rfl
      have Mc2 := M.cell (i := 2) rfl
      clear hd; (try unfold Is at *); simp only [rgPut, rgDst, Act.put, List.getElem?_cons_zero, List.getElem?_cons_succ, Option.bind_some, List.setIfInBounds_toArray, List.set_cons_zero, List.set_cons_succ]
      go_wp2_with fail
      exact ⟨rfl, (by repeat (first | with_reducible exact Below.refl _ _ | with_reducible assumption | (with_reducible refine Below.setCell ?_ ?_ _; rotate_left; next => (first | omega | (simp; done) | (simp; omega) | exact Below.size (by assumption))) | (with_reducible refine Below.alloc ?_ ?_ _; rotate_left; next => (first | omega | (simp; done) | (simp; omega) | exact Below.size (by assumption))) | with_reducible refine Below.drew ?_ | with_reducible refine below_drewN ?_ _ | (with_reducible refine Below.trans ?_ (Below.mono (by assumption) ?_); rotate_left; next => (first | omega | (simp; done) | (simp; omega) | exact Below.size (by assumption))))), (by first | rfl | assumption)⟩
    · intro _ v w1 hb hd; have hz := hb.size
      have K := K.below hb
      have Kc0 := K.cell (i := 0) rfl
      have Kc1 := K.cell (i := 1) rfl
      have Kc2 := K.cell (i := 2) rfl
      have J := J.below hb
      have Jc0 := J.cell (i := 0) rfl
      have Jc1 := J.cell (i := 1) rfl
      have Jc2 := J.cell (i := 2) rfl
      have G := G.below hb
      have Gc0 := G.cell (i := 0) rfl
      have Gc1 := G.cell (i := 1) rfl
      have Gc2 := G.cell (i := 2) rfl
      have M := M.below hb
      have Mc0 := M.cell (i := 0) rfl
      have Mc1 := M.cell (i := 1) rfl
      have Mc2 := M.cell (i := 2) rfl
      have d1 : (Is (.agg #[va, .int .i64 n1, .int .i64 n2])) (v 1) w1 := hd 1 (by kernel_rfl)
      clear hd; (try unfold Is at *); simp only [rgPut, rgDst, Act.put, List.getElem?_cons_zero, List.getElem?_cons_succ, Option.bind_some, List.setIfInBounds_toArray, List.set_cons_zero, List.set_cons_succ]
      go_wp2_with fail
      (first | (go_at_call 36; (have BF : Below w.heap.size w w1 := (by repeat (first | with_reducible exact Below.refl _ _ | with_reducible assumption | (with_reducible refine Below.setCell ?_ ?_ _; rotate_left; next => (first | omega | (simp; done) | (simp; omega) | exact Below.size (by assumption))) | (with_reducible refine Below.alloc ?_ ?_ _; rotate_left; next => (first | omega | (simp; done) | (simp; omega) | exact Below.size (by assumption))) | with_reducible refine Below.drew ?_ | with_reducible refine below_drewN ?_ _ | (with_reducible refine Below.trans ?_ (Below.mono (by assumption) ?_); rotate_left; next => (first | omega | (simp; done) | (simp; omega) | exact Below.size (by assumption))))); have sv := HV.out.below (B := w.heap.size) BF (fun b h => h); have su := HU.out.below (B := w.heap.size) BF (fun b h => h); refine (toConfig_any _ _ _ _ (· < w.heap.size) _ (by assumption) (by assumption) (fun b hb => Nat.lt_of_lt_of_le hb BF.size)).mono ?_; rintro e wG ⟨_, rfl, ⟨u3, rfl, M3⟩, bG⟩; have st := (M3.slAt (by first | exact HI.out | exact HJ.out) (by assumption)).keep (S' := fun b => b < wG.heap.size) (fun b h => h.2) (fun _ _ => rfl))) | (go_at_call 38; (obtain ⟨u3, hu3, s4⟩ := d2; rw [hu3]; refine (eqConfig_any _ _ _ _ _ _ xs xs (fun b => b < w1.heap.size) _ (sA.keep (fun b h => by have h' := (hz0.symm ▸ h); exact Nat.lt_of_lt_of_le h' hb.size) (fun b h => (hb.block b ((hz0.symm ▸ h))).trans (hh0 b))) s4 (fun b h => h)).mono ?_; rintro e wH ⟨bH, ⟨_, rfl⟩ | ⟨f, _⟩⟩ <;> try (exfalso; exact f (by simp)))))
      go_wp2_with fail
      exact ⟨rfl, (by repeat (first | with_reducible exact Below.refl _ _ | with_reducible assumption | (with_reducible refine Below.setCell ?_ ?_ _; rotate_left; next => (first | omega | (simp; done) | (simp; omega) | exact Below.size (by assumption))) | (with_reducible refine Below.alloc ?_ ?_ _; rotate_left; next => (first | omega | (simp; done) | (simp; omega) | exact Below.size (by assumption))) | with_reducible refine Below.drew ?_ | with_reducible refine below_drewN ?_ _ | (with_reducible refine Below.trans ?_ (Below.mono (by assumption) ?_); rotate_left; next => (first | omega | (simp; done) | (simp; omega) | exact Below.size (by assumption))))), ⟨_, rfl, st⟩⟩
    · intro _ v w1 hb hd; have hz := hb.size
      have K := K.below hb
      have Kc0 := K.cell (i := 0) rfl
      have Kc1 := K.cell (i := 1) rfl
      have Kc2 := K.cell (i := 2) rfl
      have J := J.below hb
      have Jc0 := J.cell (i := 0) rfl
      have Jc1 := J.cell (i := 1) rfl
      have Jc2 := J.cell (i := 2) rfl
      have G := G.below hb
      have Gc0 := G.cell (i := 0) rfl
      have Gc1 := G.cell (i := 1) rfl
      have Gc2 := G.cell (i := 2) rfl
      have M := M.below hb
      have Mc0 := M.cell (i := 0) rfl
      have Mc1 := M.cell (i := 1) rfl
      have Mc2 := M.cell (i := 2) rfl
      have d0 : (Is (.agg #[.slice (some ⟨g2, 0, none⟩) xs.length xs.length, .int .i64 n1, .int .i64 n2])) (v 0) w1 := hd 0 (by kernel_rfl)
      have d2 : ((fun r W => ∃ u, r = .agg #[u, .int .i64 n1, .int .i64 n2] ∧ SlAt 1 rI W (· < W.heap.size) u xs)) (v 2) w1 := hd 2 (by kernel_rfl)
      clear hd; (try unfold Is at *); simp only [rgPut, rgDst, Act.put, List.getElem?_cons_zero, List.getElem?_cons_succ, Option.bind_some, List.setIfInBounds_toArray, List.set_cons_zero, List.set_cons_succ]
      go_wp2_with fail
      (first | (go_at_call 36; (have BF : Below w.heap.size w w1 := (by repeat (first | with_reducible exact Below.refl _ _ | with_reducible assumption | (with_reducible refine Below.setCell ?_ ?_ _; rotate_left; next => (first | omega | (simp; done) | (simp; omega) | exact Below.size (by assumption))) | (with_reducible refine Below.alloc ?_ ?_ _; rotate_left; next => (first | omega | (simp; done) | (simp; omega) | exact Below.size (by assumption))) | with_reducible refine Below.drew ?_ | with_reducible refine below_drewN ?_ _ | (with_reducible refine Below.trans ?_ (Below.mono (by assumption) ?_); rotate_left; next => (first | omega | (simp; done) | (simp; omega) | exact Below.size (by assumption))))); have sv := HV.out.below (B := w.heap.size) BF (fun b h => h); have su := HU.out.below (B := w.heap.size) BF (fun b h => h); refine (toConfig_any _ _ _ _ (· < w.heap.size) _ (by assumption) (by assumption) (fun b hb => Nat.lt_of_lt_of_le hb BF.size)).mono ?_; rintro e wG ⟨_, rfl, ⟨u3, rfl, M3⟩, bG⟩; have st := (M3.slAt (by first | exact HI.out | exact HJ.out) (by assumption)).keep (S' := fun b => b < wG.heap.size) (fun b h => h.2) (fun _ _ => rfl))) | (go_at_call 38; (obtain ⟨u3, hu3, s4⟩ := d2; rw [hu3]; refine (eqConfig_any _ _ _ _ _ _ xs xs (fun b => b < w1.heap.size) _ (sA.keep (fun b h => by have h' := (hz0.symm ▸ h); exact Nat.lt_of_lt_of_le h' hb.size) (fun b h => (hb.block b ((hz0.symm ▸ h))).trans (hh0 b))) s4 (fun b h => h)).mono ?_; rintro e wH ⟨bH, ⟨_, rfl⟩ | ⟨f, _⟩⟩ <;> try (exfalso; exact f (by simp)))))
      go_wp2_with fail
      exact ⟨rfl, (by repeat (first | with_reducible exact Below.refl _ _ | with_reducible assumption | (with_reducible refine Below.setCell ?_ ?_ _; rotate_left; next => (first | omega | (simp; done) | (simp; omega) | exact Below.size (by assumption))) | (with_reducible refine Below.alloc ?_ ?_ _; rotate_left; next => (first | omega | (simp; done) | (simp; omega) | exact Below.size (by assumption))) | with_reducible refine Below.drew ?_ | with_reducible refine below_drewN ?_ _ | (with_reducible refine Below.trans ?_ (Below.mono (by assumption) ?_); rotate_left; next => (first | omega | (simp; done) | (simp; omega) | exact Below.size (by assumption))))), (by first | rfl | assumption)⟩
    · intro _ v w1 hb hd; have hz := hb.size
      have K := K.below hb
      have Kc0 := K.cell (i := 0) rfl
      have Kc1 := K.cell (i := 1) rfl
      have Kc2 := K.cell (i := 2) rfl
      have J := J.below hb
      have Jc0 := J.cell (i := 0) rfl
      have Jc1 := J.cell (i := 1) rfl
      have Jc2 := J.cell (i := 2) rfl
      have G := G.below hb
      have Gc0 := G.cell (i := 0) rfl
      have Gc1 := G.cell (i := 1) rfl
      have Gc2 := G.cell (i := 2) rfl
      have M := M.below hb
      have Mc0 := M.cell (i := 0) rfl
      have Mc1 := M.cell (i := 1) rfl
      have Mc2 := M.cell (i := 2) rfl
      have d3 : (Is (.bool true)) (v 3) w1 := hd 3 (by kernel_rfl)
      clear hd; (try unfold Is at *); simp only [rgPut, rgDst, Act.put, List.getElem?_cons_zero, List.getElem?_cons_succ, Option.bind_some, List.setIfInBounds_toArray, List.set_cons_zero, List.set_cons_succ]
      go_wp2_with fail
      exact ⟨rfl, (by repeat (first | with_reducible exact Below.refl _ _ | with_reducible assumption | (with_reducible refine Below.setCell ?_ ?_ _; rotate_left; next => (first | omega | (simp; done) | (simp; omega) | exact Below.size (by assumption))) | (with_reducible refine Below.alloc ?_ ?_ _; rotate_left; next => (first | omega | (simp; done) | (simp; omega) | exact Below.size (by assumption))) | with_reducible refine Below.drew ?_ | with_reducible refine below_drewN ?_ _ | (with_reducible refine Below.trans ?_ (Below.mono (by assumption) ?_); rotate_left; next => (first | omega | (simp; done) | (simp; omega) | exact Below.size (by assumption))))), (by first | rfl | assumption)⟩
    intro v w1 hb hA
    have a0 : (Is (.agg #[.slice (some ⟨g2, 0, none⟩) xs.length xs.length, .int .i64 n1, .int .i64 n2])) (v 0) w1 := hA 0 (by decide)
    have a1 : (Is (.agg #[va, .int .i64 n1, .int .i64 n2])) (v 1) w1 := hA 1 (by decide)
    have a2 : ((fun r W => ∃ u, r = .agg #[u, .int .i64 n1, .int .i64 n2] ∧ SlAt 1 rI W (· < W.heap.size) u xs)) (v 2) w1 := hA 2 (by decide)
    have a3 : (Is (.bool true)) (v 3) w1 := hA 3 (by decide)
    have a4 : (Is (.bool false)) (v 4) w1 := hA 4 (by decide)
    clear hA; (try unfold Is at *); simp only [rgPut, rgDst, Act.put, List.getElem?_cons_zero, List.getElem?_cons_succ, Option.bind_some, List.setIfInBounds_toArray, List.set_cons_zero, List.set_cons_succ, List.drop_succ_cons, List.drop_nil]
    simp only [a0, a1, a3, a4]; clear a0 a1 a3 a4
    generalize v 2 = v37 at *
    have hz := hb.size
    have K := K.below hb
    have Kc0 := K.cell (i := 0) rfl
    have Kc1 := K.cell (i := 1) rfl
    have Kc2 := K.cell (i := 2) rfl
    have Kf0 := K.frozen 0
    have Kf1 := K.frozen 1
    have Kf2 := K.frozen 2
    have J := J.below hb
    have Jc0 := J.cell (i := 0) rfl
    have Jc1 := J.cell (i := 1) rfl
    have Jc2 := J.cell (i := 2) rfl
    have Jf0 := J.frozen 0
    have Jf1 := J.frozen 1
    have Jf2 := J.frozen 2
    have G := G.below hb
    have Gc0 := G.cell (i := 0) rfl
    have Gc1 := G.cell (i := 1) rfl
    have Gc2 := G.cell (i := 2) rfl
    have Gf0 := G.frozen 0
    have Gf1 := G.frozen 1
    have Gf2 := G.frozen 2
    have M := M.below hb
    have Mc0 := M.cell (i := 0) rfl
    have Mc1 := M.cell (i := 1) rfl
    have Mc2 := M.cell (i := 2) rfl
    have Mf0 := M.frozen 0
    have Mf1 := M.frozen 1
    have Mf2 := M.frozen 2
    have sB := sB.keep (W' := w1) (S' := fun b => b < w1.heap.size) (fun b h => Nat.lt_of_lt_of_le ((hz0.symm ▸ h)) hb.size) (fun b h => (hb.block b ((hz0.symm ▸ h))).trans (hh0 b))
    have BG : Below w.heap.size w w1 := (by repeat (first | with_reducible exact Below.refl _ _ | with_reducible assumption | (with_reducible refine Below.setCell ?_ ?_ _; rotate_left; next => (first | omega | (simp; done) | (simp; omega) | exact Below.size (by assumption))) | (with_reducible refine Below.alloc ?_ ?_ _; rotate_left; next => (first | omega | (simp; done) | (simp; omega) | exact Below.size (by assumption))) | with_reducible refine Below.drew ?_ | with_reducible refine below_drewN ?_ _ | (with_reducible refine Below.trans ?_ (Below.mono (by assumption) ?_); rotate_left; next => (first | omega | (simp; done) | (simp; omega) | exact Below.size (by assumption)))))
    have zG := BG.size
    go_wp2_with fail
    refine wp_world ?_; intro w0 hb0 hh0 hz0; (try simp at hz0)
    have K : Blk w0 (w.heap.size) [va, .int .i64 n1, .int .i64 n2] 50 := Blk.of_eq (hh0 _) (by repeat (first | with_reducible assumption | (with_reducible refine Blk.alloc_at ?_; next => (first | omega | (simp; done) | (simp; omega))) | (with_reducible refine Blk.set_other _ ?_ ?_; next => (first | omega | (simp; done) | (simp; omega))) | with_reducible refine Blk.alloc_old _ ?_ | with_reducible refine Blk.drew ?_ | with_reducible refine Blk.below (by assumption) ?_))
    have KL := K.lt
    have J : Blk w0 (w.heap.size + 1) [ub, .int .i64 m1, .int .i64 m2] 50 := Blk.of_eq (hh0 _) (by repeat (first | with_reducible assumption | (with_reducible refine Blk.alloc_at ?_; next => (first | omega | (simp; done) | (simp; omega))) | (with_reducible refine Blk.set_other _ ?_ ?_; next => (first | omega | (simp; done) | (simp; omega))) | with_reducible refine Blk.alloc_old _ ?_ | with_reducible refine Blk.drew ?_ | with_reducible refine Blk.below (by assumption) ?_))
    have JL := J.lt
    have G : Blk w0 (wD.heap.size) [.slice (some ⟨g2, 0, none⟩) xs.length xs.length, .int .i64 n1, .int .i64 n2] 53 := Blk.of_eq (hh0 _) (by repeat (first | with_reducible assumption | (with_reducible refine Blk.alloc_at ?_; next => (first | omega | (simp; done) | (simp; omega))) | (with_reducible refine Blk.set_other _ ?_ ?_; next => (first | omega | (simp; done) | (simp; omega))) | with_reducible refine Blk.alloc_old _ ?_ | with_reducible refine Blk.drew ?_ | with_reducible refine Blk.below (by assumption) ?_))
    have GL := G.lt
    have M : Blk w0 (wE.heap.size) [.slice (some ⟨g4, 0, none⟩) ys.length ys.length, .int .i64 m1, .int .i64 m2] 53 := Blk.of_eq (hh0 _) (by repeat (first | with_reducible assumption | (with_reducible refine Blk.alloc_at ?_; next => (first | omega | (simp; done) | (simp; omega))) | (with_reducible refine Blk.set_other _ ?_ ?_; next => (first | omega | (simp; done) | (simp; omega))) | with_reducible refine Blk.alloc_old _ ?_ | with_reducible refine Blk.drew ?_ | with_reducible refine Blk.below (by assumption) ?_))
    have ML := M.lt
    refine wp_region_rgl 5 [Is (.agg #[.slice (some ⟨g4, 0, none⟩) ys.length ys.length, .int .i64 m1, .int .i64 m2]), Is (.agg #[ub, .int .i64 m1, .int .i64 m2]), (fun r W => ∃ u, r = .agg #[u, .int .i64 m1, .int .i64 m2] ∧ SlAt 1 rI W (· < W.heap.size) u ys), Is (.bool true), Is (.bool false)] (fun _ _ _ _ _ h => h) (by kernel_rfl) (by kernel_rfl) ⟨Stab.is _, Stab.is _, (fun _ _ _ hb ⟨u, e, h⟩ => ⟨u, e, h.keep (fun b hb' => Nat.lt_of_lt_of_le hb' hb.size) (fun b hb' => hb.block b hb')⟩), Stab.is _, Stab.is _, trivial⟩ ⟨?_, ?_, ?_, ?_, ?_, trivial⟩ ?_
    · intro _ v w1 hb hd; have hz := hb.size
      have K := K.below hb
      have Kc0 := K.cell (i := 0) rfl
      have Kc1 := K.cell (i := 1) rfl
      have Kc2 := K.cell (i := 2) rfl
      have J := J.below hb
      have Jc0 := J.cell (i := 0) rfl
      have Jc1 := J.cell (i := 1) rfl
      have Jc2 := J.cell (i := 2) rfl
      have G := G.below hb
      have Gc0 := G.cell (i := 0) rfl
      have Gc1 := G.cell (i := 1) rfl
      have Gc2 := G.cell (i := 2) rfl
      have M := M.below hb
      have Mc0 := M.cell (i := 0) rfl
      have Mc1 := M.cell (i := 1) rfl
      have Mc2 := M.cell (i := 2) rfl
      clear hd; (try unfold Is at *); simp only [rgPut, rgDst, Act.put, List.getElem?_cons_zero, List.getElem?_cons_succ, Option.bind_some, List.setIfInBounds_toArray, List.set_cons_zero, List.set_cons_succ]
      go_wp2_with fail
      exact ⟨rfl, (by repeat (first | with_reducible exact Below.refl _ _ | with_reducible assumption | (with_reducible refine Below.setCell ?_ ?_ _; rotate_left; next => (first | omega | (simp; done) | (simp; omega) | exact Below.size (by assumption))) | (with_reducible refine Below.alloc ?_ ?_ _; rotate_left; next => (first | omega | (simp; done) | (simp; omega) | exact Below.size (by assumption))) | with_reducible refine Below.drew ?_ | with_reducible refine below_drewN ?_ _ | (with_reducible refine Below.trans ?_ (Below.mono (by assumption) ?_); rotate_left; next => (first | omega | (simp; done) | (simp; omega) | exact Below.size (by assumption))))), (by first | rfl | assumption)⟩
    · intro _ v w1 hb hd; have hz := hb.size
      have K := K.below hb
      have Kc0 := K.cell (i := 0) rfl
      have Kc1 := K.cell (i := 1) rfl
      have Kc2 := K.cell (i := 2) rfl
      have J := J.below hb
      have Jc0 := J.cell (i := 0) rfl
      have Jc1 := J.cell (i := 1) rfl
      have Jc2 := J.cell (i := 2) rfl
      have G := G.below hb
      have Gc0 := G.cell (i := 0) rfl
      have Gc1 := G.cell (i := 1) rfl
      have Gc2 := G.cell (i := 2) rfl
      have M := M.below hb
      have Mc0 := M.cell (i := 0) rfl
      have Mc1 := M.cell (i := 1) rfl
      have Mc2 := M.cell (i := 2) rfl
      clear hd; (try unfold Is at *); simp only [rgPut, rgDst, Act.put, List.getElem?_cons_zero, List.getElem?_cons_succ, Option.bind_some, List.setIfInBounds_toArray, List.set_cons_zero, List.set_cons_succ]
      go_wp2_with fail
      exact ⟨rfl, (by repeat (first | with_reducible exact Below.refl _ _ | with_reducible assumption | (with_reducible refine Below.setCell ?_ ?_ _; rotate_left; next => (first | omega | (simp; done) | (simp; omega) | exact Below.size (by assumption))) | (with_reducible refine Below.alloc ?_ ?_ _; rotate_left; next => (first | omega | (simp; done) | (simp; omega) | exact Below.size (by assumption))) | with_reducible refine Below.drew ?_ | with_reducible refine below_drewN ?_ _ | (with_reducible refine Below.trans ?_ (Below.mono (by assumption) ?_); rotate_left; next => (first | omega | (simp; done) | (simp; omega) | exact Below.size (by assumption))))), (by first | rfl | assumption)⟩
    · intro _ v w1 hb hd; have hz := hb.size
      have K := K.below hb
      have Kc0 := K.cell (i := 0) rfl
      have Kc1 := K.cell (i := 1) rfl
      have Kc2 := K.cell (i := 2) rfl
      have J := J.below hb
      have Jc0 := J.cell (i := 0) rfl
      have Jc1 := J.cell (i := 1) rfl
      have Jc2 := J.cell (i := 2) rfl
      have G := G.below hb
      have Gc0 := G.cell (i := 0) rfl
      have Gc1 := G.cell (i := 1) rfl
      have Gc2 := G.cell (i := 2) rfl
      have M := M.below hb
      have Mc0 := M.cell (i := 0) rfl
      have Mc1 := M.cell (i := 1) rfl
      have Mc2 := M.cell (i := 2) rfl
      have d1 : (Is (.agg #[ub, .int .i64 m1, .int .i64 m2])) (v 1) w1 := hd 1 (by kernel_rfl)
      clear hd; (try unfold Is at *); simp only [rgPut, rgDst, Act.put, List.getElem?_cons_zero, List.getElem?_cons_succ, Option.bind_some, List.setIfInBounds_toArray, List.set_cons_zero, List.set_cons_succ]
      go_wp2_with fail
      (first | (go_at_call 36; (have BF : Below w.heap.size w w1 := (by repeat (first | with_reducible exact Below.refl _ _ | with_reducible assumption | (with_reducible refine Below.setCell ?_ ?_ _; rotate_left; next => (first | omega | (simp; done) | (simp; omega) | exact Below.size (by assumption))) | (with_reducible refine Below.alloc ?_ ?_ _; rotate_left; next => (first | omega | (simp; done) | (simp; omega) | exact Below.size (by assumption))) | with_reducible refine Below.drew ?_ | with_reducible refine below_drewN ?_ _ | (with_reducible refine Below.trans ?_ (Below.mono (by assumption) ?_); rotate_left; next => (first | omega | (simp; done) | (simp; omega) | exact Below.size (by assumption))))); have sv := HV.out.below (B := w.heap.size) BF (fun b h => h); have su := HU.out.below (B := w.heap.size) BF (fun b h => h); refine (toConfig_any _ _ _ _ (· < w.heap.size) _ (by assumption) (by assumption) (fun b hb => Nat.lt_of_lt_of_le hb BF.size)).mono ?_; rintro e wG ⟨_, rfl, ⟨u3, rfl, M3⟩, bG⟩; have st := (M3.slAt (by first | exact HI.out | exact HJ.out) (by assumption)).keep (S' := fun b => b < wG.heap.size) (fun b h => h.2) (fun _ _ => rfl))) | (go_at_call 38; (obtain ⟨u3, hu3, s4⟩ := d2; rw [hu3]; refine (eqConfig_any _ _ _ _ _ _ ys ys (fun b => b < w1.heap.size) _ (sB.keep (fun b h => by have h' := (hz0.symm ▸ h); exact Nat.lt_of_lt_of_le h' hb.size) (fun b h => (hb.block b ((hz0.symm ▸ h))).trans (hh0 b))) s4 (fun b h => h)).mono ?_; rintro e wH ⟨bH, ⟨_, rfl⟩ | ⟨f, _⟩⟩ <;> try (exfalso; exact f (by simp)))))
      go_wp2_with fail
      exact ⟨rfl, (by repeat (first | with_reducible exact Below.refl _ _ | with_reducible assumption | (with_reducible refine Below.setCell ?_ ?_ _; rotate_left; next => (first | omega | (simp; done) | (simp; omega) | exact Below.size (by assumption))) | (with_reducible refine Below.alloc ?_ ?_ _; rotate_left; next => (first | omega | (simp; done) | (simp; omega) | exact Below.size (by assumption))) | with_reducible refine Below.drew ?_ | with_reducible refine below_drewN ?_ _ | (with_reducible refine Below.trans ?_ (Below.mono (by assumption) ?_); rotate_left; next => (first | omega | (simp; done) | (simp; omega) | exact Below.size (by assumption))))), ⟨_, rfl, st⟩⟩
    · intro _ v w1 hb hd; have hz := hb.size
      have K := K.below hb
      have Kc0 := K.cell (i := 0) rfl
      have Kc1 := K.cell (i := 1) rfl
      have Kc2 := K.cell (i := 2) rfl
      have J := J.below hb
      have Jc0 := J.cell (i := 0) rfl
      have Jc1 := J.cell (i := 1) rfl
      have Jc2 := J.cell (i := 2) rfl
      have G := G.below hb
      have Gc0 := G.cell (i := 0) rfl
      have Gc1 := G.cell (i := 1) rfl
      have Gc2 := G.cell (i := 2) rfl
      have M := M.below hb
      have Mc0 := M.cell (i := 0) rfl
      have Mc1 := M.cell (i := 1) rfl
      have Mc2 := M.cell (i := 2) rfl
      have d0 : (Is (.agg #[.slice (some ⟨g4, 0, none⟩) ys.length ys.length, .int .i64 m1, .int .i64 m2])) (v 0) w1 := hd 0 (by kernel_rfl)
      have d2 : ((fun r W => ∃ u, r = .agg #[u, .int .i64 m1, .int .i64 m2] ∧ SlAt 1 rI W (· < W.heap.size) u ys)) (v 2) w1 := hd 2 (by kernel_rfl)
      clear hd; (try unfold Is at *); simp only [rgPut, rgDst, Act.put, List.getElem?_cons_zero, List.getElem?_cons_succ, Option.bind_some, List.setIfInBounds_toArray, List.set_cons_zero, List.set_cons_succ]
      go_wp2_with fail
      (first | (go_at_call 36; (have BF : Below w.heap.size w w1 := (by repeat (first | with_reducible exact Below.refl _ _ | with_reducible assumption | (with_reducible refine Below.setCell ?_ ?_ _; rotate_left; next => (first | omega | (simp; done) | (simp; omega) | exact Below.size (by assumption))) | (with_reducible refine Below.alloc ?_ ?_ _; rotate_left; next => (first | omega | (simp; done) | (simp; omega) | exact Below.size (by assumption))) | with_reducible refine Below.drew ?_ | with_reducible refine below_drewN ?_ _ | (with_reducible refine Below.trans ?_ (Below.mono (by assumption) ?_); rotate_left; next => (first | omega | (simp; done) | (simp; omega) | exact Below.size (by assumption))))); have sv := HV.out.below (B := w.heap.size) BF (fun b h => h); have su := HU.out.below (B := w.heap.size) BF (fun b h => h); refine (toConfig_any _ _ _ _ (· < w.heap.size) _ (by assumption) (by assumption) (fun b hb => Nat.lt_of_lt_of_le hb BF.size)).mono ?_; rintro e wG ⟨_, rfl, ⟨u3, rfl, M3⟩, bG⟩; have st := (M3.slAt (by first | exact HI.out | exact HJ.out) (by assumption)).keep (S' := fun b => b < wG.heap.size) (fun b h => h.2) (fun _ _ => rfl))) | (go_at_call 38; (obtain ⟨u3, hu3, s4⟩ := d2; rw [hu3]; refine (eqConfig_any _ _ _ _ _ _ ys ys (fun b => b < w1.heap.size) _ (sB.keep (fun b h => by have h' := (hz0.symm ▸ h); exact Nat.lt_of_lt_of_le h' hb.size) (fun b h => (hb.block b ((hz0.symm ▸ h))).trans (hh0 b))) s4 (fun b h => h)).mono ?_; rintro e wH ⟨bH, ⟨_, rfl⟩ | ⟨f, _⟩⟩ <;> try (exfalso; exact f (by simp)))))
      go_wp2_with fail
      exact ⟨rfl, (by repeat (first | with_reducible exact Below.refl _ _ | with_reducible assumption | (with_reducible refine Below.setCell ?_ ?_ _; rotate_left; next => (first | omega | (simp; done) | (simp; omega) | exact Below.size (by assumption))) | (with_reducible refine Below.alloc ?_ ?_ _; rotate_left; next => (first | omega | (simp; done) | (simp; omega) | exact Below.size (by assumption))) | with_reducible refine Below.drew ?_ | with_reducible refine below_drewN ?_ _ | (with_reducible refine Below.trans ?_ (Below.mono (by assumption) ?_); rotate_left; next => (first | omega | (simp; done) | (simp; omega) | exact Below.size (by assumption))))), (by first | rfl | assumption)⟩
    · intro _ v w1 hb hd; have hz := hb.size
      have K := K.below hb
      have Kc0 := K.cell (i := 0) rfl
      have Kc1 := K.cell (i := 1) rfl
      have Kc2 := K.cell (i := 2) rfl
      have J := J.below hb
      have Jc0 := J.cell (i := 0) rfl
      have Jc1 := J.cell (i := 1) rfl
      have Jc2 := J.cell (i := 2) rfl
      have G := G.below hb
      have Gc0 := G.cell (i := 0) rfl
      have Gc1 := G.cell (i := 1) rfl
      have Gc2 := G.cell (i := 2) rfl
      have M := M.below hb
      have Mc0 := M.cell (i := 0) rfl
      have Mc1 := M.cell (i := 1) rfl
      have Mc2 := M.cell (i := 2) rfl
      have d3 : (Is (.bool true)) (v 3) w1 := hd 3 (by kernel_rfl)
      clear hd; (try unfold Is at *); simp only [rgPut, rgDst, Act.put, List.getElem?_cons_zero, List.getElem?_cons_succ, Option.bind_some, List.setIfInBounds_toArray, List.set_cons_zero, List.set_cons_succ]
      go_wp2_with fail
      exact ⟨rfl, (by repeat (first | with_reducible exact Below.refl _ _ | with_reducible assumption | (with_reducible refine Below.setCell ?_ ?_ _; rotate_left; next => (first | omega | (simp; done) | (simp; omega) | exact Below.size (by assumption))) | (with_reducible refine Below.alloc ?_ ?_ _; rotate_left; next => (first | omega | (simp; done) | (simp; omega) | exact Below.size (by assumption))) | with_reducible refine Below.drew ?_ | with_reducible refine below_drewN ?_ _ | (with_reducible refine Below.trans ?_ (Below.mono (by assumption) ?_); rotate_left; next => (first | omega | (simp; done) | (simp; omega) | exact Below.size (by assumption))))), (by first | rfl | assumption)⟩
    intro v w1 hb hA
    have a0 : (Is (.agg #[.slice (some ⟨g4, 0, none⟩) ys.length ys.length, .int .i64 m1, .int .i64 m2])) (v 0) w1 := hA 0 (by decide)
    have a1 : (Is (.agg #[ub, .int .i64 m1, .int .i64 m2])) (v 1) w1 := hA 1 (by decide)
    have a2 : ((fun r W => ∃ u, r = .agg #[u, .int .i64 m1, .int .i64 m2] ∧ SlAt 1 rI W (· < W.heap.size) u ys)) (v 2) w1 := hA 2 (by decide)
    have a3 : (Is (.bool true)) (v 3) w1 := hA 3 (by decide)
    have a4 : (Is (.bool false)) (v 4) w1 := hA 4 (by decide)
    clear hA; (try unfold Is at *); simp only [rgPut, rgDst, Act.put, List.getElem?_cons_zero, List.getElem?_cons_succ, Option.bind_some, List.setIfInBounds_toArray, List.set_cons_zero, List.set_cons_succ, List.drop_succ_cons, List.drop_nil]
    simp only [a0, a1, a3, a4]; clear a0 a1 a3 a4
    generalize v 2 = v42 at *
    have hz := hb.size
    have K := K.below hb
    have Kc0 := K.cell (i := 0) rfl
    have Kc1 := K.cell (i := 1) rfl
    have Kc2 := K.cell (i := 2) rfl
    have Kf0 := K.frozen 0
    have Kf1 := K.frozen 1
    have Kf2 := K.frozen 2
    have J := J.below hb
    have Jc0 := J.cell (i := 0) rfl
    have Jc1 := J.cell (i := 1) rfl
    have Jc2 := J.cell (i := 2) rfl
    have Jf0 := J.frozen 0
    have Jf1 := J.frozen 1
    have Jf2 := J.frozen 2
    have G := G.below hb
    have Gc0 := G.cell (i := 0) rfl
    have Gc1 := G.cell (i := 1) rfl
    have Gc2 := G.cell (i := 2) rfl
    have Gf0 := G.frozen 0
    have Gf1 := G.frozen 1
    have Gf2 := G.frozen 2
    have M := M.below hb
    have Mc0 := M.cell (i := 0) rfl
    have Mc1 := M.cell (i := 1) rfl
    have Mc2 := M.cell (i := 2) rfl
    have Mf0 := M.frozen 0
    have Mf1 := M.frozen 1
    have Mf2 := M.frozen 2
    go_wp2
    go_ret
    exact ⟨rfl, (by repeat (first | with_reducible exact Below.refl _ _ | with_reducible assumption | (with_reducible refine Below.setCell ?_ ?_ _; rotate_left; next => (first | omega | (simp; done) | (simp; omega) | exact Below.size (by assumption))) | (with_reducible refine Below.alloc ?_ ?_ _; rotate_left; next => (first | omega | (simp; done) | (simp; omega) | exact Below.size (by assumption))) | with_reducible refine Below.drew ?_ | with_reducible refine below_drewN ?_ _ | (with_reducible refine Below.trans ?_ (Below.mono (by assumption) ?_); rotate_left; next => (first | omega | (simp; done) | (simp; omega) | exact Below.size (by assumption)))))⟩
end Go.Proofs.Ytghecnlgainfkaa
