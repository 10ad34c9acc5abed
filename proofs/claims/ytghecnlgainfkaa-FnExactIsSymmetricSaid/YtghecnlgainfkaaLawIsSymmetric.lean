/- The law on IsSymmetric: the walk. -/
import Derived.Test.YtghecnlgainfkaaSymm
namespace Go.Proofs.Ytghecnlgainfkaa
open Go.RowKit
set_option maxHeartbeats 4000000 in
theorem law_IsSymmetric (n0 : Int) (v : Value) (xs : List Int) (w : World) (hv : SlAt 1 rI w (· < w.heap.size) v xs) :
    Calls Try.prog 13 #[.agg #[.int .i64 n0, v]] w (Ret (.bool true) w) := by
  have h63 := hv.le
  have HI := Lib.hid hv.inI64
  have HV := Lib.hid hv
  obtain ⟨a, cap, rfl⟩ := hv.len
  clear hv
  by_cases hlen : xs.length ≤ 1048576
  case neg =>
    have e : szI 1048576 xs.length = -1 := by unfold szI; rw [if_pos (by omega)]
    have E := Lib.hid e; clear e
    go_enter Try.func13, Try.ntmps13
    go_wp2_with fail
    refine (szRule_any _ _ xs 1048576 _ _ (HV.out.below (B := w.heap.size) (by repeat (first | with_reducible exact Below.refl _ _ | with_reducible assumption | (with_reducible refine Below.setCell ?_ ?_ _; rotate_left; next => (first | omega | (simp; done) | (simp; omega) | exact Below.size (by assumption))) | (with_reducible refine Below.alloc ?_ ?_ _; rotate_left; next => (first | omega | (simp; done) | (simp; omega) | exact Below.size (by assumption))) | with_reducible refine Below.drew ?_ | with_reducible refine below_drewN ?_ _ | (with_reducible refine Below.trans ?_ (Below.mono (by assumption) ?_); rotate_left; next => (first | omega | (simp; done) | (simp; omega) | exact Below.size (by assumption))))) (fun b h => h)) (fun b hb => by (first | omega | (simp; done) | (simp; omega))) (by omega)).mono ?_
    rintro e wA ⟨rfl, bA⟩
    rw [E.out]
    go_wp2
    go_ret
    exact ⟨rfl, (by repeat (first | with_reducible exact Below.refl _ _ | with_reducible assumption | (with_reducible refine Below.setCell ?_ ?_ _; rotate_left; next => (first | omega | (simp; done) | (simp; omega) | exact Below.size (by assumption))) | (with_reducible refine Below.alloc ?_ ?_ _; rotate_left; next => (first | omega | (simp; done) | (simp; omega) | exact Below.size (by assumption))) | with_reducible refine Below.drew ?_ | with_reducible refine below_drewN ?_ _ | (with_reducible refine Below.trans ?_ (Below.mono (by assumption) ?_); rotate_left; next => (first | omega | (simp; done) | (simp; omega) | exact Below.size (by assumption)))))⟩
  have e0 : szI 1048576 xs.length = 1048576 - xs.length := by unfold szI; rw [if_neg (by omega)]
  rcases szI_or 1048576 xs.length with e1 | _
  · exfalso; omega
  have q0 : 0 ≤ szI 1048576 xs.length := by omega
  clear e0
  generalize szI 1048576 xs.length = r0 at q0
  by_cases g : Sy n0 xs
  · have HG := Lib.hid g; clear g
    go_enter Try.func13, Try.ntmps13
    go_wp2_with fail
    refine (szRule_any _ _ xs 1048576 _ _ (HV.out.below (B := w.heap.size) (by repeat (first | with_reducible exact Below.refl _ _ | with_reducible assumption | (with_reducible refine Below.setCell ?_ ?_ _; rotate_left; next => (first | omega | (simp; done) | (simp; omega) | exact Below.size (by assumption))) | (with_reducible refine Below.alloc ?_ ?_ _; rotate_left; next => (first | omega | (simp; done) | (simp; omega) | exact Below.size (by assumption))) | with_reducible refine Below.drew ?_ | with_reducible refine below_drewN ?_ _ | (with_reducible refine Below.trans ?_ (Below.mono (by assumption) ?_); rotate_left; next => (first | omega | (simp; done) | (simp; omega) | exact Below.size (by assumption))))) (fun b h => h)) (fun b hb => by (first | omega | (simp; done) | (simp; omega))) (by omega)).mono ?_
    rintro e wA ⟨rfl, bA⟩
    have BA : Below w.heap.size w wA := (by repeat (first | with_reducible exact Below.refl _ _ | with_reducible assumption | (with_reducible refine Below.setCell ?_ ?_ _; rotate_left; next => (first | omega | (simp; done) | (simp; omega) | exact Below.size (by assumption))) | (with_reducible refine Below.alloc ?_ ?_ _; rotate_left; next => (first | omega | (simp; done) | (simp; omega) | exact Below.size (by assumption))) | with_reducible refine Below.drew ?_ | with_reducible refine below_drewN ?_ _ | (with_reducible refine Below.trans ?_ (Below.mono (by assumption) ?_); rotate_left; next => (first | omega | (simp; done) | (simp; omega) | exact Below.size (by assumption)))))
    have K := (Blk.alloc_at (t := 69) (w := w) (l := [.int .i64 n0, .slice a xs.length cap]) rfl).below bA
    have Kc0 := K.cell (i := 0) rfl; have Kc1 := K.cell (i := 1) rfl; have KL := K.lt
    clear bA
    go_wp2_with fail
    refine (toRule_any _ _ xs _ _ (HV.out.below (B := w.heap.size) BA (fun b h => h)) hlen (fun b hb => Nat.lt_of_lt_of_le hb BA.size)).mono ?_
    rintro e wB ⟨_, rfl, ⟨u1, rfl, M1⟩, bB⟩
    have BB : Below w.heap.size w wB := BA.trans (bB.mono BA.size)
    have K := K.below bB
    have Kc0 := K.cell (i := 0) rfl; have Kc1 := K.cell (i := 1) rfl; have KL := K.lt
    go_wp2_with fail
    refine (sSymm _ _ xs _ _ (M1.slAt HI.out h63) (fun b h => h.2)).mono ?_
    rintro e wC ⟨bC, ⟨f, rfl⟩ | ⟨f, rfl⟩⟩
    case inr => exact absurd HG.out f
    have BC : Below w.heap.size w wC := BB.trans (bC.mono BB.size)
    have K := K.below bC
    have Kc0 := K.cell (i := 0) rfl; have Kc1 := K.cell (i := 1) rfl; have KL := K.lt
    clear bB bC M1 f
    go_wp2_with fail
    refine (toRule_any _ _ xs _ _ (HV.out.below (B := w.heap.size) BC (fun b h => h)) hlen (fun b hb => Nat.lt_of_lt_of_le hb BC.size)).mono ?_
    rintro e wD ⟨_, rfl, ⟨u2, rfl, M2⟩, bD⟩
    have BD : Below w.heap.size w wD := BC.trans (bD.mono BC.size)
    have K := K.below bD
    have Kc0 := K.cell (i := 0) rfl; have Kc1 := K.cell (i := 1) rfl; have KL := K.lt
    obtain ⟨g2, rfl, lg2, G2⟩ := M2
    have G2L := G2.lt
    clear bD
    go_wp2_with fail
    have s2 : SlAt 1 rI (wD.alloc (.cells #[.int .i64 n0, .slice (some ⟨g2, 0, none⟩) xs.length xs.length] 72)) (fun b => b < wD.heap.size) (.slice (some ⟨g2, 0, none⟩) xs.length xs.length) xs :=
      (Made.slAt (lo := 0) HI.out h63 ⟨g2, rfl, Nat.zero_le _, G2⟩).keep (fun b h => h.2) (fun b h => (Below.refl _ _ |>.alloc (Nat.le_refl _) _ |>.block b h.2))
    refine (iSymm _ _ xs _ _ s2 (fun b h => by simp; omega)).mono ?_
    rintro e wE ⟨bE, ⟨f, rfl⟩ | ⟨f, rfl⟩⟩
    case inr => exact absurd HG.out f
    have bDE : Below wD.heap.size wD wE := (by repeat (first | with_reducible exact Below.refl _ _ | with_reducible assumption | (with_reducible refine Below.setCell ?_ ?_ _; rotate_left; next => (first | omega | (simp; done) | (simp; omega) | exact Below.size (by assumption))) | (with_reducible refine Below.alloc ?_ ?_ _; rotate_left; next => (first | omega | (simp; done) | (simp; omega) | exact Below.size (by assumption))) | with_reducible refine Below.drew ?_ | with_reducible refine below_drewN ?_ _ | (with_reducible refine Below.trans ?_ (Below.mono (by assumption) ?_); rotate_left; next => (first | omega | (simp; done) | (simp; omega) | exact Below.size (by assumption)))))
    have s3 := s2.keep (W' := wE) (S' := fun b => b < wD.heap.size) (fun b h => h) (fun b h => bE.block b (by simp; omega))
    have BE : Below w.heap.size w wE := BD.trans (bDE.mono BD.size)
    have K := K.below bDE
    have J := (Blk.alloc_at (t := 72) (w := wD) (l := [.int .i64 n0, .slice (some ⟨g2, 0, none⟩) xs.length xs.length]) rfl).below bE
    have Kc0 := K.cell (i := 0) rfl; have Kc1 := K.cell (i := 1) rfl; have Jc0 := J.cell (i := 0) rfl; have Jc1 := J.cell (i := 1) rfl; have KL := K.lt; have JL := J.lt
    have GE := (G2.below bDE).lt
    have hDE := bDE.size
    clear f s2 bE G2
    go_wp2_with fail
    refine wp_world ?_; intro w0 hb0 hh0 hz0; (try simp at hz0)
    have K : Blk w0 (w.heap.size) [.int .i64 n0, .slice a xs.length cap] 69 := Blk.of_eq (hh0 _) (by repeat (first | with_reducible assumption | (with_reducible refine Blk.alloc_at ?_; next => (first | omega | (simp; done) | (simp; omega))) | (with_reducible refine Blk.set_other _ ?_ ?_; next => (first | omega | (simp; done) | (simp; omega))) | with_reducible refine Blk.alloc_old _ ?_ | with_reducible refine Blk.drew ?_ | with_reducible refine Blk.below (by assumption) ?_))
    have KL := K.lt
    have J : Blk w0 (wD.heap.size) [.int .i64 n0, .slice (some ⟨g2, 0, none⟩) xs.length xs.length] 72 := Blk.of_eq (hh0 _) (by repeat (first | with_reducible assumption | (with_reducible refine Blk.alloc_at ?_; next => (first | omega | (simp; done) | (simp; omega))) | (with_reducible refine Blk.set_other _ ?_ ?_; next => (first | omega | (simp; done) | (simp; omega))) | with_reducible refine Blk.alloc_old _ ?_ | with_reducible refine Blk.drew ?_ | with_reducible refine Blk.below (by assumption) ?_))
    have JL := J.lt
    refine wp_region_rgl 5 [Is (.agg #[.int .i64 n0, .slice (some ⟨g2, 0, none⟩) xs.length xs.length]), Is (.agg #[.int .i64 n0, .slice a xs.length cap]), (fun r W => ∃ u, r = .agg #[.int .i64 n0, u] ∧ SlAt 1 rI W (· < W.heap.size) u xs), Is (.bool true), Is (.bool false)] (fun _ _ _ _ _ h => h) (by kernel_rfl) (by kernel_rfl) ⟨Stab.is _, Stab.is _, (fun _ _ _ hb ⟨u, e, h⟩ => ⟨u, e, h.keep (fun b hb' => Nat.lt_of_lt_of_le hb' hb.size) (fun b hb' => hb.block b hb')⟩), Stab.is _, Stab.is _, trivial⟩ ⟨?_, ?_, ?_, ?_, ?_, trivial⟩ ?_
    · intro _ v w1 hb hd; have hz := hb.size
      have K := K.below hb
      have Kc0 := K.cell (i := 0) rfl
      have Kc1 := K.cell (i := 1) rfl
      have J := J.below hb
      have Jc0 := J.cell (i := 0) rfl
      have Jc1 := J.cell (i := 1) rfl
      clear hd; (try unfold Is at *); simp only [rgPut, rgDst, Act.put, List.getElem?_cons_zero, List.getElem?_cons_succ, Option.bind_some, List.setIfInBounds_toArray, List.set_cons_zero, List.set_cons_succ]
      go_wp2_with fail
      exact ⟨rfl, (by repeat (first | with_reducible exact Below.refl _ _ | with_reducible assumption | (with_reducible refine Below.setCell ?_ ?_ _; rotate_left; next => (first | omega | (simp; done) | (simp; omega) | exact Below.size (by assumption))) | (with_reducible refine Below.alloc ?_ ?_ _; rotate_left; next => (first | omega | (simp; done) | (simp; omega) | exact Below.size (by assumption))) | with_reducible refine Below.drew ?_ | with_reducible refine below_drewN ?_ _ | (with_reducible refine Below.trans ?_ (Below.mono (by assumption) ?_); rotate_left; next => (first | omega | (simp; done) | (simp; omega) | exact Below.size (by assumption))))), (by first | rfl | assumption)⟩
    · intro _ v w1 hb hd; have hz := hb.size
      have K := K.below hb
      have Kc0 := K.cell (i := 0) rfl
      have Kc1 := K.cell (i := 1) rfl
      have J := J.below hb
      have Jc0 := J.cell (i := 0) rfl
      have Jc1 := J.cell (i := 1) rfl
      clear hd; (try unfold Is at *); simp only [rgPut, rgDst, Act.put, List.getElem?_cons_zero, List.getElem?_cons_succ, Option.bind_some, List.setIfInBounds_toArray, List.set_cons_zero, List.set_cons_succ]
      go_wp2_with fail
      exact ⟨rfl, (by repeat (first | with_reducible exact Below.refl _ _ | with_reducible assumption | (with_reducible refine Below.setCell ?_ ?_ _; rotate_left; next => (first | omega | (simp; done) | (simp; omega) | exact Below.size (by assumption))) | (with_reducible refine Below.alloc ?_ ?_ _; rotate_left; next => (first | omega | (simp; done) | (simp; omega) | exact Below.size (by assumption))) | with_reducible refine Below.drew ?_ | with_reducible refine below_drewN ?_ _ | (with_reducible refine Below.trans ?_ (Below.mono (by assumption) ?_); rotate_left; next => (first | omega | (simp; done) | (simp; omega) | exact Below.size (by assumption))))), (by first | rfl | assumption)⟩
    · intro _ v w1 hb hd; have hz := hb.size
      have K := K.below hb
      have Kc0 := K.cell (i := 0) rfl
      have Kc1 := K.cell (i := 1) rfl
      have J := J.below hb
      have Jc0 := J.cell (i := 0) rfl
      have Jc1 := J.cell (i := 1) rfl
      have d1 : (Is (.agg #[.int .i64 n0, .slice a xs.length cap])) (v 1) w1 := hd 1 (by kernel_rfl)
      clear hd; (try unfold Is at *); simp only [rgPut, rgDst, Act.put, List.getElem?_cons_zero, List.getElem?_cons_succ, Option.bind_some, List.setIfInBounds_toArray, List.set_cons_zero, List.set_cons_succ]
      go_wp2_with fail
      (first | (go_at_call 50; (have BF : Below w.heap.size w w1 := (by repeat (first | with_reducible exact Below.refl _ _ | with_reducible assumption | (with_reducible refine Below.setCell ?_ ?_ _; rotate_left; next => (first | omega | (simp; done) | (simp; omega) | exact Below.size (by assumption))) | (with_reducible refine Below.alloc ?_ ?_ _; rotate_left; next => (first | omega | (simp; done) | (simp; omega) | exact Below.size (by assumption))) | with_reducible refine Below.drew ?_ | with_reducible refine below_drewN ?_ _ | (with_reducible refine Below.trans ?_ (Below.mono (by assumption) ?_); rotate_left; next => (first | omega | (simp; done) | (simp; omega) | exact Below.size (by assumption))))); refine (toRule_any _ _ xs _ _ (HV.out.below (B := w.heap.size) BF (fun b h => h)) hlen (fun b hb => Nat.lt_of_lt_of_le hb BF.size)).mono ?_; rintro e wG ⟨_, rfl, ⟨u3, rfl, M3⟩, bG⟩; have st := (M3.slAt HI.out h63).keep (S' := fun b => b < wG.heap.size) (fun b h => h.2) (fun _ _ => rfl))) | (go_at_call 52; (obtain ⟨u3, hu3, s4⟩ := d2; rw [hu3]; have hEF : wE.heap.size ≤ w0.heap.size := (by omega); have sEq : ∀ b : Nat, b < wE.heap.size → w1.heap[b]? = wE.heap[b]? := fun b h => (hb.block b (by omega)).trans (hh0 b); refine (eqRule_any _ _ _ _ xs xs (fun b => b < w1.heap.size) _ (s3.keep (fun b h => by have h' : b < wD.heap.size := h; omega) (fun b h => sEq b (by have h' : b < wD.heap.size := h; omega))) s4 (fun b h => h)).mono ?_; rintro e wH ⟨bH, ⟨_, rfl⟩ | ⟨f, _⟩⟩ <;> try (exfalso; exact f (by simp)))))
      go_wp2_with fail
      exact ⟨rfl, (by repeat (first | with_reducible exact Below.refl _ _ | with_reducible assumption | (with_reducible refine Below.setCell ?_ ?_ _; rotate_left; next => (first | omega | (simp; done) | (simp; omega) | exact Below.size (by assumption))) | (with_reducible refine Below.alloc ?_ ?_ _; rotate_left; next => (first | omega | (simp; done) | (simp; omega) | exact Below.size (by assumption))) | with_reducible refine Below.drew ?_ | with_reducible refine below_drewN ?_ _ | (with_reducible refine Below.trans ?_ (Below.mono (by assumption) ?_); rotate_left; next => (first | omega | (simp; done) | (simp; omega) | exact Below.size (by assumption))))), ⟨_, rfl, st⟩⟩
    · intro _ v w1 hb hd; have hz := hb.size
      have K := K.below hb
      have Kc0 := K.cell (i := 0) rfl
      have Kc1 := K.cell (i := 1) rfl
      have J := J.below hb
      have Jc0 := J.cell (i := 0) rfl
      have Jc1 := J.cell (i := 1) rfl
      have d0 : (Is (.agg #[.int .i64 n0, .slice (some ⟨g2, 0, none⟩) xs.length xs.length])) (v 0) w1 := hd 0 (by kernel_rfl)
      have d2 : ((fun r W => ∃ u, r = .agg #[.int .i64 n0, u] ∧ SlAt 1 rI W (· < W.heap.size) u xs)) (v 2) w1 := hd 2 (by kernel_rfl)
      clear hd; (try unfold Is at *); simp only [rgPut, rgDst, Act.put, List.getElem?_cons_zero, List.getElem?_cons_succ, Option.bind_some, List.setIfInBounds_toArray, List.set_cons_zero, List.set_cons_succ]
      go_wp2_with fail
      (first | (go_at_call 50; (have BF : Below w.heap.size w w1 := (by repeat (first | with_reducible exact Below.refl _ _ | with_reducible assumption | (with_reducible refine Below.setCell ?_ ?_ _; rotate_left; next => (first | omega | (simp; done) | (simp; omega) | exact Below.size (by assumption))) | (with_reducible refine Below.alloc ?_ ?_ _; rotate_left; next => (first | omega | (simp; done) | (simp; omega) | exact Below.size (by assumption))) | with_reducible refine Below.drew ?_ | with_reducible refine below_drewN ?_ _ | (with_reducible refine Below.trans ?_ (Below.mono (by assumption) ?_); rotate_left; next => (first | omega | (simp; done) | (simp; omega) | exact Below.size (by assumption))))); refine (toRule_any _ _ xs _ _ (HV.out.below (B := w.heap.size) BF (fun b h => h)) hlen (fun b hb => Nat.lt_of_lt_of_le hb BF.size)).mono ?_; rintro e wG ⟨_, rfl, ⟨u3, rfl, M3⟩, bG⟩; have st := (M3.slAt HI.out h63).keep (S' := fun b => b < wG.heap.size) (fun b h => h.2) (fun _ _ => rfl))) | (go_at_call 52; (obtain ⟨u3, hu3, s4⟩ := d2; rw [hu3]; have hEF : wE.heap.size ≤ w0.heap.size := (by omega); have sEq : ∀ b : Nat, b < wE.heap.size → w1.heap[b]? = wE.heap[b]? := fun b h => (hb.block b (by omega)).trans (hh0 b); refine (eqRule_any _ _ _ _ xs xs (fun b => b < w1.heap.size) _ (s3.keep (fun b h => by have h' : b < wD.heap.size := h; omega) (fun b h => sEq b (by have h' : b < wD.heap.size := h; omega))) s4 (fun b h => h)).mono ?_; rintro e wH ⟨bH, ⟨_, rfl⟩ | ⟨f, _⟩⟩ <;> try (exfalso; exact f (by simp)))))
      go_wp2_with fail
      exact ⟨rfl, (by repeat (first | with_reducible exact Below.refl _ _ | with_reducible assumption | (with_reducible refine Below.setCell ?_ ?_ _; rotate_left; next => (first | omega | (simp; done) | (simp; omega) | exact Below.size (by assumption))) | (with_reducible refine Below.alloc ?_ ?_ _; rotate_left; next => (first | omega | (simp; done) | (simp; omega) | exact Below.size (by assumption))) | with_reducible refine Below.drew ?_ | with_reducible refine below_drewN ?_ _ | (with_reducible refine Below.trans ?_ (Below.mono (by assumption) ?_); rotate_left; next => (first | omega | (simp; done) | (simp; omega) | exact Below.size (by assumption))))), (by first | rfl | assumption)⟩
    · intro _ v w1 hb hd; have hz := hb.size
      have K := K.below hb
      have Kc0 := K.cell (i := 0) rfl
      have Kc1 := K.cell (i := 1) rfl
      have J := J.below hb
      have Jc0 := J.cell (i := 0) rfl
      have Jc1 := J.cell (i := 1) rfl
      have d3 : (Is (.bool true)) (v 3) w1 := hd 3 (by kernel_rfl)
      clear hd; (try unfold Is at *); simp only [rgPut, rgDst, Act.put, List.getElem?_cons_zero, List.getElem?_cons_succ, Option.bind_some, List.setIfInBounds_toArray, List.set_cons_zero, List.set_cons_succ]
      go_wp2_with fail
      exact ⟨rfl, (by repeat (first | with_reducible exact Below.refl _ _ | with_reducible assumption | (with_reducible refine Below.setCell ?_ ?_ _; rotate_left; next => (first | omega | (simp; done) | (simp; omega) | exact Below.size (by assumption))) | (with_reducible refine Below.alloc ?_ ?_ _; rotate_left; next => (first | omega | (simp; done) | (simp; omega) | exact Below.size (by assumption))) | with_reducible refine Below.drew ?_ | with_reducible refine below_drewN ?_ _ | (with_reducible refine Below.trans ?_ (Below.mono (by assumption) ?_); rotate_left; next => (first | omega | (simp; done) | (simp; omega) | exact Below.size (by assumption))))), (by first | rfl | assumption)⟩
    intro v w1 hb hA
    have a0 : (Is (.agg #[.int .i64 n0, .slice (some ⟨g2, 0, none⟩) xs.length xs.length])) (v 0) w1 := hA 0 (by decide)
    have a1 : (Is (.agg #[.int .i64 n0, .slice a xs.length cap])) (v 1) w1 := hA 1 (by decide)
    have a2 : ((fun r W => ∃ u, r = .agg #[.int .i64 n0, u] ∧ SlAt 1 rI W (· < W.heap.size) u xs)) (v 2) w1 := hA 2 (by decide)
    have a3 : (Is (.bool true)) (v 3) w1 := hA 3 (by decide)
    have a4 : (Is (.bool false)) (v 4) w1 := hA 4 (by decide)
    clear hA; (try unfold Is at *); simp only [rgPut, rgDst, Act.put, List.getElem?_cons_zero, List.getElem?_cons_succ, Option.bind_some, List.setIfInBounds_toArray, List.set_cons_zero, List.set_cons_succ, List.drop_succ_cons, List.drop_nil]
    simp only [a0, a1, a3, a4]; clear a0 a1 a3 a4
    generalize v 2 = v24 at *
    have hz := hb.size
    have K := K.below hb
    have Kc0 := K.cell (i := 0) rfl
    have Kc1 := K.cell (i := 1) rfl
    have Kf0 := K.frozen 0
    have Kf1 := K.frozen 1
    have J := J.below hb
    have Jc0 := J.cell (i := 0) rfl
    have Jc1 := J.cell (i := 1) rfl
    have Jf0 := J.frozen 0
    have Jf1 := J.frozen 1
    go_wp2
    go_ret
    exact ⟨rfl, (by repeat (first | with_reducible exact Below.refl _ _ | with_reducible assumption | (with_reducible refine Below.setCell ?_ ?_ _; rotate_left; next => (first | omega | (simp; done) | (simp; omega) | exact Below.size (by assumption))) | (with_reducible refine Below.alloc ?_ ?_ _; rotate_left; next => (first | omega | (simp; done) | (simp; omega) | exact Below.size (by assumption))) | with_reducible refine Below.drew ?_ | with_reducible refine below_drewN ?_ _ | (with_reducible refine Below.trans ?_ (Below.mono (by assumption) ?_); rotate_left; next => (first | omega | (simp; done) | (simp; omega) | exact Below.size (by assumption)))))⟩
  · have HG := Lib.hid g; clear g
    go_enter Try.func13, Try.ntmps13
    go_wp2_with fail
    refine (szRule_any _ _ xs 1048576 _ _ (HV.out.below (B := w.heap.size) (by repeat (first | with_reducible exact Below.refl _ _ | with_reducible assumption | (with_reducible refine Below.setCell ?_ ?_ _; rotate_left; next => (first | omega | (simp; done) | (simp; omega) | exact Below.size (by assumption))) | (with_reducible refine Below.alloc ?_ ?_ _; rotate_left; next => (first | omega | (simp; done) | (simp; omega) | exact Below.size (by assumption))) | with_reducible refine Below.drew ?_ | with_reducible refine below_drewN ?_ _ | (with_reducible refine Below.trans ?_ (Below.mono (by assumption) ?_); rotate_left; next => (first | omega | (simp; done) | (simp; omega) | exact Below.size (by assumption))))) (fun b h => h)) (fun b hb => by (first | omega | (simp; done) | (simp; omega))) (by omega)).mono ?_
    rintro e wA ⟨rfl, bA⟩
    have BA : Below w.heap.size w wA := (by repeat (first | with_reducible exact Below.refl _ _ | with_reducible assumption | (with_reducible refine Below.setCell ?_ ?_ _; rotate_left; next => (first | omega | (simp; done) | (simp; omega) | exact Below.size (by assumption))) | (with_reducible refine Below.alloc ?_ ?_ _; rotate_left; next => (first | omega | (simp; done) | (simp; omega) | exact Below.size (by assumption))) | with_reducible refine Below.drew ?_ | with_reducible refine below_drewN ?_ _ | (with_reducible refine Below.trans ?_ (Below.mono (by assumption) ?_); rotate_left; next => (first | omega | (simp; done) | (simp; omega) | exact Below.size (by assumption)))))
    have K := (Blk.alloc_at (t := 69) (w := w) (l := [.int .i64 n0, .slice a xs.length cap]) rfl).below bA
    have Kc0 := K.cell (i := 0) rfl; have Kc1 := K.cell (i := 1) rfl; have KL := K.lt
    clear bA
    go_wp2_with fail
    refine (toRule_any _ _ xs _ _ (HV.out.below (B := w.heap.size) BA (fun b h => h)) hlen (fun b hb => Nat.lt_of_lt_of_le hb BA.size)).mono ?_
    rintro e wB ⟨_, rfl, ⟨u1, rfl, M1⟩, bB⟩
    have BB : Below w.heap.size w wB := BA.trans (bB.mono BA.size)
    have K := K.below bB
    have Kc0 := K.cell (i := 0) rfl; have Kc1 := K.cell (i := 1) rfl; have KL := K.lt
    go_wp2_with fail
    refine (sSymm _ _ xs _ _ (M1.slAt HI.out h63) (fun b h => h.2)).mono ?_
    rintro e wC ⟨bC, ⟨f, rfl⟩ | ⟨f, rfl⟩⟩
    case inl => exact absurd f HG.out
    have BC : Below w.heap.size w wC := BB.trans (bC.mono BB.size)
    have K := K.below bC
    have Kc0 := K.cell (i := 0) rfl; have Kc1 := K.cell (i := 1) rfl; have KL := K.lt
    clear bB bC M1 f
    go_wp2_with fail
    refine (toRule_any _ _ xs _ _ (HV.out.below (B := w.heap.size) BC (fun b h => h)) hlen (fun b hb => Nat.lt_of_lt_of_le hb BC.size)).mono ?_
    rintro e wD ⟨_, rfl, ⟨u2, rfl, M2⟩, bD⟩
    have BD : Below w.heap.size w wD := BC.trans (bD.mono BC.size)
    have K := K.below bD
    have Kc0 := K.cell (i := 0) rfl; have Kc1 := K.cell (i := 1) rfl; have KL := K.lt
    obtain ⟨g2, rfl, lg2, G2⟩ := M2
    have G2L := G2.lt
    clear bD
    go_wp2_with fail
    have s2 : SlAt 1 rI (wD.alloc (.cells #[.int .i64 n0, .slice (some ⟨g2, 0, none⟩) xs.length xs.length] 72)) (fun b => b < wD.heap.size) (.slice (some ⟨g2, 0, none⟩) xs.length xs.length) xs :=
      (Made.slAt (lo := 0) HI.out h63 ⟨g2, rfl, Nat.zero_le _, G2⟩).keep (fun b h => h.2) (fun b h => (Below.refl _ _ |>.alloc (Nat.le_refl _) _ |>.block b h.2))
    refine (iSymm _ _ xs _ _ s2 (fun b h => by simp; omega)).mono ?_
    rintro e wE ⟨bE, ⟨f, rfl⟩ | ⟨f, rfl⟩⟩
    case inl => exact absurd f HG.out
    have bDE : Below wD.heap.size wD wE := (by repeat (first | with_reducible exact Below.refl _ _ | with_reducible assumption | (with_reducible refine Below.setCell ?_ ?_ _; rotate_left; next => (first | omega | (simp; done) | (simp; omega) | exact Below.size (by assumption))) | (with_reducible refine Below.alloc ?_ ?_ _; rotate_left; next => (first | omega | (simp; done) | (simp; omega) | exact Below.size (by assumption))) | with_reducible refine Below.drew ?_ | with_reducible refine below_drewN ?_ _ | (with_reducible refine Below.trans ?_ (Below.mono (by assumption) ?_); rotate_left; next => (first | omega | (simp; done) | (simp; omega) | exact Below.size (by assumption)))))
    have s3 := s2.keep (W' := wE) (S' := fun b => b < wD.heap.size) (fun b h => h) (fun b h => bE.block b (by simp; omega))
    have BE : Below w.heap.size w wE := BD.trans (bDE.mono BD.size)
    have K := K.below bDE
    have J := (Blk.alloc_at (t := 72) (w := wD) (l := [.int .i64 n0, .slice (some ⟨g2, 0, none⟩) xs.length xs.length]) rfl).below bE
    have Kc0 := K.cell (i := 0) rfl; have Kc1 := K.cell (i := 1) rfl; have Jc0 := J.cell (i := 0) rfl; have Jc1 := J.cell (i := 1) rfl; have KL := K.lt; have JL := J.lt
    have GE := (G2.below bDE).lt
    have hDE := bDE.size
    clear f s2 bE G2
    go_wp2_with fail
    refine wp_world ?_; intro w0 hb0 hh0 hz0; (try simp at hz0)
    have K : Blk w0 (w.heap.size) [.int .i64 n0, .slice a xs.length cap] 69 := Blk.of_eq (hh0 _) (by repeat (first | with_reducible assumption | (with_reducible refine Blk.alloc_at ?_; next => (first | omega | (simp; done) | (simp; omega))) | (with_reducible refine Blk.set_other _ ?_ ?_; next => (first | omega | (simp; done) | (simp; omega))) | with_reducible refine Blk.alloc_old _ ?_ | with_reducible refine Blk.drew ?_ | with_reducible refine Blk.below (by assumption) ?_))
    have KL := K.lt
    have J : Blk w0 (wD.heap.size) [.int .i64 n0, .slice (some ⟨g2, 0, none⟩) xs.length xs.length] 72 := Blk.of_eq (hh0 _) (by repeat (first | with_reducible assumption | (with_reducible refine Blk.alloc_at ?_; next => (first | omega | (simp; done) | (simp; omega))) | (with_reducible refine Blk.set_other _ ?_ ?_; next => (first | omega | (simp; done) | (simp; omega))) | with_reducible refine Blk.alloc_old _ ?_ | with_reducible refine Blk.drew ?_ | with_reducible refine Blk.below (by assumption) ?_))
    have JL := J.lt
    refine wp_region_rgl 5 [Is (.agg #[.int .i64 n0, .slice (some ⟨g2, 0, none⟩) xs.length xs.length]), Is (.agg #[.int .i64 n0, .slice a xs.length cap]), (fun r W => ∃ u, r = .agg #[.int .i64 n0, u] ∧ SlAt 1 rI W (· < W.heap.size) u xs), Is (.bool true), Is (.bool false)] (fun _ _ _ _ _ h => h) (by kernel_rfl) (by kernel_rfl) ⟨Stab.is _, Stab.is _, (fun _ _ _ hb ⟨u, e, h⟩ => ⟨u, e, h.keep (fun b hb' => Nat.lt_of_lt_of_le hb' hb.size) (fun b hb' => hb.block b hb')⟩), Stab.is _, Stab.is _, trivial⟩ ⟨?_, ?_, ?_, ?_, ?_, trivial⟩ ?_
    · intro _ v w1 hb hd; have hz := hb.size
      have K := K.below hb
      have Kc0 := K.cell (i := 0) rfl
      have Kc1 := K.cell (i := 1) rfl
      have J := J.below hb
      have Jc0 := J.cell (i := 0) rfl
      have Jc1 := J.cell (i := 1) rfl
      clear hd; (try unfold Is at *); simp only [rgPut, rgDst, Act.put, List.getElem?_cons_zero, List.getElem?_cons_succ, Option.bind_some, List.setIfInBounds_toArray, List.set_cons_zero, List.set_cons_succ]
      go_wp2_with fail
      exact ⟨rfl, (by repeat (first | with_reducible exact Below.refl _ _ | with_reducible assumption | (with_reducible refine Below.setCell ?_ ?_ _; rotate_left; next => (first | omega | (simp; done) | (simp; omega) | exact Below.size (by assumption))) | (with_reducible refine Below.alloc ?_ ?_ _; rotate_left; next => (first | omega | (simp; done) | (simp; omega) | exact Below.size (by assumption))) | with_reducible refine Below.drew ?_ | with_reducible refine below_drewN ?_ _ | (with_reducible refine Below.trans ?_ (Below.mono (by assumption) ?_); rotate_left; next => (first | omega | (simp; done) | (simp; omega) | exact Below.size (by assumption))))), (by first | rfl | assumption)⟩
    · intro _ v w1 hb hd; have hz := hb.size
      have K := K.below hb
      have Kc0 := K.cell (i := 0) rfl
      have Kc1 := K.cell (i := 1) rfl
      have J := J.below hb
      have Jc0 := J.cell (i := 0) rfl
      have Jc1 := J.cell (i := 1) rfl
      clear hd; (try unfold Is at *); simp only [rgPut, rgDst, Act.put, List.getElem?_cons_zero, List.getElem?_cons_succ, Option.bind_some, List.setIfInBounds_toArray, List.set_cons_zero, List.set_cons_succ]
      go_wp2_with fail
      exact ⟨rfl, (by repeat (first | with_reducible exact Below.refl _ _ | with_reducible assumption | (with_reducible refine Below.setCell ?_ ?_ _; rotate_left; next => (first | omega | (simp; done) | (simp; omega) | exact Below.size (by assumption))) | (with_reducible refine Below.alloc ?_ ?_ _; rotate_left; next => (first | omega | (simp; done) | (simp; omega) | exact Below.size (by assumption))) | with_reducible refine Below.drew ?_ | with_reducible refine below_drewN ?_ _ | (with_reducible refine Below.trans ?_ (Below.mono (by assumption) ?_); rotate_left; next => (first | omega | (simp; done) | (simp; omega) | exact Below.size (by assumption))))), (by first | rfl | assumption)⟩
    · intro _ v w1 hb hd; have hz := hb.size
      have K := K.below hb
      have Kc0 := K.cell (i := 0) rfl
      have Kc1 := K.cell (i := 1) rfl
      have J := J.below hb
      have Jc0 := J.cell (i := 0) rfl
      have Jc1 := J.cell (i := 1) rfl
      have d1 : (Is (.agg #[.int .i64 n0, .slice a xs.length cap])) (v 1) w1 := hd 1 (by kernel_rfl)
      clear hd; (try unfold Is at *); simp only [rgPut, rgDst, Act.put, List.getElem?_cons_zero, List.getElem?_cons_succ, Option.bind_some, List.setIfInBounds_toArray, List.set_cons_zero, List.set_cons_succ]
      go_wp2_with fail
      (first | (go_at_call 50; (have BF : Below w.heap.size w w1 := (by repeat (first | with_reducible exact Below.refl _ _ | with_reducible assumption | (with_reducible refine Below.setCell ?_ ?_ _; rotate_left; next => (first | omega | (simp; done) | (simp; omega) | exact Below.size (by assumption))) | (with_reducible refine Below.alloc ?_ ?_ _; rotate_left; next => (first | omega | (simp; done) | (simp; omega) | exact Below.size (by assumption))) | with_reducible refine Below.drew ?_ | with_reducible refine below_drewN ?_ _ | (with_reducible refine Below.trans ?_ (Below.mono (by assumption) ?_); rotate_left; next => (first | omega | (simp; done) | (simp; omega) | exact Below.size (by assumption))))); refine (toRule_any _ _ xs _ _ (HV.out.below (B := w.heap.size) BF (fun b h => h)) hlen (fun b hb => Nat.lt_of_lt_of_le hb BF.size)).mono ?_; rintro e wG ⟨_, rfl, ⟨u3, rfl, M3⟩, bG⟩; have st := (M3.slAt HI.out h63).keep (S' := fun b => b < wG.heap.size) (fun b h => h.2) (fun _ _ => rfl))) | (go_at_call 52; (obtain ⟨u3, hu3, s4⟩ := d2; rw [hu3]; have hEF : wE.heap.size ≤ w0.heap.size := (by omega); have sEq : ∀ b : Nat, b < wE.heap.size → w1.heap[b]? = wE.heap[b]? := fun b h => (hb.block b (by omega)).trans (hh0 b); refine (eqRule_any _ _ _ _ xs xs (fun b => b < w1.heap.size) _ (s3.keep (fun b h => by have h' : b < wD.heap.size := h; omega) (fun b h => sEq b (by have h' : b < wD.heap.size := h; omega))) s4 (fun b h => h)).mono ?_; rintro e wH ⟨bH, ⟨_, rfl⟩ | ⟨f, _⟩⟩ <;> try (exfalso; exact f (by simp)))))
      go_wp2_with fail
      exact ⟨rfl, (by repeat (first | with_reducible exact Below.refl _ _ | with_reducible assumption | (with_reducible refine Below.setCell ?_ ?_ _; rotate_left; next => (first | omega | (simp; done) | (simp; omega) | exact Below.size (by assumption))) | (with_reducible refine Below.alloc ?_ ?_ _; rotate_left; next => (first | omega | (simp; done) | (simp; omega) | exact Below.size (by assumption))) | with_reducible refine Below.drew ?_ | with_reducible refine below_drewN ?_ _ | (with_reducible refine Below.trans ?_ (Below.mono (by assumption) ?_); rotate_left; next => (first | omega | (simp; done) | (simp; omega) | exact Below.size (by assumption))))), ⟨_, rfl, st⟩⟩
    · intro _ v w1 hb hd; have hz := hb.size
      have K := K.below hb
      have Kc0 := K.cell (i := 0) rfl
      have Kc1 := K.cell (i := 1) rfl
      have J := J.below hb
      have Jc0 := J.cell (i := 0) rfl
      have Jc1 := J.cell (i := 1) rfl
      have d0 : (Is (.agg #[.int .i64 n0, .slice (some ⟨g2, 0, none⟩) xs.length xs.length])) (v 0) w1 := hd 0 (by kernel_rfl)
      have d2 : ((fun r W => ∃ u, r = .agg #[.int .i64 n0, u] ∧ SlAt 1 rI W (· < W.heap.size) u xs)) (v 2) w1 := hd 2 (by kernel_rfl)
      clear hd; (try unfold Is at *); simp only [rgPut, rgDst, Act.put, List.getElem?_cons_zero, List.getElem?_cons_succ, Option.bind_some, List.setIfInBounds_toArray, List.set_cons_zero, List.set_cons_succ]
      go_wp2_with fail
      (first | (go_at_call 50; (have BF : Below w.heap.size w w1 := (by repeat (first | with_reducible exact Below.refl _ _ | with_reducible assumption | (with_reducible refine Below.setCell ?_ ?_ _; rotate_left; next => (first | omega | (simp; done) | (simp; omega) | exact Below.size (by assumption))) | (with_reducible refine Below.alloc ?_ ?_ _; rotate_left; next => (first | omega | (simp; done) | (simp; omega) | exact Below.size (by assumption))) | with_reducible refine Below.drew ?_ | with_reducible refine below_drewN ?_ _ | (with_reducible refine Below.trans ?_ (Below.mono (by assumption) ?_); rotate_left; next => (first | omega | (simp; done) | (simp; omega) | exact Below.size (by assumption))))); refine (toRule_any _ _ xs _ _ (HV.out.below (B := w.heap.size) BF (fun b h => h)) hlen (fun b hb => Nat.lt_of_lt_of_le hb BF.size)).mono ?_; rintro e wG ⟨_, rfl, ⟨u3, rfl, M3⟩, bG⟩; have st := (M3.slAt HI.out h63).keep (S' := fun b => b < wG.heap.size) (fun b h => h.2) (fun _ _ => rfl))) | (go_at_call 52; (obtain ⟨u3, hu3, s4⟩ := d2; rw [hu3]; have hEF : wE.heap.size ≤ w0.heap.size := (by omega); have sEq : ∀ b : Nat, b < wE.heap.size → w1.heap[b]? = wE.heap[b]? := fun b h => (hb.block b (by omega)).trans (hh0 b); refine (eqRule_any _ _ _ _ xs xs (fun b => b < w1.heap.size) _ (s3.keep (fun b h => by have h' : b < wD.heap.size := h; omega) (fun b h => sEq b (by have h' : b < wD.heap.size := h; omega))) s4 (fun b h => h)).mono ?_; rintro e wH ⟨bH, ⟨_, rfl⟩ | ⟨f, _⟩⟩ <;> try (exfalso; exact f (by simp)))))
      go_wp2_with fail
      exact ⟨rfl, (by repeat (first | with_reducible exact Below.refl _ _ | with_reducible assumption | (with_reducible refine Below.setCell ?_ ?_ _; rotate_left; next => (first | omega | (simp; done) | (simp; omega) | exact Below.size (by assumption))) | (with_reducible refine Below.alloc ?_ ?_ _; rotate_left; next => (first | omega | (simp; done) | (simp; omega) | exact Below.size (by assumption))) | with_reducible refine Below.drew ?_ | with_reducible refine below_drewN ?_ _ | (with_reducible refine Below.trans ?_ (Below.mono (by assumption) ?_); rotate_left; next => (first | omega | (simp; done) | (simp; omega) | exact Below.size (by assumption))))), (by first | rfl | assumption)⟩
    · intro _ v w1 hb hd; have hz := hb.size
      have K := K.below hb
      have Kc0 := K.cell (i := 0) rfl
      have Kc1 := K.cell (i := 1) rfl
      have J := J.below hb
      have Jc0 := J.cell (i := 0) rfl
      have Jc1 := J.cell (i := 1) rfl
      have d3 : (Is (.bool true)) (v 3) w1 := hd 3 (by kernel_rfl)
      clear hd; (try unfold Is at *); simp only [rgPut, rgDst, Act.put, List.getElem?_cons_zero, List.getElem?_cons_succ, Option.bind_some, List.setIfInBounds_toArray, List.set_cons_zero, List.set_cons_succ]
      go_wp2_with fail
      exact ⟨rfl, (by repeat (first | with_reducible exact Below.refl _ _ | with_reducible assumption | (with_reducible refine Below.setCell ?_ ?_ _; rotate_left; next => (first | omega | (simp; done) | (simp; omega) | exact Below.size (by assumption))) | (with_reducible refine Below.alloc ?_ ?_ _; rotate_left; next => (first | omega | (simp; done) | (simp; omega) | exact Below.size (by assumption))) | with_reducible refine Below.drew ?_ | with_reducible refine below_drewN ?_ _ | (with_reducible refine Below.trans ?_ (Below.mono (by assumption) ?_); rotate_left; next => (first | omega | (simp; done) | (simp; omega) | exact Below.size (by assumption))))), (by first | rfl | assumption)⟩
    intro v w1 hb hA
    have a0 : (Is (.agg #[.int .i64 n0, .slice (some ⟨g2, 0, none⟩) xs.length xs.length])) (v 0) w1 := hA 0 (by decide)
    have a1 : (Is (.agg #[.int .i64 n0, .slice a xs.length cap])) (v 1) w1 := hA 1 (by decide)
    have a2 : ((fun r W => ∃ u, r = .agg #[.int .i64 n0, u] ∧ SlAt 1 rI W (· < W.heap.size) u xs)) (v 2) w1 := hA 2 (by decide)
    have a3 : (Is (.bool true)) (v 3) w1 := hA 3 (by decide)
    have a4 : (Is (.bool false)) (v 4) w1 := hA 4 (by decide)
    clear hA; (try unfold Is at *); simp only [rgPut, rgDst, Act.put, List.getElem?_cons_zero, List.getElem?_cons_succ, Option.bind_some, List.setIfInBounds_toArray, List.set_cons_zero, List.set_cons_succ, List.drop_succ_cons, List.drop_nil]
    simp only [a0, a1, a3, a4]; clear a0 a1 a3 a4
    generalize v 2 = v24 at *
    have hz := hb.size
    have K := K.below hb
    have Kc0 := K.cell (i := 0) rfl
    have Kc1 := K.cell (i := 1) rfl
    have Kf0 := K.frozen 0
    have Kf1 := K.frozen 1
    have J := J.below hb
    have Jc0 := J.cell (i := 0) rfl
    have Jc1 := J.cell (i := 1) rfl
    have Jf0 := J.frozen 0
    have Jf1 := J.frozen 1
    go_wp2
    go_ret
    exact ⟨rfl, (by repeat (first | with_reducible exact Below.refl _ _ | with_reducible assumption | (with_reducible refine Below.setCell ?_ ?_ _; rotate_left; next => (first | omega | (simp; done) | (simp; omega) | exact Below.size (by assumption))) | (with_reducible refine Below.alloc ?_ ?_ _; rotate_left; next => (first | omega | (simp; done) | (simp; omega) | exact Below.size (by assumption))) | with_reducible refine Below.drew ?_ | with_reducible refine below_drewN ?_ _ | (with_reducible refine Below.trans ?_ (Below.mono (by assumption) ?_); rotate_left; next => (first | omega | (simp; done) | (simp; omega) | exact Below.size (by assumption)))))⟩
end Go.Proofs.Ytghecnlgainfkaa

