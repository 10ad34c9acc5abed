/- Machine configurations: the same, on values. -/
import Derived.Test.YtghecnlgainfkaaConfig
namespace Go.Proofs.Ytghecnlgainfkaa
open Go.RowKit
theorem sSameC (n1 m1 n2 m2 : Int) (v0 u0 : Value) (x0 y0 : List Int) (S : Nat → Prop) (w : World) (h0 : SlAt 1 rI w S v0 x0) (k0 : SlAt 1 rI w S u0 y0) (hS : ∀ b, S b → b < w.heap.size) :
    Calls Try.prog 35 #[.agg #[v0, .int .i64 n1, .int .i64 n2], .agg #[u0, .int .i64 m1, .int .i64 m2]] w (BoolB (x0 = y0 ∧ n1 = m1 ∧ n2 = m2) w) := by
  have H0 := Lib.hid h0; clear h0; have K0 := Lib.hid k0; clear k0
  go_enter Try.func35, Try.ntmps35
  go_wp2_with fail
  refine (sSameCP w.heap.size (w.heap.size + 1) n1 m1 n2 m2 v0 u0 x0 y0 S _ (H0.out.below (B := w.heap.size) (by repeat (first | with_reducible exact Below.refl _ _ | with_reducible assumption | (with_reducible refine Below.setCell ?_ ?_ _; rotate_left; next => (first | omega | (simp; done) | (simp; omega) | exact Below.size (by assumption))) | (with_reducible refine Below.alloc ?_ ?_ _; rotate_left; next => (first | omega | (simp; done) | (simp; omega) | exact Below.size (by assumption))) | with_reducible refine Below.drew ?_ | with_reducible refine below_drewN ?_ _ | (with_reducible refine Below.trans ?_ (Below.mono (by assumption) ?_); rotate_left; next => (first | omega | (simp; done) | (simp; omega) | exact Below.size (by assumption))))) hS) (K0.out.below (B := w.heap.size) (by repeat (first | with_reducible exact Below.refl _ _ | with_reducible assumption | (with_reducible refine Below.setCell ?_ ?_ _; rotate_left; next => (first | omega | (simp; done) | (simp; omega) | exact Below.size (by assumption))) | (with_reducible refine Below.alloc ?_ ?_ _; rotate_left; next => (first | omega | (simp; done) | (simp; omega) | exact Below.size (by assumption))) | with_reducible refine Below.drew ?_ | with_reducible refine below_drewN ?_ _ | (with_reducible refine Below.trans ?_ (Below.mono (by assumption) ?_); rotate_left; next => (first | omega | (simp; done) | (simp; omega) | exact Below.size (by assumption))))) hS) (fun b hb => by have := hS b hb; (first | omega | (simp; done) | (simp; omega))) (by repeat (first | with_reducible assumption | (with_reducible refine Blk.alloc_at ?_; next => (first | omega | (simp; done) | (simp; omega))) | (with_reducible refine Blk.set_other _ ?_ ?_; next => (first | omega | (simp; done) | (simp; omega))) | with_reducible refine Blk.alloc_old _ ?_ | with_reducible refine Blk.drew ?_ | with_reducible refine Blk.below (by assumption) ?_)) (by repeat (first | with_reducible assumption | (with_reducible refine Blk.alloc_at ?_; next => (first | omega | (simp; done) | (simp; omega))) | (with_reducible refine Blk.set_other _ ?_ ?_; next => (first | omega | (simp; done) | (simp; omega))) | with_reducible refine Blk.alloc_old _ ?_ | with_reducible refine Blk.drew ?_ | with_reducible refine Blk.below (by assumption) ?_))).mono ?_
  rintro e w1 ⟨hb, ⟨h1, rfl⟩ | ⟨h1, rfl⟩⟩
  all_goals
    go_wp2
    go_ret
  · exact .yes (by repeat (first | with_reducible exact Below.refl _ _ | with_reducible assumption | (with_reducible refine Below.setCell ?_ ?_ _; rotate_left; next => (first | omega | (simp; done) | (simp; omega) | exact Below.size (by assumption))) | (with_reducible refine Below.alloc ?_ ?_ _; rotate_left; next => (first | omega | (simp; done) | (simp; omega) | exact Below.size (by assumption))) | with_reducible refine Below.drew ?_ | with_reducible refine below_drewN ?_ _ | (with_reducible refine Below.trans ?_ (Below.mono (by assumption) ?_); rotate_left; next => (first | omega | (simp; done) | (simp; omega) | exact Below.size (by assumption))))) h1
  · exact .no (by repeat (first | with_reducible exact Below.refl _ _ | with_reducible assumption | (with_reducible refine Below.setCell ?_ ?_ _; rotate_left; next => (first | omega | (simp; done) | (simp; omega) | exact Below.size (by assumption))) | (with_reducible refine Below.alloc ?_ ?_ _; rotate_left; next => (first | omega | (simp; done) | (simp; omega) | exact Below.size (by assumption))) | with_reducible refine Below.drew ?_ | with_reducible refine below_drewN ?_ _ | (with_reducible refine Below.trans ?_ (Below.mono (by assumption) ?_); rotate_left; next => (first | omega | (simp; done) | (simp; omega) | exact Below.size (by assumption))))) h1
set_option maxHeartbeats 1000000 in
theorem iSameC (n1 m1 n2 m2 : Int) (v0 u0 : Value) (x0 y0 : List Int) (S : Nat → Prop) (w : World) (h0 : SlAt 1 rI w S v0 x0) (k0 : SlAt 1 rI w S u0 y0) (hS : ∀ b, S b → b < w.heap.size) :
    Calls Try.prog 37 #[.agg #[v0, .int .i64 n1, .int .i64 n2], .agg #[u0, .int .i64 m1, .int .i64 m2]] w (BoolB (x0 = y0 ∧ n1 = m1 ∧ n2 = m2) w) := by
  have H0 := Lib.hid h0; clear h0; have K0 := Lib.hid k0; clear k0
  go_enter Try.func37, Try.ntmps37
  go_wp2_with fail
  have K : Blk ((w.alloc (.cells #[v0, .int .i64 n1, .int .i64 n2] 53)).alloc (.cells #[u0, .int .i64 m1, .int .i64 m2] 53)) w.heap.size [v0, .int .i64 n1, .int .i64 n2] 53 := (by repeat (first | with_reducible assumption | (with_reducible refine Blk.alloc_at ?_; next => (first | omega | (simp; done) | (simp; omega))) | (with_reducible refine Blk.set_other _ ?_ ?_; next => (first | omega | (simp; done) | (simp; omega))) | with_reducible refine Blk.alloc_old _ ?_ | with_reducible refine Blk.drew ?_ | with_reducible refine Blk.below (by assumption) ?_))
  have J : Blk ((w.alloc (.cells #[v0, .int .i64 n1, .int .i64 n2] 53)).alloc (.cells #[u0, .int .i64 m1, .int .i64 m2] 53)) (w.heap.size + 1) [u0, .int .i64 m1, .int .i64 m2] 53 := (by repeat (first | with_reducible assumption | (with_reducible refine Blk.alloc_at ?_; next => (first | omega | (simp; done) | (simp; omega))) | (with_reducible refine Blk.set_other _ ?_ ?_; next => (first | omega | (simp; done) | (simp; omega))) | with_reducible refine Blk.alloc_old _ ?_ | with_reducible refine Blk.drew ?_ | with_reducible refine Blk.below (by assumption) ?_))
  refine (slEqual _ _ _ _ S _ (H0.out.below (B := w.heap.size) (by repeat (first | with_reducible exact Below.refl _ _ | with_reducible assumption | (with_reducible refine Below.setCell ?_ ?_ _; rotate_left; next => (first | omega | (simp; done) | (simp; omega) | exact Below.size (by assumption))) | (with_reducible refine Below.alloc ?_ ?_ _; rotate_left; next => (first | omega | (simp; done) | (simp; omega) | exact Below.size (by assumption))) | with_reducible refine Below.drew ?_ | with_reducible refine below_drewN ?_ _ | (with_reducible refine Below.trans ?_ (Below.mono (by assumption) ?_); rotate_left; next => (first | omega | (simp; done) | (simp; omega) | exact Below.size (by assumption))))) hS) (K0.out.below (B := w.heap.size) (by repeat (first | with_reducible exact Below.refl _ _ | with_reducible assumption | (with_reducible refine Below.setCell ?_ ?_ _; rotate_left; next => (first | omega | (simp; done) | (simp; omega) | exact Below.size (by assumption))) | (with_reducible refine Below.alloc ?_ ?_ _; rotate_left; next => (first | omega | (simp; done) | (simp; omega) | exact Below.size (by assumption))) | with_reducible refine Below.drew ?_ | with_reducible refine below_drewN ?_ _ | (with_reducible refine Below.trans ?_ (Below.mono (by assumption) ?_); rotate_left; next => (first | omega | (simp; done) | (simp; omega) | exact Below.size (by assumption))))) hS) (fun b hb => by have := hS b hb; (first | omega | (simp; done) | (simp; omega)))).mono ?_
  rintro e w1 ⟨hb, ⟨f, rfl⟩ | ⟨f, rfl⟩⟩
  · have K := K.below hb
    have J := J.below hb
    have Kc1 := K.cell (i := 1) rfl; have Kc2 := K.cell (i := 2) rfl
    have Jc1 := J.cell (i := 1) rfl; have Jc2 := J.cell (i := 2) rfl
    have KL := K.lt; have JL := J.lt
    have F := Lib.hid f; clear f
    by_cases q1 : n1 = m1
    · have ne1 : (n1 == m1) = true := by simp [q1]
      have Q1 := Lib.hid q1; clear q1
      by_cases q2 : n2 = m2
      · have ne : (n2 == m2) = true := by simp [q2]
        have Q2 := Lib.hid q2; clear q2
        go_wp2
        go_ret
        exact .yes (by repeat (first | with_reducible exact Below.refl _ _ | with_reducible assumption | (with_reducible refine Below.setCell ?_ ?_ _; rotate_left; next => (first | omega | (simp; done) | (simp; omega) | exact Below.size (by assumption))) | (with_reducible refine Below.alloc ?_ ?_ _; rotate_left; next => (first | omega | (simp; done) | (simp; omega) | exact Below.size (by assumption))) | with_reducible refine Below.drew ?_ | with_reducible refine below_drewN ?_ _ | (with_reducible refine Below.trans ?_ (Below.mono (by assumption) ?_); rotate_left; next => (first | omega | (simp; done) | (simp; omega) | exact Below.size (by assumption))))) ⟨F.out, Q1.out, Q2.out⟩
      · have ne : (n2 == m2) = false := by simp [q2]
        have Q2 := Lib.hid q2; clear q2
        go_wp2
        go_ret
        exact .no (by repeat (first | with_reducible exact Below.refl _ _ | with_reducible assumption | (with_reducible refine Below.setCell ?_ ?_ _; rotate_left; next => (first | omega | (simp; done) | (simp; omega) | exact Below.size (by assumption))) | (with_reducible refine Below.alloc ?_ ?_ _; rotate_left; next => (first | omega | (simp; done) | (simp; omega) | exact Below.size (by assumption))) | with_reducible refine Below.drew ?_ | with_reducible refine below_drewN ?_ _ | (with_reducible refine Below.trans ?_ (Below.mono (by assumption) ?_); rotate_left; next => (first | omega | (simp; done) | (simp; omega) | exact Below.size (by assumption))))) (fun e => Q2.out e.2.2)
    · have ne1 : (n1 == m1) = false := by simp [q1]
      have Q1 := Lib.hid q1; clear q1
      go_wp2
      go_ret
      exact .no (by repeat (first | with_reducible exact Below.refl _ _ | with_reducible assumption | (with_reducible refine Below.setCell ?_ ?_ _; rotate_left; next => (first | omega | (simp; done) | (simp; omega) | exact Below.size (by assumption))) | (with_reducible refine Below.alloc ?_ ?_ _; rotate_left; next => (first | omega | (simp; done) | (simp; omega) | exact Below.size (by assumption))) | with_reducible refine Below.drew ?_ | with_reducible refine below_drewN ?_ _ | (with_reducible refine Below.trans ?_ (Below.mono (by assumption) ?_); rotate_left; next => (first | omega | (simp; done) | (simp; omega) | exact Below.size (by assumption))))) (fun e => Q1.out e.2.1)
  · have F := Lib.hid f; clear f
    go_wp2
    go_ret
    exact .no (by repeat (first | with_reducible exact Below.refl _ _ | with_reducible assumption | (with_reducible refine Below.setCell ?_ ?_ _; rotate_left; next => (first | omega | (simp; done) | (simp; omega) | exact Below.size (by assumption))) | (with_reducible refine Below.alloc ?_ ?_ _; rotate_left; next => (first | omega | (simp; done) | (simp; omega) | exact Below.size (by assumption))) | with_reducible refine Below.drew ?_ | with_reducible refine below_drewN ?_ _ | (with_reducible refine Below.trans ?_ (Below.mono (by assumption) ?_); rotate_left; next => (first | omega | (simp; done) | (simp; omega) | exact Below.size (by assumption))))) (fun e => F.out e.1)
end Go.Proofs.Ytghecnlgainfkaa
