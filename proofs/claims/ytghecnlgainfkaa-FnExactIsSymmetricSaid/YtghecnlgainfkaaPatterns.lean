/- Contracts: is a pattern valid; and the law on it. -/
import Derived.Test.YtghecnlgainfkaaStructs
import Derived.Test.YtghecnlgainfkaaFuncs
namespace Go.Proofs.Ytghecnlgainfkaa
open Go.RowKit
def PatOk (W H : Int) (xs : List Int) : Prop := (1 ≤ W ∧ W ≤ 10) ∧ (1 ≤ H ∧ H ≤ 10) ∧ (xs.length : Int) = W * H ∧ allB 6 xs
theorem mul10 (W H : Int) (h1 : 1 ≤ W ∧ W ≤ 10) (h2 : 1 ≤ H ∧ H ≤ 10) : 1 ≤ W * H ∧ W * H ≤ 100 := by
  have a := Int.mul_le_mul h1.2 h2.2 (by omega) (by omega)
  have b := Int.mul_le_mul h1.1 h2.1 (by omega) (by omega)
  omega
theorem allB_snoc {l : Int} {xs : List Int} {k : Nat} {x : Int} (h : allB l (xs.take k)) (hx : xs[k]? = some x) (hp : 0 ≤ x ∧ x < l) : allB l (xs.take (k + 1)) := by
  rw [take_snoc' hx]
  intro y hy
  rcases List.mem_append.1 hy with hy | hy
  · exact h y hy
  · simp at hy; subst hy; exact hp
set_option maxHeartbeats 1000000 in
theorem iPat (W H : Int) (v : Value) (xs : List Int) (S : Nat → Prop) (w : World) (hv : SlAt 1 rI w S v xs) (hS : ∀ b, S b → b < w.heap.size) :
    Calls Try.prog 42 #[.agg #[.int .i64 W, .int .i64 H, v]] w (BoolB (PatOk W H xs) w) := by
  have h63 := hv.le
  have HV := Lib.hid hv
  obtain ⟨a, cap, rfl⟩ := hv.len
  clear hv
  by_cases g1 : 1 ≤ W ∧ W ≤ 10
  · by_cases g2 : 1 ≤ H ∧ H ≤ 10
    · obtain ⟨m1, m2⟩ := mul10 W H g1 g2
      by_cases g3 : (xs.length : Int) = W * H
      · have e3 : ((xs.length : Int) == W * H) = true := by rw [g3]; simp
        have G3 := Lib.hid g3; clear g3
        go_enter Try.func42, Try.ntmps42
        go_wp2_with (first | (go_at_call 69; refine (iIn _ _ _ _).mono ?_; rintro e w' ⟨rfl, ⟨h1, rfl⟩ | ⟨h1, rfl⟩⟩ <;> try (exfalso; omega)) | (go_at_call 81; refine (below_any _ xs _ S _ (HV.out.below (B := w.heap.size) (by repeat (first | with_reducible exact Below.refl _ _ | with_reducible assumption | (with_reducible refine Below.setCell ?_ ?_ _; rotate_left; next => (first | omega | (simp; done) | (simp; omega) | exact Below.size (by assumption))) | (with_reducible refine Below.alloc ?_ ?_ _; rotate_left; next => (first | omega | (simp; done) | (simp; omega) | exact Below.size (by assumption))) | with_reducible refine Below.drew ?_ | with_reducible refine below_drewN ?_ _ | (with_reducible refine Below.trans ?_ (Below.mono (by assumption) ?_); rotate_left; next => (first | omega | (simp; done) | (simp; omega) | exact Below.size (by assumption))))) hS) (fun b hb => by have := hS b hb; (first | omega | (simp; done) | (simp; omega))) (by omega)).mono ?_; rintro e w1 ⟨hb, ⟨g4, rfl⟩ | ⟨g4, rfl⟩⟩))
        all_goals go_ret
        · exact .yes (by repeat (first | with_reducible exact Below.refl _ _ | with_reducible assumption | (with_reducible refine Below.setCell ?_ ?_ _; rotate_left; next => (first | omega | (simp; done) | (simp; omega) | exact Below.size (by assumption))) | (with_reducible refine Below.alloc ?_ ?_ _; rotate_left; next => (first | omega | (simp; done) | (simp; omega) | exact Below.size (by assumption))) | with_reducible refine Below.drew ?_ | with_reducible refine below_drewN ?_ _ | (with_reducible refine Below.trans ?_ (Below.mono (by assumption) ?_); rotate_left; next => (first | omega | (simp; done) | (simp; omega) | exact Below.size (by assumption))))) ⟨g1, g2, G3.out, g4⟩
        · exact .no (by repeat (first | with_reducible exact Below.refl _ _ | with_reducible assumption | (with_reducible refine Below.setCell ?_ ?_ _; rotate_left; next => (first | omega | (simp; done) | (simp; omega) | exact Below.size (by assumption))) | (with_reducible refine Below.alloc ?_ ?_ _; rotate_left; next => (first | omega | (simp; done) | (simp; omega) | exact Below.size (by assumption))) | with_reducible refine Below.drew ?_ | with_reducible refine below_drewN ?_ _ | (with_reducible refine Below.trans ?_ (Below.mono (by assumption) ?_); rotate_left; next => (first | omega | (simp; done) | (simp; omega) | exact Below.size (by assumption))))) (fun e => g4 e.2.2.2)
      · have e3 : ((xs.length : Int) == W * H) = false := by simp [g3]
        have G3 := Lib.hid g3; clear g3
        go_enter Try.func42, Try.ntmps42
        go_wp2_with ((go_at_call 69; refine (iIn _ _ _ _).mono ?_; rintro e w' ⟨rfl, ⟨h1, rfl⟩ | ⟨h1, rfl⟩⟩ <;> try (exfalso; omega)))
        go_ret
        exact .no (by repeat (first | with_reducible exact Below.refl _ _ | with_reducible assumption | (with_reducible refine Below.setCell ?_ ?_ _; rotate_left; next => (first | omega | (simp; done) | (simp; omega) | exact Below.size (by assumption))) | (with_reducible refine Below.alloc ?_ ?_ _; rotate_left; next => (first | omega | (simp; done) | (simp; omega) | exact Below.size (by assumption))) | with_reducible refine Below.drew ?_ | with_reducible refine below_drewN ?_ _ | (with_reducible refine Below.trans ?_ (Below.mono (by assumption) ?_); rotate_left; next => (first | omega | (simp; done) | (simp; omega) | exact Below.size (by assumption))))) (fun e => G3.out e.2.2.1)
    · go_enter Try.func42, Try.ntmps42
      go_wp2_with ((go_at_call 69; refine (iIn _ _ _ _).mono ?_; rintro e w' ⟨rfl, ⟨h1, rfl⟩ | ⟨h1, rfl⟩⟩ <;> try (exfalso; omega)))
      go_ret
      exact .no (by repeat (first | with_reducible exact Below.refl _ _ | with_reducible assumption | (with_reducible refine Below.setCell ?_ ?_ _; rotate_left; next => (first | omega | (simp; done) | (simp; omega) | exact Below.size (by assumption))) | (with_reducible refine Below.alloc ?_ ?_ _; rotate_left; next => (first | omega | (simp; done) | (simp; omega) | exact Below.size (by assumption))) | with_reducible refine Below.drew ?_ | with_reducible refine below_drewN ?_ _ | (with_reducible refine Below.trans ?_ (Below.mono (by assumption) ?_); rotate_left; next => (first | omega | (simp; done) | (simp; omega) | exact Below.size (by assumption))))) (fun e => g2 e.2.1)
  · go_enter Try.func42, Try.ntmps42
    go_wp2_with ((go_at_call 69; refine (iIn _ _ _ _).mono ?_; rintro e w' ⟨rfl, ⟨h1, rfl⟩ | ⟨h1, rfl⟩⟩ <;> try (exfalso; omega)))
    go_ret
    exact .no (by repeat (first | with_reducible exact Below.refl _ _ | with_reducible assumption | (with_reducible refine Below.setCell ?_ ?_ _; rotate_left; next => (first | omega | (simp; done) | (simp; omega) | exact Below.size (by assumption))) | (with_reducible refine Below.alloc ?_ ?_ _; rotate_left; next => (first | omega | (simp; done) | (simp; omega) | exact Below.size (by assumption))) | with_reducible refine Below.drew ?_ | with_reducible refine below_drewN ?_ _ | (with_reducible refine Below.trans ?_ (Below.mono (by assumption) ?_); rotate_left; next => (first | omega | (simp; done) | (simp; omega) | exact Below.size (by assumption))))) (fun e => g1 e.1)
set_option maxHeartbeats 1000000 in
theorem sPatP (b : Nat) (W H : Int) (v : Value) (xs : List Int) (S : Nat → Prop) (w : World) (hv : SlAt 1 rI w S v xs) (hS : ∀ b, S b → b < w.heap.size) (K : Blk w b [.int .i64 W, .int .i64 H, v] 60) :
    Calls Try.prog 80 #[.pointer (some ⟨b, 0, none⟩)] w (BoolB (PatOk W H xs) w) := by
  have h63 := hv.le
  have HV := Lib.hid hv
  obtain ⟨a, cap, rfl⟩ := hv.len
  clear hv
  have k0 := K.cell (i := 0) rfl
  have k1 := K.cell (i := 1) rfl
  have k2 := K.cell (i := 2) rfl
  by_cases g1 : 1 ≤ W ∧ W ≤ 10
  · by_cases g2 : 1 ≤ H ∧ H ≤ 10
    · obtain ⟨m1, m2⟩ := mul10 W H g1 g2
      by_cases g3 : (xs.length : Int) = W * H
      · have e3 : ((xs.length : Int) != W * H) = false := by rw [g3]; simp
        have G3 := Lib.hid g3; clear g3
        go_enter Try.func80, Try.ntmps80
        go_wp2_with fail
        go_quiet ((go_at_call 58; first | exact Calls.quiet_of_same (sIn_t _ _ _ _ (by omega) (by omega)) | exact Calls.quiet_of_same (sIn_f _ _ _ _ (by omega))))
        go_wp2
        have hbq : Below w.heap.size w (w.drewN nq) := (by repeat (first | with_reducible exact Below.refl _ _ | with_reducible assumption | (with_reducible refine Below.setCell ?_ ?_ _; rotate_left; next => (first | omega | (simp; done) | (simp; omega) | exact Below.size (by assumption))) | (with_reducible refine Below.alloc ?_ ?_ _; rotate_left; next => (first | omega | (simp; done) | (simp; omega) | exact Below.size (by assumption))) | with_reducible refine Below.drew ?_ | with_reducible refine below_drewN ?_ _ | (with_reducible refine Below.trans ?_ (Below.mono (by assumption) ?_); rotate_left; next => (first | omega | (simp; done) | (simp; omega) | exact Below.size (by assumption)))))
        go_loopw [3] (fun i wr => ∃ k : Nat, k ≤ xs.length ∧ i = .int .i64 k ∧ Hid (allB 6 (xs.take k)) ∧ Below w.heap.size w wr) (fun i _ => xs.length - (intOf i).toNat)
        case atStart => exact ⟨0, Nat.zero_le _, rfl, Lib.hid (by intro x hx; simp at hx), (by repeat (first | with_reducible exact Below.refl _ _ | with_reducible assumption | (with_reducible refine Below.setCell ?_ ?_ _; rotate_left; next => (first | omega | (simp; done) | (simp; omega) | exact Below.size (by assumption))) | (with_reducible refine Below.alloc ?_ ?_ _; rotate_left; next => (first | omega | (simp; done) | (simp; omega) | exact Below.size (by assumption))) | with_reducible refine Below.drew ?_ | with_reducible refine below_drewN ?_ _ | (with_reducible refine Below.trans ?_ (Below.mono (by assumption) ?_); rotate_left; next => (first | omega | (simp; done) | (simp; omega) | exact Below.size (by assumption)))))⟩
        case round =>
          obtain ⟨k, hk, rfl, hK, hbr⟩ := hrel
          clear k0 k1 k2
          have k2 := (K.of_eq (hbr.block b K.lt)).cell (i := 2) rfl
          by_cases hlt : k < xs.length
          · obtain ⟨x, hx⟩ := get_of_lt hlt
            obtain ⟨b', off, cap1, hav, hSb, hc, _⟩ := (HV.out.below hbr hS).int hx
            simp only [Value.slice.injEq] at hav
            obtain ⟨rfl, _, rfl⟩ := hav
            have Hx := Lib.hid hx; clear hx
            go_wp2_with ((go_at_call 58; refine (sIn _ _ _ _).mono ?_; rintro e w' ⟨rfl, ⟨h1, rfl⟩ | ⟨h1, rfl⟩⟩ <;> try (exfalso; omega)))
            · exact ⟨⟨k + 1, by omega, by go_num, Lib.hid (allB_snoc hK.out Hx.out (by omega)), (by repeat (first | with_reducible exact Below.refl _ _ | with_reducible assumption | (with_reducible refine Below.setCell ?_ ?_ _; rotate_left; next => (first | omega | (simp; done) | (simp; omega) | exact Below.size (by assumption))) | (with_reducible refine Below.alloc ?_ ?_ _; rotate_left; next => (first | omega | (simp; done) | (simp; omega) | exact Below.size (by assumption))) | with_reducible refine Below.drew ?_ | with_reducible refine below_drewN ?_ _ | (with_reducible refine Below.trans ?_ (Below.mono (by assumption) ?_); rotate_left; next => (first | omega | (simp; done) | (simp; omega) | exact Below.size (by assumption)))))⟩, by simp [intOf]; omega⟩
            · go_ret
              exact .no (by repeat (first | with_reducible exact Below.refl _ _ | with_reducible assumption | (with_reducible refine Below.setCell ?_ ?_ _; rotate_left; next => (first | omega | (simp; done) | (simp; omega) | exact Below.size (by assumption))) | (with_reducible refine Below.alloc ?_ ?_ _; rotate_left; next => (first | omega | (simp; done) | (simp; omega) | exact Below.size (by assumption))) | with_reducible refine Below.drew ?_ | with_reducible refine below_drewN ?_ _ | (with_reducible refine Below.trans ?_ (Below.mono (by assumption) ?_); rotate_left; next => (first | omega | (simp; done) | (simp; omega) | exact Below.size (by assumption))))) (fun e => by have := e.2.2.2 x (List.mem_of_getElem? Hx.out); omega)
          · obtain rfl : k = xs.length := by omega
            go_wp2
            go_ret
            exact .yes (by repeat (first | with_reducible exact Below.refl _ _ | with_reducible assumption | (with_reducible refine Below.setCell ?_ ?_ _; rotate_left; next => (first | omega | (simp; done) | (simp; omega) | exact Below.size (by assumption))) | (with_reducible refine Below.alloc ?_ ?_ _; rotate_left; next => (first | omega | (simp; done) | (simp; omega) | exact Below.size (by assumption))) | with_reducible refine Below.drew ?_ | with_reducible refine below_drewN ?_ _ | (with_reducible refine Below.trans ?_ (Below.mono (by assumption) ?_); rotate_left; next => (first | omega | (simp; done) | (simp; omega) | exact Below.size (by assumption))))) ⟨g1, g2, G3.out, by have := hK.out; rw [List.take_length] at this; exact this⟩
      · have e3 : ((xs.length : Int) != W * H) = true := by simp [g3]
        have G3 := Lib.hid g3; clear g3
        go_enter Try.func80, Try.ntmps80
        go_wp2_with fail
        go_quiet ((go_at_call 58; first | exact Calls.quiet_of_same (sIn_t _ _ _ _ (by omega) (by omega)) | exact Calls.quiet_of_same (sIn_f _ _ _ _ (by omega))))
        go_wp2
        go_ret
        exact .no (by repeat (first | with_reducible exact Below.refl _ _ | with_reducible assumption | (with_reducible refine Below.setCell ?_ ?_ _; rotate_left; next => (first | omega | (simp; done) | (simp; omega) | exact Below.size (by assumption))) | (with_reducible refine Below.alloc ?_ ?_ _; rotate_left; next => (first | omega | (simp; done) | (simp; omega) | exact Below.size (by assumption))) | with_reducible refine Below.drew ?_ | with_reducible refine below_drewN ?_ _ | (with_reducible refine Below.trans ?_ (Below.mono (by assumption) ?_); rotate_left; next => (first | omega | (simp; done) | (simp; omega) | exact Below.size (by assumption))))) (fun e => G3.out e.2.2.1)
    · have n1 : decide (1 ≤ W) = true := by simp; omega
      go_enter Try.func80, Try.ntmps80
      go_wp2_with fail
      go_quiet ((go_at_call 58; first | exact Calls.quiet_of_same (sIn_t _ _ _ _ (by omega) (by omega)) | exact Calls.quiet_of_same (sIn_f _ _ _ _ (by omega))))
      go_wp2
      go_ret
      exact .no (by repeat (first | with_reducible exact Below.refl _ _ | with_reducible assumption | (with_reducible refine Below.setCell ?_ ?_ _; rotate_left; next => (first | omega | (simp; done) | (simp; omega) | exact Below.size (by assumption))) | (with_reducible refine Below.alloc ?_ ?_ _; rotate_left; next => (first | omega | (simp; done) | (simp; omega) | exact Below.size (by assumption))) | with_reducible refine Below.drew ?_ | with_reducible refine below_drewN ?_ _ | (with_reducible refine Below.trans ?_ (Below.mono (by assumption) ?_); rotate_left; next => (first | omega | (simp; done) | (simp; omega) | exact Below.size (by assumption))))) (fun e => g2 e.2.1)
  · go_enter Try.func80, Try.ntmps80
    go_wp2_with fail
    go_quiet ((go_at_call 58; first | exact Calls.quiet_of_same (sIn_t _ _ _ _ (by omega) (by omega)) | exact Calls.quiet_of_same (sIn_f _ _ _ _ (by omega))))
    go_wp2
    go_ret
    exact .no (by repeat (first | with_reducible exact Below.refl _ _ | with_reducible assumption | (with_reducible refine Below.setCell ?_ ?_ _; rotate_left; next => (first | omega | (simp; done) | (simp; omega) | exact Below.size (by assumption))) | (with_reducible refine Below.alloc ?_ ?_ _; rotate_left; next => (first | omega | (simp; done) | (simp; omega) | exact Below.size (by assumption))) | with_reducible refine Below.drew ?_ | with_reducible refine below_drewN ?_ _ | (with_reducible refine Below.trans ?_ (Below.mono (by assumption) ?_); rotate_left; next => (first | omega | (simp; done) | (simp; omega) | exact Below.size (by assumption))))) (fun e => g1 e.1)
theorem sPat (W H : Int) (v : Value) (xs : List Int) (S : Nat → Prop) (w : World) (hv : SlAt 1 rI w S v xs) (hS : ∀ b, S b → b < w.heap.size) :
    Calls Try.prog 40 #[.agg #[.int .i64 W, .int .i64 H, v]] w (BoolB (PatOk W H xs) w) := by
  have HV := Lib.hid hv; clear hv
  go_enter Try.func40, Try.ntmps40
  go_wp2_with fail
  refine (sPatP w.heap.size W H v xs S _ (HV.out.below (B := w.heap.size) (by repeat (first | with_reducible exact Below.refl _ _ | with_reducible assumption | (with_reducible refine Below.setCell ?_ ?_ _; rotate_left; next => (first | omega | (simp; done) | (simp; omega) | exact Below.size (by assumption))) | (with_reducible refine Below.alloc ?_ ?_ _; rotate_left; next => (first | omega | (simp; done) | (simp; omega) | exact Below.size (by assumption))) | with_reducible refine Below.drew ?_ | with_reducible refine below_drewN ?_ _ | (with_reducible refine Below.trans ?_ (Below.mono (by assumption) ?_); rotate_left; next => (first | omega | (simp; done) | (simp; omega) | exact Below.size (by assumption))))) hS) (fun b hb => by have := hS b hb; (first | omega | (simp; done) | (simp; omega))) (Blk.alloc_at rfl)).mono ?_
  rintro e w1 ⟨hb, ⟨h1, rfl⟩ | ⟨h1, rfl⟩⟩
  all_goals
    go_wp2
    go_ret
  · exact .yes (by repeat (first | with_reducible exact Below.refl _ _ | with_reducible assumption | (with_reducible refine Below.setCell ?_ ?_ _; rotate_left; next => (first | omega | (simp; done) | (simp; omega) | exact Below.size (by assumption))) | (with_reducible refine Below.alloc ?_ ?_ _; rotate_left; next => (first | omega | (simp; done) | (simp; omega) | exact Below.size (by assumption))) | with_reducible refine Below.drew ?_ | with_reducible refine below_drewN ?_ _ | (with_reducible refine Below.trans ?_ (Below.mono (by assumption) ?_); rotate_left; next => (first | omega | (simp; done) | (simp; omega) | exact Below.size (by assumption))))) h1
  · exact .no (by repeat (first | with_reducible exact Below.refl _ _ | with_reducible assumption | (with_reducible refine Below.setCell ?_ ?_ _; rotate_left; next => (first | omega | (simp; done) | (simp; omega) | exact Below.size (by assumption))) | (with_reducible refine Below.alloc ?_ ?_ _; rotate_left; next => (first | omega | (simp; done) | (simp; omega) | exact Below.size (by assumption))) | with_reducible refine Below.drew ?_ | with_reducible refine below_drewN ?_ _ | (with_reducible refine Below.trans ?_ (Below.mono (by assumption) ?_); rotate_left; next => (first | omega | (simp; done) | (simp; omega) | exact Below.size (by assumption))))) h1
end Go.Proofs.Ytghecnlgainfkaa
