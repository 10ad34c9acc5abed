/- Contracts on rules: valid, next state, symmetric. -/
import Derived.Test.YtghecnlgainfkaaPatterns
namespace Go.Proofs.Ytghecnlgainfkaa
open Go.RowKit
def RuleOk (s : Int) (xs : List Int) : Prop := (1 ≤ s ∧ s ≤ 5) ∧ (xs.length : Int) = s * s ∧ allB s xs
theorem sq_bd (s : Int) (h : 1 ≤ s ∧ s ≤ 5) : 1 ≤ s * s ∧ s * s ≤ 25 := by
  obtain rfl | rfl | rfl | rfl | rfl : s = 1 ∨ s = 2 ∨ s = 3 ∨ s = 4 ∨ s = 5 := by omega
  all_goals omega
set_option maxHeartbeats 1000000 in
theorem iRule (s : Int) (v : Value) (xs : List Int) (S : Nat → Prop) (w : World) (hv : SlAt 1 rI w S v xs) (hS : ∀ b, S b → b < w.heap.size) :
    Calls Try.prog 86 #[.agg #[.int .i64 s, v]] w (BoolB (RuleOk s xs) w) := by
  have h63 := hv.le
  have HV := Lib.hid hv
  obtain ⟨a, cap, rfl⟩ := hv.len
  clear hv
  by_cases g1 : 1 ≤ s ∧ s ≤ 5
  · obtain ⟨m1, m2⟩ := sq_bd s g1
    by_cases g3 : (xs.length : Int) = s * s
    · have e3 : ((xs.length : Int) == s * s) = true := by rw [g3]; simp
      have G3 := Lib.hid g3; clear g3
      go_enter Try.func86, Try.ntmps86
      go_wp2_with (first | (go_at_call 69; refine (iIn _ _ _ _).mono ?_; rintro e w' ⟨rfl, ⟨h1, rfl⟩ | ⟨h1, rfl⟩⟩ <;> try (exfalso; omega)) | (go_at_call 81; refine (below_any _ xs _ S _ (HV.out.below (B := w.heap.size) (by repeat (first | with_reducible exact Below.refl _ _ | with_reducible assumption | (with_reducible refine Below.setCell ?_ ?_ _; rotate_left; next => (first | omega | (simp; done) | (simp; omega) | exact Below.size (by assumption))) | (with_reducible refine Below.alloc ?_ ?_ _; rotate_left; next => (first | omega | (simp; done) | (simp; omega) | exact Below.size (by assumption))) | with_reducible refine Below.drew ?_ | with_reducible refine below_drewN ?_ _ | (with_reducible refine Below.trans ?_ (Below.mono (by assumption) ?_); rotate_left; next => (first | omega | (simp; done) | (simp; omega) | exact Below.size (by assumption))))) hS) (fun b hb => by have := hS b hb; (first | omega | (simp; done) | (simp; omega))) (by omega)).mono ?_; rintro e w1 ⟨hb, ⟨g4, rfl⟩ | ⟨g4, rfl⟩⟩))
      all_goals go_ret
      · exact .yes (by repeat (first | with_reducible exact Below.refl _ _ | with_reducible assumption | (with_reducible refine Below.setCell ?_ ?_ _; rotate_left; next => (first | omega | (simp; done) | (simp; omega) | exact Below.size (by assumption))) | (with_reducible refine Below.alloc ?_ ?_ _; rotate_left; next => (first | omega | (simp; done) | (simp; omega) | exact Below.size (by assumption))) | with_reducible refine Below.drew ?_ | with_reducible refine below_drewN ?_ _ | (with_reducible refine Below.trans ?_ (Below.mono (by assumption) ?_); rotate_left; next => (first | omega | (simp; done) | (simp; omega) | exact Below.size (by assumption))))) ⟨g1, G3.out, g4⟩
      · exact .no (by repeat (first | with_reducible exact Below.refl _ _ | with_reducible assumption | (with_reducible refine Below.setCell ?_ ?_ _; rotate_left; next => (first | omega | (simp; done) | (simp; omega) | exact Below.size (by assumption))) | (with_reducible refine Below.alloc ?_ ?_ _; rotate_left; next => (first | omega | (simp; done) | (simp; omega) | exact Below.size (by assumption))) | with_reducible refine Below.drew ?_ | with_reducible refine below_drewN ?_ _ | (with_reducible refine Below.trans ?_ (Below.mono (by assumption) ?_); rotate_left; next => (first | omega | (simp; done) | (simp; omega) | exact Below.size (by assumption))))) (fun e => g4 e.2.2)
    · have e3 : ((xs.length : Int) == s * s) = false := by simp [g3]
      have G3 := Lib.hid g3; clear g3
      go_enter Try.func86, Try.ntmps86
      go_wp2_with ((go_at_call 69; refine (iIn _ _ _ _).mono ?_; rintro e w' ⟨rfl, ⟨h1, rfl⟩ | ⟨h1, rfl⟩⟩ <;> try (exfalso; omega)))
      go_ret
      exact .no (by repeat (first | with_reducible exact Below.refl _ _ | with_reducible assumption | (with_reducible refine Below.setCell ?_ ?_ _; rotate_left; next => (first | omega | (simp; done) | (simp; omega) | exact Below.size (by assumption))) | (with_reducible refine Below.alloc ?_ ?_ _; rotate_left; next => (first | omega | (simp; done) | (simp; omega) | exact Below.size (by assumption))) | with_reducible refine Below.drew ?_ | with_reducible refine below_drewN ?_ _ | (with_reducible refine Below.trans ?_ (Below.mono (by assumption) ?_); rotate_left; next => (first | omega | (simp; done) | (simp; omega) | exact Below.size (by assumption))))) (fun e => G3.out e.2.1)
  · go_enter Try.func86, Try.ntmps86
    go_wp2_with ((go_at_call 69; refine (iIn _ _ _ _).mono ?_; rintro e w' ⟨rfl, ⟨h1, rfl⟩ | ⟨h1, rfl⟩⟩ <;> try (exfalso; omega)))
    go_ret
    exact .no (by repeat (first | with_reducible exact Below.refl _ _ | with_reducible assumption | (with_reducible refine Below.setCell ?_ ?_ _; rotate_left; next => (first | omega | (simp; done) | (simp; omega) | exact Below.size (by assumption))) | (with_reducible refine Below.alloc ?_ ?_ _; rotate_left; next => (first | omega | (simp; done) | (simp; omega) | exact Below.size (by assumption))) | with_reducible refine Below.drew ?_ | with_reducible refine below_drewN ?_ _ | (with_reducible refine Below.trans ?_ (Below.mono (by assumption) ?_); rotate_left; next => (first | omega | (simp; done) | (simp; omega) | exact Below.size (by assumption))))) (fun e => g1 e.1)
set_option maxHeartbeats 1000000 in
theorem sRuleP (b : Nat) (s : Int) (v : Value) (xs : List Int) (S : Nat → Prop) (w : World) (hv : SlAt 1 rI w S v xs) (hS : ∀ b, S b → b < w.heap.size) (K : Blk w b [.int .i64 s, v] 72) :
    Calls Try.prog 85 #[.pointer (some ⟨b, 0, none⟩)] w (BoolB (RuleOk s xs) w) := by
  have h63 := hv.le
  have HV := Lib.hid hv
  obtain ⟨a, cap, rfl⟩ := hv.len
  clear hv
  have k0 := K.cell (i := 0) rfl
  have k1 := K.cell (i := 1) rfl
  by_cases g1 : 1 ≤ s ∧ s ≤ 5
  · obtain ⟨m1, m2⟩ := sq_bd s g1
    by_cases g3 : (xs.length : Int) = s * s
    · have e3 : ((xs.length : Int) != s * s) = false := by rw [g3]; simp
      have G3 := Lib.hid g3; clear g3
      go_enter Try.func85, Try.ntmps85
      go_wp2_with fail
      go_quiet ((go_at_call 58; first | exact Calls.quiet_of_same (sIn_t _ _ _ _ (by omega) (by omega)) | exact Calls.quiet_of_same (sIn_f _ _ _ _ (by omega))))
      go_wp2
      go_loopw [3] (fun i wr => ∃ k : Nat, k ≤ xs.length ∧ i = .int .i64 k ∧ Hid (allB s (xs.take k)) ∧ Below w.heap.size w wr) (fun i _ => xs.length - (intOf i).toNat)
      case atStart => exact ⟨0, Nat.zero_le _, rfl, Lib.hid (by intro x hx; simp at hx), (by repeat (first | with_reducible exact Below.refl _ _ | with_reducible assumption | (with_reducible refine Below.setCell ?_ ?_ _; rotate_left; next => (first | omega | (simp; done) | (simp; omega) | exact Below.size (by assumption))) | (with_reducible refine Below.alloc ?_ ?_ _; rotate_left; next => (first | omega | (simp; done) | (simp; omega) | exact Below.size (by assumption))) | with_reducible refine Below.drew ?_ | with_reducible refine below_drewN ?_ _ | (with_reducible refine Below.trans ?_ (Below.mono (by assumption) ?_); rotate_left; next => (first | omega | (simp; done) | (simp; omega) | exact Below.size (by assumption)))))⟩
      case round =>
        obtain ⟨k, hk, rfl, hK, hbr⟩ := hrel
        clear k0 k1
        have k0 := (K.of_eq (hbr.block b K.lt)).cell (i := 0) rfl
        have k1 := (K.of_eq (hbr.block b K.lt)).cell (i := 1) rfl
        by_cases hlt : k < xs.length
        · obtain ⟨x, hx⟩ := get_of_lt hlt
          obtain ⟨b', off, cap1, hav, hSb, hc, _⟩ := (HV.out.below hbr hS).int hx
          simp only [Value.slice.injEq] at hav
          obtain ⟨rfl, _, rfl⟩ := hav
          have Hx := Lib.hid hx; clear hx
          by_cases hp : 0 ≤ x ∧ x < s
          · go_wp2_with fail
            go_quiet ((go_at_call 58; exact Calls.quiet_of_same (sIn_t _ _ _ _ (by omega) (by omega))))
            go_wp2
            go_roundw
            case rel => exact ⟨k + 1, by omega, by go_num, Lib.hid (allB_snoc hK.out Hx.out hp), (by repeat (first | with_reducible exact Below.refl _ _ | with_reducible assumption | (with_reducible refine Below.setCell ?_ ?_ _; rotate_left; next => (first | omega | (simp; done) | (simp; omega) | exact Below.size (by assumption))) | (with_reducible refine Below.alloc ?_ ?_ _; rotate_left; next => (first | omega | (simp; done) | (simp; omega) | exact Below.size (by assumption))) | with_reducible refine Below.drew ?_ | with_reducible refine below_drewN ?_ _ | (with_reducible refine Below.trans ?_ (Below.mono (by assumption) ?_); rotate_left; next => (first | omega | (simp; done) | (simp; omega) | exact Below.size (by assumption)))))⟩
            case measure => simp [intOf]; omega
          · go_wp2_with fail
            go_quiet ((go_at_call 58; exact Calls.quiet_of_same (sIn_f _ _ _ _ (by omega))))
            go_wp2
            go_ret
            exact .no (by repeat (first | with_reducible exact Below.refl _ _ | with_reducible assumption | (with_reducible refine Below.setCell ?_ ?_ _; rotate_left; next => (first | omega | (simp; done) | (simp; omega) | exact Below.size (by assumption))) | (with_reducible refine Below.alloc ?_ ?_ _; rotate_left; next => (first | omega | (simp; done) | (simp; omega) | exact Below.size (by assumption))) | with_reducible refine Below.drew ?_ | with_reducible refine below_drewN ?_ _ | (with_reducible refine Below.trans ?_ (Below.mono (by assumption) ?_); rotate_left; next => (first | omega | (simp; done) | (simp; omega) | exact Below.size (by assumption))))) (fun e => by have := e.2.2 x (List.mem_of_getElem? Hx.out); omega)
        · obtain rfl : k = xs.length := by omega
          go_wp2
          go_ret
          exact .yes (by repeat (first | with_reducible exact Below.refl _ _ | with_reducible assumption | (with_reducible refine Below.setCell ?_ ?_ _; rotate_left; next => (first | omega | (simp; done) | (simp; omega) | exact Below.size (by assumption))) | (with_reducible refine Below.alloc ?_ ?_ _; rotate_left; next => (first | omega | (simp; done) | (simp; omega) | exact Below.size (by assumption))) | with_reducible refine Below.drew ?_ | with_reducible refine below_drewN ?_ _ | (with_reducible refine Below.trans ?_ (Below.mono (by assumption) ?_); rotate_left; next => (first | omega | (simp; done) | (simp; omega) | exact Below.size (by assumption))))) ⟨g1, G3.out, by have := hK.out; rw [List.take_length] at this; exact this⟩
    · have e3 : ((xs.length : Int) != s * s) = true := by simp [g3]
      have G3 := Lib.hid g3; clear g3
      go_enter Try.func85, Try.ntmps85
      go_wp2_with fail
      go_quiet ((go_at_call 58; first | exact Calls.quiet_of_same (sIn_t _ _ _ _ (by omega) (by omega)) | exact Calls.quiet_of_same (sIn_f _ _ _ _ (by omega))))
      go_wp2
      go_ret
      exact .no (by repeat (first | with_reducible exact Below.refl _ _ | with_reducible assumption | (with_reducible refine Below.setCell ?_ ?_ _; rotate_left; next => (first | omega | (simp; done) | (simp; omega) | exact Below.size (by assumption))) | (with_reducible refine Below.alloc ?_ ?_ _; rotate_left; next => (first | omega | (simp; done) | (simp; omega) | exact Below.size (by assumption))) | with_reducible refine Below.drew ?_ | with_reducible refine below_drewN ?_ _ | (with_reducible refine Below.trans ?_ (Below.mono (by assumption) ?_); rotate_left; next => (first | omega | (simp; done) | (simp; omega) | exact Below.size (by assumption))))) (fun e => G3.out e.2.1)
  · go_enter Try.func85, Try.ntmps85
    go_wp2_with fail
    go_quiet ((go_at_call 58; first | exact Calls.quiet_of_same (sIn_t _ _ _ _ (by omega) (by omega)) | exact Calls.quiet_of_same (sIn_f _ _ _ _ (by omega))))
    go_wp2
    go_ret
    exact .no (by repeat (first | with_reducible exact Below.refl _ _ | with_reducible assumption | (with_reducible refine Below.setCell ?_ ?_ _; rotate_left; next => (first | omega | (simp; done) | (simp; omega) | exact Below.size (by assumption))) | (with_reducible refine Below.alloc ?_ ?_ _; rotate_left; next => (first | omega | (simp; done) | (simp; omega) | exact Below.size (by assumption))) | with_reducible refine Below.drew ?_ | with_reducible refine below_drewN ?_ _ | (with_reducible refine Below.trans ?_ (Below.mono (by assumption) ?_); rotate_left; next => (first | omega | (simp; done) | (simp; omega) | exact Below.size (by assumption))))) (fun e => g1 e.1)
/-- what a table of n states says of two of them -/
def tab (xs : List Int) (n a b : Nat) : Int := xs.getD (a * n + b) 0
theorem idx_lt {n a b : Nat} (ha : a < n) (hb : b < n) : a * n + b < n * n := by
  have : (a + 1) * n ≤ n * n := Nat.mul_le_mul_right n ha
  rw [Nat.add_mul] at this
  omega
theorem tab_get {xs : List Int} {n a b : Nat} (hl : xs.length = n * n) (ha : a < n) (hb : b < n) : xs[a * n + b]? = some (tab xs n a b) := by
  have := idx_lt ha hb
  unfold tab
  rw [List.getD_eq_getElem?_getD, List.getElem?_eq_getElem (by omega)]
  rfl
def Symm (xs : List Int) (n : Nat) : Prop := ∀ a b, a < n → b < n → tab xs n a b = tab xs n b a
end Go.Proofs.Ytghecnlgainfkaa
