/- Contracts of the laws' helpers on structs of numbers and slices of numbers: size, copy, compare. -/
import Derived.Test.YtghecnlgainfkaaInts
namespace Go.Proofs.Ytghecnlgainfkaa
open Go.RowKit
/-- What is left of a budget. -/
def szI (l n : Int) : Int := if l - n < 0 then -1 else l - n
theorem szInts (v : Value) (xs : List Int) (l : Int) (S : Nat → Prop) (w : World) (hv : SlAt 1 rI w S v xs) (hl : -1 ≤ l ∧ l ≤ 1048576) :
    Calls Try.prog 77 #[v, .int .i64 l] w (Gives (.int .i64 (szI l xs.length)) w) := by
  have h63 := hv.le
  obtain ⟨a, cap, rfl⟩ := hv.len
  by_cases h : l - xs.length < 0
  · have e : szI l xs.length = -1 := if_pos h
    have E := Lib.hid e; clear e
    go_enter Try.func77, Try.ntmps77
    go_wp2
    go_ret
    exact ⟨ret_int E.out.symm, rfl⟩
  · have e : szI l xs.length = l - xs.length := if_neg h
    have E := Lib.hid e; clear e
    go_enter Try.func77, Try.ntmps77
    go_wp2
    go_ret
    exact ⟨ret_int E.out.symm, rfl⟩
theorem szI_or (l n : Int) : szI l n = -1 ∨ szI l n = l - n := by unfold szI; split <;> simp
theorem szI_bd (l n : Int) (h : -1 ≤ l ∧ l ≤ 1048576) (hn : 0 ≤ n := by omega) : -1 ≤ szI l n ∧ szI l n ≤ 1048576 := by unfold szI; split <;> omega
theorem szI_neg (n : Int) (hn : 0 ≤ n) : szI (-1) n = -1 := by unfold szI; rw [if_pos (by omega)]
theorem szI_ok (l n : Int) : ¬ szI l n < 0 ↔ n ≤ l := by unfold szI; split <;> omega
set_option maxHeartbeats 1000000 in
theorem szPattern_any (n0 : Int) (n1 : Int) (v2 : Value) (x2 : List Int) (l : Int) (S : Nat → Prop) (w : World) (h2 : SlAt 1 rI w S v2 x2) (hS : ∀ b, S b → b < w.heap.size) (hl : -1 ≤ l ∧ l ≤ 1048576) :
    Calls Try.prog 39 #[.agg #[.int .i64 n0, .int .i64 n1, v2], .int .i64 l] w (Ret (.int .i64 (szI l x2.length)) w) := by
  have H2 := Lib.hid h2; clear h2
  go_enter Try.func39, Try.ntmps39
  go_wp2_with fail
  refine (szInts _ x2 l S _ (H2.out.below (B := w.heap.size) (by repeat (first | with_reducible exact Below.refl _ _ | with_reducible assumption | (with_reducible refine Below.setCell ?_ ?_ _; rotate_left; next => (first | omega | (simp; done) | (simp; omega) | exact Below.size (by assumption))) | (with_reducible refine Below.alloc ?_ ?_ _; rotate_left; next => (first | omega | (simp; done) | (simp; omega) | exact Below.size (by assumption))) | with_reducible refine Below.drew ?_ | with_reducible refine below_drewN ?_ _ | (with_reducible refine Below.trans ?_ (Below.mono (by assumption) ?_); rotate_left; next => (first | omega | (simp; done) | (simp; omega) | exact Below.size (by assumption))))) hS) (by omega)).mono ?_
  rintro e w1 ⟨rfl, rfl⟩
  have R2 := szI_or l x2.length
  have Q2 := szI_bd l x2.length (by omega)
  generalize hg2 : szI l x2.length = r2 at *
  have HG2 := Lib.hid hg2; clear hg2 R2
  by_cases t2 : r2 < 0
  · have t' : r2 = -1 := by omega
    have T' := Lib.hid t'; clear t'
    go_wp2
    go_ret
    exact ⟨ret_int (by have h1 := T'.out; first | omega | (rw [h1, szI_neg _ (by omega)])), (by repeat (first | with_reducible exact Below.refl _ _ | with_reducible assumption | (with_reducible refine Below.setCell ?_ ?_ _; rotate_left; next => (first | omega | (simp; done) | (simp; omega) | exact Below.size (by assumption))) | (with_reducible refine Below.alloc ?_ ?_ _; rotate_left; next => (first | omega | (simp; done) | (simp; omega) | exact Below.size (by assumption))) | with_reducible refine Below.drew ?_ | with_reducible refine below_drewN ?_ _ | (with_reducible refine Below.trans ?_ (Below.mono (by assumption) ?_); rotate_left; next => (first | omega | (simp; done) | (simp; omega) | exact Below.size (by assumption)))))⟩
  go_wp2
  go_ret
  exact ⟨rfl, (by repeat (first | with_reducible exact Below.refl _ _ | with_reducible assumption | (with_reducible refine Below.setCell ?_ ?_ _; rotate_left; next => (first | omega | (simp; done) | (simp; omega) | exact Below.size (by assumption))) | (with_reducible refine Below.alloc ?_ ?_ _; rotate_left; next => (first | omega | (simp; done) | (simp; omega) | exact Below.size (by assumption))) | with_reducible refine Below.drew ?_ | with_reducible refine below_drewN ?_ _ | (with_reducible refine Below.trans ?_ (Below.mono (by assumption) ?_); rotate_left; next => (first | omega | (simp; done) | (simp; omega) | exact Below.size (by assumption)))))⟩
/-- a Pattern that the call has made -/
def MadePattern (lo : Nat) (n0 : Int) (n1 : Int) (x2 : List Int) (r : Value) (W : World) : Prop := ∃ u2, r = .agg #[.int .i64 n0, .int .i64 n1, u2] ∧ Made lo (ints x2) x2.length 2 u2 W
set_option maxHeartbeats 1000000 in
theorem toPattern_any (n0 : Int) (n1 : Int) (v2 : Value) (x2 : List Int) (S : Nat → Prop) (w : World) (h2 : SlAt 1 rI w S v2 x2) (l2 : x2.length ≤ 1048576) (hS : ∀ b, S b → b < w.heap.size) :
    Calls Try.prog 41 #[.agg #[.int .i64 n0, .int .i64 n1, v2]] w (Hands (MadePattern w.heap.size n0 n1 x2) w) := by
  have H2 := Lib.hid h2; clear h2
  go_enter Try.func41, Try.ntmps41
  go_wp2_with fail
  refine (toInts _ x2 S _ (H2.out.below (B := w.heap.size) (by repeat (first | with_reducible exact Below.refl _ _ | with_reducible assumption | (with_reducible refine Below.setCell ?_ ?_ _; rotate_left; next => (first | omega | (simp; done) | (simp; omega) | exact Below.size (by assumption))) | (with_reducible refine Below.alloc ?_ ?_ _; rotate_left; next => (first | omega | (simp; done) | (simp; omega) | exact Below.size (by assumption))) | with_reducible refine Below.drew ?_ | with_reducible refine below_drewN ?_ _ | (with_reducible refine Below.trans ?_ (Below.mono (by assumption) ?_); rotate_left; next => (first | omega | (simp; done) | (simp; omega) | exact Below.size (by assumption))))) hS) l2 (fun b hb => by have := hS b hb; (first | omega | (simp; done) | (simp; omega)))).mono ?_
  rintro e w1 ⟨u2, rfl, ⟨g2, rfl, lg2, B2⟩, hb⟩
  ((obtain ⟨hc, hf⟩ := bcell hb; have hz := hb.size; have ht := below_lt hb; (try simp at hz); (try have z0 : w.heap.size < w1.heap.size := by omega); (try have z1 : w.heap.size + 1 < w1.heap.size := by omega); (try have z2 : w.heap.size + 1 + 1 < w1.heap.size := by omega); (try have z3 : w.heap.size + 1 + 1 + 1 < w1.heap.size := by omega); (try have z4 : w.heap.size + 1 + 1 + 1 + 1 < w1.heap.size := by omega))); (try simp at lg2)
  have L2 := B2.lt
  go_wp2
  refine bodyPost_ret (v := .agg #[.int .i64 n0, .int .i64 n1, .slice (some ⟨g2, 0, none⟩) x2.length x2.length]) ?_ rfl ⟨_, rfl, ⟨_, rfl, ⟨g2, rfl, by omega, (by repeat (first | with_reducible assumption | (with_reducible refine Blk.alloc_at ?_; next => (first | omega | (simp; done) | (simp; omega))) | (with_reducible refine Blk.set_other _ ?_ ?_; next => (first | omega | (simp; done) | (simp; omega))) | with_reducible refine Blk.alloc_old _ ?_ | with_reducible refine Blk.drew ?_ | with_reducible refine Blk.below (by assumption) ?_))⟩⟩, (by repeat (first | with_reducible exact Below.refl _ _ | with_reducible assumption | (with_reducible refine Below.setCell ?_ ?_ _; rotate_left; next => (first | omega | (simp; done) | (simp; omega) | exact Below.size (by assumption))) | (with_reducible refine Below.alloc ?_ ?_ _; rotate_left; next => (first | omega | (simp; done) | (simp; omega) | exact Below.size (by assumption))) | with_reducible refine Below.drew ?_ | with_reducible refine below_drewN ?_ _ | (with_reducible refine Below.trans ?_ (Below.mono (by assumption) ?_); rotate_left; next => (first | omega | (simp; done) | (simp; omega) | exact Below.size (by assumption)))))⟩
  · simp only [results, Try.results41]; go_simp
set_option maxHeartbeats 2000000 in
theorem eqPattern_any (n0 m0 : Int) (n1 m1 : Int) (v2 u2 : Value) (x2 y2 : List Int) (S : Nat → Prop) (w : World) (h2 : SlAt 1 rI w S v2 x2) (k2 : SlAt 1 rI w S u2 y2) (hS : ∀ b, S b → b < w.heap.size) :
    Calls Try.prog 43 #[.agg #[.int .i64 n0, .int .i64 n1, v2], .agg #[.int .i64 m0, .int .i64 m1, u2]] w (BoolB (n0 = m0 ∧ n1 = m1 ∧ x2 = y2) w) := by
  have H2 := Lib.hid h2; clear h2; have K2 := Lib.hid k2; clear k2
  by_cases q0 : n0 = m0
  · subst q0
    by_cases q1 : n1 = m1
    · subst q1
      go_enter Try.func43, Try.ntmps43
      go_wp2_with fail
      refine (eqInts _ _ x2 y2 S _ (H2.out.below (B := w.heap.size) (by repeat (first | with_reducible exact Below.refl _ _ | with_reducible assumption | (with_reducible refine Below.setCell ?_ ?_ _; rotate_left; next => (first | omega | (simp; done) | (simp; omega) | exact Below.size (by assumption))) | (with_reducible refine Below.alloc ?_ ?_ _; rotate_left; next => (first | omega | (simp; done) | (simp; omega) | exact Below.size (by assumption))) | with_reducible refine Below.drew ?_ | with_reducible refine below_drewN ?_ _ | (with_reducible refine Below.trans ?_ (Below.mono (by assumption) ?_); rotate_left; next => (first | omega | (simp; done) | (simp; omega) | exact Below.size (by assumption))))) hS) (K2.out.below (B := w.heap.size) (by repeat (first | with_reducible exact Below.refl _ _ | with_reducible assumption | (with_reducible refine Below.setCell ?_ ?_ _; rotate_left; next => (first | omega | (simp; done) | (simp; omega) | exact Below.size (by assumption))) | (with_reducible refine Below.alloc ?_ ?_ _; rotate_left; next => (first | omega | (simp; done) | (simp; omega) | exact Below.size (by assumption))) | with_reducible refine Below.drew ?_ | with_reducible refine below_drewN ?_ _ | (with_reducible refine Below.trans ?_ (Below.mono (by assumption) ?_); rotate_left; next => (first | omega | (simp; done) | (simp; omega) | exact Below.size (by assumption))))) hS) (fun b hb => by have := hS b hb; (first | omega | (simp; done) | (simp; omega)))).mono ?_
      rintro e w1 ⟨hb, ⟨e2, rfl⟩ | ⟨e2, rfl⟩⟩
      case inr =>
        (obtain ⟨hc, hf⟩ := bcell hb; have hz := hb.size; have ht := below_lt hb; (try simp at hz); (try have z0 : w.heap.size < w1.heap.size := by omega); (try have z1 : w.heap.size + 1 < w1.heap.size := by omega); (try have z2 : w.heap.size + 1 + 1 < w1.heap.size := by omega); (try have z3 : w.heap.size + 1 + 1 + 1 < w1.heap.size := by omega); (try have z4 : w.heap.size + 1 + 1 + 1 + 1 < w1.heap.size := by omega))
        go_wp2
        go_ret
        exact .no (by repeat (first | with_reducible exact Below.refl _ _ | with_reducible assumption | (with_reducible refine Below.setCell ?_ ?_ _; rotate_left; next => (first | omega | (simp; done) | (simp; omega) | exact Below.size (by assumption))) | (with_reducible refine Below.alloc ?_ ?_ _; rotate_left; next => (first | omega | (simp; done) | (simp; omega) | exact Below.size (by assumption))) | with_reducible refine Below.drew ?_ | with_reducible refine below_drewN ?_ _ | (with_reducible refine Below.trans ?_ (Below.mono (by assumption) ?_); rotate_left; next => (first | omega | (simp; done) | (simp; omega) | exact Below.size (by assumption))))) (fun h => e2 (by simp_all))
      ((obtain ⟨hc, hf⟩ := bcell hb; have hz := hb.size; have ht := below_lt hb; (try simp at hz); (try have z0 : w.heap.size < w1.heap.size := by omega); (try have z1 : w.heap.size + 1 < w1.heap.size := by omega); (try have z2 : w.heap.size + 1 + 1 < w1.heap.size := by omega); (try have z3 : w.heap.size + 1 + 1 + 1 < w1.heap.size := by omega); (try have z4 : w.heap.size + 1 + 1 + 1 + 1 < w1.heap.size := by omega))); have E2 := Lib.hid e2; clear e2
      go_wp2
      go_ret
      exact .yes (by repeat (first | with_reducible exact Below.refl _ _ | with_reducible assumption | (with_reducible refine Below.setCell ?_ ?_ _; rotate_left; next => (first | omega | (simp; done) | (simp; omega) | exact Below.size (by assumption))) | (with_reducible refine Below.alloc ?_ ?_ _; rotate_left; next => (first | omega | (simp; done) | (simp; omega) | exact Below.size (by assumption))) | with_reducible refine Below.drew ?_ | with_reducible refine below_drewN ?_ _ | (with_reducible refine Below.trans ?_ (Below.mono (by assumption) ?_); rotate_left; next => (first | omega | (simp; done) | (simp; omega) | exact Below.size (by assumption))))) (by simp [E2.out])
    · go_enter Try.func43, Try.ntmps43
      all_goals
        go_wp2
        go_ret
        exact .no (by repeat (first | with_reducible exact Below.refl _ _ | with_reducible assumption | (with_reducible refine Below.setCell ?_ ?_ _; rotate_left; next => (first | omega | (simp; done) | (simp; omega) | exact Below.size (by assumption))) | (with_reducible refine Below.alloc ?_ ?_ _; rotate_left; next => (first | omega | (simp; done) | (simp; omega) | exact Below.size (by assumption))) | with_reducible refine Below.drew ?_ | with_reducible refine below_drewN ?_ _ | (with_reducible refine Below.trans ?_ (Below.mono (by assumption) ?_); rotate_left; next => (first | omega | (simp; done) | (simp; omega) | exact Below.size (by assumption))))) (fun h => q1 (by simp_all))
  · go_enter Try.func43, Try.ntmps43
    all_goals
      go_wp2
      go_ret
      exact .no (by repeat (first | with_reducible exact Below.refl _ _ | with_reducible assumption | (with_reducible refine Below.setCell ?_ ?_ _; rotate_left; next => (first | omega | (simp; done) | (simp; omega) | exact Below.size (by assumption))) | (with_reducible refine Below.alloc ?_ ?_ _; rotate_left; next => (first | omega | (simp; done) | (simp; omega) | exact Below.size (by assumption))) | with_reducible refine Below.drew ?_ | with_reducible refine below_drewN ?_ _ | (with_reducible refine Below.trans ?_ (Below.mono (by assumption) ?_); rotate_left; next => (first | omega | (simp; done) | (simp; omega) | exact Below.size (by assumption))))) (fun h => q0 (by simp_all))
set_option maxHeartbeats 1000000 in
theorem szConfig_any (n1 : Int) (n2 : Int) (v0 : Value) (x0 : List Int) (l : Int) (S : Nat → Prop) (w : World) (h0 : SlAt 1 rI w S v0 x0) (hS : ∀ b, S b → b < w.heap.size) (hl : -1 ≤ l ∧ l ≤ 1048576) :
    Calls Try.prog 34 #[.agg #[v0, .int .i64 n1, .int .i64 n2], .int .i64 l] w (Ret (.int .i64 (szI l x0.length)) w) := by
  have H0 := Lib.hid h0; clear h0
  go_enter Try.func34, Try.ntmps34
  go_wp2_with fail
  refine (szInts _ x0 l S _ (H0.out.below (B := w.heap.size) (by repeat (first | with_reducible exact Below.refl _ _ | with_reducible assumption | (with_reducible refine Below.setCell ?_ ?_ _; rotate_left; next => (first | omega | (simp; done) | (simp; omega) | exact Below.size (by assumption))) | (with_reducible refine Below.alloc ?_ ?_ _; rotate_left; next => (first | omega | (simp; done) | (simp; omega) | exact Below.size (by assumption))) | with_reducible refine Below.drew ?_ | with_reducible refine below_drewN ?_ _ | (with_reducible refine Below.trans ?_ (Below.mono (by assumption) ?_); rotate_left; next => (first | omega | (simp; done) | (simp; omega) | exact Below.size (by assumption))))) hS) (by omega)).mono ?_
  rintro e w1 ⟨rfl, rfl⟩
  have R0 := szI_or l x0.length
  have Q0 := szI_bd l x0.length (by omega)
  generalize hg0 : szI l x0.length = r0 at *
  have HG0 := Lib.hid hg0; clear hg0 R0
  by_cases t0 : r0 < 0
  · have t' : r0 = -1 := by omega
    have T' := Lib.hid t'; clear t'
    go_wp2
    go_ret
    exact ⟨ret_int (by have h1 := T'.out; first | omega | (rw [h1, szI_neg _ (by omega)])), (by repeat (first | with_reducible exact Below.refl _ _ | with_reducible assumption | (with_reducible refine Below.setCell ?_ ?_ _; rotate_left; next => (first | omega | (simp; done) | (simp; omega) | exact Below.size (by assumption))) | (with_reducible refine Below.alloc ?_ ?_ _; rotate_left; next => (first | omega | (simp; done) | (simp; omega) | exact Below.size (by assumption))) | with_reducible refine Below.drew ?_ | with_reducible refine below_drewN ?_ _ | (with_reducible refine Below.trans ?_ (Below.mono (by assumption) ?_); rotate_left; next => (first | omega | (simp; done) | (simp; omega) | exact Below.size (by assumption)))))⟩
  go_wp2
  go_ret
  exact ⟨rfl, (by repeat (first | with_reducible exact Below.refl _ _ | with_reducible assumption | (with_reducible refine Below.setCell ?_ ?_ _; rotate_left; next => (first | omega | (simp; done) | (simp; omega) | exact Below.size (by assumption))) | (with_reducible refine Below.alloc ?_ ?_ _; rotate_left; next => (first | omega | (simp; done) | (simp; omega) | exact Below.size (by assumption))) | with_reducible refine Below.drew ?_ | with_reducible refine below_drewN ?_ _ | (with_reducible refine Below.trans ?_ (Below.mono (by assumption) ?_); rotate_left; next => (first | omega | (simp; done) | (simp; omega) | exact Below.size (by assumption)))))⟩
/-- a Config that the call has made -/
def MadeConfig (lo : Nat) (n1 : Int) (n2 : Int) (x0 : List Int) (r : Value) (W : World) : Prop := ∃ u0, r = .agg #[u0, .int .i64 n1, .int .i64 n2] ∧ Made lo (ints x0) x0.length 2 u0 W
set_option maxHeartbeats 1000000 in
theorem toConfig_any (n1 : Int) (n2 : Int) (v0 : Value) (x0 : List Int) (S : Nat → Prop) (w : World) (h0 : SlAt 1 rI w S v0 x0) (l0 : x0.length ≤ 1048576) (hS : ∀ b, S b → b < w.heap.size) :
    Calls Try.prog 36 #[.agg #[v0, .int .i64 n1, .int .i64 n2]] w (Hands (MadeConfig w.heap.size n1 n2 x0) w) := by
  have H0 := Lib.hid h0; clear h0
  go_enter Try.func36, Try.ntmps36
  go_wp2_with fail
  refine (toInts _ x0 S _ (H0.out.below (B := w.heap.size) (by repeat (first | with_reducible exact Below.refl _ _ | with_reducible assumption | (with_reducible refine Below.setCell ?_ ?_ _; rotate_left; next => (first | omega | (simp; done) | (simp; omega) | exact Below.size (by assumption))) | (with_reducible refine Below.alloc ?_ ?_ _; rotate_left; next => (first | omega | (simp; done) | (simp; omega) | exact Below.size (by assumption))) | with_reducible refine Below.drew ?_ | with_reducible refine below_drewN ?_ _ | (with_reducible refine Below.trans ?_ (Below.mono (by assumption) ?_); rotate_left; next => (first | omega | (simp; done) | (simp; omega) | exact Below.size (by assumption))))) hS) l0 (fun b hb => by have := hS b hb; (first | omega | (simp; done) | (simp; omega)))).mono ?_
  rintro e w1 ⟨u0, rfl, ⟨g0, rfl, lg0, B0⟩, hb⟩
  ((obtain ⟨hc, hf⟩ := bcell hb; have hz := hb.size; have ht := below_lt hb; (try simp at hz); (try have z0 : w.heap.size < w1.heap.size := by omega); (try have z1 : w.heap.size + 1 < w1.heap.size := by omega); (try have z2 : w.heap.size + 1 + 1 < w1.heap.size := by omega); (try have z3 : w.heap.size + 1 + 1 + 1 < w1.heap.size := by omega); (try have z4 : w.heap.size + 1 + 1 + 1 + 1 < w1.heap.size := by omega))); (try simp at lg0)
  have L0 := B0.lt
  go_wp2
  refine bodyPost_ret (v := .agg #[.slice (some ⟨g0, 0, none⟩) x0.length x0.length, .int .i64 n1, .int .i64 n2]) ?_ rfl ⟨_, rfl, ⟨_, rfl, ⟨g0, rfl, by omega, (by repeat (first | with_reducible assumption | (with_reducible refine Blk.alloc_at ?_; next => (first | omega | (simp; done) | (simp; omega))) | (with_reducible refine Blk.set_other _ ?_ ?_; next => (first | omega | (simp; done) | (simp; omega))) | with_reducible refine Blk.alloc_old _ ?_ | with_reducible refine Blk.drew ?_ | with_reducible refine Blk.below (by assumption) ?_))⟩⟩, (by repeat (first | with_reducible exact Below.refl _ _ | with_reducible assumption | (with_reducible refine Below.setCell ?_ ?_ _; rotate_left; next => (first | omega | (simp; done) | (simp; omega) | exact Below.size (by assumption))) | (with_reducible refine Below.alloc ?_ ?_ _; rotate_left; next => (first | omega | (simp; done) | (simp; omega) | exact Below.size (by assumption))) | with_reducible refine Below.drew ?_ | with_reducible refine below_drewN ?_ _ | (with_reducible refine Below.trans ?_ (Below.mono (by assumption) ?_); rotate_left; next => (first | omega | (simp; done) | (simp; omega) | exact Below.size (by assumption)))))⟩
  · simp only [results, Try.results36]; go_simp
set_option maxHeartbeats 2000000 in
theorem eqConfig_any (n1 m1 : Int) (n2 m2 : Int) (v0 u0 : Value) (x0 y0 : List Int) (S : Nat → Prop) (w : World) (h0 : SlAt 1 rI w S v0 x0) (k0 : SlAt 1 rI w S u0 y0) (hS : ∀ b, S b → b < w.heap.size) :
    Calls Try.prog 38 #[.agg #[v0, .int .i64 n1, .int .i64 n2], .agg #[u0, .int .i64 m1, .int .i64 m2]] w (BoolB (x0 = y0 ∧ n1 = m1 ∧ n2 = m2) w) := by
  have H0 := Lib.hid h0; clear h0; have K0 := Lib.hid k0; clear k0
  by_cases q1 : n1 = m1
  · subst q1
    by_cases q2 : n2 = m2
    · subst q2
      go_enter Try.func38, Try.ntmps38
      go_wp2_with fail
      refine (eqInts _ _ x0 y0 S _ (H0.out.below (B := w.heap.size) (by repeat (first | with_reducible exact Below.refl _ _ | with_reducible assumption | (with_reducible refine Below.setCell ?_ ?_ _; rotate_left; next => (first | omega | (simp; done) | (simp; omega) | exact Below.size (by assumption))) | (with_reducible refine Below.alloc ?_ ?_ _; rotate_left; next => (first | omega | (simp; done) | (simp; omega) | exact Below.size (by assumption))) | with_reducible refine Below.drew ?_ | with_reducible refine below_drewN ?_ _ | (with_reducible refine Below.trans ?_ (Below.mono (by assumption) ?_); rotate_left; next => (first | omega | (simp; done) | (simp; omega) | exact Below.size (by assumption))))) hS) (K0.out.below (B := w.heap.size) (by repeat (first | with_reducible exact Below.refl _ _ | with_reducible assumption | (with_reducible refine Below.setCell ?_ ?_ _; rotate_left; next => (first | omega | (simp; done) | (simp; omega) | exact Below.size (by assumption))) | (with_reducible refine Below.alloc ?_ ?_ _; rotate_left; next => (first | omega | (simp; done) | (simp; omega) | exact Below.size (by assumption))) | with_reducible refine Below.drew ?_ | with_reducible refine below_drewN ?_ _ | (with_reducible refine Below.trans ?_ (Below.mono (by assumption) ?_); rotate_left; next => (first | omega | (simp; done) | (simp; omega) | exact Below.size (by assumption))))) hS) (fun b hb => by have := hS b hb; (first | omega | (simp; done) | (simp; omega)))).mono ?_
      rintro e w1 ⟨hb, ⟨e0, rfl⟩ | ⟨e0, rfl⟩⟩
      case inr =>
        (obtain ⟨hc, hf⟩ := bcell hb; have hz := hb.size; have ht := below_lt hb; (try simp at hz); (try have z0 : w.heap.size < w1.heap.size := by omega); (try have z1 : w.heap.size + 1 < w1.heap.size := by omega); (try have z2 : w.heap.size + 1 + 1 < w1.heap.size := by omega); (try have z3 : w.heap.size + 1 + 1 + 1 < w1.heap.size := by omega); (try have z4 : w.heap.size + 1 + 1 + 1 + 1 < w1.heap.size := by omega))
        go_wp2
        go_ret
        exact .no (by repeat (first | with_reducible exact Below.refl _ _ | with_reducible assumption | (with_reducible refine Below.setCell ?_ ?_ _; rotate_left; next => (first | omega | (simp; done) | (simp; omega) | exact Below.size (by assumption))) | (with_reducible refine Below.alloc ?_ ?_ _; rotate_left; next => (first | omega | (simp; done) | (simp; omega) | exact Below.size (by assumption))) | with_reducible refine Below.drew ?_ | with_reducible refine below_drewN ?_ _ | (with_reducible refine Below.trans ?_ (Below.mono (by assumption) ?_); rotate_left; next => (first | omega | (simp; done) | (simp; omega) | exact Below.size (by assumption))))) (fun h => e0 (by simp_all))
      ((obtain ⟨hc, hf⟩ := bcell hb; have hz := hb.size; have ht := below_lt hb; (try simp at hz); (try have z0 : w.heap.size < w1.heap.size := by omega); (try have z1 : w.heap.size + 1 < w1.heap.size := by omega); (try have z2 : w.heap.size + 1 + 1 < w1.heap.size := by omega); (try have z3 : w.heap.size + 1 + 1 + 1 < w1.heap.size := by omega); (try have z4 : w.heap.size + 1 + 1 + 1 + 1 < w1.heap.size := by omega))); have E0 := Lib.hid e0; clear e0
      go_wp2
      go_ret
      exact .yes (by repeat (first | with_reducible exact Below.refl _ _ | with_reducible assumption | (with_reducible refine Below.setCell ?_ ?_ _; rotate_left; next => (first | omega | (simp; done) | (simp; omega) | exact Below.size (by assumption))) | (with_reducible refine Below.alloc ?_ ?_ _; rotate_left; next => (first | omega | (simp; done) | (simp; omega) | exact Below.size (by assumption))) | with_reducible refine Below.drew ?_ | with_reducible refine below_drewN ?_ _ | (with_reducible refine Below.trans ?_ (Below.mono (by assumption) ?_); rotate_left; next => (first | omega | (simp; done) | (simp; omega) | exact Below.size (by assumption))))) (by simp [E0.out])
    · go_enter Try.func38, Try.ntmps38
      go_wp2_with fail
      refine (eqInts _ _ x0 y0 S _ (H0.out.below (B := w.heap.size) (by repeat (first | with_reducible exact Below.refl _ _ | with_reducible assumption | (with_reducible refine Below.setCell ?_ ?_ _; rotate_left; next => (first | omega | (simp; done) | (simp; omega) | exact Below.size (by assumption))) | (with_reducible refine Below.alloc ?_ ?_ _; rotate_left; next => (first | omega | (simp; done) | (simp; omega) | exact Below.size (by assumption))) | with_reducible refine Below.drew ?_ | with_reducible refine below_drewN ?_ _ | (with_reducible refine Below.trans ?_ (Below.mono (by assumption) ?_); rotate_left; next => (first | omega | (simp; done) | (simp; omega) | exact Below.size (by assumption))))) hS) (K0.out.below (B := w.heap.size) (by repeat (first | with_reducible exact Below.refl _ _ | with_reducible assumption | (with_reducible refine Below.setCell ?_ ?_ _; rotate_left; next => (first | omega | (simp; done) | (simp; omega) | exact Below.size (by assumption))) | (with_reducible refine Below.alloc ?_ ?_ _; rotate_left; next => (first | omega | (simp; done) | (simp; omega) | exact Below.size (by assumption))) | with_reducible refine Below.drew ?_ | with_reducible refine below_drewN ?_ _ | (with_reducible refine Below.trans ?_ (Below.mono (by assumption) ?_); rotate_left; next => (first | omega | (simp; done) | (simp; omega) | exact Below.size (by assumption))))) hS) (fun b hb => by have := hS b hb; (first | omega | (simp; done) | (simp; omega)))).mono ?_
      rintro e w1 ⟨hb, ⟨e0, rfl⟩ | ⟨e0, rfl⟩⟩ <;> ((obtain ⟨hc, hf⟩ := bcell hb; have hz := hb.size; have ht := below_lt hb; (try simp at hz); (try have z0 : w.heap.size < w1.heap.size := by omega); (try have z1 : w.heap.size + 1 < w1.heap.size := by omega); (try have z2 : w.heap.size + 1 + 1 < w1.heap.size := by omega); (try have z3 : w.heap.size + 1 + 1 + 1 < w1.heap.size := by omega); (try have z4 : w.heap.size + 1 + 1 + 1 + 1 < w1.heap.size := by omega)))
      all_goals (have E0 := Lib.hid e0; clear e0)
      all_goals
        go_wp2
        go_ret
        exact .no (by repeat (first | with_reducible exact Below.refl _ _ | with_reducible assumption | (with_reducible refine Below.setCell ?_ ?_ _; rotate_left; next => (first | omega | (simp; done) | (simp; omega) | exact Below.size (by assumption))) | (with_reducible refine Below.alloc ?_ ?_ _; rotate_left; next => (first | omega | (simp; done) | (simp; omega) | exact Below.size (by assumption))) | with_reducible refine Below.drew ?_ | with_reducible refine below_drewN ?_ _ | (with_reducible refine Below.trans ?_ (Below.mono (by assumption) ?_); rotate_left; next => (first | omega | (simp; done) | (simp; omega) | exact Below.size (by assumption))))) (fun h => q2 (by simp_all))
  · go_enter Try.func38, Try.ntmps38
    go_wp2_with fail
    refine (eqInts _ _ x0 y0 S _ (H0.out.below (B := w.heap.size) (by repeat (first | with_reducible exact Below.refl _ _ | with_reducible assumption | (with_reducible refine Below.setCell ?_ ?_ _; rotate_left; next => (first | omega | (simp; done) | (simp; omega) | exact Below.size (by assumption))) | (with_reducible refine Below.alloc ?_ ?_ _; rotate_left; next => (first | omega | (simp; done) | (simp; omega) | exact Below.size (by assumption))) | with_reducible refine Below.drew ?_ | with_reducible refine below_drewN ?_ _ | (with_reducible refine Below.trans ?_ (Below.mono (by assumption) ?_); rotate_left; next => (first | omega | (simp; done) | (simp; omega) | exact Below.size (by assumption))))) hS) (K0.out.below (B := w.heap.size) (by repeat (first | with_reducible exact Below.refl _ _ | with_reducible assumption | (with_reducible refine Below.setCell ?_ ?_ _; rotate_left; next => (first | omega | (simp; done) | (simp; omega) | exact Below.size (by assumption))) | (with_reducible refine Below.alloc ?_ ?_ _; rotate_left; next => (first | omega | (simp; done) | (simp; omega) | exact Below.size (by assumption))) | with_reducible refine Below.drew ?_ | with_reducible refine below_drewN ?_ _ | (with_reducible refine Below.trans ?_ (Below.mono (by assumption) ?_); rotate_left; next => (first | omega | (simp; done) | (simp; omega) | exact Below.size (by assumption))))) hS) (fun b hb => by have := hS b hb; (first | omega | (simp; done) | (simp; omega)))).mono ?_
    rintro e w1 ⟨hb, ⟨e0, rfl⟩ | ⟨e0, rfl⟩⟩ <;> ((obtain ⟨hc, hf⟩ := bcell hb; have hz := hb.size; have ht := below_lt hb; (try simp at hz); (try have z0 : w.heap.size < w1.heap.size := by omega); (try have z1 : w.heap.size + 1 < w1.heap.size := by omega); (try have z2 : w.heap.size + 1 + 1 < w1.heap.size := by omega); (try have z3 : w.heap.size + 1 + 1 + 1 < w1.heap.size := by omega); (try have z4 : w.heap.size + 1 + 1 + 1 + 1 < w1.heap.size := by omega)))
    all_goals (have E0 := Lib.hid e0; clear e0)
    all_goals
      go_wp2
      go_ret
      exact .no (by repeat (first | with_reducible exact Below.refl _ _ | with_reducible assumption | (with_reducible refine Below.setCell ?_ ?_ _; rotate_left; next => (first | omega | (simp; done) | (simp; omega) | exact Below.size (by assumption))) | (with_reducible refine Below.alloc ?_ ?_ _; rotate_left; next => (first | omega | (simp; done) | (simp; omega) | exact Below.size (by assumption))) | with_reducible refine Below.drew ?_ | with_reducible refine below_drewN ?_ _ | (with_reducible refine Below.trans ?_ (Below.mono (by assumption) ?_); rotate_left; next => (first | omega | (simp; done) | (simp; omega) | exact Below.size (by assumption))))) (fun h => q1 (by simp_all))
set_option maxHeartbeats 1000000 in
theorem szRule_any (n0 : Int) (v1 : Value) (x1 : List Int) (l : Int) (S : Nat → Prop) (w : World) (h1 : SlAt 1 rI w S v1 x1) (hS : ∀ b, S b → b < w.heap.size) (hl : -1 ≤ l ∧ l ≤ 1048576) :
    Calls Try.prog 48 #[.agg #[.int .i64 n0, v1], .int .i64 l] w (Ret (.int .i64 (szI l x1.length)) w) := by
  have H1 := Lib.hid h1; clear h1
  go_enter Try.func48, Try.ntmps48
  go_wp2_with fail
  refine (szInts _ x1 l S _ (H1.out.below (B := w.heap.size) (by repeat (first | with_reducible exact Below.refl _ _ | with_reducible assumption | (with_reducible refine Below.setCell ?_ ?_ _; rotate_left; next => (first | omega | (simp; done) | (simp; omega) | exact Below.size (by assumption))) | (with_reducible refine Below.alloc ?_ ?_ _; rotate_left; next => (first | omega | (simp; done) | (simp; omega) | exact Below.size (by assumption))) | with_reducible refine Below.drew ?_ | with_reducible refine below_drewN ?_ _ | (with_reducible refine Below.trans ?_ (Below.mono (by assumption) ?_); rotate_left; next => (first | omega | (simp; done) | (simp; omega) | exact Below.size (by assumption))))) hS) (by omega)).mono ?_
  rintro e w1 ⟨rfl, rfl⟩
  have R1 := szI_or l x1.length
  have Q1 := szI_bd l x1.length (by omega)
  generalize hg1 : szI l x1.length = r1 at *
  have HG1 := Lib.hid hg1; clear hg1 R1
  by_cases t1 : r1 < 0
  · have t' : r1 = -1 := by omega
    have T' := Lib.hid t'; clear t'
    go_wp2
    go_ret
    exact ⟨ret_int (by have h1 := T'.out; first | omega | (rw [h1, szI_neg _ (by omega)])), (by repeat (first | with_reducible exact Below.refl _ _ | with_reducible assumption | (with_reducible refine Below.setCell ?_ ?_ _; rotate_left; next => (first | omega | (simp; done) | (simp; omega) | exact Below.size (by assumption))) | (with_reducible refine Below.alloc ?_ ?_ _; rotate_left; next => (first | omega | (simp; done) | (simp; omega) | exact Below.size (by assumption))) | with_reducible refine Below.drew ?_ | with_reducible refine below_drewN ?_ _ | (with_reducible refine Below.trans ?_ (Below.mono (by assumption) ?_); rotate_left; next => (first | omega | (simp; done) | (simp; omega) | exact Below.size (by assumption)))))⟩
  go_wp2
  go_ret
  exact ⟨rfl, (by repeat (first | with_reducible exact Below.refl _ _ | with_reducible assumption | (with_reducible refine Below.setCell ?_ ?_ _; rotate_left; next => (first | omega | (simp; done) | (simp; omega) | exact Below.size (by assumption))) | (with_reducible refine Below.alloc ?_ ?_ _; rotate_left; next => (first | omega | (simp; done) | (simp; omega) | exact Below.size (by assumption))) | with_reducible refine Below.drew ?_ | with_reducible refine below_drewN ?_ _ | (with_reducible refine Below.trans ?_ (Below.mono (by assumption) ?_); rotate_left; next => (first | omega | (simp; done) | (simp; omega) | exact Below.size (by assumption)))))⟩
/-- a Rule that the call has made -/
def MadeRule (lo : Nat) (n0 : Int) (x1 : List Int) (r : Value) (W : World) : Prop := ∃ u1, r = .agg #[.int .i64 n0, u1] ∧ Made lo (ints x1) x1.length 2 u1 W
set_option maxHeartbeats 1000000 in
theorem toRule_any (n0 : Int) (v1 : Value) (x1 : List Int) (S : Nat → Prop) (w : World) (h1 : SlAt 1 rI w S v1 x1) (l1 : x1.length ≤ 1048576) (hS : ∀ b, S b → b < w.heap.size) :
    Calls Try.prog 50 #[.agg #[.int .i64 n0, v1]] w (Hands (MadeRule w.heap.size n0 x1) w) := by
  have H1 := Lib.hid h1; clear h1
  go_enter Try.func50, Try.ntmps50
  go_wp2_with fail
  refine (toInts _ x1 S _ (H1.out.below (B := w.heap.size) (by repeat (first | with_reducible exact Below.refl _ _ | with_reducible assumption | (with_reducible refine Below.setCell ?_ ?_ _; rotate_left; next => (first | omega | (simp; done) | (simp; omega) | exact Below.size (by assumption))) | (with_reducible refine Below.alloc ?_ ?_ _; rotate_left; next => (first | omega | (simp; done) | (simp; omega) | exact Below.size (by assumption))) | with_reducible refine Below.drew ?_ | with_reducible refine below_drewN ?_ _ | (with_reducible refine Below.trans ?_ (Below.mono (by assumption) ?_); rotate_left; next => (first | omega | (simp; done) | (simp; omega) | exact Below.size (by assumption))))) hS) l1 (fun b hb => by have := hS b hb; (first | omega | (simp; done) | (simp; omega)))).mono ?_
  rintro e w1 ⟨u1, rfl, ⟨g1, rfl, lg1, B1⟩, hb⟩
  ((obtain ⟨hc, hf⟩ := bcell hb; have hz := hb.size; have ht := below_lt hb; (try simp at hz); (try have z0 : w.heap.size < w1.heap.size := by omega); (try have z1 : w.heap.size + 1 < w1.heap.size := by omega); (try have z2 : w.heap.size + 1 + 1 < w1.heap.size := by omega); (try have z3 : w.heap.size + 1 + 1 + 1 < w1.heap.size := by omega); (try have z4 : w.heap.size + 1 + 1 + 1 + 1 < w1.heap.size := by omega))); (try simp at lg1)
  have L1 := B1.lt
  go_wp2
  refine bodyPost_ret (v := .agg #[.int .i64 n0, .slice (some ⟨g1, 0, none⟩) x1.length x1.length]) ?_ rfl ⟨_, rfl, ⟨_, rfl, ⟨g1, rfl, by omega, (by repeat (first | with_reducible assumption | (with_reducible refine Blk.alloc_at ?_; next => (first | omega | (simp; done) | (simp; omega))) | (with_reducible refine Blk.set_other _ ?_ ?_; next => (first | omega | (simp; done) | (simp; omega))) | with_reducible refine Blk.alloc_old _ ?_ | with_reducible refine Blk.drew ?_ | with_reducible refine Blk.below (by assumption) ?_))⟩⟩, (by repeat (first | with_reducible exact Below.refl _ _ | with_reducible assumption | (with_reducible refine Below.setCell ?_ ?_ _; rotate_left; next => (first | omega | (simp; done) | (simp; omega) | exact Below.size (by assumption))) | (with_reducible refine Below.alloc ?_ ?_ _; rotate_left; next => (first | omega | (simp; done) | (simp; omega) | exact Below.size (by assumption))) | with_reducible refine Below.drew ?_ | with_reducible refine below_drewN ?_ _ | (with_reducible refine Below.trans ?_ (Below.mono (by assumption) ?_); rotate_left; next => (first | omega | (simp; done) | (simp; omega) | exact Below.size (by assumption)))))⟩
  · simp only [results, Try.results50]; go_simp
set_option maxHeartbeats 2000000 in
theorem eqRule_any (n0 m0 : Int) (v1 u1 : Value) (x1 y1 : List Int) (S : Nat → Prop) (w : World) (h1 : SlAt 1 rI w S v1 x1) (k1 : SlAt 1 rI w S u1 y1) (hS : ∀ b, S b → b < w.heap.size) :
    Calls Try.prog 52 #[.agg #[.int .i64 n0, v1], .agg #[.int .i64 m0, u1]] w (BoolB (n0 = m0 ∧ x1 = y1) w) := by
  have H1 := Lib.hid h1; clear h1; have K1 := Lib.hid k1; clear k1
  by_cases q0 : n0 = m0
  · subst q0
    go_enter Try.func52, Try.ntmps52
    go_wp2_with fail
    refine (eqInts _ _ x1 y1 S _ (H1.out.below (B := w.heap.size) (by repeat (first | with_reducible exact Below.refl _ _ | with_reducible assumption | (with_reducible refine Below.setCell ?_ ?_ _; rotate_left; next => (first | omega | (simp; done) | (simp; omega) | exact Below.size (by assumption))) | (with_reducible refine Below.alloc ?_ ?_ _; rotate_left; next => (first | omega | (simp; done) | (simp; omega) | exact Below.size (by assumption))) | with_reducible refine Below.drew ?_ | with_reducible refine below_drewN ?_ _ | (with_reducible refine Below.trans ?_ (Below.mono (by assumption) ?_); rotate_left; next => (first | omega | (simp; done) | (simp; omega) | exact Below.size (by assumption))))) hS) (K1.out.below (B := w.heap.size) (by repeat (first | with_reducible exact Below.refl _ _ | with_reducible assumption | (with_reducible refine Below.setCell ?_ ?_ _; rotate_left; next => (first | omega | (simp; done) | (simp; omega) | exact Below.size (by assumption))) | (with_reducible refine Below.alloc ?_ ?_ _; rotate_left; next => (first | omega | (simp; done) | (simp; omega) | exact Below.size (by assumption))) | with_reducible refine Below.drew ?_ | with_reducible refine below_drewN ?_ _ | (with_reducible refine Below.trans ?_ (Below.mono (by assumption) ?_); rotate_left; next => (first | omega | (simp; done) | (simp; omega) | exact Below.size (by assumption))))) hS) (fun b hb => by have := hS b hb; (first | omega | (simp; done) | (simp; omega)))).mono ?_
    rintro e w1 ⟨hb, ⟨e1, rfl⟩ | ⟨e1, rfl⟩⟩
    case inr =>
      (obtain ⟨hc, hf⟩ := bcell hb; have hz := hb.size; have ht := below_lt hb; (try simp at hz); (try have z0 : w.heap.size < w1.heap.size := by omega); (try have z1 : w.heap.size + 1 < w1.heap.size := by omega); (try have z2 : w.heap.size + 1 + 1 < w1.heap.size := by omega); (try have z3 : w.heap.size + 1 + 1 + 1 < w1.heap.size := by omega); (try have z4 : w.heap.size + 1 + 1 + 1 + 1 < w1.heap.size := by omega))
      go_wp2
      go_ret
      exact .no (by repeat (first | with_reducible exact Below.refl _ _ | with_reducible assumption | (with_reducible refine Below.setCell ?_ ?_ _; rotate_left; next => (first | omega | (simp; done) | (simp; omega) | exact Below.size (by assumption))) | (with_reducible refine Below.alloc ?_ ?_ _; rotate_left; next => (first | omega | (simp; done) | (simp; omega) | exact Below.size (by assumption))) | with_reducible refine Below.drew ?_ | with_reducible refine below_drewN ?_ _ | (with_reducible refine Below.trans ?_ (Below.mono (by assumption) ?_); rotate_left; next => (first | omega | (simp; done) | (simp; omega) | exact Below.size (by assumption))))) (fun h => e1 (by simp_all))
    ((obtain ⟨hc, hf⟩ := bcell hb; have hz := hb.size; have ht := below_lt hb; (try simp at hz); (try have z0 : w.heap.size < w1.heap.size := by omega); (try have z1 : w.heap.size + 1 < w1.heap.size := by omega); (try have z2 : w.heap.size + 1 + 1 < w1.heap.size := by omega); (try have z3 : w.heap.size + 1 + 1 + 1 < w1.heap.size := by omega); (try have z4 : w.heap.size + 1 + 1 + 1 + 1 < w1.heap.size := by omega))); have E1 := Lib.hid e1; clear e1
    go_wp2
    go_ret
    exact .yes (by repeat (first | with_reducible exact Below.refl _ _ | with_reducible assumption | (with_reducible refine Below.setCell ?_ ?_ _; rotate_left; next => (first | omega | (simp; done) | (simp; omega) | exact Below.size (by assumption))) | (with_reducible refine Below.alloc ?_ ?_ _; rotate_left; next => (first | omega | (simp; done) | (simp; omega) | exact Below.size (by assumption))) | with_reducible refine Below.drew ?_ | with_reducible refine below_drewN ?_ _ | (with_reducible refine Below.trans ?_ (Below.mono (by assumption) ?_); rotate_left; next => (first | omega | (simp; done) | (simp; omega) | exact Below.size (by assumption))))) (by simp [E1.out])
  · go_enter Try.func52, Try.ntmps52
    all_goals
      go_wp2
      go_ret
      exact .no (by repeat (first | with_reducible exact Below.refl _ _ | with_reducible assumption | (with_reducible refine Below.setCell ?_ ?_ _; rotate_left; next => (first | omega | (simp; done) | (simp; omega) | exact Below.size (by assumption))) | (with_reducible refine Below.alloc ?_ ?_ _; rotate_left; next => (first | omega | (simp; done) | (simp; omega) | exact Below.size (by assumption))) | with_reducible refine Below.drew ?_ | with_reducible refine below_drewN ?_ _ | (with_reducible refine Below.trans ?_ (Below.mono (by assumption) ?_); rotate_left; next => (first | omega | (simp; done) | (simp; omega) | exact Below.size (by assumption))))) (fun h => q0 (by simp_all))
end Go.Proofs.Ytghecnlgainfkaa
