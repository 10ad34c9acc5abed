/- Contracts of functions that only compute with numbers: ranges, powers, the parts of a square. -/
import Derived.Test.YtghecnlgainfkaaProg
import Derived.Test.YtghecnlgainfkaaBase
import Derived.WalkLawsBesides
import Derived.WalkSpells
import Derived.Outline
import Derived.BigQuiet
import Derived.Deep.QuietTactic
namespace Go.Proofs.Ytghecnlgainfkaa
open Go.RowKit
theorem sIn (n a b : Int) (w : World) : Calls Try.prog 58 #[.int .i64 n, .int .i64 a, .int .i64 b] w (BoolIff (a ≤ n ∧ n ≤ b) w) := by
  by_cases h1 : a ≤ n
  · by_cases h2 : n ≤ b
    · go_enter Try.func58, Try.ntmps58
      go_wp2
      go_ret
      exact .yes ⟨h1, h2⟩
    · go_enter Try.func58, Try.ntmps58
      go_wp2
      go_ret
      exact .no (by omega)
  · go_enter Try.func58, Try.ntmps58
    go_wp2
    go_ret
    exact .no (by omega)
theorem iIn (n a b : Int) (w : World) : Calls Try.prog 69 #[.int .i64 n, .int .i64 a, .int .i64 b] w (BoolIff (a ≤ n ∧ n ≤ b) w) := by
  by_cases h1 : a ≤ n
  · by_cases h2 : n ≤ b
    · go_enter Try.func69, Try.ntmps69
      go_wp2
      go_ret
      exact .yes ⟨h1, h2⟩
    · go_enter Try.func69, Try.ntmps69
      go_wp2
      go_ret
      exact .no (by omega)
  · go_enter Try.func69, Try.ntmps69
    go_wp2
    go_ret
    exact .no (by omega)
theorem sIn_t (n a b : Int) (w : World) (h1 : a ≤ n) (h2 : n ≤ b) : Calls Try.prog 58 #[.int .i64 n, .int .i64 a, .int .i64 b] w fun e w' => e = .returned (.bool true) ∧ w' = w :=
  (sIn n a b w).mono fun _ _ ⟨hw, h⟩ => by rcases h with ⟨_, rfl⟩ | ⟨h, _⟩ <;> first | exact ⟨rfl, hw.symm⟩ | exact absurd ⟨h1, h2⟩ h
theorem sIn_f (n a b : Int) (w : World) (h1 : n < a ∨ b < n) : Calls Try.prog 58 #[.int .i64 n, .int .i64 a, .int .i64 b] w fun e w' => e = .returned (.bool false) ∧ w' = w :=
  (sIn n a b w).mono fun _ _ ⟨hw, h⟩ => by rcases h with ⟨h, _⟩ | ⟨_, rfl⟩ <;> first | exact ⟨rfl, hw.symm⟩ | (exfalso; omega)
theorem iIn_t (n a b : Int) (w : World) (h1 : a ≤ n) (h2 : n ≤ b) : Calls Try.prog 69 #[.int .i64 n, .int .i64 a, .int .i64 b] w fun e w' => e = .returned (.bool true) ∧ w' = w :=
  (iIn n a b w).mono fun _ _ ⟨hw, h⟩ => by rcases h with ⟨_, rfl⟩ | ⟨h, _⟩ <;> first | exact ⟨rfl, hw.symm⟩ | exact absurd ⟨h1, h2⟩ h
theorem iIn_f (n a b : Int) (w : World) (h1 : n < a ∨ b < n) : Calls Try.prog 69 #[.int .i64 n, .int .i64 a, .int .i64 b] w fun e w' => e = .returned (.bool false) ∧ w' = w :=
  (iIn n a b w).mono fun _ _ ⟨hw, h⟩ => by rcases h with ⟨h, _⟩ | ⟨_, rfl⟩ <;> first | exact ⟨rfl, hw.symm⟩ | (exfalso; omega)
theorem sideOk_any (a : Int) (w : World) : Calls Try.prog 60 #[.int .i64 a] w (BoolIff (4 ≤ a ∧ a ≤ 22) w) := by
  go_enter Try.func60, Try.ntmps60
  go_wp2_with ((go_at_call 69; refine (iIn _ _ _ _).mono ?_; rintro e w' ⟨rfl, ⟨h1, rfl⟩ | ⟨h1, rfl⟩⟩ <;> try (exfalso; omega)))
  all_goals go_ret
  · exact .yes (by omega)
  · exact .no (by omega)

/-- The n-th power of b. -/
def pw (b : Int) : Nat → Int
  | 0 => 1
  | n + 1 => pw b n * b
theorem pw2_bd : ∀ n : Nat, n ≤ 40 → 1 ≤ pw 2 n ∧ pw 2 n ≤ 1099511627776 := by decide
theorem pw2_succ (n : Nat) : pw 2 (n + 1) = pw 2 n * 2 := rfl
theorem spow2_any (a : Int) (w : World) (h : 0 ≤ a) (h2 : a ≤ 30) : Calls Try.prog 96 #[.int .i64 2, .int .i64 a] w (Gives (.int .i64 (pw 2 a.toNat)) w) := by
  obtain ⟨n, rfl⟩ := Int.eq_ofNat_of_zero_le h
  rw [Int.toNat_natCast]
  go_enter Try.func96, Try.ntmps96
  go_wp2
  go_loop [5, 6] (fun o i => ∃ k : Nat, k ≤ n ∧ i = .int .i64 ((n - k : Nat) : Int) ∧ o = .int .i64 (pw 2 k)) (fun _ i => (intOf i).toNat)
  case atStart => exact ⟨0, Nat.zero_le _, rfl, rfl⟩
  case round =>
    obtain ⟨k, hk, rfl, rfl⟩ := hrel
    have hb := pw2_bd k (by omega)
    by_cases hlt : k < n
    · obtain ⟨m, rfl⟩ : ∃ m, n = k + 1 + m := ⟨n - k - 1, by omega⟩
      rw [show k + 1 + m - k = m + 1 by omega]
      go_wp2
      go_round
      case rel => exact ⟨k + 1, by omega, by rw [show k + 1 + m - (k + 1) = m by omega], by rw [pw2_succ]⟩
      case measure => simp [intOf]
    · obtain rfl : n = k := by omega
      rw [show n - n = 0 by omega]
      go_wp2
      go_ret
      exact ⟨rfl, rfl⟩
theorem ipow2_any (a : Int) (w : World) (h : 0 ≤ a) (h2 : a ≤ 30) : Calls Try.prog 97 #[.int .i64 2, .int .i64 a] w (Gives (.int .i64 (pw 2 a.toNat)) w) := by
  obtain ⟨n, rfl⟩ := Int.eq_ofNat_of_zero_le h
  rw [Int.toNat_natCast]
  go_enter Try.func97, Try.ntmps97
  go_wp2
  go_loop [5, 7] (fun o i => ∃ k : Nat, k ≤ n ∧ i = .int .i64 k ∧ o = .int .i64 (pw 2 k)) (fun _ i => n - (intOf i).toNat)
  case atStart => exact ⟨0, Nat.zero_le _, rfl, rfl⟩
  case round =>
    obtain ⟨k, hk, rfl, rfl⟩ := hrel
    have hb := pw2_bd k (by omega)
    by_cases hlt : k < n
    · go_wp2
      go_round
      case rel => exact ⟨k + 1, by omega, by go_num, by rw [pw2_succ]⟩
      case measure => simp [intOf]; omega
    · obtain rfl : n = k := by omega
      go_wp2
      go_ret
      exact ⟨rfl, rfl⟩
/-- may a square of this side have this many digits? -/
def fits (s d : Nat) : Bool := (s - d - 1) % 2 == 0 && decide ((((s - d - 1) / 2 : Nat) : Int) ≤ pw 2 d)
def dgAt (s : Nat) : Nat → Nat → Nat
  | 0, d => d
  | f + 1, d => if fits s d then d else dgAt s f (d + 1)
/-- the number of digits of the counters of a square -/
def dg (s : Nat) : Nat := dgAt s 10 1
def Dg (s : Nat) : Prop := 1 ≤ dg s ∧ dg s ≤ 5 ∧ dg s + 1 ≤ s ∧ fits s (dg s) = true ∧ ∀ d, d < 6 → 1 ≤ d → d < dg s → fits s d = false
instance (s : Nat) : Decidable (Dg s) := by unfold Dg; infer_instance
theorem dg_all : ∀ s, s < 23 → 4 ≤ s → Dg s := by decide
theorem fits_iff (s k : Nat) (h : k + 1 ≤ s) : fits s k = true ↔ ((s : Int) - k - 1) % 2 = 0 ∧ ((s : Int) - k - 1) / 2 ≤ pw 2 k := by
  obtain ⟨m, rfl⟩ : ∃ m, s = k + 1 + m := ⟨s - k - 1, by omega⟩
  unfold fits
  rw [show k + 1 + m - k - 1 = m by omega]
  simp only [Bool.and_eq_true, beq_iff_eq, decide_eq_true_eq]
  omega
theorem fits_no (s k : Nat) (h : k + 1 ≤ s) (hk : k ≤ dg s) (H6 : Hid (fits s (dg s) = true)) (n : ¬ (((s : Int) - k - 1) % 2 = 0 ∧ ((s : Int) - k - 1) / 2 ≤ pw 2 k)) : k < dg s := by
  rcases Nat.lt_or_ge k (dg s) with h1 | h1
  · exact h1
  · obtain rfl : k = dg s := by omega
    exact absurd ((fits_iff _ _ h).1 H6.out) n
theorem fits_yes (s k : Nat) (h : k + 1 ≤ s) (hk : k ≤ dg s) (H7 : Hid (k < dg s → fits s k = false)) (n : (((s : Int) - k - 1) % 2 = 0 ∧ ((s : Int) - k - 1) / 2 ≤ pw 2 k)) : k = dg s := by
  rcases Nat.lt_or_ge k (dg s) with h1 | h1
  · have := H7.out h1; rw [(fits_iff _ _ h).2 n] at this; cases this
  · omega
/-- the number of steps of the counters of a square -/
def sqSteps (s : Nat) : Int := ((s - dg s - 1 : Nat) / 2 : Int)
theorem sqSteps_eq (s : Nat) (h : dg s + 1 ≤ s) : ((s : Int) - dg s - 1) / 2 = sqSteps s := by unfold sqSteps; omega
theorem sparts_any (a : Int) (w : World) (h : 4 ≤ a) (h2 : a ≤ 22) : Calls Try.prog 59 #[.int .i64 a] w (Gives (.tuple #[.int .i64 (dg a.toNat : Int), .int .i64 (sqSteps a.toNat)]) w) := by
  obtain ⟨s, rfl⟩ := Int.eq_ofNat_of_zero_le (show 0 ≤ a by omega)
  rw [Int.toNat_natCast]
  obtain ⟨h3, h4, h5, h6, h7⟩ := dg_all s (by omega) (by omega)
  have H6 := Lib.hid h6; have H7 := Lib.hid h7; clear h6 h7
  go_enter Try.func59, Try.ntmps59
  go_wp2
  go_loop [4] (fun o => ∃ k : Nat, 1 ≤ k ∧ k ≤ dg s ∧ o = .int .i64 k) (fun o => dg s - (intOf o).toNat)
  case atStart => exact ⟨1, by omega, by omega, rfl⟩
  case round =>
    obtain ⟨k, hk1, hk2, rfl⟩ := hrel
    have hf := Lib.hid (H7.out k (by omega) (by omega))
    go_wp2_with ((go_at_call 96; refine (spow2_any _ _ (by omega) (by omega)).mono ?_; rintro e w' ⟨rfl, rfl⟩))
    · have e := fits_yes s k (by omega) hk2 hf ⟨by assumption, by assumption⟩
      go_ret2
      exact ⟨ret_ii (by rw [e]) (by rw [e]; exact sqSteps_eq s h5), rfl⟩
    all_goals
      have e := fits_no s k (by omega) hk2 H6 (by omega)
      exact ⟨⟨k + 1, by omega, by omega, by go_num⟩, by simp [intOf]; omega⟩
theorem iparts_any (a : Int) (w : World) (h : 4 ≤ a) (h2 : a ≤ 22) : Calls Try.prog 61 #[.int .i64 a] w (Gives (.tuple #[.int .i64 (dg a.toNat : Int), .int .i64 (sqSteps a.toNat)]) w) := by
  obtain ⟨s, rfl⟩ := Int.eq_ofNat_of_zero_le (show 0 ≤ a by omega)
  rw [Int.toNat_natCast]
  obtain ⟨h3, h4, h5, h6, h7⟩ := dg_all s (by omega) (by omega)
  have H6 := Lib.hid h6; have H7 := Lib.hid h7; clear h6 h7
  go_enter Try.func61, Try.ntmps61
  go_wp2
  go_loop [4] (fun o => ∃ k : Nat, 1 ≤ k ∧ k ≤ dg s ∧ o = .int .i64 k) (fun o => dg s - (intOf o).toNat)
  case atStart => exact ⟨1, by omega, by omega, rfl⟩
  case round =>
    obtain ⟨k, hk1, hk2, rfl⟩ := hrel
    have hf := Lib.hid (H7.out k (by omega) (by omega))
    go_wp2_with ((go_at_call 97; refine (ipow2_any _ _ (by omega) (by omega)).mono ?_; rintro e w' ⟨rfl, rfl⟩))
    · have e := fits_yes s k (by omega) hk2 hf ⟨by assumption, by assumption⟩
      go_ret2
      exact ⟨ret_ii (by rw [e]) (by rw [e]; exact sqSteps_eq s h5), rfl⟩
    all_goals
      have e := fits_no s k (by omega) hk2 H6 (by omega)
      exact ⟨⟨k + 1, by omega, by omega, by go_num⟩, by simp [intOf]; omega⟩
theorem sSP_in (a : Int) (w : World) (h : 4 ≤ a) (h2 : a ≤ 22) : Calls Try.prog 15 #[.int .i64 a] w (Gives (.tuple #[.int .i64 (dg a.toNat : Int), .int .i64 (sqSteps a.toNat), .int .i64 0]) w) := by
  go_enter Try.func15, Try.ntmps15
  go_wp2_with (first | (go_at_call 58; refine (sIn _ _ _ _).mono ?_; rintro e w' ⟨rfl, ⟨h1, rfl⟩ | ⟨h1, rfl⟩⟩ <;> try (exfalso; omega)) | (go_at_call 59; refine (sparts_any _ _ (by omega) (by omega)).mono ?_; rintro e w' ⟨rfl, rfl⟩))
  go_ret3
  exact ⟨rfl, rfl⟩
theorem iSP_in (a : Int) (w : World) (h : 4 ≤ a) (h2 : a ≤ 22) : Calls Try.prog 16 #[.int .i64 a] w (Gives (.tuple #[.int .i64 (dg a.toNat : Int), .int .i64 (sqSteps a.toNat), .int .i64 0]) w) := by
  go_enter Try.func16, Try.ntmps16
  go_wp2_with (first | (go_at_call 60; refine (sideOk_any _ _).mono ?_; rintro e w' ⟨rfl, ⟨h1, rfl⟩ | ⟨h1, rfl⟩⟩ <;> try (exfalso; omega)) | (go_at_call 61; refine (iparts_any _ _ (by omega) (by omega)).mono ?_; rintro e w' ⟨rfl, rfl⟩))
  go_ret3
  exact ⟨rfl, rfl⟩
theorem sSP_out (a : Int) (w : World) (h : a < 4 ∨ 22 < a) : Calls Try.prog 15 #[.int .i64 a] w (Gives (.tuple #[.int .i64 0, .int .i64 0, .int .i64 2]) w) := by
  go_enter Try.func15, Try.ntmps15
  go_wp2_with ((go_at_call 58; refine (sIn _ _ _ _).mono ?_; rintro e w' ⟨rfl, ⟨h1, rfl⟩ | ⟨h1, rfl⟩⟩ <;> try (exfalso; omega)))
  go_ret3
  exact ⟨rfl, rfl⟩
theorem iSP_out (a : Int) (w : World) (h : a < 4 ∨ 22 < a) : Calls Try.prog 16 #[.int .i64 a] w (Gives (.tuple #[.int .i64 0, .int .i64 0, .int .i64 2]) w) := by
  go_enter Try.func16, Try.ntmps16
  go_wp2_with ((go_at_call 60; refine (sideOk_any _ _).mono ?_; rintro e w' ⟨rfl, ⟨h1, rfl⟩ | ⟨h1, rfl⟩⟩ <;> try (exfalso; omega)))
  go_ret3
  exact ⟨rfl, rfl⟩
theorem law_SquareParts (a : Int) (w : World) : Calls Try.prog 3 #[.int .i64 a] w (Gives (.bool true) w) := by
  by_cases h : 4 ≤ a ∧ a ≤ 22
  · obtain ⟨h, h2⟩ := h
    go_enter Try.func3, Try.ntmps3
    go_wp2_with (first | (go_at_call 15; refine (sSP_in _ _ (by omega) (by omega)).mono ?_; rintro e w' ⟨rfl, rfl⟩) | (go_at_call 16; refine (iSP_in _ _ (by omega) (by omega)).mono ?_; rintro e w' ⟨rfl, rfl⟩))
    go_ret
    exact ⟨rfl, rfl⟩
  · go_enter Try.func3, Try.ntmps3
    go_wp2_with (first | (go_at_call 15; refine (sSP_out _ _ (by omega)).mono ?_; rintro e w' ⟨rfl, rfl⟩) | (go_at_call 16; refine (iSP_out _ _ (by omega)).mono ?_; rintro e w' ⟨rfl, rfl⟩))
    go_ret
    exact ⟨rfl, rfl⟩

theorem dg_bd (a : Int) (h : 4 ≤ a) (h2 : a ≤ 22) : 1 ≤ dg a.toNat ∧ dg a.toNat ≤ 5 := by
  obtain ⟨s, rfl⟩ := Int.eq_ofNat_of_zero_le (show 0 ≤ a by omega)
  obtain ⟨h3, h4, _⟩ := dg_all s (by omega) (by omega)
  exact ⟨h3, h4⟩
/-- how many tiles the set of a square has -/
def sqTypes (a : Int) : Int := 27 + 2 * (dg a.toNat : Int)
theorem sTypes_any (a : Int) (w : World) (h : 4 ≤ a) (h2 : a ≤ 22) : Calls Try.prog 71 #[.int .i64 a] w (Gives (.int .i64 (sqTypes a)) w) := by
  obtain ⟨h3, h4⟩ := dg_bd a h h2
  go_enter Try.func71, Try.ntmps71
  go_wp2_with ((go_at_call 59; refine (sparts_any _ _ (by omega) (by omega)).mono ?_; rintro e w' ⟨rfl, rfl⟩))
  go_ret
  exact ⟨rfl, rfl⟩
theorem iTypes_any (a : Int) (w : World) (h : 4 ≤ a) (h2 : a ≤ 22) : Calls Try.prog 72 #[.int .i64 a] w (Gives (.int .i64 (sqTypes a)) w) := by
  obtain ⟨h3, h4⟩ := dg_bd a h h2
  go_enter Try.func72, Try.ntmps72
  go_wp2_with ((go_at_call 61; refine (iparts_any _ _ (by omega) (by omega)).mono ?_; rintro e w' ⟨rfl, rfl⟩))
  go_ret
  exact ⟨rfl, rfl⟩
theorem sST_in (a : Int) (w : World) (h : 4 ≤ a) (h2 : a ≤ 22) : Calls Try.prog 24 #[.int .i64 a] w (Gives (.tuple #[.int .i64 (sqTypes a), .int .i64 0]) w) := by
  go_enter Try.func24, Try.ntmps24
  go_wp2_with (first | (go_at_call 58; refine (sIn _ _ _ _).mono ?_; rintro e w' ⟨rfl, ⟨h1, rfl⟩ | ⟨h1, rfl⟩⟩ <;> try (exfalso; omega)) | (go_at_call 71; refine (sTypes_any _ _ (by omega) (by omega)).mono ?_; rintro e w' ⟨rfl, rfl⟩))
  go_ret2
  exact ⟨rfl, rfl⟩
theorem iST_in (a : Int) (w : World) (h : 4 ≤ a) (h2 : a ≤ 22) : Calls Try.prog 25 #[.int .i64 a] w (Gives (.tuple #[.int .i64 (sqTypes a), .int .i64 0]) w) := by
  go_enter Try.func25, Try.ntmps25
  go_wp2_with (first | (go_at_call 60; refine (sideOk_any _ _).mono ?_; rintro e w' ⟨rfl, ⟨h1, rfl⟩ | ⟨h1, rfl⟩⟩ <;> try (exfalso; omega)) | (go_at_call 72; refine (iTypes_any _ _ (by omega) (by omega)).mono ?_; rintro e w' ⟨rfl, rfl⟩))
  go_ret2
  exact ⟨rfl, rfl⟩
theorem sST_out (a : Int) (w : World) (h : a < 4 ∨ 22 < a) : Calls Try.prog 24 #[.int .i64 a] w (Gives (.tuple #[.int .i64 0, .int .i64 2]) w) := by
  go_enter Try.func24, Try.ntmps24
  go_wp2_with ((go_at_call 58; refine (sIn _ _ _ _).mono ?_; rintro e w' ⟨rfl, ⟨h1, rfl⟩ | ⟨h1, rfl⟩⟩ <;> try (exfalso; omega)))
  go_ret2
  exact ⟨rfl, rfl⟩
theorem iST_out (a : Int) (w : World) (h : a < 4 ∨ 22 < a) : Calls Try.prog 25 #[.int .i64 a] w (Gives (.tuple #[.int .i64 0, .int .i64 2]) w) := by
  go_enter Try.func25, Try.ntmps25
  go_wp2_with ((go_at_call 60; refine (sideOk_any _ _).mono ?_; rintro e w' ⟨rfl, ⟨h1, rfl⟩ | ⟨h1, rfl⟩⟩ <;> try (exfalso; omega)))
  go_ret2
  exact ⟨rfl, rfl⟩
theorem law_SquareTypes (a : Int) (w : World) : Calls Try.prog 6 #[.int .i64 a] w (Gives (.bool true) w) := by
  by_cases h : 4 ≤ a ∧ a ≤ 22
  · obtain ⟨h, h2⟩ := h
    go_enter Try.func6, Try.ntmps6
    go_wp2_with (first | (go_at_call 24; refine (sST_in _ _ (by omega) (by omega)).mono ?_; rintro e w' ⟨rfl, rfl⟩) | (go_at_call 25; refine (iST_in _ _ (by omega) (by omega)).mono ?_; rintro e w' ⟨rfl, rfl⟩))
    go_ret
    exact ⟨rfl, rfl⟩
  · go_enter Try.func6, Try.ntmps6
    go_wp2_with (first | (go_at_call 24; refine (sST_out _ _ (by omega)).mono ?_; rintro e w' ⟨rfl, rfl⟩) | (go_at_call 25; refine (iST_out _ _ (by omega)).mono ?_; rintro e w' ⟨rfl, rfl⟩))
    go_ret
    exact ⟨rfl, rfl⟩
/-- the greatest side from s down to 4 whose set has at most n tiles: the answer's number and code -/
def gsAt (n : Int) : Nat → Int × Int
  | 0 => (0, 3)
  | s + 1 => if s + 1 < 4 then (0, 3) else if sqTypes ((s + 1 : Nat) : Int) ≤ n then (((s + 1 : Nat) : Int), 0) else gsAt n s
theorem gsAt_low (n : Int) : gsAt n 3 = (0, 3) := by unfold gsAt; rfl
theorem gsAt_yes (n : Int) (s : Nat) (h : 4 ≤ s) (h2 : sqTypes (s : Int) ≤ n) : gsAt n s = ((s : Int), 0) := by
  obtain ⟨m, rfl⟩ : ∃ m, s = m + 1 := ⟨s - 1, by omega⟩
  unfold gsAt; rw [if_neg (by omega), if_pos h2]
theorem gsAt_no (n : Int) (s : Nat) (h : 4 ≤ s) (h2 : n < sqTypes (s : Int)) : gsAt n s = gsAt n (s - 1) := by
  obtain ⟨m, rfl⟩ : ∃ m, s = m + 1 := ⟨s - 1, by omega⟩
  rw [show m + 1 - 1 = m by omega]
  show (if m + 1 < 4 then _ else _) = _
  rw [if_neg (by omega), if_neg (by omega)]
theorem ret_pair {p q : Int × Int} (h : p = q) : Ending.returned (.tuple #[.int .i64 p.1, .int .i64 p.2]) = .returned (.tuple #[.int .i64 q.1, .int .i64 q.2]) := by rw [h]
theorem sGS_in (n : Int) (w : World) (h : 0 ≤ n) (h2 : n ≤ 160) : Calls Try.prog 26 #[.int .i64 n] w (Gives (.tuple #[.int .i64 (gsAt n 22).1, .int .i64 (gsAt n 22).2]) w) := by
  go_enter Try.func26, Try.ntmps26
  go_wp2_with ((go_at_call 58; refine (sIn _ _ _ _).mono ?_; rintro e w' ⟨rfl, ⟨h1, rfl⟩ | ⟨h1, rfl⟩⟩ <;> try (exfalso; omega)))
  go_loop [4] (fun o => ∃ k : Nat, 3 ≤ k ∧ k ≤ 22 ∧ o = .int .i64 k ∧ Hid (gsAt n 22 = gsAt n k)) (fun o => (intOf o).toNat)
  case atStart => exact ⟨22, by omega, by omega, rfl, Lib.hid rfl⟩
  case round =>
    obtain ⟨k, hk1, hk2, rfl, hg⟩ := hrel
    by_cases h4 : 4 ≤ k
    · go_wp2_with ((go_at_call 71; refine (sTypes_any _ _ (by omega) (by omega)).mono ?_; rintro e w' ⟨rfl, rfl⟩))
      · have e := gsAt_yes n k h4 (by assumption)
        go_ret2
        exact ⟨ret_pair (p := (_, _)) (by rw [hg.out, e]), rfl⟩
      · have e := gsAt_no n k h4 (by assumption)
        exact ⟨⟨k - 1, by omega, by omega, by rw [show ((k - 1 : Nat) : Int) = (k : Int) - 1 by omega], Lib.hid (by rw [hg.out, e])⟩, by simp [intOf]; omega⟩
    · obtain rfl : k = 3 := by omega
      have e := Lib.hid (hg.out.trans (gsAt_low n))
      clear hg
      go_wp2
      go_ret2
      exact ⟨ret_pair (p := (_, _)) (by rw [e.out]), rfl⟩
theorem iGS_in (n : Int) (w : World) (h : 0 ≤ n) (h2 : n ≤ 160) : Calls Try.prog 27 #[.int .i64 n] w (Gives (.tuple #[.int .i64 (gsAt n 22).1, .int .i64 (gsAt n 22).2]) w) := by
  go_enter Try.func27, Try.ntmps27
  go_wp2_with ((go_at_call 69; refine (iIn _ _ _ _).mono ?_; rintro e w' ⟨rfl, ⟨h1, rfl⟩ | ⟨h1, rfl⟩⟩ <;> try (exfalso; omega)))
  go_loop [4] (fun o => ∃ k : Nat, 3 ≤ k ∧ k ≤ 22 ∧ o = .int .i64 k ∧ Hid (gsAt n 22 = gsAt n k)) (fun o => (intOf o).toNat)
  case atStart => exact ⟨22, by omega, by omega, rfl, Lib.hid rfl⟩
  case round =>
    obtain ⟨k, hk1, hk2, rfl, hg⟩ := hrel
    by_cases h4 : 4 ≤ k
    · go_wp2_with ((go_at_call 72; refine (iTypes_any _ _ (by omega) (by omega)).mono ?_; rintro e w' ⟨rfl, rfl⟩))
      · have e := gsAt_yes n k h4 (by assumption)
        go_ret2
        exact ⟨ret_pair (p := (_, _)) (by rw [hg.out, e]), rfl⟩
      · have e := gsAt_no n k h4 (by assumption)
        exact ⟨⟨k - 1, by omega, by omega, by rw [show ((k - 1 : Nat) : Int) = (k : Int) - 1 by omega], Lib.hid (by rw [hg.out, e])⟩, by simp [intOf]; omega⟩
    · obtain rfl : k = 3 := by omega
      have e := Lib.hid (hg.out.trans (gsAt_low n))
      clear hg
      go_wp2
      go_ret2
      exact ⟨ret_pair (p := (_, _)) (by rw [e.out]), rfl⟩
theorem sGS_out (a : Int) (w : World) (h : a < 0 ∨ 160 < a) : Calls Try.prog 26 #[.int .i64 a] w (Gives (.tuple #[.int .i64 0, .int .i64 2]) w) := by
  go_enter Try.func26, Try.ntmps26
  go_wp2_with ((go_at_call 58; refine (sIn _ _ _ _).mono ?_; rintro e w' ⟨rfl, ⟨h1, rfl⟩ | ⟨h1, rfl⟩⟩ <;> try (exfalso; omega)))
  go_ret2
  exact ⟨rfl, rfl⟩
theorem iGS_out (a : Int) (w : World) (h : a < 0 ∨ 160 < a) : Calls Try.prog 27 #[.int .i64 a] w (Gives (.tuple #[.int .i64 0, .int .i64 2]) w) := by
  go_enter Try.func27, Try.ntmps27
  go_wp2_with ((go_at_call 69; refine (iIn _ _ _ _).mono ?_; rintro e w' ⟨rfl, ⟨h1, rfl⟩ | ⟨h1, rfl⟩⟩ <;> try (exfalso; omega)))
  go_ret2
  exact ⟨rfl, rfl⟩
theorem law_GreatestSide (a : Int) (w : World) : Calls Try.prog 7 #[.int .i64 a] w (Gives (.bool true) w) := by
  by_cases h : 0 ≤ a ∧ a ≤ 160
  · obtain ⟨h, h2⟩ := h
    go_enter Try.func7, Try.ntmps7
    go_wp2_with (first | (go_at_call 26; refine (sGS_in _ _ (by omega) (by omega)).mono ?_; rintro e w' ⟨rfl, rfl⟩) | (go_at_call 27; refine (iGS_in _ _ (by omega) (by omega)).mono ?_; rintro e w' ⟨rfl, rfl⟩))
    go_ret
    exact ⟨rfl, rfl⟩
  · go_enter Try.func7, Try.ntmps7
    go_wp2_with (first | (go_at_call 26; refine (sGS_out _ _ (by omega)).mono ?_; rintro e w' ⟨rfl, rfl⟩) | (go_at_call 27; refine (iGS_out _ _ (by omega)).mono ?_; rintro e w' ⟨rfl, rfl⟩))
    go_ret
    exact ⟨rfl, rfl⟩
end Go.Proofs.Ytghecnlgainfkaa
