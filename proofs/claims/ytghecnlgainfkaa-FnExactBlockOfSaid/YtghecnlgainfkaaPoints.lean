/- Contracts of functions on points: ranges, blocks and cells of blocks. -/
import Derived.Test.YtghecnlgainfkaaArith
namespace Go.Proofs.Ytghecnlgainfkaa
open Go.RowKit
/-- A point, as a value. -/
abbrev ptV (x y : Int) : Value := .agg #[.int .i64 x, .int .i64 y]
def PtOk (x y : Int) : Prop := (-60 ≤ x ∧ x ≤ 60) ∧ (-60 ≤ y ∧ y ≤ 60)
theorem sPt (x y : Int) (w : World) : Calls Try.prog 65 #[ptV x y] w (BoolB (PtOk x y) w) := by
  by_cases h1 : -60 ≤ x ∧ x ≤ 60
  · go_enter Try.func65, Try.ntmps65
    go_wp2_with ((go_at_call 58; refine (sIn _ _ _ _).mono ?_; rintro e w' ⟨rfl, ⟨h1, rfl⟩ | ⟨h1, rfl⟩⟩ <;> try (exfalso; omega)))
    all_goals go_ret
    · exact .yes (((Below.refl _ _).alloc (Nat.le_refl _) _)) ⟨by omega, by omega⟩
    · exact .no (((Below.refl _ _).alloc (Nat.le_refl _) _)) (by unfold PtOk; omega)
  · go_enter Try.func65, Try.ntmps65
    go_wp2_with ((go_at_call 58; refine (sIn _ _ _ _).mono ?_; rintro e w' ⟨rfl, ⟨h1, rfl⟩ | ⟨h1, rfl⟩⟩ <;> try (exfalso; omega)))
    go_ret
    exact .no (((Below.refl _ _).alloc (Nat.le_refl _) _)) (by unfold PtOk; omega)
theorem iPt (x y : Int) (w : World) : Calls Try.prog 68 #[ptV x y] w (BoolB (PtOk x y) w) := by
  by_cases h1 : -60 ≤ x ∧ x ≤ 60
  · go_enter Try.func68, Try.ntmps68
    go_wp2_with ((go_at_call 69; refine (iIn _ _ _ _).mono ?_; rintro e w' ⟨rfl, ⟨h1, rfl⟩ | ⟨h1, rfl⟩⟩ <;> try (exfalso; omega)))
    all_goals go_ret
    · exact .yes (((Below.refl _ _).alloc (Nat.le_refl _) _)) ⟨by omega, by omega⟩
    · exact .no (((Below.refl _ _).alloc (Nat.le_refl _) _)) (by unfold PtOk; omega)
  · go_enter Try.func68, Try.ntmps68
    go_wp2_with ((go_at_call 69; refine (iIn _ _ _ _).mono ?_; rintro e w' ⟨rfl, ⟨h1, rfl⟩ | ⟨h1, rfl⟩⟩ <;> try (exfalso; omega)))
    go_ret
    exact .no (((Below.refl _ _).alloc (Nat.le_refl _) _)) (by unfold PtOk; omega)
theorem mul_bd (a k : Int) (h : -60 ≤ a ∧ a ≤ 60) (hk : 1 ≤ k ∧ k ≤ 4) : -240 ≤ a * k ∧ a * k ≤ 240 := by
  obtain rfl | rfl | rfl | rfl : k = 1 ∨ k = 2 ∨ k = 3 ∨ k = 4 := by omega
  all_goals omega
theorem sCell (bx by' x y k : Int) (h1 : -60 ≤ bx ∧ bx ≤ 60) (h2 : -60 ≤ by' ∧ by' ≤ 60) (h3 : 0 ≤ x ∧ x ≤ 4) (h4 : 0 ≤ y ∧ y ≤ 4) (h5 : 1 ≤ k ∧ k ≤ 4) (w : World) :
    Calls Try.prog 66 #[ptV bx by', .int .i64 x, .int .i64 y, .int .i64 k] w (Ret (ptV (bx * k + x) (by' * k + y)) w) := by
  obtain ⟨a1, a2⟩ := mul_bd bx k h1 h5
  obtain ⟨a3, a4⟩ := mul_bd by' k h2 h5
  go_enter Try.func66, Try.ntmps66
  go_wp2
  exact bodyPost_ret (v := ptV (bx * k + x) (by' * k + y)) (by simp [results, Try.results66, go_sem]) rfl ⟨rfl, ((Below.refl _ _).alloc (Nat.le_refl _) _).alloc (by simp) _⟩
theorem iCell (bx by' x y k : Int) (h1 : -60 ≤ bx ∧ bx ≤ 60) (h2 : -60 ≤ by' ∧ by' ≤ 60) (h3 : 0 ≤ x ∧ x ≤ 4) (h4 : 0 ≤ y ∧ y ≤ 4) (h5 : 1 ≤ k ∧ k ≤ 4) (w : World) :
    Calls Try.prog 70 #[ptV bx by', ptV x y, .int .i64 k] w (Ret (ptV (bx * k + x) (by' * k + y)) w) := by
  obtain ⟨a1, a2⟩ := mul_bd bx k h1 h5
  obtain ⟨a3, a4⟩ := mul_bd by' k h2 h5
  rw [Int.mul_comm bx, Int.mul_comm by'] at *
  go_enter Try.func70, Try.ntmps70
  go_wp2
  exact bodyPost_ret (v := ptV (k * bx + x) (k * by' + y)) (by simp [results, Try.results70, go_sem]) rfl ⟨rfl, (((Below.refl _ _).alloc (Nat.le_refl _) _).alloc (by simp) _).alloc (by simp; omega) _⟩
theorem bsOk (a : Int) (w : World) : Calls Try.prog 67 #[.int .i64 a] w (BoolIff (1 ≤ a ∧ a ≤ 4) w) := by
  go_enter Try.func67, Try.ntmps67
  go_wp2_with ((go_at_call 69; refine (iIn _ _ _ _).mono ?_; rintro e w' ⟨rfl, ⟨h1, rfl⟩ | ⟨h1, rfl⟩⟩ <;> try (exfalso; omega)))
  all_goals go_ret
  · exact .yes (by omega)
  · exact .no (by omega)
theorem toPoint_any (x y : Int) (w : World) : Calls Try.prog 21 #[ptV x y] w (Ret (ptV x y) w) := by
  go_enter Try.func21, Try.ntmps21
  go_wp2
  exact bodyPost_ret (v := ptV x y) (by simp [results, Try.results21, go_sem]) rfl ⟨rfl, (((Below.refl _ _).alloc (Nat.le_refl _) _).alloc (by simp) _).alloc (by simp; omega) _⟩
theorem eqPoint_any (x y x' y' : Int) (w : World) : Calls Try.prog 23 #[ptV x y, ptV x' y'] w (BoolB (x = x' ∧ y = y') w) := by
  by_cases h1 : x = x'
  · subst h1
    by_cases h2 : y = y'
    · subst h2
      go_enter Try.func23, Try.ntmps23
      go_wp2
      go_ret
      exact .yes (((Below.refl _ _).alloc (Nat.le_refl _) _).alloc (by simp) _) (by simp)
    · go_enter Try.func23, Try.ntmps23
      go_wp2
      go_ret
      exact .no (((Below.refl _ _).alloc (Nat.le_refl _) _).alloc (by simp) _) (by omega)
  · go_enter Try.func23, Try.ntmps23
    go_wp2
    go_ret
    exact .no (((Below.refl _ _).alloc (Nat.le_refl _) _).alloc (by simp) _) (by omega)
/-- May a block, a cell and a size be asked for? -/
def CellAsk (bx by' x y k : Int) : Prop := (1 ≤ k ∧ k ≤ 4) ∧ PtOk bx by' ∧ (0 ≤ x ∧ x ≤ k - 1) ∧ (0 ≤ y ∧ y ≤ k - 1)
def CellGood (bx by' x y k : Int) : Prop := CellAsk bx by' x y k ∧ PtOk (bx * k + x) (by' * k + y)
theorem sCellOf (bx by' x y k : Int) (w : World) :
    Calls Try.prog 20 #[ptV bx by', ptV x y, .int .i64 k] w (Either (CellGood bx by' x y k) (.tuple #[ptV (bx * k + x) (by' * k + y), .int .i64 0]) (.tuple #[ptV 0 0, .int .i64 2]) w) := by
  go_enter Try.func20, Try.ntmps20
  go_wp2_with (first | (go_at_call 58; refine (sIn _ _ _ _).mono ?_; rintro e w' ⟨rfl, ⟨h1, rfl⟩ | ⟨h1, rfl⟩⟩ <;> try (exfalso; omega)) | (go_at_call 65; refine (sPt _ _ _).mono ?_; rintro e w1 ⟨hb, ⟨h1, rfl⟩ | ⟨h1, rfl⟩⟩ <;> unfold PtOk at h1 <;> (try (exfalso; omega)) <;> (obtain ⟨hc, hf⟩ := bcell hb; have hz := hb.size; have ht := below_lt hb; (try simp at hz); (try have z0 : w.heap.size < w1.heap.size := by omega); (try have z1 : w.heap.size + 1 < w1.heap.size := by omega); (try have z2 : w.heap.size + 1 + 1 < w1.heap.size := by omega); (try have z3 : w.heap.size + 1 + 1 + 1 < w1.heap.size := by omega); (try have z4 : w.heap.size + 1 + 1 + 1 + 1 < w1.heap.size := by omega))) | (go_at_call 66; refine (sCell _ _ _ _ _ (by omega) (by omega) (by omega) (by omega) (by omega) _).mono ?_; rintro e w1 ⟨rfl, hb⟩; (obtain ⟨hc, hf⟩ := bcell hb; have hz := hb.size; have ht := below_lt hb; (try simp at hz); (try have z0 : w.heap.size < w1.heap.size := by omega); (try have z1 : w.heap.size + 1 < w1.heap.size := by omega); (try have z2 : w.heap.size + 1 + 1 < w1.heap.size := by omega); (try have z3 : w.heap.size + 1 + 1 + 1 < w1.heap.size := by omega); (try have z4 : w.heap.size + 1 + 1 + 1 + 1 < w1.heap.size := by omega))))
  all_goals first
    | (refine bodyPost_ret (v := .tuple #[ptV (bx * k + x) (by' * k + y), .int .i64 0]) ?_ rfl (.yes ?_ ?_)
       · (simp only [results, Try.results20]; go_simp)
       · repeat (first | exact Below.refl _ _ | refine Below.setCell ?_ (by first | omega | (simp; done) | (simp; omega)) _ | refine Below.alloc ?_ (by first | omega | (simp; done) | (simp; omega)) _ | refine Below.drew ?_ | refine Below.trans ?_ (Below.mono (by assumption) (by first | omega | (simp; done) | (simp; omega))))
       · (unfold CellGood CellAsk PtOk; omega))
    | (refine bodyPost_ret (v := .tuple #[ptV 0 0, .int .i64 2]) ?_ rfl (.no ?_ ?_)
       · (simp only [results, Try.results20]; go_simp)
       · repeat (first | exact Below.refl _ _ | refine Below.setCell ?_ (by first | omega | (simp; done) | (simp; omega)) _ | refine Below.alloc ?_ (by first | omega | (simp; done) | (simp; omega)) _ | refine Below.drew ?_ | refine Below.trans ?_ (Below.mono (by assumption) (by first | omega | (simp; done) | (simp; omega))))
       · (unfold CellGood CellAsk PtOk; omega))
theorem iCellOf (bx by' x y k : Int) (w : World) :
    Calls Try.prog 22 #[ptV bx by', ptV x y, .int .i64 k] w (Either (CellGood bx by' x y k) (.tuple #[ptV (bx * k + x) (by' * k + y), .int .i64 0]) (.tuple #[ptV 0 0, .int .i64 2]) w) := by
  go_enter Try.func22, Try.ntmps22
  go_wp2_with (first | (go_at_call 67; refine (bsOk _ _).mono ?_; rintro e w' ⟨rfl, ⟨h1, rfl⟩ | ⟨h1, rfl⟩⟩ <;> try (exfalso; omega)) | (go_at_call 69; refine (iIn _ _ _ _).mono ?_; rintro e w' ⟨rfl, ⟨h1, rfl⟩ | ⟨h1, rfl⟩⟩ <;> try (exfalso; omega)) | (go_at_call 68; refine (iPt _ _ _).mono ?_; rintro e w1 ⟨hb, ⟨h1, rfl⟩ | ⟨h1, rfl⟩⟩ <;> unfold PtOk at h1 <;> (try (exfalso; omega)) <;> (obtain ⟨hc, hf⟩ := bcell hb; have hz := hb.size; have ht := below_lt hb; (try simp at hz); (try have z0 : w.heap.size < w1.heap.size := by omega); (try have z1 : w.heap.size + 1 < w1.heap.size := by omega); (try have z2 : w.heap.size + 1 + 1 < w1.heap.size := by omega); (try have z3 : w.heap.size + 1 + 1 + 1 < w1.heap.size := by omega); (try have z4 : w.heap.size + 1 + 1 + 1 + 1 < w1.heap.size := by omega))) | (go_at_call 70; refine (iCell _ _ _ _ _ (by omega) (by omega) (by omega) (by omega) (by omega) _).mono ?_; rintro e w1 ⟨rfl, hb⟩; (obtain ⟨hc, hf⟩ := bcell hb; have hz := hb.size; have ht := below_lt hb; (try simp at hz); (try have z0 : w.heap.size < w1.heap.size := by omega); (try have z1 : w.heap.size + 1 < w1.heap.size := by omega); (try have z2 : w.heap.size + 1 + 1 < w1.heap.size := by omega); (try have z3 : w.heap.size + 1 + 1 + 1 < w1.heap.size := by omega); (try have z4 : w.heap.size + 1 + 1 + 1 + 1 < w1.heap.size := by omega))))
  all_goals first
    | (refine bodyPost_ret (v := .tuple #[ptV (bx * k + x) (by' * k + y), .int .i64 0]) ?_ rfl (.yes ?_ ?_)
       · (simp only [results, Try.results22]; go_simp)
       · repeat (first | exact Below.refl _ _ | refine Below.setCell ?_ (by first | omega | (simp; done) | (simp; omega)) _ | refine Below.alloc ?_ (by first | omega | (simp; done) | (simp; omega)) _ | refine Below.drew ?_ | refine Below.trans ?_ (Below.mono (by assumption) (by first | omega | (simp; done) | (simp; omega))))
       · (unfold CellGood CellAsk PtOk; omega))
    | (refine bodyPost_ret (v := .tuple #[ptV 0 0, .int .i64 2]) ?_ rfl (.no ?_ ?_)
       · (simp only [results, Try.results22]; go_simp)
       · repeat (first | exact Below.refl _ _ | refine Below.setCell ?_ (by first | omega | (simp; done) | (simp; omega)) _ | refine Below.alloc ?_ (by first | omega | (simp; done) | (simp; omega)) _ | refine Below.drew ?_ | refine Below.trans ?_ (Below.mono (by assumption) (by first | omega | (simp; done) | (simp; omega))))
       · (unfold CellGood CellAsk PtOk; omega))
end Go.Proofs.Ytghecnlgainfkaa
