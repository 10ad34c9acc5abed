/- Contracts on lists to be sorted: are they valid, how many inversions have they. -/
import Derived.Test.YtghecnlgainfkaaFuncs
namespace Go.Proofs.Ytghecnlgainfkaa
open Go.RowKit
def SortAsk (base : Int) (xs : List Int) : Prop := (1 ≤ base ∧ base ≤ 6) ∧ (1 ≤ xs.length ∧ xs.length ≤ 12) ∧ allB base xs
theorem allB_snoc {l : Int} {xs : List Int} {k : Nat} {x : Int} (h : allB l (xs.take k)) (hx : xs[k]? = some x) (hp : 0 ≤ x ∧ x < l) : allB l (xs.take (k + 1)) := by
  rw [take_snoc' hx]
  intro y hy
  rcases List.mem_append.1 hy with hy | hy
  · exact h y hy
  · simp at hy; subst hy; exact hp
set_option maxHeartbeats 1000000 in
theorem sAsk (base : Int) (v : Value) (xs : List Int) (S : Nat → Prop) (w : World) (hv : SlAt 1 rI w S v xs) (hS : ∀ b, S b → b < w.heap.size) :
    Calls Try.prog 75 #[.int .i64 base, v] w (Either (SortAsk base xs) (.int .i64 0) (.int .i64 2) w) := by
  have h63 := hv.le
  obtain ⟨a, cap, rfl⟩ := hv.len
  by_cases g1 : 1 ≤ base ∧ base ≤ 6
  · by_cases g2 : 1 ≤ xs.length ∧ xs.length ≤ 12
    · go_enter Try.func75, Try.ntmps75
      go_wp2_with ((go_at_call 58; refine (sIn _ _ _ _).mono ?_; rintro e w' ⟨rfl, ⟨h1, rfl⟩ | ⟨h1, rfl⟩⟩ <;> try (exfalso; omega)))
      go_loopw [5] (fun i wr => ∃ k : Nat, k ≤ xs.length ∧ i = .int .i64 k ∧ Hid (allB base (xs.take k)) ∧ Below w.heap.size w wr) (fun i _ => xs.length - (intOf i).toNat)
      case atStart => exact ⟨0, Nat.zero_le _, rfl, Lib.hid (by intro x hx; simp at hx), Below.refl _ _⟩
      case round =>
        obtain ⟨k, hk, rfl, hK, hbr⟩ := hrel
        by_cases hlt : k < xs.length
        · obtain ⟨x, hx⟩ := get_of_lt hlt
          obtain ⟨b, off, cap1, hav, hSb, hc, _⟩ := (hv.below hbr hS).int hx
          simp only [Value.slice.injEq] at hav
          obtain ⟨rfl, _, rfl⟩ := hav
          have Hx := Lib.hid hx; clear hx hv
          go_wp2_with ((go_at_call 58; refine (sIn _ _ _ _).mono ?_; rintro e w' ⟨rfl, ⟨h1, rfl⟩ | ⟨h1, rfl⟩⟩ <;> try (exfalso; omega)))
          · exact ⟨⟨k + 1, by omega, by go_num, Lib.hid (allB_snoc hK.out Hx.out (by omega)), (by repeat (first | exact Below.refl _ _ | assumption | refine Below.setCell ?_ (by first | omega | (simp; done) | (simp; omega)) _ | refine Below.alloc ?_ (by first | omega | (simp; done) | (simp; omega) | exact Below.size (by assumption)) _ | refine Below.drew ?_ | refine below_drewN ?_ _ | refine Below.trans ?_ (Below.mono (by assumption) (by first | omega | exact Below.size (by assumption) | (simp; done) | (simp; omega)))))⟩, by simp [intOf]; omega⟩
          · go_ret
            exact .no (by repeat (first | exact Below.refl _ _ | assumption | refine Below.setCell ?_ (by first | omega | (simp; done) | (simp; omega)) _ | refine Below.alloc ?_ (by first | omega | (simp; done) | (simp; omega) | exact Below.size (by assumption)) _ | refine Below.drew ?_ | refine below_drewN ?_ _ | refine Below.trans ?_ (Below.mono (by assumption) (by first | omega | exact Below.size (by assumption) | (simp; done) | (simp; omega))))) (fun e => by have := e.2.2 x (List.mem_of_getElem? Hx.out); omega)
        · obtain rfl : k = xs.length := by omega
          go_wp2
          go_ret
          exact .yes (by repeat (first | exact Below.refl _ _ | assumption | refine Below.setCell ?_ (by first | omega | (simp; done) | (simp; omega)) _ | refine Below.alloc ?_ (by first | omega | (simp; done) | (simp; omega) | exact Below.size (by assumption)) _ | refine Below.drew ?_ | refine below_drewN ?_ _ | refine Below.trans ?_ (Below.mono (by assumption) (by first | omega | exact Below.size (by assumption) | (simp; done) | (simp; omega))))) ⟨g1, g2, by have := hK.out; rw [List.take_length] at this; exact this⟩
    · go_enter Try.func75, Try.ntmps75
      go_wp2_with ((go_at_call 58; refine (sIn _ _ _ _).mono ?_; rintro e w' ⟨rfl, ⟨h1, rfl⟩ | ⟨h1, rfl⟩⟩ <;> try (exfalso; omega)))
      go_ret
      exact .no (by repeat (first | exact Below.refl _ _ | assumption | refine Below.setCell ?_ (by first | omega | (simp; done) | (simp; omega)) _ | refine Below.alloc ?_ (by first | omega | (simp; done) | (simp; omega) | exact Below.size (by assumption)) _ | refine Below.drew ?_ | refine below_drewN ?_ _ | refine Below.trans ?_ (Below.mono (by assumption) (by first | omega | exact Below.size (by assumption) | (simp; done) | (simp; omega))))) (fun e => g2 e.2.1)
  · go_enter Try.func75, Try.ntmps75
    go_wp2_with ((go_at_call 58; refine (sIn _ _ _ _).mono ?_; rintro e w' ⟨rfl, ⟨h1, rfl⟩ | ⟨h1, rfl⟩⟩ <;> try (exfalso; omega)))
    go_ret
    exact .no (by repeat (first | exact Below.refl _ _ | assumption | refine Below.setCell ?_ (by first | omega | (simp; done) | (simp; omega)) _ | refine Below.alloc ?_ (by first | omega | (simp; done) | (simp; omega) | exact Below.size (by assumption)) _ | refine Below.drew ?_ | refine below_drewN ?_ _ | refine Below.trans ?_ (Below.mono (by assumption) (by first | omega | exact Below.size (by assumption) | (simp; done) | (simp; omega))))) (fun e => g1 e.1)
theorem iAsk (base : Int) (v : Value) (xs : List Int) (S : Nat → Prop) (w : World) (hv : SlAt 1 rI w S v xs) (hS : ∀ b, S b → b < w.heap.size) :
    Calls Try.prog 76 #[.int .i64 base, v] w (BoolB (SortAsk base xs) w) := by
  have h63 := hv.le
  obtain ⟨a, cap, rfl⟩ := hv.len
  by_cases g1 : 1 ≤ base ∧ base ≤ 6
  · by_cases g2 : 1 ≤ xs.length ∧ xs.length ≤ 12
    · go_enter Try.func76, Try.ntmps76
      go_wp2_with (first | (go_at_call 69; refine (iIn _ _ _ _).mono ?_; rintro e w' ⟨rfl, ⟨h1, rfl⟩ | ⟨h1, rfl⟩⟩ <;> try (exfalso; omega)) | (go_at_call 81; refine (below_any _ _ _ _ _ (by assumption) (by assumption) (by omega)).mono ?_; rintro e w1 ⟨hb, ⟨h1, rfl⟩ | ⟨h1, rfl⟩⟩))
      all_goals go_ret
      · exact .yes (by repeat (first | exact Below.refl _ _ | assumption | refine Below.setCell ?_ (by first | omega | (simp; done) | (simp; omega)) _ | refine Below.alloc ?_ (by first | omega | (simp; done) | (simp; omega) | exact Below.size (by assumption)) _ | refine Below.drew ?_ | refine below_drewN ?_ _ | refine Below.trans ?_ (Below.mono (by assumption) (by first | omega | exact Below.size (by assumption) | (simp; done) | (simp; omega))))) ⟨g1, g2, by assumption⟩
      · exact .no (by repeat (first | exact Below.refl _ _ | assumption | refine Below.setCell ?_ (by first | omega | (simp; done) | (simp; omega)) _ | refine Below.alloc ?_ (by first | omega | (simp; done) | (simp; omega) | exact Below.size (by assumption)) _ | refine Below.drew ?_ | refine below_drewN ?_ _ | refine Below.trans ?_ (Below.mono (by assumption) (by first | omega | exact Below.size (by assumption) | (simp; done) | (simp; omega))))) (fun e => by have := e.2.2; contradiction)
    · go_enter Try.func76, Try.ntmps76
      go_wp2_with (first | (go_at_call 69; refine (iIn _ _ _ _).mono ?_; rintro e w' ⟨rfl, ⟨h1, rfl⟩ | ⟨h1, rfl⟩⟩ <;> try (exfalso; omega)) | (go_at_call 81; refine (below_any _ _ _ _ _ (by assumption) (by assumption) (by omega)).mono ?_; rintro e w1 ⟨hb, ⟨h1, rfl⟩ | ⟨h1, rfl⟩⟩))
      go_ret
      exact .no (by repeat (first | exact Below.refl _ _ | assumption | refine Below.setCell ?_ (by first | omega | (simp; done) | (simp; omega)) _ | refine Below.alloc ?_ (by first | omega | (simp; done) | (simp; omega) | exact Below.size (by assumption)) _ | refine Below.drew ?_ | refine below_drewN ?_ _ | refine Below.trans ?_ (Below.mono (by assumption) (by first | omega | exact Below.size (by assumption) | (simp; done) | (simp; omega))))) (fun e => g2 e.2.1)
  · go_enter Try.func76, Try.ntmps76
    go_wp2_with (first | (go_at_call 69; refine (iIn _ _ _ _).mono ?_; rintro e w' ⟨rfl, ⟨h1, rfl⟩ | ⟨h1, rfl⟩⟩ <;> try (exfalso; omega)) | (go_at_call 81; refine (below_any _ _ _ _ _ (by assumption) (by assumption) (by omega)).mono ?_; rintro e w1 ⟨hb, ⟨h1, rfl⟩ | ⟨h1, rfl⟩⟩))
    go_ret
    exact .no (by repeat (first | exact Below.refl _ _ | assumption | refine Below.setCell ?_ (by first | omega | (simp; done) | (simp; omega)) _ | refine Below.alloc ?_ (by first | omega | (simp; done) | (simp; omega) | exact Below.size (by assumption)) _ | refine Below.drew ?_ | refine below_drewN ?_ _ | refine Below.trans ?_ (Below.mono (by assumption) (by first | omega | exact Below.size (by assumption) | (simp; done) | (simp; omega))))) (fun e => g1 e.1)
/-- How many pairs stand in the wrong order. -/
def inv : List Int → Nat
  | [] => 0
  | x :: xs => (xs.filter fun y => decide (y < x)).length + inv xs
theorem inv_snoc (x : Int) : ∀ xs : List Int, inv (xs ++ [x]) = inv xs + (xs.filter fun y => decide (x < y)).length
  | [] => rfl
  | y :: ys => by
    simp only [List.cons_append, inv, inv_snoc x ys, List.filter_append, List.length_append, List.filter_cons]
    by_cases h : x < y
    · simp [h]; omega
    · simp [h]; omega
theorem inv_le : ∀ xs : List Int, inv xs ≤ xs.length * xs.length
  | [] => by simp [inv]
  | x :: xs => by
    have h1 := inv_le xs
    have h2 := List.length_filter_le (fun y => decide (y < x)) xs
    simp only [inv, List.length_cons, Nat.add_mul, Nat.mul_add]
    omega
theorem inv_bd (xs : List Int) (h : xs.length ≤ 12) : inv xs ≤ 144 := by
  have h1 := inv_le xs
  have h2 := Nat.mul_le_mul h h
  omega
theorem filt_snoc {p : Int → Bool} {ys : List Int} {j : Nat} {y : Int} (h : ys[j]? = some y) : ((ys.take (j + 1)).filter p).length = ((ys.take j).filter p).length + (if p y then 1 else 0) := by
  rw [take_snoc' h, List.filter_append, List.length_append]
  by_cases hp : p y <;> simp [hp]
theorem filt_le {p : Int → Bool} {ys : List Int} {j : Nat} : ((ys.take j).filter p).length ≤ ys.length := Nat.le_trans (List.length_filter_le _ _) (by simp; omega)
set_option maxHeartbeats 1600000 in
theorem sInv (base : Int) (v : Value) (xs : List Int) (S : Nat → Prop) (w : World) (hv : SlAt 1 rI w S v xs) (hS : ∀ b, S b → b < w.heap.size) (H : SortAsk base xs) :
    Calls Try.prog 30 #[.int .i64 base, v] w (Ret (.tuple #[.int .i64 (inv xs), .int .i64 0]) w) := by
  have hl := H.2.1.2
  have hb0 := inv_bd xs hl
  have hV := Lib.hid hv
  obtain ⟨a, cap, rfl⟩ := hv.len
  go_enter Try.func30, Try.ntmps30
  go_wp2_with ((go_at_call 75; refine (sAsk _ _ _ _ _ (by assumption) (by assumption)).mono ?_; rintro e w1 ⟨hb, ⟨h1, rfl⟩ | ⟨h1, rfl⟩⟩ <;> (try (exfalso; exact h1 H)) <;> (try (exfalso; exact H h1))))
  clear h1
  have hbw := hb; clear hb
  go_loopw [7, 8, 9] (fun c i _ wr => ∃ k n : Nat, k ≤ xs.length ∧ i = .int .i64 k ∧ c = .int .i64 n ∧ Hid (n = inv (xs.take k)) ∧ n ≤ 144 ∧ Below w.heap.size w wr) (fun _ i _ _ => xs.length - (intOf i).toNat)
  case atStart => exact ⟨0, 0, Nat.zero_le _, rfl, rfl, Lib.hid (by simp [inv]), by omega, (by repeat (first | exact Below.refl _ _ | assumption | refine Below.setCell ?_ (by first | omega | (simp; done) | (simp; omega)) _ | refine Below.alloc ?_ (by first | omega | (simp; done) | (simp; omega) | exact Below.size (by assumption)) _ | refine Below.drew ?_ | refine below_drewN ?_ _ | refine Below.trans ?_ (Below.mono (by assumption) (by first | omega | exact Below.size (by assumption) | (simp; done) | (simp; omega)))))⟩
  case round =>
    obtain ⟨k, n, hk, rfl, rfl, hK, hn, hbr⟩ := hrel
    by_cases hlt : k < xs.length
    · obtain ⟨x, hx⟩ := get_of_lt hlt
      have Hx := Lib.hid hx; clear hx
      obtain ⟨wo, rfl⟩ : ∃ wo : World, wo = wr := ⟨_, rfl⟩
      go_wp2
      go_loopw [7, 9] (fun c j wi => ∃ m q : Nat, m ≤ k ∧ j = .int .i64 m ∧ c = .int .i64 q ∧ Hid (q = inv (xs.take k) + (((xs.take k).take m).filter fun y => decide (x < y)).length) ∧ q ≤ 200 ∧ Below w.heap.size w wi) (fun _ j _ => k - (intOf j).toNat)
      case atStart => exact ⟨0, n, Nat.zero_le _, rfl, rfl, Lib.hid (by simp; exact hK.out), by omega, hbr⟩
      case round =>
        obtain ⟨m, q, hm, rfl, rfl, hQ, hq, hbi⟩ := hrel
        by_cases hmt : m < k
        · obtain ⟨y, hy⟩ := get_of_lt (show m < xs.length by omega)
          have hyt : (xs.take k)[m]? = some y := by rw [List.getElem?_take, if_pos hmt]; exact hy
          obtain ⟨b, off, cap1, hav, hSb, hc, _⟩ := (hV.out.below hbi hS).int hy
          simp only [Value.slice.injEq] at hav
          obtain ⟨rfl, _, rfl⟩ := hav
          obtain ⟨b', off', cap2, hav, hSb', hc', _⟩ := (hV.out.below hbi hS).int Hx.out
          simp only [Value.slice.injEq, Option.some.injEq, Addr.mk.injEq] at hav
          obtain ⟨⟨rfl, rfl, _⟩, _, rfl⟩ := hav
          have Hy := Lib.hid (filt_snoc (p := fun y => decide (x < y)) hyt); clear hy hyt
          have hF := filt_le (p := fun y => decide (x < y)) (ys := xs.take k) (j := m)
          have hin := inv_bd (xs.take k) (by simp; omega)
          have hF2 : (((xs.take k).take m).filter fun y => decide (x < y)).length ≤ 12 := Nat.le_trans hF (by simp; omega)
          have hQ2 : q ≤ 156 := by have := hQ.out; omega
          clear hF hin hF2
          by_cases hxy : x < y
          · go_wp2
            go_quiet (fail)
            go_wp2
            go_roundw
            case rel => exact ⟨m + 1, q + 1, by omega, by go_num, by go_num, Lib.hid (by rw [Hy.out, hQ.out]; simp [hxy]; omega), by omega, (by repeat (first | exact Below.refl _ _ | assumption | refine Below.setCell ?_ (by first | omega | (simp; done) | (simp; omega)) _ | refine Below.alloc ?_ (by first | omega | (simp; done) | (simp; omega) | exact Below.size (by assumption)) _ | refine Below.drew ?_ | refine below_drewN ?_ _ | refine Below.trans ?_ (Below.mono (by assumption) (by first | omega | exact Below.size (by assumption) | (simp; done) | (simp; omega)))))⟩
            case measure => simp [intOf]; omega
          · go_wp2
            go_quiet (fail)
            go_wp2
            go_roundw
            case rel => exact ⟨m + 1, q, by omega, by go_num, rfl, Lib.hid (by rw [Hy.out, hQ.out]; simp [hxy]), by omega, (by repeat (first | exact Below.refl _ _ | assumption | refine Below.setCell ?_ (by first | omega | (simp; done) | (simp; omega)) _ | refine Below.alloc ?_ (by first | omega | (simp; done) | (simp; omega) | exact Below.size (by assumption)) _ | refine Below.drew ?_ | refine below_drewN ?_ _ | refine Below.trans ?_ (Below.mono (by assumption) (by first | omega | exact Below.size (by assumption) | (simp; done) | (simp; omega)))))⟩
            case measure => simp [intOf]; omega
        · obtain rfl : m = k := by omega
          have hin := inv_bd (xs.take (m + 1)) (by simp; omega)
          have hQ' := Lib.hid (show q = inv (xs.take (m + 1)) by rw [take_snoc' Hx.out, inv_snoc, hQ.out, List.take_take, Nat.min_self])
          have hq' : q ≤ 144 := by rw [hQ'.out]; exact hin
          clear hin
          go_wp2
          exact ⟨⟨m + 1, q, by omega, by go_num, rfl, hQ', hq', hbi⟩, by simp [intOf]; omega⟩
    · obtain rfl : k = xs.length := by omega
      have hK' := Lib.hid (show n = inv xs by rw [hK.out, List.take_length])
      go_wp2
      go_ret2
      exact ⟨ret_ii (by rw [hK'.out]) rfl, (by repeat (first | exact Below.refl _ _ | assumption | refine Below.setCell ?_ (by first | omega | (simp; done) | (simp; omega)) _ | refine Below.alloc ?_ (by first | omega | (simp; done) | (simp; omega) | exact Below.size (by assumption)) _ | refine Below.drew ?_ | refine below_drewN ?_ _ | refine Below.trans ?_ (Below.mono (by assumption) (by first | omega | exact Below.size (by assumption) | (simp; done) | (simp; omega)))))⟩
theorem drop_get {α : Type} {xs : List α} {k : Nat} {x : α} (h : xs[k]? = some x) : xs.drop k = x :: xs.drop (k + 1) := by
  have hl := lt_of_get h
  rw [List.drop_eq_getElem_cons hl]
  rw [List.getElem?_eq_getElem hl] at h
  cases h; rfl
set_option maxHeartbeats 1600000 in
theorem iInv (base : Int) (v : Value) (xs : List Int) (S : Nat → Prop) (w : World) (hv : SlAt 1 rI w S v xs) (hS : ∀ b, S b → b < w.heap.size) (H : SortAsk base xs) :
    Calls Try.prog 32 #[.int .i64 base, v] w (Ret (.tuple #[.int .i64 (inv xs), .int .i64 0]) w) := by
  have hl := H.2.1.2
  have hb0 := inv_bd xs hl
  have hV := Lib.hid hv
  obtain ⟨a, cap, rfl⟩ := hv.len
  go_enter Try.func32, Try.ntmps32
  go_wp2_with ((go_at_call 76; refine (iAsk _ _ _ _ _ (by assumption) (by assumption)).mono ?_; rintro e w1 ⟨hb, ⟨h1, rfl⟩ | ⟨h1, rfl⟩⟩ <;> (try (exfalso; exact h1 H)) <;> (try (exfalso; exact H h1))))
  clear h1
  have hbw := hb; clear hb
  go_loopw [6, 7, 8, 10, 17] (fun c _ _ _ i wr => ∃ k n : Nat, k ≤ xs.length ∧ i = .int .i64 k ∧ c = .int .i64 n ∧ Hid (n + inv (xs.drop k) = inv xs) ∧ n ≤ 144 ∧ Below w.heap.size w wr) (fun _ _ _ _ i _ => xs.length - (intOf i).toNat)
  case atStart => exact ⟨0, 0, Nat.zero_le _, rfl, rfl, Lib.hid (by simp), by omega, (by repeat (first | exact Below.refl _ _ | assumption | refine Below.setCell ?_ (by first | omega | (simp; done) | (simp; omega)) _ | refine Below.alloc ?_ (by first | omega | (simp; done) | (simp; omega) | exact Below.size (by assumption)) _ | refine Below.drew ?_ | refine below_drewN ?_ _ | refine Below.trans ?_ (Below.mono (by assumption) (by first | omega | exact Below.size (by assumption) | (simp; done) | (simp; omega)))))⟩
  case round =>
    obtain ⟨k, n, hk, rfl, rfl, hK, hn, hbr⟩ := hrel
    by_cases hlt : k < xs.length
    · obtain ⟨x, hx⟩ := get_of_lt hlt
      obtain ⟨b, off, cap1, hav, hSb, hc, _⟩ := (hV.out.below hbr hS).int hx
      simp only [Value.slice.injEq] at hav
      obtain ⟨rfl, _, rfl⟩ := hav
      have Hx := Lib.hid hx; clear hx
      obtain ⟨wo, rfl⟩ : ∃ wo : World, wo = wr := ⟨_, rfl⟩
      have hcl : xs.length ≤ cap := by
        rcases hV.out with ⟨rfl, _⟩ | ⟨_, _, _, h1, _, h2, _⟩
        · simp
        · simp only [Value.slice.injEq] at h1; omega
      by_cases hcap : k + 1 < cap
      · go_wp2
        go_loopw [6, 10, 27] (fun c _ j wi => ∃ m q : Nat, m ≤ xs.length - (k + 1) ∧ j = .int .i64 m ∧ c = .int .i64 q ∧ Hid (q = n + (((xs.drop (k + 1)).take m).filter fun y => decide (y < x)).length) ∧ q ≤ 200 ∧ Below w.heap.size w wi) (fun _ _ j _ => xs.length - (k + 1) - (intOf j).toNat)
        case atStart => exact ⟨0, n, Nat.zero_le _, rfl, rfl, Lib.hid (by simp), by omega, hbr⟩
        case round =>
          obtain ⟨m, q, hm, rfl, rfl, hQ, hq, hbi⟩ := hrel
          by_cases hmt : m < xs.length - (k + 1)
          · obtain ⟨y, hy⟩ := get_of_lt (show k + 1 + m < xs.length by omega)
            have hyt : (xs.drop (k + 1))[m]? = some y := by rw [List.getElem?_drop]; exact hy
            obtain ⟨b', off', cap2, hav, hSb', hc', _⟩ := (hV.out.below hbi hS).int hy
            simp only [Value.slice.injEq, Option.some.injEq, Addr.mk.injEq] at hav
            obtain ⟨⟨rfl, rfl, _⟩, _, rfl⟩ := hav
            rw [← Nat.add_assoc] at hc'
            have Hy := Lib.hid (filt_snoc (p := fun y => decide (y < x)) hyt); clear hy hyt
            have hF := filt_le (p := fun y => decide (y < x)) (ys := xs.drop (k + 1)) (j := m)
            have hF2 : (((xs.drop (k + 1)).take m).filter fun y => decide (y < x)).length ≤ 12 := Nat.le_trans hF (by simp; omega)
            have hQ2 : q ≤ 156 := by have := hQ.out; omega
            clear hF hF2
            by_cases hxy : y < x
            · go_wp2
              go_roundw
              case rel => exact ⟨m + 1, q + 1, by omega, by go_num, by go_num, Lib.hid (by rw [Hy.out, hQ.out]; simp [hxy]; omega), by omega, (by repeat (first | exact Below.refl _ _ | assumption | refine Below.setCell ?_ (by first | omega | (simp; done) | (simp; omega)) _ | refine Below.alloc ?_ (by first | omega | (simp; done) | (simp; omega) | exact Below.size (by assumption)) _ | refine Below.drew ?_ | refine below_drewN ?_ _ | refine Below.trans ?_ (Below.mono (by assumption) (by first | omega | exact Below.size (by assumption) | (simp; done) | (simp; omega)))))⟩
              case measure => simp [intOf]; omega
            · go_wp2
              go_roundw
              case rel => exact ⟨m + 1, q, by omega, by go_num, rfl, Lib.hid (by rw [Hy.out, hQ.out]; simp [hxy]), by omega, (by repeat (first | exact Below.refl _ _ | assumption | refine Below.setCell ?_ (by first | omega | (simp; done) | (simp; omega)) _ | refine Below.alloc ?_ (by first | omega | (simp; done) | (simp; omega) | exact Below.size (by assumption)) _ | refine Below.drew ?_ | refine below_drewN ?_ _ | refine Below.trans ?_ (Below.mono (by assumption) (by first | omega | exact Below.size (by assumption) | (simp; done) | (simp; omega)))))⟩
              case measure => simp [intOf]; omega
          · obtain rfl : m = xs.length - (k + 1) := by omega
            have hQ' := Lib.hid (show q + inv (xs.drop (k + 1)) = inv xs by
              have h1 := hK.out
              rw [drop_get Hx.out] at h1
              have h2 := hQ.out
              rw [List.take_of_length_le (by simp)] at h2
              simp only [inv] at h1
              omega)
            have hq' : q ≤ 144 := by have := hQ'.out; omega
            go_wp2
            go_roundw
            case rel => exact ⟨k + 1, q, by omega, by go_num, rfl, hQ', hq', hbi⟩
            case measure => simp [intOf]; omega
      · have hn2 : xs.length = k + 1 := by omega
        have hn3 := Lib.hid hn2
        have hm0 : xs.length - (k + 1) = 0 := by omega
        clear hn2
        have hQ' := Lib.hid (show n + inv (xs.drop (k + 1)) = inv xs by
          have h1 := hK.out
          rw [drop_get Hx.out] at h1
          have h2 : xs.drop (k + 1) = [] := List.drop_eq_nil_of_le (by have := hn3.out; omega)
          rw [h2] at h1 ⊢
          simpa [inv] using h1)
        go_wp2
        go_loopw [6, 10, 27] (fun c _ j wi => j = .int .i64 0 ∧ c = .int .i64 n ∧ Below w.heap.size w wi) (fun _ _ _ _ => 0)
        case atStart => exact ⟨rfl, rfl, hbr⟩
        case round =>
          obtain ⟨rfl, rfl, hbi⟩ := hrel
          go_wp2
          go_roundw
          case rel => exact ⟨k + 1, n, by omega, by go_num, rfl, hQ', hn, hbi⟩
          case measure => simp [intOf]; omega
    · obtain rfl : k = xs.length := by omega
      have hK' := Lib.hid (show n = inv xs by have := hK.out; simpa [inv] using this)
      go_wp2
      go_ret2
      exact ⟨ret_ii (by rw [hK'.out]) rfl, (by repeat (first | exact Below.refl _ _ | assumption | refine Below.setCell ?_ (by first | omega | (simp; done) | (simp; omega)) _ | refine Below.alloc ?_ (by first | omega | (simp; done) | (simp; omega) | exact Below.size (by assumption)) _ | refine Below.drew ?_ | refine below_drewN ?_ _ | refine Below.trans ?_ (Below.mono (by assumption) (by first | omega | exact Below.size (by assumption) | (simp; done) | (simp; omega)))))⟩
theorem sInv_out (base : Int) (v : Value) (xs : List Int) (S : Nat → Prop) (w : World) (hv : SlAt 1 rI w S v xs) (hS : ∀ b, S b → b < w.heap.size) (H : ¬ SortAsk base xs) :
    Calls Try.prog 30 #[.int .i64 base, v] w (Ret (.tuple #[.int .i64 0, .int .i64 2]) w) := by
  go_enter Try.func30, Try.ntmps30
  go_wp2_with ((go_at_call 75; refine (sAsk _ _ _ _ _ (by assumption) (by assumption)).mono ?_; rintro e w1 ⟨hb, ⟨h1, rfl⟩ | ⟨h1, rfl⟩⟩ <;> (try (exfalso; exact h1 H)) <;> (try (exfalso; exact H h1))))
  go_ret2
  exact ⟨rfl, (by repeat (first | exact Below.refl _ _ | assumption | refine Below.setCell ?_ (by first | omega | (simp; done) | (simp; omega)) _ | refine Below.alloc ?_ (by first | omega | (simp; done) | (simp; omega) | exact Below.size (by assumption)) _ | refine Below.drew ?_ | refine below_drewN ?_ _ | refine Below.trans ?_ (Below.mono (by assumption) (by first | omega | exact Below.size (by assumption) | (simp; done) | (simp; omega)))))⟩
theorem iInv_out (base : Int) (v : Value) (xs : List Int) (S : Nat → Prop) (w : World) (hv : SlAt 1 rI w S v xs) (hS : ∀ b, S b → b < w.heap.size) (H : ¬ SortAsk base xs) :
    Calls Try.prog 32 #[.int .i64 base, v] w (Ret (.tuple #[.int .i64 0, .int .i64 2]) w) := by
  go_enter Try.func32, Try.ntmps32
  go_wp2_with ((go_at_call 76; refine (iAsk _ _ _ _ _ (by assumption) (by assumption)).mono ?_; rintro e w1 ⟨hb, ⟨h1, rfl⟩ | ⟨h1, rfl⟩⟩ <;> (try (exfalso; exact h1 H)) <;> (try (exfalso; exact H h1))))
  go_ret2
  exact ⟨rfl, (by repeat (first | exact Below.refl _ _ | assumption | refine Below.setCell ?_ (by first | omega | (simp; done) | (simp; omega)) _ | refine Below.alloc ?_ (by first | omega | (simp; done) | (simp; omega) | exact Below.size (by assumption)) _ | refine Below.drew ?_ | refine below_drewN ?_ _ | refine Below.trans ?_ (Below.mono (by assumption) (by first | omega | exact Below.size (by assumption) | (simp; done) | (simp; omega)))))⟩
/-- what InversionsOf answers -/
def invAns (base : Int) (xs : List Int) (v : Value) : Prop := (SortAsk base xs ∧ v = .tuple #[.int .i64 (inv xs), .int .i64 0]) ∨ (¬ SortAsk base xs ∧ v = .tuple #[.int .i64 0, .int .i64 2])
set_option maxHeartbeats 1600000 in
theorem law_InversionsOf (base : Int) (v : Value) (xs : List Int) (w : World) (hv : SlAt 1 rI w (· < w.heap.size) v xs) :
    Calls Try.prog 9 #[.int .i64 base, v] w (Ret (.bool true) w) := by
  have h63 := hv.le
  have hV := Lib.hid hv
  obtain ⟨a, cap, rfl⟩ := hv.len
  clear hv
  by_cases hlen : xs.length ≤ 1048576
  · have hI := hV.out.inI64
    have HI := Lib.hid hI; clear hI
    by_cases H : SortAsk base xs
    all_goals
      have HH := Lib.hid H; clear H
      go_enter Try.func9, Try.ntmps9
      go_wp2_with fail
      refine (toInts _ xs _ _ hV.out hlen (fun b h => h)).mono ?_
      rintro e w1 ⟨v1, rfl, M1, b1⟩
      have s1 := M1.slAt HI.out h63
      go_wp2_with fail
      first
        | (refine (sInv _ _ xs _ _ s1 (fun b h => h.2) HH.out).mono ?_; rintro e w2 ⟨rfl, b2⟩)
        | (refine (sInv_out _ _ xs _ _ s1 (fun b h => h.2) HH.out).mono ?_; rintro e w2 ⟨rfl, b2⟩)
      clear s1 M1
      have b12 : Below w.heap.size w w2 := b1.trans (b2.mono b1.size)
      go_wp2_with fail
      refine (toInts _ xs _ _ (hV.out.below b12 (fun b h => h)) hlen (fun b h => Nat.lt_of_lt_of_le h b12.size)).mono ?_
      rintro e w3 ⟨v3, rfl, M3, b3⟩
      have s3 := M3.slAt HI.out h63
      go_wp2_with fail
      first
        | (refine (iInv _ _ xs _ _ s3 (fun b h => h.2) HH.out).mono ?_; rintro e w4 ⟨rfl, b4⟩)
        | (refine (iInv_out _ _ xs _ _ s3 (fun b h => h.2) HH.out).mono ?_; rintro e w4 ⟨rfl, b4⟩)
      have b14 : Below w.heap.size w w4 := b12.trans ((b3.trans (b4.mono b3.size)).mono b12.size)
      go_wp2_with fail
      refine (toInts _ xs _ _ (hV.out.below b14 (fun b h => h)) hlen (fun b h => Nat.lt_of_lt_of_le h b14.size)).mono ?_
      rintro e w5 ⟨v5, rfl, M5, b5⟩
      have s5 := M5.slAt HI.out h63
      have s35 : SlAt 1 rI w5 (fun b => b < w5.heap.size) v3 xs := s3.keep (fun b h => Nat.lt_of_lt_of_le h.2 (Nat.le_trans b4.size b5.size)) (fun b h => (b5.block b (Nat.lt_of_lt_of_le h.2 b4.size)).trans (b4.block b h.2))
      have b15 : Below w.heap.size w w5 := b14.trans (b5.mono b14.size)
      go_wp2_with fail
      refine (eqInts _ _ xs xs (fun b => b < w5.heap.size) _ s35 (s5.keep (fun b h => h.2) (fun _ _ => rfl)) (fun b h => h)).mono ?_
      rintro e w6 ⟨b6, ⟨_, rfl⟩ | ⟨h, _⟩⟩
      case inr => exact absurd rfl h
      go_wp2
      go_ret
      exact ⟨rfl, b15.trans (b6.mono b15.size)⟩
  · go_enter Try.func9, Try.ntmps9
    go_wp2
    go_ret
    exact ⟨rfl, (by repeat (first | exact Below.refl _ _ | assumption | refine Below.setCell ?_ (by first | omega | (simp; done) | (simp; omega)) _ | refine Below.alloc ?_ (by first | omega | (simp; done) | (simp; omega) | exact Below.size (by assumption)) _ | refine Below.drew ?_ | refine below_drewN ?_ _ | refine Below.trans ?_ (Below.mono (by assumption) (by first | omega | exact Below.size (by assumption) | (simp; done) | (simp; omega)))))⟩
end Go.Proofs.Ytghecnlgainfkaa
