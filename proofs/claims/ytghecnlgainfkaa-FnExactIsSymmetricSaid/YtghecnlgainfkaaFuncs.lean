/- Contracts of the library's searches with a function value, at the closures that the program hands them. -/
import Derived.Test.YtghecnlgainfkaaInts
namespace Go.Proofs.Ytghecnlgainfkaa
open Go.RowKit
/-- The first place at which p holds; -1 if there is none. -/
def fIdx {α : Type} (p : α → Bool) : List α → Int
  | [] => -1
  | x :: xs => if p x then 0 else if fIdx p xs < 0 then -1 else fIdx p xs + 1
theorem fIdx_none {α : Type} {p : α → Bool} : ∀ {xs : List α}, (∀ x ∈ xs, p x = false) → fIdx p xs = -1
  | [], _ => rfl
  | x :: xs, h => by
    have h1 := h x (by simp)
    have h2 := fIdx_none (xs := xs) fun y hy => h y (by simp [hy])
    simp [fIdx, h1, h2]
theorem fIdx_some {α : Type} {p : α → Bool} : ∀ {xs : List α} {k : Nat} {x : α}, (∀ y ∈ xs.take k, p y = false) → xs[k]? = some x → p x = true → fIdx p xs = k
  | [], _, _, _, h, _ => by simp at h
  | y :: ys, 0, x, _, h, hp => by simp at h; subst h; simp [fIdx, hp]
  | y :: ys, k + 1, x, hf, h, hp => by
    have h1 := hf y (by simp)
    have h2 := fIdx_some (xs := ys) (k := k) (x := x) (fun z hz => hf z (by simp [hz])) (by simpa using h) hp
    simp only [fIdx, h1, h2]
    rw [if_neg (by simp), if_neg (by omega)]
    simp
theorem fIdx_any {α : Type} {p : α → Bool} : ∀ {xs : List α}, (0 ≤ fIdx p xs) ↔ xs.any p = true
  | [] => by simp [fIdx]
  | x :: xs => by
    have ih := fIdx_any (p := p) (xs := xs)
    simp only [fIdx, List.any_cons, Bool.or_eq_true]
    by_cases h : p x = true
    · simp [h]
    · simp only [h, false_or, Bool.false_eq_true, ← ih, if_false]
      by_cases h2 : fIdx p xs < 0
      · rw [if_pos h2]; omega
      · rw [if_neg h2]; omega
theorem fIdx_bd {α : Type} {p : α → Bool} : ∀ {xs : List α}, -1 ≤ fIdx p xs ∧ fIdx p xs < (xs.length : Int) + 1
  | [] => by simp [fIdx]
  | x :: xs => by
    have ih := fIdx_bd (p := p) (xs := xs)
    simp only [fIdx, List.length_cons]
    split
    · omega
    · split <;> omega
theorem all_snoc {α : Type} {p : α → Bool} {xs : List α} {k : Nat} {x : α} (h : ∀ y ∈ xs.take k, p y = false) (hx : xs[k]? = some x) (hp : p x = false) : ∀ y ∈ xs.take (k + 1), p y = false := by
  rw [take_snoc' hx]
  intro y hy
  rcases List.mem_append.1 hy with hy | hy
  · exact h y hy
  · simp at hy; subst hy; exact hp
/-- The function value f, with what it has captured, answers p of each element, and turns nothing that was there. -/
def Answers (f : FuncId) (cap : Array Value) (w : World) (xs : List Int) (p : Int → Bool) : Prop :=
  ∀ W, Below w.heap.size w W → ∀ x ∈ xs, InI64 x → Calls Try.prog f (#[.int .i64 x] ++ cap) W fun e w' => e = .returned (.bool (p x)) ∧ Below W.heap.size W w'
set_option maxHeartbeats 1000000 in
set_option maxRecDepth 20000 in
theorem idxFunc (f : FuncId) (cap : Array Value) (p : Int → Bool) (v : Value) (xs : List Int) (S : Nat → Prop) (w : World) (hv : SlAt 1 rI w S v xs) (hS : ∀ b, S b → b < w.heap.size)
    (hcf : ∀ (args : Array Value) (W : World), (callFunc f args).run Try.prog W = .ok (.enter f args) W) (hf : Answers f cap w xs p) :
    Calls Try.prog 108 #[v, .func (.func f) #[] cap] w (Ret (.int .i64 (fIdx p xs)) w) := by
  have h63 := hv.le
  obtain ⟨a, cap', rfl⟩ := hv.len
  have Hf := Lib.hid hf; clear hf
  go_enter Try.func108, Try.ntmps108
  go_wp2
  go_loopw [5, 8] (fun _ i wr => ∃ k : Nat, k ≤ xs.length ∧ i = .int .i64 k ∧ Hid (∀ x ∈ xs.take k, p x = false) ∧ Below w.heap.size w wr) (fun _ i _ => xs.length - (intOf i).toNat)
  case atStart => exact ⟨0, Nat.zero_le _, rfl, Lib.hid (by simp), Below.refl _ _⟩
  case round =>
    obtain ⟨k, hk, rfl, hK, hbr⟩ := hrel
    by_cases hlt : k < xs.length
    · obtain ⟨x, hx⟩ := get_of_lt hlt
      obtain ⟨b, off, cap1, hav, hSb, hc, hI⟩ := (hv.below hbr hS).int hx
      simp only [Value.slice.injEq] at hav
      obtain ⟨rfl, _, rfl⟩ := hav
      have HI := Lib.hid hI; clear hI
      have Hx := Lib.hid hx; clear hx hv
      cases hp : p x
      · have Hp := Lib.hid hp; clear hp
        go_wp2_with fail
        have hcall := Hf.out wr hbr x (List.mem_of_getElem? Hx.out) HI.out
        rw [Hp.out] at hcall
        refine hcall.mono ?_
        rintro e w1 ⟨rfl, hb⟩
        clear hcall hcf
        go_wp2
        exact ⟨⟨k + 1, by omega, by go_num, Lib.hid (all_snoc hK.out Hx.out Hp.out), (by repeat (first | with_reducible exact Below.refl _ _ | with_reducible assumption | (with_reducible refine Below.setCell ?_ ?_ _; rotate_left; next => (first | omega | (simp; done) | (simp; omega) | exact Below.size (by assumption))) | (with_reducible refine Below.alloc ?_ ?_ _; rotate_left; next => (first | omega | (simp; done) | (simp; omega) | exact Below.size (by assumption))) | with_reducible refine Below.drew ?_ | with_reducible refine below_drewN ?_ _ | (with_reducible refine Below.trans ?_ (Below.mono (by assumption) ?_); rotate_left; next => (first | omega | (simp; done) | (simp; omega) | exact Below.size (by assumption)))))⟩, by simp [intOf]; omega⟩
      · have Hp := Lib.hid hp; clear hp
        have E := Lib.hid (fIdx_some hK.out Hx.out Hp.out)
        go_wp2_with fail
        have hcall := Hf.out wr hbr x (List.mem_of_getElem? Hx.out) HI.out
        rw [Hp.out] at hcall
        refine hcall.mono ?_
        rintro e w1 ⟨rfl, hb⟩
        clear hcall hcf
        go_wp2
        go_ret
        exact ⟨ret_int E.out.symm, (by repeat (first | with_reducible exact Below.refl _ _ | with_reducible assumption | (with_reducible refine Below.setCell ?_ ?_ _; rotate_left; next => (first | omega | (simp; done) | (simp; omega) | exact Below.size (by assumption))) | (with_reducible refine Below.alloc ?_ ?_ _; rotate_left; next => (first | omega | (simp; done) | (simp; omega) | exact Below.size (by assumption))) | with_reducible refine Below.drew ?_ | with_reducible refine below_drewN ?_ _ | (with_reducible refine Below.trans ?_ (Below.mono (by assumption) ?_); rotate_left; next => (first | omega | (simp; done) | (simp; omega) | exact Below.size (by assumption)))))⟩
    · obtain rfl : k = xs.length := by omega
      have E := Lib.hid (fIdx_none (p := p) (xs := xs) (by have := hK.out; rw [List.take_length] at this; exact this))
      clear hcf
      go_wp2
      go_ret
      exact ⟨ret_int E.out.symm, (by repeat (first | with_reducible exact Below.refl _ _ | with_reducible assumption | (with_reducible refine Below.setCell ?_ ?_ _; rotate_left; next => (first | omega | (simp; done) | (simp; omega) | exact Below.size (by assumption))) | (with_reducible refine Below.alloc ?_ ?_ _; rotate_left; next => (first | omega | (simp; done) | (simp; omega) | exact Below.size (by assumption))) | with_reducible refine Below.drew ?_ | with_reducible refine below_drewN ?_ _ | (with_reducible refine Below.trans ?_ (Below.mono (by assumption) ?_); rotate_left; next => (first | omega | (simp; done) | (simp; omega) | exact Below.size (by assumption)))))⟩
theorem ctnFunc (f : FuncId) (cap : Array Value) (p : Int → Bool) (v : Value) (xs : List Int) (S : Nat → Prop) (w : World) (hv : SlAt 1 rI w S v xs) (hS : ∀ b, S b → b < w.heap.size)
    (hcf : ∀ (args : Array Value) (W : World), (callFunc f args).run Try.prog W = .ok (.enter f args) W) (hf : Answers f cap w xs p) :
    Calls Try.prog 101 #[v, .func (.func f) #[] cap] w (BoolB (xs.any p = true) w) := by
  have hI := idxFunc f cap p v xs S w hv hS hcf hf
  have hany := fIdx_any (p := p) (xs := xs)
  have hbd := (fIdx_bd (p := p) (xs := xs)).1
  have HI := Lib.hid hI; have HA := Lib.hid hany
  clear hI hcf hf hv hany
  generalize fIdx p xs = i at *
  by_cases h : 0 ≤ i
  all_goals
    go_enter Try.func101, Try.ntmps101
    go_wp2_with (go_at_call 108; refine HI.out.mono ?_; rintro e w1 ⟨rfl, hb⟩)
    go_ret
  · exact .yes (by repeat (first | with_reducible exact Below.refl _ _ | with_reducible assumption | (with_reducible refine Below.setCell ?_ ?_ _; rotate_left; next => (first | omega | (simp; done) | (simp; omega) | exact Below.size (by assumption))) | (with_reducible refine Below.alloc ?_ ?_ _; rotate_left; next => (first | omega | (simp; done) | (simp; omega) | exact Below.size (by assumption))) | with_reducible refine Below.drew ?_ | with_reducible refine below_drewN ?_ _ | (with_reducible refine Below.trans ?_ (Below.mono (by assumption) ?_); rotate_left; next => (first | omega | (simp; done) | (simp; omega) | exact Below.size (by assumption))))) (HA.out.1 h)
  · exact .no (by repeat (first | with_reducible exact Below.refl _ _ | with_reducible assumption | (with_reducible refine Below.setCell ?_ ?_ _; rotate_left; next => (first | omega | (simp; done) | (simp; omega) | exact Below.size (by assumption))) | (with_reducible refine Below.alloc ?_ ?_ _; rotate_left; next => (first | omega | (simp; done) | (simp; omega) | exact Below.size (by assumption))) | with_reducible refine Below.drew ?_ | with_reducible refine below_drewN ?_ _ | (with_reducible refine Below.trans ?_ (Below.mono (by assumption) ?_); rotate_left; next => (first | omega | (simp; done) | (simp; omega) | exact Below.size (by assumption))))) (fun e => by have := HA.out.2 e; omega) (by show Value.bool (decide (0 ≤ i)) = _; simp; omega)

/-- All numbers are from 0 to less than a limit. -/
def allB (l : Int) (xs : List Int) : Prop := ∀ x ∈ xs, 0 ≤ x ∧ x < l
theorem belowC (x l : Int) (b : Nat) (w : World) (hl : -1000000000 ≤ l ∧ l ≤ 1000000000) (hc : w.cell? ⟨b, 0, none⟩ = some (.int .i64 l)) :
    Calls Try.prog 102 #[.int .i64 x, .pointer (some ⟨b, 0, none⟩)] w (Ret (.bool (!decide (0 ≤ x ∧ x < l))) w) := by
  go_enter Try.func102, Try.ntmps102
  go_wp2_with ((go_at_call 69; refine (iIn _ _ _ _).mono ?_; rintro e w' ⟨rfl, ⟨h1, rfl⟩ | ⟨h1, rfl⟩⟩ <;> try (exfalso; omega)))
  all_goals
    go_ret
    refine ⟨ret_bool ?_, (by repeat (first | with_reducible exact Below.refl _ _ | with_reducible assumption | (with_reducible refine Below.setCell ?_ ?_ _; rotate_left; next => (first | omega | (simp; done) | (simp; omega) | exact Below.size (by assumption))) | (with_reducible refine Below.alloc ?_ ?_ _; rotate_left; next => (first | omega | (simp; done) | (simp; omega) | exact Below.size (by assumption))) | with_reducible refine Below.drew ?_ | with_reducible refine below_drewN ?_ _ | (with_reducible refine Below.trans ?_ (Below.mono (by assumption) ?_); rotate_left; next => (first | omega | (simp; done) | (simp; omega) | exact Below.size (by assumption)))))⟩
    simp
    omega
theorem below_any (v : Value) (xs : List Int) (l : Int) (S : Nat → Prop) (w : World) (hv : SlAt 1 rI w S v xs) (hS : ∀ b, S b → b < w.heap.size) (hl : -1000000000 ≤ l ∧ l ≤ 1000000000) :
    Calls Try.prog 81 #[v, .int .i64 l] w (BoolB (allB l xs) w) := by
  have hw1 := hv.below (W' := w.alloc (.cells #[.int .i64 l] 2)) (((Below.refl _ _).alloc (Nat.le_refl _) _)) hS
  have hcall := ctnFunc 102 #[.pointer (some ⟨w.heap.size, 0, none⟩)] (fun x => !decide (0 ≤ x ∧ x < l)) v xs S (w.alloc (.cells #[.int .i64 l] 2)) hw1 (fun b hb => by have := hS b hb; simp; omega) (fun args W => by kernel_rfl)
    (fun W hb x _ _ => belowC x l w.heap.size W hl (by rw [hb.cell (by simp)]; simp [go_sem]))
  have HC := Lib.hid hcall
  clear hcall hw1 hv
  go_enter Try.func81, Try.ntmps81
  go_wp2_with (go_at_call 101; refine HC.out.mono ?_; rintro e w1 ⟨hb, ⟨h1, rfl⟩ | ⟨h1, rfl⟩⟩)
  all_goals go_ret
  · exact .no (by repeat (first | with_reducible exact Below.refl _ _ | with_reducible assumption | (with_reducible refine Below.setCell ?_ ?_ _; rotate_left; next => (first | omega | (simp; done) | (simp; omega) | exact Below.size (by assumption))) | (with_reducible refine Below.alloc ?_ ?_ _; rotate_left; next => (first | omega | (simp; done) | (simp; omega) | exact Below.size (by assumption))) | with_reducible refine Below.drew ?_ | with_reducible refine below_drewN ?_ _ | (with_reducible refine Below.trans ?_ (Below.mono (by assumption) ?_); rotate_left; next => (first | omega | (simp; done) | (simp; omega) | exact Below.size (by assumption))))) (fun e => by
      obtain ⟨x, hx, hp⟩ := List.any_eq_true.1 h1
      have := e x hx
      simp at hp
      omega)
  · exact .yes (by repeat (first | with_reducible exact Below.refl _ _ | with_reducible assumption | (with_reducible refine Below.setCell ?_ ?_ _; rotate_left; next => (first | omega | (simp; done) | (simp; omega) | exact Below.size (by assumption))) | (with_reducible refine Below.alloc ?_ ?_ _; rotate_left; next => (first | omega | (simp; done) | (simp; omega) | exact Below.size (by assumption))) | with_reducible refine Below.drew ?_ | with_reducible refine below_drewN ?_ _ | (with_reducible refine Below.trans ?_ (Below.mono (by assumption) ?_); rotate_left; next => (first | omega | (simp; done) | (simp; omega) | exact Below.size (by assumption))))) (fun x hx => by
      refine Classical.byContradiction fun hn => h1 (List.any_eq_true.2 ⟨x, hx, by simp; omega⟩))
end Go.Proofs.Ytghecnlgainfkaa
