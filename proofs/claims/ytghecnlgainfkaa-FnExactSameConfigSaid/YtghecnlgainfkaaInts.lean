/- Contracts of the helpers on slices of numbers: copy, compare, size. -/
import Derived.Test.YtghecnlgainfkaaArith
import Derived.Test.YtghecnlgainfkaaMem
import Derived.Test.YtghecnlgainfkaaRead
import Derived.Deep.QuietTactic
import Derived.BigQuiet
import Derived.Outline
namespace Go.Proofs.Ytghecnlgainfkaa
open Go.RowKit
theorem Try.infoI : (Try.prog.info? 2).map (fun i => (i.zero, i.size, i.bytes)) = some (some (.int .i64 0), 1, 8) := by kernel_rfl
/-- numbers as cells -/
abbrev ints (xs : List Int) : List Value := xs.map (Value.int .i64)
/-- A slice that the call has made: a block of its own. -/
def Made (lo : Nat) (cs : List Value) (n : Nat) (t : TypeId) (v : Value) (w : World) : Prop := ∃ g, v = .slice (some ⟨g, 0, none⟩) n n ∧ lo ≤ g ∧ Blk w g cs t
theorem take_snoc' {α : Type} {xs : List α} {i : Nat} {x : α} (h : xs[i]? = some x) : xs.take (i + 1) = xs.take i ++ [x] := by rw [List.take_add_one, h]; rfl
theorem set_mid {α : Type} (A B : List α) (z v : α) : (A ++ z :: B).set A.length v = A ++ v :: B := by simp
theorem lt_of_get {α : Type} {xs : List α} {i : Nat} {x : α} (h : xs[i]? = some x) : i < xs.length := by
  rcases Nat.lt_or_ge i xs.length with h' | h'
  · exact h'
  · rw [List.getElem?_eq_none h'] at h; cases h
theorem get_of_lt {α : Type} {xs : List α} {i : Nat} (h : i < xs.length) : ∃ x, xs[i]? = some x := ⟨xs[i], by simp [h]⟩
/-- A copy under way: the first i elements have been copied. -/
theorem copy_step (xs : List Int) (i : Nat) (x : Int) (h : xs[i]? = some x) :
    (ints (xs.take i) ++ List.replicate (xs.length - i) (Value.int .i64 0)).set i (.int .i64 x) = ints (xs.take (i + 1)) ++ List.replicate (xs.length - (i + 1)) (Value.int .i64 0) := by
  have hl := lt_of_get h
  obtain ⟨m, hm⟩ : ∃ m, xs.length - i = m + 1 := ⟨xs.length - i - 1, by omega⟩
  rw [take_snoc' h, hm, List.replicate_succ, show xs.length - (i + 1) = m by omega]
  have e : i = (ints (xs.take i)).length := by simp; omega
  conv => lhs; rw [e]
  simp only [List.length_map, List.length_take, show min i xs.length = i by omega]
  have := set_mid (ints (xs.take i)) (List.replicate m (Value.int .i64 0)) (.int .i64 0) (.int .i64 x)
  rw [show (ints (xs.take i)).length = i by simp; omega] at this
  rw [this]
  simp
theorem copy_get (xs : List Int) (i : Nat) (h : i < xs.length) : (ints (xs.take i) ++ List.replicate (xs.length - i) (Value.int .i64 0))[i]? = some (.int .i64 0) := by
  obtain ⟨m, hm⟩ : ∃ m, xs.length - i = m + 1 := ⟨xs.length - i - 1, by omega⟩
  rw [List.getElem?_append_right (by simp; omega), show i - (ints (xs.take i)).length = 0 by simp; omega, hm]
  rfl
/-- A call that hands back something of which p holds, and turns nothing that was there. -/
def Hands (p : Value → World → Prop) (w : World) (e : Ending) (w' : World) : Prop := ∃ v, e = .returned v ∧ p v w' ∧ Below w.heap.size w w'
set_option maxHeartbeats 1000000 in
theorem toInts (v : Value) (xs : List Int) (S : Nat → Prop) (w : World) (hv : SlAt 1 rI w S v xs) (hl : xs.length ≤ 1048576) (hS : ∀ b, S b → b < w.heap.size) :
    Calls Try.prog 31 #[v] w (Hands (Made w.heap.size (ints xs) xs.length 2) w) := by
  obtain ⟨a, cap, rfl⟩ := hv.len
  go_enter Try.func31, Try.ntmps31
  go_wp2_with (at_make; refine wpList_make_blk _ rfl _ _ _ rfl _ _ _ _ Try.underlying44 Try.infoI rfl (by decide) xs.length rfl rfl (by omega) (by unfold maxLen; omega) ?_; intro w1 hB hb hz1)
  have hB := Lib.hid hB
  go_loopw [4] (fun i wr => ∃ k : Nat, k ≤ xs.length ∧ i = .int .i64 k ∧ Blk wr w.heap.size (ints (xs.take k) ++ List.replicate (xs.length - k) (.int .i64 0)) 2 ∧ Below w.heap.size w wr) (fun i _ => xs.length - (intOf i).toNat)
  case atStart => exact ⟨0, Nat.zero_le _, rfl, by have := hB.out; rw [zeros_one rfl] at this; simpa using this, hb⟩
  case round =>
    obtain ⟨k, hk, rfl, hK, hbr⟩ := hrel
    by_cases hlt : k < xs.length
    · obtain ⟨x, hx⟩ := get_of_lt hlt
      obtain ⟨b, off, cap', hav, hSb, hc, _⟩ := (hv.below hbr hS).int hx
      simp only [Value.slice.injEq] at hav
      obtain ⟨rfl, _, rfl⟩ := hav
      have hc0 := hK.cell (copy_get xs k hlt)
      have hf0 := hK.frozen k
      have hK' := Lib.hid (copy_step xs k x hx ▸ hK.set k (.int .i64 x))
      clear hK hx hv hB
      go_wp2
      go_roundw
      case rel => exact ⟨k + 1, by omega, by go_num, hK'.out, (by repeat (first | with_reducible exact Below.refl _ _ | with_reducible assumption | (with_reducible refine Below.setCell ?_ ?_ _; rotate_left; next => (first | omega | (simp; done) | (simp; omega) | exact Below.size (by assumption))) | (with_reducible refine Below.alloc ?_ ?_ _; rotate_left; next => (first | omega | (simp; done) | (simp; omega) | exact Below.size (by assumption))) | with_reducible refine Below.drew ?_ | with_reducible refine below_drewN ?_ _ | (with_reducible refine Below.trans ?_ (Below.mono (by assumption) ?_); rotate_left; next => (first | omega | (simp; done) | (simp; omega) | exact Below.size (by assumption)))))⟩
      case measure => simp [intOf]; omega
    · obtain rfl : k = xs.length := by omega
      have hK := Lib.hid hK
      go_wp2
      go_ret
      exact ⟨_, rfl, ⟨_, rfl, Nat.le_refl _, by have := hK.out; simpa using this⟩, hbr⟩
theorem Made.slAt {lo : Nat} {xs : List Int} {t : TypeId} {v : Value} {w : World} (hr : ∀ x ∈ xs, InI64 x) (hl : xs.length ≤ 9223372036854775807) (h : Made lo (ints xs) xs.length t v w) : SlAt 1 rI w (fun b => lo ≤ b ∧ b < w.heap.size) v xs := by
  obtain ⟨g, rfl, hg, hb⟩ := h
  rcases Nat.eq_zero_or_pos xs.length with h0 | h0
  · obtain rfl : xs = [] := List.eq_nil_of_length_eq_zero h0
    exact .inl ⟨rfl, _, _, rfl⟩
  · refine .inr ⟨g, 0, xs.length, rfl, h0, Nat.le_refl _, by unfold maxLen; omega, ⟨hg, hb.lt⟩, fun i x hi => ⟨[.int .i64 x], rfl, ⟨_, _, _, hb.out, fun j e hj => ?_⟩, rfl, hr x (List.mem_of_getElem? hi)⟩⟩
    obtain rfl : j = 0 := by
      rcases j with _ | j
      · rfl
      · simp at hj
    simp at hj
    simp [hi, hj]
theorem SlAt.inI64 {w : World} {S : Nat → Prop} {v : Value} {xs : List Int} (h : SlAt 1 rI w S v xs) : ∀ x ∈ xs, InI64 x := fun x hx => by
  obtain ⟨i, hi, rfl⟩ := List.getElem_of_mem hx
  obtain ⟨_, _, _, _, _, _, hr⟩ := h.int (i := i) (x := xs[i]) (by simp [hi])
  exact hr
theorem eq_of_takes {α : Type} {xs ys : List α} (h1 : xs.length = ys.length) (h2 : xs.take xs.length = ys.take xs.length) : xs = ys := by
  rw [List.take_length, h1, List.take_length] at h2; exact h2
set_option maxHeartbeats 1000000 in
theorem eqInts (v u : Value) (xs ys : List Int) (S : Nat → Prop) (w : World) (hv : SlAt 1 rI w S v xs) (hu : SlAt 1 rI w S u ys) (hS : ∀ b, S b → b < w.heap.size) :
    Calls Try.prog 33 #[v, u] w (BoolB (xs = ys) w) := by
  have h63 := hv.le
  have h63' := hu.le
  obtain ⟨a, cap, rfl⟩ := hv.len
  obtain ⟨a', cap', rfl⟩ := hu.len
  by_cases hlen : xs.length = ys.length
  · have Hl := Lib.hid hlen
    have hl1 : xs.length ≤ ys.length := by omega
    have hl2 : ys.length ≤ xs.length := by omega
    have hne : ((xs.length : Int) != (ys.length : Int)) = false := by rw [hlen]; simp
    clear hlen
    go_enter Try.func33, Try.ntmps33
    go_wp2
    go_loopw [5] (fun i wr => ∃ k : Nat, k ≤ xs.length ∧ i = .int .i64 k ∧ Hid (xs.take k = ys.take k) ∧ Below w.heap.size w wr) (fun i _ => xs.length - (intOf i).toNat)
    case atStart => exact ⟨0, Nat.zero_le _, rfl, Lib.hid rfl, Below.refl _ _⟩
    case round =>
      obtain ⟨k, hk, rfl, hK, hbr⟩ := hrel
      by_cases hlt : k < xs.length
      · obtain ⟨x, hx⟩ := get_of_lt hlt
        obtain ⟨y, hy⟩ := get_of_lt (show k < ys.length by omega)
        obtain ⟨b, off, cap1, hav, hSb, hc, _⟩ := (hv.below hbr hS).int hx
        obtain ⟨b', off', cap2, hav', hSb', hc', _⟩ := (hu.below hbr hS).int hy
        simp only [Value.slice.injEq] at hav hav'
        obtain ⟨rfl, _, rfl⟩ := hav
        obtain ⟨rfl, _, rfl⟩ := hav'
        have Hx := Lib.hid hx; have Hy := Lib.hid hy; clear hx hy
        clear hv hu
        by_cases hxy : x = y
        · subst hxy
          go_wp2
          go_quiet (fail)
          go_wp2
          exact ⟨⟨k + 1, by omega, by go_num, Lib.hid (by rw [take_snoc' Hx.out, take_snoc' Hy.out, hK.out]), (by repeat (first | with_reducible exact Below.refl _ _ | with_reducible assumption | (with_reducible refine Below.setCell ?_ ?_ _; rotate_left; next => (first | omega | (simp; done) | (simp; omega) | exact Below.size (by assumption))) | (with_reducible refine Below.alloc ?_ ?_ _; rotate_left; next => (first | omega | (simp; done) | (simp; omega) | exact Below.size (by assumption))) | with_reducible refine Below.drew ?_ | with_reducible refine below_drewN ?_ _ | (with_reducible refine Below.trans ?_ (Below.mono (by assumption) ?_); rotate_left; next => (first | omega | (simp; done) | (simp; omega) | exact Below.size (by assumption)))))⟩, by simp [intOf]; omega⟩
        · go_wp2
          go_quiet (fail)
          go_wp2
          go_ret
          exact .no (by repeat (first | with_reducible exact Below.refl _ _ | with_reducible assumption | (with_reducible refine Below.setCell ?_ ?_ _; rotate_left; next => (first | omega | (simp; done) | (simp; omega) | exact Below.size (by assumption))) | (with_reducible refine Below.alloc ?_ ?_ _; rotate_left; next => (first | omega | (simp; done) | (simp; omega) | exact Below.size (by assumption))) | with_reducible refine Below.drew ?_ | with_reducible refine below_drewN ?_ _ | (with_reducible refine Below.trans ?_ (Below.mono (by assumption) ?_); rotate_left; next => (first | omega | (simp; done) | (simp; omega) | exact Below.size (by assumption))))) (fun e => hxy (by have h1 := Hx.out; have h2 := Hy.out; rw [e, h2] at h1; exact (Option.some.inj h1).symm))
      · obtain rfl : k = xs.length := by omega
        go_wp2
        go_ret
        exact .yes (by repeat (first | with_reducible exact Below.refl _ _ | with_reducible assumption | (with_reducible refine Below.setCell ?_ ?_ _; rotate_left; next => (first | omega | (simp; done) | (simp; omega) | exact Below.size (by assumption))) | (with_reducible refine Below.alloc ?_ ?_ _; rotate_left; next => (first | omega | (simp; done) | (simp; omega) | exact Below.size (by assumption))) | with_reducible refine Below.drew ?_ | with_reducible refine below_drewN ?_ _ | (with_reducible refine Below.trans ?_ (Below.mono (by assumption) ?_); rotate_left; next => (first | omega | (simp; done) | (simp; omega) | exact Below.size (by assumption))))) (eq_of_takes Hl.out hK.out)
  · go_enter Try.func33, Try.ntmps33
    go_wp2
    go_ret
    exact .no (by repeat (first | with_reducible exact Below.refl _ _ | with_reducible assumption | (with_reducible refine Below.setCell ?_ ?_ _; rotate_left; next => (first | omega | (simp; done) | (simp; omega) | exact Below.size (by assumption))) | (with_reducible refine Below.alloc ?_ ?_ _; rotate_left; next => (first | omega | (simp; done) | (simp; omega) | exact Below.size (by assumption))) | with_reducible refine Below.drew ?_ | with_reducible refine below_drewN ?_ _ | (with_reducible refine Below.trans ?_ (Below.mono (by assumption) ?_); rotate_left; next => (first | omega | (simp; done) | (simp; omega) | exact Below.size (by assumption))))) (fun e => hlen (by rw [e]))
set_option maxHeartbeats 1000000 in
theorem sSame (v u : Value) (xs ys : List Int) (S : Nat → Prop) (w : World) (hv : SlAt 1 rI w S v xs) (hu : SlAt 1 rI w S u ys) (hS : ∀ b, S b → b < w.heap.size) :
    Calls Try.prog 100 #[v, u] w (BoolB (xs = ys) w) := by
  have h63 := hv.le
  have h63' := hu.le
  obtain ⟨a, cap, rfl⟩ := hv.len
  obtain ⟨a', cap', rfl⟩ := hu.len
  by_cases hlen : xs.length = ys.length
  · have Hl := Lib.hid hlen
    have hl1 : xs.length ≤ ys.length := by omega
    have hl2 : ys.length ≤ xs.length := by omega
    have hne : ((xs.length : Int) != (ys.length : Int)) = false := by rw [hlen]; simp
    clear hlen
    go_enter Try.func100, Try.ntmps100
    go_wp2
    go_loopw [5] (fun i wr => ∃ k : Nat, k ≤ xs.length ∧ i = .int .i64 k ∧ Hid (xs.take k = ys.take k) ∧ Below w.heap.size w wr) (fun i _ => xs.length - (intOf i).toNat)
    case atStart => exact ⟨0, Nat.zero_le _, rfl, Lib.hid rfl, Below.refl _ _⟩
    case round =>
      obtain ⟨k, hk, rfl, hK, hbr⟩ := hrel
      by_cases hlt : k < xs.length
      · obtain ⟨x, hx⟩ := get_of_lt hlt
        obtain ⟨y, hy⟩ := get_of_lt (show k < ys.length by omega)
        obtain ⟨b, off, cap1, hav, hSb, hc, _⟩ := (hv.below hbr hS).int hx
        obtain ⟨b', off', cap2, hav', hSb', hc', _⟩ := (hu.below hbr hS).int hy
        simp only [Value.slice.injEq] at hav hav'
        obtain ⟨rfl, _, rfl⟩ := hav
        obtain ⟨rfl, _, rfl⟩ := hav'
        have Hx := Lib.hid hx; have Hy := Lib.hid hy; clear hx hy
        clear hv hu
        by_cases hxy : x = y
        · subst hxy
          go_wp2
          go_quiet (fail)
          go_wp2
          exact ⟨⟨k + 1, by omega, by go_num, Lib.hid (by rw [take_snoc' Hx.out, take_snoc' Hy.out, hK.out]), (by repeat (first | with_reducible exact Below.refl _ _ | with_reducible assumption | (with_reducible refine Below.setCell ?_ ?_ _; rotate_left; next => (first | omega | (simp; done) | (simp; omega) | exact Below.size (by assumption))) | (with_reducible refine Below.alloc ?_ ?_ _; rotate_left; next => (first | omega | (simp; done) | (simp; omega) | exact Below.size (by assumption))) | with_reducible refine Below.drew ?_ | with_reducible refine below_drewN ?_ _ | (with_reducible refine Below.trans ?_ (Below.mono (by assumption) ?_); rotate_left; next => (first | omega | (simp; done) | (simp; omega) | exact Below.size (by assumption)))))⟩, by simp [intOf]; omega⟩
        · go_wp2
          go_quiet (fail)
          go_wp2
          go_ret
          exact .no (by repeat (first | with_reducible exact Below.refl _ _ | with_reducible assumption | (with_reducible refine Below.setCell ?_ ?_ _; rotate_left; next => (first | omega | (simp; done) | (simp; omega) | exact Below.size (by assumption))) | (with_reducible refine Below.alloc ?_ ?_ _; rotate_left; next => (first | omega | (simp; done) | (simp; omega) | exact Below.size (by assumption))) | with_reducible refine Below.drew ?_ | with_reducible refine below_drewN ?_ _ | (with_reducible refine Below.trans ?_ (Below.mono (by assumption) ?_); rotate_left; next => (first | omega | (simp; done) | (simp; omega) | exact Below.size (by assumption))))) (fun e => hxy (by have h1 := Hx.out; have h2 := Hy.out; rw [e, h2] at h1; exact (Option.some.inj h1).symm))
      · obtain rfl : k = xs.length := by omega
        go_wp2
        go_ret
        exact .yes (by repeat (first | with_reducible exact Below.refl _ _ | with_reducible assumption | (with_reducible refine Below.setCell ?_ ?_ _; rotate_left; next => (first | omega | (simp; done) | (simp; omega) | exact Below.size (by assumption))) | (with_reducible refine Below.alloc ?_ ?_ _; rotate_left; next => (first | omega | (simp; done) | (simp; omega) | exact Below.size (by assumption))) | with_reducible refine Below.drew ?_ | with_reducible refine below_drewN ?_ _ | (with_reducible refine Below.trans ?_ (Below.mono (by assumption) ?_); rotate_left; next => (first | omega | (simp; done) | (simp; omega) | exact Below.size (by assumption))))) (eq_of_takes Hl.out hK.out)
  · go_enter Try.func100, Try.ntmps100
    go_wp2
    go_ret
    exact .no (by repeat (first | with_reducible exact Below.refl _ _ | with_reducible assumption | (with_reducible refine Below.setCell ?_ ?_ _; rotate_left; next => (first | omega | (simp; done) | (simp; omega) | exact Below.size (by assumption))) | (with_reducible refine Below.alloc ?_ ?_ _; rotate_left; next => (first | omega | (simp; done) | (simp; omega) | exact Below.size (by assumption))) | with_reducible refine Below.drew ?_ | with_reducible refine below_drewN ?_ _ | (with_reducible refine Below.trans ?_ (Below.mono (by assumption) ?_); rotate_left; next => (first | omega | (simp; done) | (simp; omega) | exact Below.size (by assumption))))) (fun e => hlen (by rw [e]))
set_option maxHeartbeats 1000000 in
theorem slEqual (v u : Value) (xs ys : List Int) (S : Nat → Prop) (w : World) (hv : SlAt 1 rI w S v xs) (hu : SlAt 1 rI w S u ys) (hS : ∀ b, S b → b < w.heap.size) :
    Calls Try.prog 79 #[v, u] w (BoolB (xs = ys) w) := by
  have h63 := hv.le
  have h63' := hu.le
  obtain ⟨a, cap, rfl⟩ := hv.len
  obtain ⟨a', cap', rfl⟩ := hu.len
  by_cases hlen : xs.length = ys.length
  · have Hl := Lib.hid hlen
    have hl1 : xs.length ≤ ys.length := by omega
    have hl2 : ys.length ≤ xs.length := by omega
    have hne : ((xs.length : Int) != (ys.length : Int)) = false := by rw [hlen]; simp
    clear hlen
    go_enter Try.func79, Try.ntmps79
    go_wp2
    go_loopw [5, 13] (fun i13_5 i wr => ∃ k : Nat, k ≤ xs.length ∧ i = .int .i64 k ∧ Hid (xs.take k = ys.take k) ∧ Below w.heap.size w wr) (fun _ i _ => xs.length - (intOf i).toNat)
    case atStart => exact ⟨0, Nat.zero_le _, rfl, Lib.hid rfl, Below.refl _ _⟩
    case round =>
      obtain ⟨k, hk, rfl, hK, hbr⟩ := hrel
      by_cases hlt : k < xs.length
      · obtain ⟨x, hx⟩ := get_of_lt hlt
        obtain ⟨y, hy⟩ := get_of_lt (show k < ys.length by omega)
        obtain ⟨b, off, cap1, hav, hSb, hc, _⟩ := (hv.below hbr hS).int hx
        obtain ⟨b', off', cap2, hav', hSb', hc', _⟩ := (hu.below hbr hS).int hy
        simp only [Value.slice.injEq] at hav hav'
        obtain ⟨rfl, _, rfl⟩ := hav
        obtain ⟨rfl, _, rfl⟩ := hav'
        have Hx := Lib.hid hx; have Hy := Lib.hid hy; clear hx hy
        clear hv hu
        by_cases hxy : x = y
        · subst hxy
          go_wp2
          go_quiet (fail)
          go_wp2
          exact ⟨⟨k + 1, by omega, by go_num, Lib.hid (by rw [take_snoc' Hx.out, take_snoc' Hy.out, hK.out]), (by repeat (first | with_reducible exact Below.refl _ _ | with_reducible assumption | (with_reducible refine Below.setCell ?_ ?_ _; rotate_left; next => (first | omega | (simp; done) | (simp; omega) | exact Below.size (by assumption))) | (with_reducible refine Below.alloc ?_ ?_ _; rotate_left; next => (first | omega | (simp; done) | (simp; omega) | exact Below.size (by assumption))) | with_reducible refine Below.drew ?_ | with_reducible refine below_drewN ?_ _ | (with_reducible refine Below.trans ?_ (Below.mono (by assumption) ?_); rotate_left; next => (first | omega | (simp; done) | (simp; omega) | exact Below.size (by assumption)))))⟩, by simp [intOf]; omega⟩
        · go_wp2
          go_quiet (fail)
          go_wp2
          go_ret
          exact .no (by repeat (first | with_reducible exact Below.refl _ _ | with_reducible assumption | (with_reducible refine Below.setCell ?_ ?_ _; rotate_left; next => (first | omega | (simp; done) | (simp; omega) | exact Below.size (by assumption))) | (with_reducible refine Below.alloc ?_ ?_ _; rotate_left; next => (first | omega | (simp; done) | (simp; omega) | exact Below.size (by assumption))) | with_reducible refine Below.drew ?_ | with_reducible refine below_drewN ?_ _ | (with_reducible refine Below.trans ?_ (Below.mono (by assumption) ?_); rotate_left; next => (first | omega | (simp; done) | (simp; omega) | exact Below.size (by assumption))))) (fun e => hxy (by have h1 := Hx.out; have h2 := Hy.out; rw [e, h2] at h1; exact (Option.some.inj h1).symm))
      · obtain rfl : k = xs.length := by omega
        go_wp2
        go_ret
        exact .yes (by repeat (first | with_reducible exact Below.refl _ _ | with_reducible assumption | (with_reducible refine Below.setCell ?_ ?_ _; rotate_left; next => (first | omega | (simp; done) | (simp; omega) | exact Below.size (by assumption))) | (with_reducible refine Below.alloc ?_ ?_ _; rotate_left; next => (first | omega | (simp; done) | (simp; omega) | exact Below.size (by assumption))) | with_reducible refine Below.drew ?_ | with_reducible refine below_drewN ?_ _ | (with_reducible refine Below.trans ?_ (Below.mono (by assumption) ?_); rotate_left; next => (first | omega | (simp; done) | (simp; omega) | exact Below.size (by assumption))))) (eq_of_takes Hl.out hK.out)
  · go_enter Try.func79, Try.ntmps79
    go_wp2
    go_ret
    exact .no (by repeat (first | with_reducible exact Below.refl _ _ | with_reducible assumption | (with_reducible refine Below.setCell ?_ ?_ _; rotate_left; next => (first | omega | (simp; done) | (simp; omega) | exact Below.size (by assumption))) | (with_reducible refine Below.alloc ?_ ?_ _; rotate_left; next => (first | omega | (simp; done) | (simp; omega) | exact Below.size (by assumption))) | with_reducible refine Below.drew ?_ | with_reducible refine below_drewN ?_ _ | (with_reducible refine Below.trans ?_ (Below.mono (by assumption) ?_); rotate_left; next => (first | omega | (simp; done) | (simp; omega) | exact Below.size (by assumption))))) (fun e => hlen (by rw [e]))
end Go.Proofs.Ytghecnlgainfkaa
