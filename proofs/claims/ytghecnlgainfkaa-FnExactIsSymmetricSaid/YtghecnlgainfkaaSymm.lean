/- Symmetric rules. -/
import Derived.Test.YtghecnlgainfkaaRules
namespace Go.Proofs.Ytghecnlgainfkaa
open Go.RowKit
set_option maxHeartbeats 1000000 in
theorem next_any (n a b : Nat) (v : Value) (xs : List Int) (S : Nat → Prop) (w : World) (hv : SlAt 1 rI w S v xs) (hS : ∀ b, S b → b < w.heap.size) (hl : xs.length = n * n) (hn : n ≤ 5) (ha : a < n) (hb : b < n) :
    Calls Try.prog 87 #[.agg #[.int .i64 n, v], .int .i64 a, .int .i64 b] w (Ret (.int .i64 (tab xs n a b)) w) := by
  have hi := idx_lt ha hb
  obtain ⟨bl, off, cap, rfl, hSb, hc, _⟩ := hv.int (tab_get hl ha hb)
  have hbl := hS bl hSb
  have hsq : n * n ≤ 25 := Nat.mul_le_mul hn hn
  have hm : a * n ≤ 25 := by omega
  have m1 : (0 : Int) ≤ (a : Int) * n := by rw [← Int.natCast_mul]; omega
  have m2 : (a : Int) * n ≤ 25 := by rw [← Int.natCast_mul]; omega
  have m3 : (a : Int) * n + b < (xs.length : Int) := by rw [← Int.natCast_mul]; omega
  clear hl
  go_enter Try.func87, Try.ntmps87
  go_wp2
  go_ret
  exact ⟨rfl, (by repeat (first | with_reducible exact Below.refl _ _ | with_reducible assumption | (with_reducible refine Below.setCell ?_ ?_ _; rotate_left; next => (first | omega | (simp; done) | (simp; omega) | exact Below.size (by assumption))) | (with_reducible refine Below.alloc ?_ ?_ _; rotate_left; next => (first | omega | (simp; done) | (simp; omega) | exact Below.size (by assumption))) | with_reducible refine Below.drew ?_ | with_reducible refine below_drewN ?_ _ | (with_reducible refine Below.trans ?_ (Below.mono (by assumption) ?_); rotate_left; next => (first | omega | (simp; done) | (simp; omega) | exact Below.size (by assumption)))))⟩
def Sy (s : Int) (xs : List Int) : Prop := RuleOk s xs ∧ Symm xs s.toNat
def SymTo (xs : List Int) (n k : Nat) : Prop := ∀ x y, x < k → y < x → tab xs n x y = tab xs n y x
def SymRow (xs : List Int) (n k m : Nat) : Prop := ∀ y, y < m → tab xs n k y = tab xs n y k
theorem SymTo.snoc {xs : List Int} {n k : Nat} (h : SymTo xs n k) (hr : SymRow xs n k k) : SymTo xs n (k + 1) := by
  intro x y hx hy
  by_cases e : x = k
  · subst e; exact hr y hy
  · exact h x y (by omega) hy
theorem SymRow.snoc {xs : List Int} {n k m : Nat} (h : SymRow xs n k m) (e : tab xs n k m = tab xs n m k) : SymRow xs n k (m + 1) := by
  intro y hy
  by_cases e' : y = m
  · subst e'; exact e
  · exact h y (by omega)
theorem SymTo.symm {xs : List Int} {n : Nat} (h : SymTo xs n n) : Symm xs n := by
  intro a b ha hb
  rcases Nat.lt_trichotomy a b with h1 | h1 | h1
  · exact (h b a hb h1).symm
  · rw [h1]
  · exact h a b ha h1
set_option maxHeartbeats 1000000 in
theorem sSymm (s : Int) (v : Value) (xs : List Int) (S : Nat → Prop) (w : World) (hv : SlAt 1 rI w S v xs) (hS : ∀ b, S b → b < w.heap.size) :
    Calls Try.prog 49 #[.agg #[.int .i64 s, v]] w (BoolB (Sy s xs) w) := by
  have h63 := hv.le
  have HV := Lib.hid hv
  obtain ⟨a, cap, rfl⟩ := hv.len
  clear hv
  by_cases g : RuleOk s xs
  · obtain ⟨n, rfl⟩ : ∃ n : Nat, s = n := ⟨s.toNat, by have := g.1; omega⟩
    have hn : 1 ≤ n ∧ n ≤ 5 := by have := g.1; omega
    have HL := Lib.hid (show xs.length = n * n by have := g.2.1; rw [← Int.natCast_mul] at this; omega)
    have hsq : n * n ≤ 25 := Nat.mul_le_mul hn.2 hn.2
    have HG := Lib.hid g; clear g
    go_enter Try.func49, Try.ntmps49
    go_wp2_with fail
    refine (sRuleP w.heap.size n _ xs S _ (HV.out.below (B := w.heap.size) (by repeat (first | with_reducible exact Below.refl _ _ | with_reducible assumption | (with_reducible refine Below.setCell ?_ ?_ _; rotate_left; next => (first | omega | (simp; done) | (simp; omega) | exact Below.size (by assumption))) | (with_reducible refine Below.alloc ?_ ?_ _; rotate_left; next => (first | omega | (simp; done) | (simp; omega) | exact Below.size (by assumption))) | with_reducible refine Below.drew ?_ | with_reducible refine below_drewN ?_ _ | (with_reducible refine Below.trans ?_ (Below.mono (by assumption) ?_); rotate_left; next => (first | omega | (simp; done) | (simp; omega) | exact Below.size (by assumption))))) hS) (fun b hb => by have := hS b hb; (first | omega | (simp; done) | (simp; omega))) (Blk.alloc_at rfl)).mono ?_
    rintro e w1 ⟨hb, ⟨h1, rfl⟩ | ⟨h1, rfl⟩⟩
    case inr => exact absurd HG.out h1
    have B1 : Below w.heap.size w w1 := (by repeat (first | with_reducible exact Below.refl _ _ | with_reducible assumption | (with_reducible refine Below.setCell ?_ ?_ _; rotate_left; next => (first | omega | (simp; done) | (simp; omega) | exact Below.size (by assumption))) | (with_reducible refine Below.alloc ?_ ?_ _; rotate_left; next => (first | omega | (simp; done) | (simp; omega) | exact Below.size (by assumption))) | with_reducible refine Below.drew ?_ | with_reducible refine below_drewN ?_ _ | (with_reducible refine Below.trans ?_ (Below.mono (by assumption) ?_); rotate_left; next => (first | omega | (simp; done) | (simp; omega) | exact Below.size (by assumption)))))
    have K := (Blk.alloc_at (t := 72) (w := w) (l := [.int .i64 n, .slice a xs.length cap]) rfl).below hb
    have k0 := K.cell (i := 0) rfl
    have k1 := K.cell (i := 1) rfl
    have KL := K.lt
    clear hb h1
    go_wp2
    go_loopw [3, 4] (fun i _ wr => ∃ k : Nat, k ≤ n ∧ i = .int .i64 k ∧ Hid (SymTo xs n k) ∧ Below w1.heap.size w1 wr) (fun i _ _ => n - (intOf i).toNat)
    case atStart => exact ⟨0, Nat.zero_le _, rfl, Lib.hid (by intro x y hx; omega), (by repeat (first | with_reducible exact Below.refl _ _ | with_reducible assumption | (with_reducible refine Below.setCell ?_ ?_ _; rotate_left; next => (first | omega | (simp; done) | (simp; omega) | exact Below.size (by assumption))) | (with_reducible refine Below.alloc ?_ ?_ _; rotate_left; next => (first | omega | (simp; done) | (simp; omega) | exact Below.size (by assumption))) | with_reducible refine Below.drew ?_ | with_reducible refine below_drewN ?_ _ | (with_reducible refine Below.trans ?_ (Below.mono (by assumption) ?_); rotate_left; next => (first | omega | (simp; done) | (simp; omega) | exact Below.size (by assumption)))))⟩
    case round =>
      obtain ⟨k, hk, rfl, hK, hbr⟩ := hrel
      obtain ⟨wo, rfl⟩ : ∃ wo : World, wo = wr := ⟨_, rfl⟩
      clear k0 k1
      have k0 := (K.below hbr).cell (i := 0) rfl
      by_cases hlt : k < n
      · go_wp2
        go_loopw [4] (fun j wi => ∃ m : Nat, m ≤ k ∧ j = .int .i64 m ∧ Hid (SymRow xs n k m) ∧ Below w1.heap.size w1 wi) (fun j _ => k - (intOf j).toNat)
        case atStart => exact ⟨0, Nat.zero_le _, rfl, Lib.hid (by intro y hy; omega), hbr⟩
        case round =>
          obtain ⟨m, hm, rfl, hM, hbi⟩ := hrel
          clear k0
          have k0 := (K.below hbi).cell (i := 0) rfl
          have k1 := (K.below hbi).cell (i := 1) rfl
          by_cases hmk : m < k
          · have hx := tab_get (a := k) (b := m) HL.out hlt (by omega)
            have hy := tab_get (a := m) (b := k) HL.out (by omega) hlt
            have hv2 := HV.out.below (B := w.heap.size) (B1.trans (hbi.mono B1.size)) hS
            obtain ⟨b', off, cap1, hav, hSb, hc, ix⟩ := hv2.int hx
            simp only [Value.slice.injEq] at hav
            obtain ⟨rfl, _, rfl⟩ := hav
            obtain ⟨b2, off2, cap2, hav, hSb2, hc2, iy⟩ := hv2.int hy
            simp only [Value.slice.injEq, Option.some.injEq, Addr.mk.injEq] at hav
            obtain ⟨⟨rfl, rfl, _⟩, _, rfl⟩ := hav
            clear hv2 hx hy
            have i1 := idx_lt hlt (show m < n by omega)
            have i2 := idx_lt (show m < n by omega) hlt
            have q1 : (0 : Int) ≤ (k : Int) * n := by rw [← Int.natCast_mul]; omega
            have q2 : (k : Int) * n ≤ 25 := by rw [← Int.natCast_mul]; omega
            have q3 : (k : Int) * n + m < (xs.length : Int) := by have := HL.out; rw [← Int.natCast_mul]; omega
            have q4 : (0 : Int) ≤ (m : Int) * n := by rw [← Int.natCast_mul]; omega
            have q5 : (m : Int) * n ≤ 25 := by rw [← Int.natCast_mul]; omega
            have q6 : (m : Int) * n + k < (xs.length : Int) := by have := HL.out; rw [← Int.natCast_mul]; omega
            by_cases he : tab xs n k m = tab xs n m k
            · have ne : (tab xs n k m != tab xs n m k) = false := by simp [he]
              have He := Lib.hid he; clear he
              go_wp2_with fail
              go_quiet (fail)
              go_wp2
              go_roundw
              case rel => exact ⟨m + 1, by omega, by go_num, Lib.hid (hM.out.snoc He.out), (by repeat (first | with_reducible exact Below.refl _ _ | with_reducible assumption | (with_reducible refine Below.setCell ?_ ?_ _; rotate_left; next => (first | omega | (simp; done) | (simp; omega) | exact Below.size (by assumption))) | (with_reducible refine Below.alloc ?_ ?_ _; rotate_left; next => (first | omega | (simp; done) | (simp; omega) | exact Below.size (by assumption))) | with_reducible refine Below.drew ?_ | with_reducible refine below_drewN ?_ _ | (with_reducible refine Below.trans ?_ (Below.mono (by assumption) ?_); rotate_left; next => (first | omega | (simp; done) | (simp; omega) | exact Below.size (by assumption)))))⟩
              case measure => simp [intOf]; omega
            · have ne : (tab xs n k m != tab xs n m k) = true := by simp [he]
              have He := Lib.hid he; clear he
              go_wp2_with fail
              go_quiet (fail)
              go_wp2
              go_ret
              exact .no (by repeat (first | with_reducible exact Below.refl _ _ | with_reducible assumption | (with_reducible refine Below.setCell ?_ ?_ _; rotate_left; next => (first | omega | (simp; done) | (simp; omega) | exact Below.size (by assumption))) | (with_reducible refine Below.alloc ?_ ?_ _; rotate_left; next => (first | omega | (simp; done) | (simp; omega) | exact Below.size (by assumption))) | with_reducible refine Below.drew ?_ | with_reducible refine below_drewN ?_ _ | (with_reducible refine Below.trans ?_ (Below.mono (by assumption) ?_); rotate_left; next => (first | omega | (simp; done) | (simp; omega) | exact Below.size (by assumption))))) (fun e => He.out (e.2 k m (by simp; omega) (by simp; omega)))
          · obtain rfl : m = k := by omega
            go_wp2
            go_roundw
            case rel => exact ⟨m + 1, by omega, by go_num, Lib.hid (hK.out.snoc hM.out), (by repeat (first | with_reducible exact Below.refl _ _ | with_reducible assumption | (with_reducible refine Below.setCell ?_ ?_ _; rotate_left; next => (first | omega | (simp; done) | (simp; omega) | exact Below.size (by assumption))) | (with_reducible refine Below.alloc ?_ ?_ _; rotate_left; next => (first | omega | (simp; done) | (simp; omega) | exact Below.size (by assumption))) | with_reducible refine Below.drew ?_ | with_reducible refine below_drewN ?_ _ | (with_reducible refine Below.trans ?_ (Below.mono (by assumption) ?_); rotate_left; next => (first | omega | (simp; done) | (simp; omega) | exact Below.size (by assumption)))))⟩
            case measure => simp [intOf]; omega
      · obtain rfl : k = n := by omega
        go_wp2
        go_ret
        exact .yes (by repeat (first | with_reducible exact Below.refl _ _ | with_reducible assumption | (with_reducible refine Below.setCell ?_ ?_ _; rotate_left; next => (first | omega | (simp; done) | (simp; omega) | exact Below.size (by assumption))) | (with_reducible refine Below.alloc ?_ ?_ _; rotate_left; next => (first | omega | (simp; done) | (simp; omega) | exact Below.size (by assumption))) | with_reducible refine Below.drew ?_ | with_reducible refine below_drewN ?_ _ | (with_reducible refine Below.trans ?_ (Below.mono (by assumption) ?_); rotate_left; next => (first | omega | (simp; done) | (simp; omega) | exact Below.size (by assumption))))) ⟨HG.out, hK.out.symm⟩
  · have HG := Lib.hid g; clear g
    go_enter Try.func49, Try.ntmps49
    go_wp2_with fail
    refine (sRuleP w.heap.size s _ xs S _ (HV.out.below (B := w.heap.size) (by repeat (first | with_reducible exact Below.refl _ _ | with_reducible assumption | (with_reducible refine Below.setCell ?_ ?_ _; rotate_left; next => (first | omega | (simp; done) | (simp; omega) | exact Below.size (by assumption))) | (with_reducible refine Below.alloc ?_ ?_ _; rotate_left; next => (first | omega | (simp; done) | (simp; omega) | exact Below.size (by assumption))) | with_reducible refine Below.drew ?_ | with_reducible refine below_drewN ?_ _ | (with_reducible refine Below.trans ?_ (Below.mono (by assumption) ?_); rotate_left; next => (first | omega | (simp; done) | (simp; omega) | exact Below.size (by assumption))))) hS) (fun b hb => by have := hS b hb; (first | omega | (simp; done) | (simp; omega))) (Blk.alloc_at rfl)).mono ?_
    rintro e w1 ⟨hb, ⟨h1, rfl⟩ | ⟨h1, rfl⟩⟩
    case inl => exact absurd h1 HG.out
    go_wp2
    go_ret
    exact .no (by repeat (first | with_reducible exact Below.refl _ _ | with_reducible assumption | (with_reducible refine Below.setCell ?_ ?_ _; rotate_left; next => (first | omega | (simp; done) | (simp; omega) | exact Below.size (by assumption))) | (with_reducible refine Below.alloc ?_ ?_ _; rotate_left; next => (first | omega | (simp; done) | (simp; omega) | exact Below.size (by assumption))) | with_reducible refine Below.drew ?_ | with_reducible refine below_drewN ?_ _ | (with_reducible refine Below.trans ?_ (Below.mono (by assumption) ?_); rotate_left; next => (first | omega | (simp; done) | (simp; omega) | exact Below.size (by assumption))))) (fun e => HG.out e.1)
set_option maxHeartbeats 1000000 in
theorem iSymm (s : Int) (v : Value) (xs : List Int) (S : Nat → Prop) (w : World) (hv : SlAt 1 rI w S v xs) (hS : ∀ b, S b → b < w.heap.size) :
    Calls Try.prog 51 #[.agg #[.int .i64 s, v]] w (BoolB (Sy s xs) w) := by
  have h63 := hv.le
  have HV := Lib.hid hv
  obtain ⟨a, cap, rfl⟩ := hv.len
  clear hv
  by_cases g : RuleOk s xs
  · obtain ⟨n, rfl⟩ : ∃ n : Nat, s = n := ⟨s.toNat, by have := g.1; omega⟩
    have hn : 1 ≤ n ∧ n ≤ 5 := by have := g.1; omega
    have HL := Lib.hid (show xs.length = n * n by have := g.2.1; rw [← Int.natCast_mul] at this; omega)
    have HG := Lib.hid g; clear g
    go_enter Try.func51, Try.ntmps51
    go_wp2_with fail
    refine (iRule n _ xs S _ (HV.out.below (B := w.heap.size) (by repeat (first | with_reducible exact Below.refl _ _ | with_reducible assumption | (with_reducible refine Below.setCell ?_ ?_ _; rotate_left; next => (first | omega | (simp; done) | (simp; omega) | exact Below.size (by assumption))) | (with_reducible refine Below.alloc ?_ ?_ _; rotate_left; next => (first | omega | (simp; done) | (simp; omega) | exact Below.size (by assumption))) | with_reducible refine Below.drew ?_ | with_reducible refine below_drewN ?_ _ | (with_reducible refine Below.trans ?_ (Below.mono (by assumption) ?_); rotate_left; next => (first | omega | (simp; done) | (simp; omega) | exact Below.size (by assumption))))) hS) (fun b hb => by have := hS b hb; (first | omega | (simp; done) | (simp; omega)))).mono ?_
    rintro e wQ ⟨hb, ⟨h1, rfl⟩ | ⟨h1, rfl⟩⟩
    case inr => exact absurd HG.out h1
    have B1 : Below w.heap.size w wQ := (by repeat (first | with_reducible exact Below.refl _ _ | with_reducible assumption | (with_reducible refine Below.setCell ?_ ?_ _; rotate_left; next => (first | omega | (simp; done) | (simp; omega) | exact Below.size (by assumption))) | (with_reducible refine Below.alloc ?_ ?_ _; rotate_left; next => (first | omega | (simp; done) | (simp; omega) | exact Below.size (by assumption))) | with_reducible refine Below.drew ?_ | with_reducible refine below_drewN ?_ _ | (with_reducible refine Below.trans ?_ (Below.mono (by assumption) ?_); rotate_left; next => (first | omega | (simp; done) | (simp; omega) | exact Below.size (by assumption)))))
    have K := (Blk.alloc_at (t := 72) (w := w) (l := [.int .i64 n, .slice a xs.length cap]) rfl).below hb
    have k0 := K.cell (i := 0) rfl
    have k1 := K.cell (i := 1) rfl
    have KL := K.lt
    clear hb h1
    go_wp2
    go_loopw [3, 4, 10] (fun _ _ i wr => ∃ k : Nat, k ≤ n ∧ i = .int .i64 k ∧ Hid (SymTo xs n k) ∧ Below wQ.heap.size wQ wr) (fun _ _ i _ => n - (intOf i).toNat)
    case atStart => exact ⟨0, Nat.zero_le _, rfl, Lib.hid (by intro x y hx; omega), (by repeat (first | with_reducible exact Below.refl _ _ | with_reducible assumption | (with_reducible refine Below.setCell ?_ ?_ _; rotate_left; next => (first | omega | (simp; done) | (simp; omega) | exact Below.size (by assumption))) | (with_reducible refine Below.alloc ?_ ?_ _; rotate_left; next => (first | omega | (simp; done) | (simp; omega) | exact Below.size (by assumption))) | with_reducible refine Below.drew ?_ | with_reducible refine below_drewN ?_ _ | (with_reducible refine Below.trans ?_ (Below.mono (by assumption) ?_); rotate_left; next => (first | omega | (simp; done) | (simp; omega) | exact Below.size (by assumption)))))⟩
    case round =>
      obtain ⟨k, hk, rfl, hK, hbr⟩ := hrel
      obtain ⟨wo, rfl⟩ : ∃ wo : World, wo = wr := ⟨_, rfl⟩
      clear k0 k1
      have k0 := (K.below hbr).cell (i := 0) rfl
      by_cases hlt : k < n
      · go_wp2
        go_loopw [4, 15] (fun _ j wi => ∃ m : Nat, m ≤ n ∧ j = .int .i64 m ∧ Hid (SymRow xs n k m) ∧ Below wQ.heap.size wQ wi) (fun _ j _ => n - (intOf j).toNat)
        case atStart => exact ⟨0, Nat.zero_le _, rfl, Lib.hid (by intro y hy; omega), hbr⟩
        case round =>
          obtain ⟨m, hm, rfl, hM, hbi⟩ := hrel
          clear k0
          have KI := K.below hbi
          have KIL := KI.lt
          have z1 := B1.size
          have z2 := hbi.size
          by_cases hmk : m < n
          · by_cases he : tab xs n k m = tab xs n m k
            · have ne : (tab xs n k m != tab xs n m k) = false := by simp [he]
              have He := Lib.hid he; clear he
              go_wp2_with fail
              refine wp_world ?_; intro w0 hb0 hh0 hz0; (try simp at hz0)
              have K : Blk w0 (w.heap.size) [.int .i64 n, .slice a xs.length cap] 72 := Blk.of_eq (hh0 _) (by repeat (first | with_reducible assumption | (with_reducible refine Blk.alloc_at ?_; next => (first | omega | (simp; done) | (simp; omega))) | (with_reducible refine Blk.set_other _ ?_ ?_; next => (first | omega | (simp; done) | (simp; omega))) | with_reducible refine Blk.alloc_old _ ?_ | with_reducible refine Blk.drew ?_ | with_reducible refine Blk.below (by assumption) ?_))
              have KL := K.lt
              refine wp_region_rgl 9 [Is (.agg #[.int .i64 n, .slice a xs.length cap]), Is (.int .i64 k), Is (.int .i64 m), Is (.int .i64 (tab xs n k m)), Is (.agg #[.int .i64 n, .slice a xs.length cap]), Is (.int .i64 m), Is (.int .i64 k), Is (.int .i64 (tab xs n m k)), Is (.bool false)] (fun _ _ _ _ _ h => h) (by kernel_rfl) (by kernel_rfl) ⟨Stab.is _, Stab.is _, Stab.is _, Stab.is _, Stab.is _, Stab.is _, Stab.is _, Stab.is _, Stab.is _, trivial⟩ ⟨?_, ?_, ?_, ?_, ?_, ?_, ?_, ?_, ?_, trivial⟩ ?_
              · intro _ v w1 hb hd; have hz := hb.size
                have K := K.below hb
                have Kc0 := K.cell (i := 0) rfl
                have Kc1 := K.cell (i := 1) rfl
                clear hd; (try unfold Is at *); simp only [rgPut, rgDst, Act.put, List.getElem?_cons_zero, List.getElem?_cons_succ, Option.bind_some, List.setIfInBounds_toArray, List.set_cons_zero, List.set_cons_succ]
                go_wp2_with fail
                exact ⟨rfl, (by repeat (first | with_reducible exact Below.refl _ _ | with_reducible assumption | (with_reducible refine Below.setCell ?_ ?_ _; rotate_left; next => (first | omega | (simp; done) | (simp; omega) | exact Below.size (by assumption))) | (with_reducible refine Below.alloc ?_ ?_ _; rotate_left; next => (first | omega | (simp; done) | (simp; omega) | exact Below.size (by assumption))) | with_reducible refine Below.drew ?_ | with_reducible refine below_drewN ?_ _ | (with_reducible refine Below.trans ?_ (Below.mono (by assumption) ?_); rotate_left; next => (first | omega | (simp; done) | (simp; omega) | exact Below.size (by assumption))))), (by first | rfl | assumption)⟩
              · intro _ v w1 hb hd; have hz := hb.size
                have K := K.below hb
                have Kc0 := K.cell (i := 0) rfl
                have Kc1 := K.cell (i := 1) rfl
                clear hd; (try unfold Is at *); simp only [rgPut, rgDst, Act.put, List.getElem?_cons_zero, List.getElem?_cons_succ, Option.bind_some, List.setIfInBounds_toArray, List.set_cons_zero, List.set_cons_succ]
                go_wp2_with fail
                exact ⟨rfl, (by repeat (first | with_reducible exact Below.refl _ _ | with_reducible assumption | (with_reducible refine Below.setCell ?_ ?_ _; rotate_left; next => (first | omega | (simp; done) | (simp; omega) | exact Below.size (by assumption))) | (with_reducible refine Below.alloc ?_ ?_ _; rotate_left; next => (first | omega | (simp; done) | (simp; omega) | exact Below.size (by assumption))) | with_reducible refine Below.drew ?_ | with_reducible refine below_drewN ?_ _ | (with_reducible refine Below.trans ?_ (Below.mono (by assumption) ?_); rotate_left; next => (first | omega | (simp; done) | (simp; omega) | exact Below.size (by assumption))))), (by first | rfl | assumption)⟩
              · intro _ v w1 hb hd; have hz := hb.size
                have K := K.below hb
                have Kc0 := K.cell (i := 0) rfl
                have Kc1 := K.cell (i := 1) rfl
                clear hd; (try unfold Is at *); simp only [rgPut, rgDst, Act.put, List.getElem?_cons_zero, List.getElem?_cons_succ, Option.bind_some, List.setIfInBounds_toArray, List.set_cons_zero, List.set_cons_succ]
                go_wp2_with fail
                exact ⟨rfl, (by repeat (first | with_reducible exact Below.refl _ _ | with_reducible assumption | (with_reducible refine Below.setCell ?_ ?_ _; rotate_left; next => (first | omega | (simp; done) | (simp; omega) | exact Below.size (by assumption))) | (with_reducible refine Below.alloc ?_ ?_ _; rotate_left; next => (first | omega | (simp; done) | (simp; omega) | exact Below.size (by assumption))) | with_reducible refine Below.drew ?_ | with_reducible refine below_drewN ?_ _ | (with_reducible refine Below.trans ?_ (Below.mono (by assumption) ?_); rotate_left; next => (first | omega | (simp; done) | (simp; omega) | exact Below.size (by assumption))))), (by first | rfl | assumption)⟩
              · intro _ v w1 hb hd; have hz := hb.size
                have K := K.below hb
                have Kc0 := K.cell (i := 0) rfl
                have Kc1 := K.cell (i := 1) rfl
                have d0 : (Is (.agg #[.int .i64 n, .slice a xs.length cap])) (v 0) w1 := hd 0 (by kernel_rfl)
                have d1 : (Is (.int .i64 k)) (v 1) w1 := hd 1 (by kernel_rfl)
                have d2 : (Is (.int .i64 m)) (v 2) w1 := hd 2 (by kernel_rfl)
                clear hd; (try unfold Is at *); simp only [rgPut, rgDst, Act.put, List.getElem?_cons_zero, List.getElem?_cons_succ, Option.bind_some, List.setIfInBounds_toArray, List.set_cons_zero, List.set_cons_succ]
                go_wp2_with fail
                (first | (go_at_call 87; (have BJ := hbi.trans (hb0.mono hbi.size); have BI := BJ.trans (hb.mono BJ.size); have BF : Below w.heap.size w w1 := B1.trans (BI.mono B1.size); have hv2 := HV.out.below (B := w.heap.size) BF hS; refine (next_any n _ _ _ xs S _ hv2 (fun b hb => Nat.lt_of_lt_of_le (hS b hb) BF.size) HL.out hn.2 (by assumption) (by assumption)).mono ?_; rintro e wH ⟨rfl, bH⟩)))
                go_wp2_with fail
                exact ⟨rfl, (by repeat (first | with_reducible exact Below.refl _ _ | with_reducible assumption | (with_reducible refine Below.setCell ?_ ?_ _; rotate_left; next => (first | omega | (simp; done) | (simp; omega) | exact Below.size (by assumption))) | (with_reducible refine Below.alloc ?_ ?_ _; rotate_left; next => (first | omega | (simp; done) | (simp; omega) | exact Below.size (by assumption))) | with_reducible refine Below.drew ?_ | with_reducible refine below_drewN ?_ _ | (with_reducible refine Below.trans ?_ (Below.mono (by assumption) ?_); rotate_left; next => (first | omega | (simp; done) | (simp; omega) | exact Below.size (by assumption))))), (by first | rfl | assumption)⟩
              · intro _ v w1 hb hd; have hz := hb.size
                have K := K.below hb
                have Kc0 := K.cell (i := 0) rfl
                have Kc1 := K.cell (i := 1) rfl
                clear hd; (try unfold Is at *); simp only [rgPut, rgDst, Act.put, List.getElem?_cons_zero, List.getElem?_cons_succ, Option.bind_some, List.setIfInBounds_toArray, List.set_cons_zero, List.set_cons_succ]
                go_wp2_with fail
                exact ⟨rfl, (by repeat (first | with_reducible exact Below.refl _ _ | with_reducible assumption | (with_reducible refine Below.setCell ?_ ?_ _; rotate_left; next => (first | omega | (simp; done) | (simp; omega) | exact Below.size (by assumption))) | (with_reducible refine Below.alloc ?_ ?_ _; rotate_left; next => (first | omega | (simp; done) | (simp; omega) | exact Below.size (by assumption))) | with_reducible refine Below.drew ?_ | with_reducible refine below_drewN ?_ _ | (with_reducible refine Below.trans ?_ (Below.mono (by assumption) ?_); rotate_left; next => (first | omega | (simp; done) | (simp; omega) | exact Below.size (by assumption))))), (by first | rfl | assumption)⟩
              · intro _ v w1 hb hd; have hz := hb.size
                have K := K.below hb
                have Kc0 := K.cell (i := 0) rfl
                have Kc1 := K.cell (i := 1) rfl
                clear hd; (try unfold Is at *); simp only [rgPut, rgDst, Act.put, List.getElem?_cons_zero, List.getElem?_cons_succ, Option.bind_some, List.setIfInBounds_toArray, List.set_cons_zero, List.set_cons_succ]
                go_wp2_with fail
                exact ⟨rfl, (by repeat (first | with_reducible exact Below.refl _ _ | with_reducible assumption | (with_reducible refine Below.setCell ?_ ?_ _; rotate_left; next => (first | omega | (simp; done) | (simp; omega) | exact Below.size (by assumption))) | (with_reducible refine Below.alloc ?_ ?_ _; rotate_left; next => (first | omega | (simp; done) | (simp; omega) | exact Below.size (by assumption))) | with_reducible refine Below.drew ?_ | with_reducible refine below_drewN ?_ _ | (with_reducible refine Below.trans ?_ (Below.mono (by assumption) ?_); rotate_left; next => (first | omega | (simp; done) | (simp; omega) | exact Below.size (by assumption))))), (by first | rfl | assumption)⟩
              · intro _ v w1 hb hd; have hz := hb.size
                have K := K.below hb
                have Kc0 := K.cell (i := 0) rfl
                have Kc1 := K.cell (i := 1) rfl
                clear hd; (try unfold Is at *); simp only [rgPut, rgDst, Act.put, List.getElem?_cons_zero, List.getElem?_cons_succ, Option.bind_some, List.setIfInBounds_toArray, List.set_cons_zero, List.set_cons_succ]
                go_wp2_with fail
                exact ⟨rfl, (by repeat (first | with_reducible exact Below.refl _ _ | with_reducible assumption | (with_reducible refine Below.setCell ?_ ?_ _; rotate_left; next => (first | omega | (simp; done) | (simp; omega) | exact Below.size (by assumption))) | (with_reducible refine Below.alloc ?_ ?_ _; rotate_left; next => (first | omega | (simp; done) | (simp; omega) | exact Below.size (by assumption))) | with_reducible refine Below.drew ?_ | with_reducible refine below_drewN ?_ _ | (with_reducible refine Below.trans ?_ (Below.mono (by assumption) ?_); rotate_left; next => (first | omega | (simp; done) | (simp; omega) | exact Below.size (by assumption))))), (by first | rfl | assumption)⟩
              · intro _ v w1 hb hd; have hz := hb.size
                have K := K.below hb
                have Kc0 := K.cell (i := 0) rfl
                have Kc1 := K.cell (i := 1) rfl
                have d4 : (Is (.agg #[.int .i64 n, .slice a xs.length cap])) (v 4) w1 := hd 4 (by kernel_rfl)
                have d5 : (Is (.int .i64 m)) (v 5) w1 := hd 5 (by kernel_rfl)
                have d6 : (Is (.int .i64 k)) (v 6) w1 := hd 6 (by kernel_rfl)
                clear hd; (try unfold Is at *); simp only [rgPut, rgDst, Act.put, List.getElem?_cons_zero, List.getElem?_cons_succ, Option.bind_some, List.setIfInBounds_toArray, List.set_cons_zero, List.set_cons_succ]
                go_wp2_with fail
                (first | (go_at_call 87; (have BJ := hbi.trans (hb0.mono hbi.size); have BI := BJ.trans (hb.mono BJ.size); have BF : Below w.heap.size w w1 := B1.trans (BI.mono B1.size); have hv2 := HV.out.below (B := w.heap.size) BF hS; refine (next_any n _ _ _ xs S _ hv2 (fun b hb => Nat.lt_of_lt_of_le (hS b hb) BF.size) HL.out hn.2 (by assumption) (by assumption)).mono ?_; rintro e wH ⟨rfl, bH⟩)))
                go_wp2_with fail
                exact ⟨rfl, (by repeat (first | with_reducible exact Below.refl _ _ | with_reducible assumption | (with_reducible refine Below.setCell ?_ ?_ _; rotate_left; next => (first | omega | (simp; done) | (simp; omega) | exact Below.size (by assumption))) | (with_reducible refine Below.alloc ?_ ?_ _; rotate_left; next => (first | omega | (simp; done) | (simp; omega) | exact Below.size (by assumption))) | with_reducible refine Below.drew ?_ | with_reducible refine below_drewN ?_ _ | (with_reducible refine Below.trans ?_ (Below.mono (by assumption) ?_); rotate_left; next => (first | omega | (simp; done) | (simp; omega) | exact Below.size (by assumption))))), (by first | rfl | assumption)⟩
              · intro _ v w1 hb hd; have hz := hb.size
                have K := K.below hb
                have Kc0 := K.cell (i := 0) rfl
                have Kc1 := K.cell (i := 1) rfl
                have d3 : (Is (.int .i64 (tab xs n k m))) (v 3) w1 := hd 3 (by kernel_rfl)
                have d7 : (Is (.int .i64 (tab xs n m k))) (v 7) w1 := hd 7 (by kernel_rfl)
                clear hd; (try unfold Is at *); simp only [rgPut, rgDst, Act.put, List.getElem?_cons_zero, List.getElem?_cons_succ, Option.bind_some, List.setIfInBounds_toArray, List.set_cons_zero, List.set_cons_succ]
                go_wp2_with fail
                exact ⟨rfl, (by repeat (first | with_reducible exact Below.refl _ _ | with_reducible assumption | (with_reducible refine Below.setCell ?_ ?_ _; rotate_left; next => (first | omega | (simp; done) | (simp; omega) | exact Below.size (by assumption))) | (with_reducible refine Below.alloc ?_ ?_ _; rotate_left; next => (first | omega | (simp; done) | (simp; omega) | exact Below.size (by assumption))) | with_reducible refine Below.drew ?_ | with_reducible refine below_drewN ?_ _ | (with_reducible refine Below.trans ?_ (Below.mono (by assumption) ?_); rotate_left; next => (first | omega | (simp; done) | (simp; omega) | exact Below.size (by assumption))))), (by first | rfl | assumption)⟩
              intro v w1 hb hA
              have a0 : (Is (.agg #[.int .i64 n, .slice a xs.length cap])) (v 0) w1 := hA 0 (by decide)
              have a1 : (Is (.int .i64 k)) (v 1) w1 := hA 1 (by decide)
              have a2 : (Is (.int .i64 m)) (v 2) w1 := hA 2 (by decide)
              have a3 : (Is (.int .i64 (tab xs n k m))) (v 3) w1 := hA 3 (by decide)
              have a4 : (Is (.agg #[.int .i64 n, .slice a xs.length cap])) (v 4) w1 := hA 4 (by decide)
              have a5 : (Is (.int .i64 m)) (v 5) w1 := hA 5 (by decide)
              have a6 : (Is (.int .i64 k)) (v 6) w1 := hA 6 (by decide)
              have a7 : (Is (.int .i64 (tab xs n m k))) (v 7) w1 := hA 7 (by decide)
              have a8 : (Is (.bool false)) (v 8) w1 := hA 8 (by decide)
              clear hA; (try unfold Is at *); simp only [rgPut, rgDst, Act.put, List.getElem?_cons_zero, List.getElem?_cons_succ, Option.bind_some, List.setIfInBounds_toArray, List.set_cons_zero, List.set_cons_succ, List.drop_succ_cons, List.drop_nil]
              simp only [a0, a1, a2, a3, a4, a5, a6, a7, a8]; clear a0 a1 a2 a3 a4 a5 a6 a7 a8
              have hz := hb.size
              have K := K.below hb
              have Kc0 := K.cell (i := 0) rfl
              have Kc1 := K.cell (i := 1) rfl
              have Kf0 := K.frozen 0
              have Kf1 := K.frozen 1
              go_wp2
              go_roundw
              case rel => exact ⟨m + 1, by omega, by go_num, Lib.hid (hM.out.snoc He.out), (by repeat (first | with_reducible exact Below.refl _ _ | with_reducible assumption | (with_reducible refine Below.setCell ?_ ?_ _; rotate_left; next => (first | omega | (simp; done) | (simp; omega) | exact Below.size (by assumption))) | (with_reducible refine Below.alloc ?_ ?_ _; rotate_left; next => (first | omega | (simp; done) | (simp; omega) | exact Below.size (by assumption))) | with_reducible refine Below.drew ?_ | with_reducible refine below_drewN ?_ _ | (with_reducible refine Below.trans ?_ (Below.mono (by assumption) ?_); rotate_left; next => (first | omega | (simp; done) | (simp; omega) | exact Below.size (by assumption)))))⟩
              case measure => simp [intOf]; omega
            · have ne : (tab xs n k m != tab xs n m k) = true := by simp [he]
              have He := Lib.hid he; clear he
              go_wp2_with fail
              refine wp_world ?_; intro w0 hb0 hh0 hz0; (try simp at hz0)
              have K : Blk w0 (w.heap.size) [.int .i64 n, .slice a xs.length cap] 72 := Blk.of_eq (hh0 _) (by repeat (first | with_reducible assumption | (with_reducible refine Blk.alloc_at ?_; next => (first | omega | (simp; done) | (simp; omega))) | (with_reducible refine Blk.set_other _ ?_ ?_; next => (first | omega | (simp; done) | (simp; omega))) | with_reducible refine Blk.alloc_old _ ?_ | with_reducible refine Blk.drew ?_ | with_reducible refine Blk.below (by assumption) ?_))
              have KL := K.lt
              refine wp_region_rgl 9 [Is (.agg #[.int .i64 n, .slice a xs.length cap]), Is (.int .i64 k), Is (.int .i64 m), Is (.int .i64 (tab xs n k m)), Is (.agg #[.int .i64 n, .slice a xs.length cap]), Is (.int .i64 m), Is (.int .i64 k), Is (.int .i64 (tab xs n m k)), Is (.bool true)] (fun _ _ _ _ _ h => h) (by kernel_rfl) (by kernel_rfl) ⟨Stab.is _, Stab.is _, Stab.is _, Stab.is _, Stab.is _, Stab.is _, Stab.is _, Stab.is _, Stab.is _, trivial⟩ ⟨?_, ?_, ?_, ?_, ?_, ?_, ?_, ?_, ?_, trivial⟩ ?_
              · intro _ v w1 hb hd; have hz := hb.size
                have K := K.below hb
                have Kc0 := K.cell (i := 0) rfl
                have Kc1 := K.cell (i := 1) rfl
                clear hd; (try unfold Is at *); simp only [rgPut, rgDst, Act.put, List.getElem?_cons_zero, List.getElem?_cons_succ, Option.bind_some, List.setIfInBounds_toArray, List.set_cons_zero, List.set_cons_succ]
                go_wp2_with fail
                exact ⟨rfl, (by repeat (first | with_reducible exact Below.refl _ _ | with_reducible assumption | (with_reducible refine Below.setCell ?_ ?_ _; rotate_left; next => (first | omega | (simp; done) | (simp; omega) | exact Below.size (by assumption))) | (with_reducible refine Below.alloc ?_ ?_ _; rotate_left; next => (first | omega | (simp; done) | (simp; omega) | exact Below.size (by assumption))) | with_reducible refine Below.drew ?_ | with_reducible refine below_drewN ?_ _ | (with_reducible refine Below.trans ?_ (Below.mono (by assumption) ?_); rotate_left; next => (first | omega | (simp; done) | (simp; omega) | exact Below.size (by assumption))))), (by first | rfl | assumption)⟩
              · intro _ v w1 hb hd; have hz := hb.size
                have K := K.below hb
                have Kc0 := K.cell (i := 0) rfl
                have Kc1 := K.cell (i := 1) rfl
                clear hd; (try unfold Is at *); simp only [rgPut, rgDst, Act.put, List.getElem?_cons_zero, List.getElem?_cons_succ, Option.bind_some, List.setIfInBounds_toArray, List.set_cons_zero, List.set_cons_succ]
                go_wp2_with fail
                exact ⟨rfl, (by repeat (first | with_reducible exact Below.refl _ _ | with_reducible assumption | (with_reducible refine Below.setCell ?_ ?_ _; rotate_left; next => (first | omega | (simp; done) | (simp; omega) | exact Below.size (by assumption))) | (with_reducible refine Below.alloc ?_ ?_ _; rotate_left; next => (first | omega | (simp; done) | (simp; omega) | exact Below.size (by assumption))) | with_reducible refine Below.drew ?_ | with_reducible refine below_drewN ?_ _ | (with_reducible refine Below.trans ?_ (Below.mono (by assumption) ?_); rotate_left; next => (first | omega | (simp; done) | (simp; omega) | exact Below.size (by assumption))))), (by first | rfl | assumption)⟩
              · intro _ v w1 hb hd; have hz := hb.size
                have K := K.below hb
                have Kc0 := K.cell (i := 0) rfl
                have Kc1 := K.cell (i := 1) rfl
                clear hd; (try unfold Is at *); simp only [rgPut, rgDst, Act.put, List.getElem?_cons_zero, List.getElem?_cons_succ, Option.bind_some, List.setIfInBounds_toArray, List.set_cons_zero, List.set_cons_succ]
                go_wp2_with fail
                exact ⟨rfl, (by repeat (first | with_reducible exact Below.refl _ _ | with_reducible assumption | (with_reducible refine Below.setCell ?_ ?_ _; rotate_left; next => (first | omega | (simp; done) | (simp; omega) | exact Below.size (by assumption))) | (with_reducible refine Below.alloc ?_ ?_ _; rotate_left; next => (first | omega | (simp; done) | (simp; omega) | exact Below.size (by assumption))) | with_reducible refine Below.drew ?_ | with_reducible refine below_drewN ?_ _ | (with_reducible refine Below.trans ?_ (Below.mono (by assumption) ?_); rotate_left; next => (first | omega | (simp; done) | (simp; omega) | exact Below.size (by assumption))))), (by first | rfl | assumption)⟩
              · intro _ v w1 hb hd; have hz := hb.size
                have K := K.below hb
                have Kc0 := K.cell (i := 0) rfl
                have Kc1 := K.cell (i := 1) rfl
                have d0 : (Is (.agg #[.int .i64 n, .slice a xs.length cap])) (v 0) w1 := hd 0 (by kernel_rfl)
                have d1 : (Is (.int .i64 k)) (v 1) w1 := hd 1 (by kernel_rfl)
                have d2 : (Is (.int .i64 m)) (v 2) w1 := hd 2 (by kernel_rfl)
                clear hd; (try unfold Is at *); simp only [rgPut, rgDst, Act.put, List.getElem?_cons_zero, List.getElem?_cons_succ, Option.bind_some, List.setIfInBounds_toArray, List.set_cons_zero, List.set_cons_succ]
                go_wp2_with fail
                (first | (go_at_call 87; (have BJ := hbi.trans (hb0.mono hbi.size); have BI := BJ.trans (hb.mono BJ.size); have BF : Below w.heap.size w w1 := B1.trans (BI.mono B1.size); have hv2 := HV.out.below (B := w.heap.size) BF hS; refine (next_any n _ _ _ xs S _ hv2 (fun b hb => Nat.lt_of_lt_of_le (hS b hb) BF.size) HL.out hn.2 (by assumption) (by assumption)).mono ?_; rintro e wH ⟨rfl, bH⟩)))
                go_wp2_with fail
                exact ⟨rfl, (by repeat (first | with_reducible exact Below.refl _ _ | with_reducible assumption | (with_reducible refine Below.setCell ?_ ?_ _; rotate_left; next => (first | omega | (simp; done) | (simp; omega) | exact Below.size (by assumption))) | (with_reducible refine Below.alloc ?_ ?_ _; rotate_left; next => (first | omega | (simp; done) | (simp; omega) | exact Below.size (by assumption))) | with_reducible refine Below.drew ?_ | with_reducible refine below_drewN ?_ _ | (with_reducible refine Below.trans ?_ (Below.mono (by assumption) ?_); rotate_left; next => (first | omega | (simp; done) | (simp; omega) | exact Below.size (by assumption))))), (by first | rfl | assumption)⟩
              · intro _ v w1 hb hd; have hz := hb.size
                have K := K.below hb
                have Kc0 := K.cell (i := 0) rfl
                have Kc1 := K.cell (i := 1) rfl
                clear hd; (try unfold Is at *); simp only [rgPut, rgDst, Act.put, List.getElem?_cons_zero, List.getElem?_cons_succ, Option.bind_some, List.setIfInBounds_toArray, List.set_cons_zero, List.set_cons_succ]
                go_wp2_with fail
                exact ⟨rfl, (by repeat (first | with_reducible exact Below.refl _ _ | with_reducible assumption | (with_reducible refine Below.setCell ?_ ?_ _; rotate_left; next => (first | omega | (simp; done) | (simp; omega) | exact Below.size (by assumption))) | (with_reducible refine Below.alloc ?_ ?_ _; rotate_left; next => (first | omega | (simp; done) | (simp; omega) | exact Below.size (by assumption))) | with_reducible refine Below.drew ?_ | with_reducible refine below_drewN ?_ _ | (with_reducible refine Below.trans ?_ (Below.mono (by assumption) ?_); rotate_left; next => (first | omega | (simp; done) | (simp; omega) | exact Below.size (by assumption))))), (by first | rfl | assumption)⟩
              · intro _ v w1 hb hd; have hz := hb.size
                have K := K.below hb
                have Kc0 := K.cell (i := 0) rfl
                have Kc1 := K.cell (i := 1) rfl
                clear hd; (try unfold Is at *); simp only [rgPut, rgDst, Act.put, List.getElem?_cons_zero, List.getElem?_cons_succ, Option.bind_some, List.setIfInBounds_toArray, List.set_cons_zero, List.set_cons_succ]
                go_wp2_with fail
                exact ⟨rfl, (by repeat (first | with_reducible exact Below.refl _ _ | with_reducible assumption | (with_reducible refine Below.setCell ?_ ?_ _; rotate_left; next => (first | omega | (simp; done) | (simp; omega) | exact Below.size (by assumption))) | (with_reducible refine Below.alloc ?_ ?_ _; rotate_left; next => (first | omega | (simp; done) | (simp; omega) | exact Below.size (by assumption))) | with_reducible refine Below.drew ?_ | with_reducible refine below_drewN ?_ _ | (with_reducible refine Below.trans ?_ (Below.mono (by assumption) ?_); rotate_left; next => (first | omega | (simp; done) | (simp; omega) | exact Below.size (by assumption))))), (by first | rfl | assumption)⟩
              · intro _ v w1 hb hd; have hz := hb.size
                have K := K.below hb
                have Kc0 := K.cell (i := 0) rfl
                have Kc1 := K.cell (i := 1) rfl
                clear hd; (try unfold Is at *); simp only [rgPut, rgDst, Act.put, List.getElem?_cons_zero, List.getElem?_cons_succ, Option.bind_some, List.setIfInBounds_toArray, List.set_cons_zero, List.set_cons_succ]
                go_wp2_with fail
                exact ⟨rfl, (by repeat (first | with_reducible exact Below.refl _ _ | with_reducible assumption | (with_reducible refine Below.setCell ?_ ?_ _; rotate_left; next => (first | omega | (simp; done) | (simp; omega) | exact Below.size (by assumption))) | (with_reducible refine Below.alloc ?_ ?_ _; rotate_left; next => (first | omega | (simp; done) | (simp; omega) | exact Below.size (by assumption))) | with_reducible refine Below.drew ?_ | with_reducible refine below_drewN ?_ _ | (with_reducible refine Below.trans ?_ (Below.mono (by assumption) ?_); rotate_left; next => (first | omega | (simp; done) | (simp; omega) | exact Below.size (by assumption))))), (by first | rfl | assumption)⟩
              · intro _ v w1 hb hd; have hz := hb.size
                have K := K.below hb
                have Kc0 := K.cell (i := 0) rfl
                have Kc1 := K.cell (i := 1) rfl
                have d4 : (Is (.agg #[.int .i64 n, .slice a xs.length cap])) (v 4) w1 := hd 4 (by kernel_rfl)
                have d5 : (Is (.int .i64 m)) (v 5) w1 := hd 5 (by kernel_rfl)
                have d6 : (Is (.int .i64 k)) (v 6) w1 := hd 6 (by kernel_rfl)
                clear hd; (try unfold Is at *); simp only [rgPut, rgDst, Act.put, List.getElem?_cons_zero, List.getElem?_cons_succ, Option.bind_some, List.setIfInBounds_toArray, List.set_cons_zero, List.set_cons_succ]
                go_wp2_with fail
                (first | (go_at_call 87; (have BJ := hbi.trans (hb0.mono hbi.size); have BI := BJ.trans (hb.mono BJ.size); have BF : Below w.heap.size w w1 := B1.trans (BI.mono B1.size); have hv2 := HV.out.below (B := w.heap.size) BF hS; refine (next_any n _ _ _ xs S _ hv2 (fun b hb => Nat.lt_of_lt_of_le (hS b hb) BF.size) HL.out hn.2 (by assumption) (by assumption)).mono ?_; rintro e wH ⟨rfl, bH⟩)))
                go_wp2_with fail
                exact ⟨rfl, (by repeat (first | with_reducible exact Below.refl _ _ | with_reducible assumption | (with_reducible refine Below.setCell ?_ ?_ _; rotate_left; next => (first | omega | (simp; done) | (simp; omega) | exact Below.size (by assumption))) | (with_reducible refine Below.alloc ?_ ?_ _; rotate_left; next => (first | omega | (simp; done) | (simp; omega) | exact Below.size (by assumption))) | with_reducible refine Below.drew ?_ | with_reducible refine below_drewN ?_ _ | (with_reducible refine Below.trans ?_ (Below.mono (by assumption) ?_); rotate_left; next => (first | omega | (simp; done) | (simp; omega) | exact Below.size (by assumption))))), (by first | rfl | assumption)⟩
              · intro _ v w1 hb hd; have hz := hb.size
                have K := K.below hb
                have Kc0 := K.cell (i := 0) rfl
                have Kc1 := K.cell (i := 1) rfl
                have d3 : (Is (.int .i64 (tab xs n k m))) (v 3) w1 := hd 3 (by kernel_rfl)
                have d7 : (Is (.int .i64 (tab xs n m k))) (v 7) w1 := hd 7 (by kernel_rfl)
                clear hd; (try unfold Is at *); simp only [rgPut, rgDst, Act.put, List.getElem?_cons_zero, List.getElem?_cons_succ, Option.bind_some, List.setIfInBounds_toArray, List.set_cons_zero, List.set_cons_succ]
                go_wp2_with fail
                exact ⟨rfl, (by repeat (first | with_reducible exact Below.refl _ _ | with_reducible assumption | (with_reducible refine Below.setCell ?_ ?_ _; rotate_left; next => (first | omega | (simp; done) | (simp; omega) | exact Below.size (by assumption))) | (with_reducible refine Below.alloc ?_ ?_ _; rotate_left; next => (first | omega | (simp; done) | (simp; omega) | exact Below.size (by assumption))) | with_reducible refine Below.drew ?_ | with_reducible refine below_drewN ?_ _ | (with_reducible refine Below.trans ?_ (Below.mono (by assumption) ?_); rotate_left; next => (first | omega | (simp; done) | (simp; omega) | exact Below.size (by assumption))))), (by first | rfl | assumption)⟩
              intro v w1 hb hA
              have a0 : (Is (.agg #[.int .i64 n, .slice a xs.length cap])) (v 0) w1 := hA 0 (by decide)
              have a1 : (Is (.int .i64 k)) (v 1) w1 := hA 1 (by decide)
              have a2 : (Is (.int .i64 m)) (v 2) w1 := hA 2 (by decide)
              have a3 : (Is (.int .i64 (tab xs n k m))) (v 3) w1 := hA 3 (by decide)
              have a4 : (Is (.agg #[.int .i64 n, .slice a xs.length cap])) (v 4) w1 := hA 4 (by decide)
              have a5 : (Is (.int .i64 m)) (v 5) w1 := hA 5 (by decide)
              have a6 : (Is (.int .i64 k)) (v 6) w1 := hA 6 (by decide)
              have a7 : (Is (.int .i64 (tab xs n m k))) (v 7) w1 := hA 7 (by decide)
              have a8 : (Is (.bool true)) (v 8) w1 := hA 8 (by decide)
              clear hA; (try unfold Is at *); simp only [rgPut, rgDst, Act.put, List.getElem?_cons_zero, List.getElem?_cons_succ, Option.bind_some, List.setIfInBounds_toArray, List.set_cons_zero, List.set_cons_succ, List.drop_succ_cons, List.drop_nil]
              simp only [a0, a1, a2, a3, a4, a5, a6, a7, a8]; clear a0 a1 a2 a3 a4 a5 a6 a7 a8
              have hz := hb.size
              have K := K.below hb
              have Kc0 := K.cell (i := 0) rfl
              have Kc1 := K.cell (i := 1) rfl
              have Kf0 := K.frozen 0
              have Kf1 := K.frozen 1
              go_wp2
              go_ret
              exact .no (by repeat (first | with_reducible exact Below.refl _ _ | with_reducible assumption | (with_reducible refine Below.setCell ?_ ?_ _; rotate_left; next => (first | omega | (simp; done) | (simp; omega) | exact Below.size (by assumption))) | (with_reducible refine Below.alloc ?_ ?_ _; rotate_left; next => (first | omega | (simp; done) | (simp; omega) | exact Below.size (by assumption))) | with_reducible refine Below.drew ?_ | with_reducible refine below_drewN ?_ _ | (with_reducible refine Below.trans ?_ (Below.mono (by assumption) ?_); rotate_left; next => (first | omega | (simp; done) | (simp; omega) | exact Below.size (by assumption))))) (fun e => He.out (e.2 k m (by simp; omega) (by simp; omega)))
          · obtain rfl : m = n := by omega
            go_wp2
            go_roundw
            case rel => exact ⟨k + 1, by omega, by go_num, Lib.hid (hK.out.snoc (fun y hy => hM.out y (by omega))), (by repeat (first | with_reducible exact Below.refl _ _ | with_reducible assumption | (with_reducible refine Below.setCell ?_ ?_ _; rotate_left; next => (first | omega | (simp; done) | (simp; omega) | exact Below.size (by assumption))) | (with_reducible refine Below.alloc ?_ ?_ _; rotate_left; next => (first | omega | (simp; done) | (simp; omega) | exact Below.size (by assumption))) | with_reducible refine Below.drew ?_ | with_reducible refine below_drewN ?_ _ | (with_reducible refine Below.trans ?_ (Below.mono (by assumption) ?_); rotate_left; next => (first | omega | (simp; done) | (simp; omega) | exact Below.size (by assumption)))))⟩
            case measure => simp [intOf]; omega
      · obtain rfl : k = n := by omega
        go_wp2
        go_ret
        exact .yes (by repeat (first | with_reducible exact Below.refl _ _ | with_reducible assumption | (with_reducible refine Below.setCell ?_ ?_ _; rotate_left; next => (first | omega | (simp; done) | (simp; omega) | exact Below.size (by assumption))) | (with_reducible refine Below.alloc ?_ ?_ _; rotate_left; next => (first | omega | (simp; done) | (simp; omega) | exact Below.size (by assumption))) | with_reducible refine Below.drew ?_ | with_reducible refine below_drewN ?_ _ | (with_reducible refine Below.trans ?_ (Below.mono (by assumption) ?_); rotate_left; next => (first | omega | (simp; done) | (simp; omega) | exact Below.size (by assumption))))) ⟨HG.out, hK.out.symm⟩
  · have HG := Lib.hid g; clear g
    go_enter Try.func51, Try.ntmps51
    go_wp2_with fail
    refine (iRule s _ xs S _ (HV.out.below (B := w.heap.size) (by repeat (first | with_reducible exact Below.refl _ _ | with_reducible assumption | (with_reducible refine Below.setCell ?_ ?_ _; rotate_left; next => (first | omega | (simp; done) | (simp; omega) | exact Below.size (by assumption))) | (with_reducible refine Below.alloc ?_ ?_ _; rotate_left; next => (first | omega | (simp; done) | (simp; omega) | exact Below.size (by assumption))) | with_reducible refine Below.drew ?_ | with_reducible refine below_drewN ?_ _ | (with_reducible refine Below.trans ?_ (Below.mono (by assumption) ?_); rotate_left; next => (first | omega | (simp; done) | (simp; omega) | exact Below.size (by assumption))))) hS) (fun b hb => by have := hS b hb; (first | omega | (simp; done) | (simp; omega)))).mono ?_
    rintro e w1 ⟨hb, ⟨h1, rfl⟩ | ⟨h1, rfl⟩⟩
    case inl => exact absurd h1 HG.out
    go_wp2
    go_ret
    exact .no (by repeat (first | with_reducible exact Below.refl _ _ | with_reducible assumption | (with_reducible refine Below.setCell ?_ ?_ _; rotate_left; next => (first | omega | (simp; done) | (simp; omega) | exact Below.size (by assumption))) | (with_reducible refine Below.alloc ?_ ?_ _; rotate_left; next => (first | omega | (simp; done) | (simp; omega) | exact Below.size (by assumption))) | with_reducible refine Below.drew ?_ | with_reducible refine below_drewN ?_ _ | (with_reducible refine Below.trans ?_ (Below.mono (by assumption) ?_); rotate_left; next => (first | omega | (simp; done) | (simp; omega) | exact Below.size (by assumption))))) (fun e => HG.out e.1)
end Go.Proofs.Ytghecnlgainfkaa
