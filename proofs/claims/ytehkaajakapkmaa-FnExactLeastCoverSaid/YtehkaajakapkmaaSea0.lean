/- The search for the least cover: rows of numbers, the count of ones. -/
import Derived.Test.YtehkaajakapkmaaBel
import Derived.Test.YtehkaajakapkmaaRgX
import Derived.Test.YtehkaajakapkmaaCov0
import Derived.Lib.Hide
import Derived.Maps.AppendAt
import Derived.Lib.AppendZeros
namespace Go.Proofs.Ytehkaajakapkmaa
open Go.RowKit Go.Lib
set_option maxRecDepth 100000
set_option maxHeartbeats 2000000
def natV (k : Nat) : Value := .int .i64 k
def popI (c : Int) : Int := c % 2 + c / 2 % 2 + c / 4 % 2 + c / 8 % 2
def setL (st : Nat → Nat) : List Nat → Nat
  | [] => 0
  | k :: x => st k ||| setL st x
theorem setL_snoc (st : Nat → Nat) : ∀ (x : List Nat) (k : Nat), setL st (x ++ [k]) = setL st x ||| st k
  | [], k => by simp [setL]
  | y :: x, k => by
    rw [List.cons_append, setL, setL_snoc st x k, setL, Nat.or_assoc]
theorem setL_lt {st : Nat → Nat} (h : ∀ k, st k < 2 ^ 63) : ∀ x : List Nat, setL st x < 2 ^ 63
  | [] => Nat.pow_pos (by decide)
  | k :: x => Nat.or_lt_two_pow (h k) (setL_lt h x)
def cstL (care : Nat → Int) : List Nat → Int
  | [] => 0
  | k :: x => popI (care k) + cstL care x
theorem cstL_snoc (care : Nat → Int) : ∀ (x : List Nat) (k : Nat), cstL care (x ++ [k]) = cstL care x + popI (care k)
  | [], k => by simp [cstL]
  | y :: x, k => by
    rw [List.cons_append, cstL, cstL_snoc care x k, cstL]
    omega
theorem popI_bd (c : Int) : 0 ≤ popI c ∧ popI c ≤ 4 := by
  unfold popI
  omega
theorem cstL_bd (care : Nat → Int) : ∀ x : List Nat, 0 ≤ cstL care x ∧ cstL care x ≤ 4 * x.length
  | [] => by simp [cstL]
  | k :: x => by
    have h1 := cstL_bd care x
    have h2 := popI_bd (care k)
    rw [cstL, List.length_cons]
    omega
theorem infoInt : (Try.prog.info? 3).map (fun i => (i.zero, i.size, i.bytes)) = some (some (.int .i64 0), 1, 8) := by kernel_rfl
theorem pop1 (c : Nat) (hc : c < 16) (w : World) : Calls Try.prog 35 #[.int .u64 c] w fun e w' => e = .returned (.int .i64 (popI c)) ∧ Below w.heap.size w w' := by
  have h : c = 0 ∨ c = 1 ∨ c = 2 ∨ c = 3 ∨ c = 4 ∨ c = 5 ∨ c = 6 ∨ c = 7 ∨ c = 8 ∨ c = 9 ∨ c = 10 ∨ c = 11 ∨ c = 12 ∨ c = 13 ∨ c = 14 ∨ c = 15 := by omega
  rcases h with rfl | rfl | rfl | rfl | rfl | rfl | rfl | rfl | rfl | rfl | rfl | rfl | rfl | rfl | rfl | rfl
  all_goals
    go_enter Try.func35, Try.ntmps35
    go_wp2
    go_ret
    exact ⟨by kernel_rfl, Below.refl _ _⟩
end Go.Proofs.Ytehkaajakapkmaa
