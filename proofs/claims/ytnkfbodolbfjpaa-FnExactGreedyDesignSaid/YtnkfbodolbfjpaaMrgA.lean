/- Mrg0 and Mrg1 and Mrg2. -/
import Derived.Test.YtnkfbodolbfjpaaBoilP1
import Derived.Test.YtnkfbodolbfjpaaDes1
namespace Go.Proofs.Ytnkfbodolbfjpaa
open Go.RowKit
set_option maxRecDepth 100000 in
def S.s192 : SC := (.seq (.reg [⟨(.some 0), .none, .false, (.mv (.const (Go.Value.pointer none)))⟩]) (.seq (.reg [⟨(.some 3), .none, .false, (.bld [(Go.Value.int Go.IntKind.i64 0), (Go.Value.int Go.IntKind.i64 0), (Go.Value.int Go.IntKind.i64 0), (Go.Value.int Go.IntKind.i64 0), (Go.Value.int Go.IntKind.i64 0), (Go.Value.int Go.IntKind.i64 0), (Go.Value.int Go.IntKind.i64 0), (Go.Value.int Go.IntKind.i64 0), (Go.Value.int Go.IntKind.i64 0), (Go.Value.int Go.IntKind.i64 0), (Go.Value.int Go.IntKind.i64 0), (Go.Value.int Go.IntKind.i64 0), (Go.Value.int Go.IntKind.i64 0), (Go.Value.int Go.IntKind.i64 0), (Go.Value.int Go.IntKind.i64 0), (Go.Value.int Go.IntKind.i64 0), (Go.Value.int Go.IntKind.i64 0), (Go.Value.int Go.IntKind.i64 0), (Go.Value.int Go.IntKind.i64 0), (Go.Value.int Go.IntKind.i64 0), (Go.Value.int Go.IntKind.i64 0), (Go.Value.int Go.IntKind.i64 0), (Go.Value.int Go.IntKind.i64 0), (Go.Value.int Go.IntKind.i64 0), (Go.Value.int Go.IntKind.i64 0), (Go.Value.int Go.IntKind.i64 0), (Go.Value.int Go.IntKind.i64 0), (Go.Value.int Go.IntKind.i64 0), (Go.Value.int Go.IntKind.i64 0), (Go.Value.int Go.IntKind.i64 0), (Go.Value.int Go.IntKind.i64 0), (Go.Value.int Go.IntKind.i64 0), (Go.Value.int Go.IntKind.i64 0), (Go.Value.int Go.IntKind.i64 0), (Go.Value.int Go.IntKind.i64 0), (Go.Value.int Go.IntKind.i64 0), (Go.Value.int Go.IntKind.i64 0), (Go.Value.int Go.IntKind.i64 0), (Go.Value.int Go.IntKind.i64 0), (Go.Value.int Go.IntKind.i64 0), (Go.Value.int Go.IntKind.i64 0), (Go.Value.int Go.IntKind.i64 0), (Go.Value.int Go.IntKind.i64 0), (Go.Value.int Go.IntKind.i64 0), (Go.Value.int Go.IntKind.i64 0), (Go.Value.int Go.IntKind.i64 0), (Go.Value.int Go.IntKind.i64 0), (Go.Value.int Go.IntKind.i64 0), (Go.Value.int Go.IntKind.i64 0), (Go.Value.int Go.IntKind.i64 0), (Go.Value.int Go.IntKind.i64 0), (Go.Value.int Go.IntKind.i64 0), (Go.Value.int Go.IntKind.i64 0), (Go.Value.int Go.IntKind.i64 0), (Go.Value.int Go.IntKind.i64 0), (Go.Value.int Go.IntKind.i64 0), (Go.Value.int Go.IntKind.i64 0), (Go.Value.int Go.IntKind.i64 0), (Go.Value.int Go.IntKind.i64 0), (Go.Value.int Go.IntKind.i64 0), (Go.Value.int Go.IntKind.i64 0), (Go.Value.int Go.IntKind.i64 0), (Go.Value.int Go.IntKind.i64 0), (Go.Value.int Go.IntKind.i64 0), (Go.Value.int Go.IntKind.i64 0), (Go.Value.int Go.IntKind.i64 0), (Go.Value.int Go.IntKind.i64 0), (Go.Value.int Go.IntKind.i64 0), (Go.Value.int Go.IntKind.i64 0), (Go.Value.int Go.IntKind.i64 0), (Go.Value.int Go.IntKind.i64 0), (Go.Value.int Go.IntKind.i64 0), (Go.Value.int Go.IntKind.i64 0), (Go.Value.int Go.IntKind.i64 0), (Go.Value.int Go.IntKind.i64 0), (Go.Value.int Go.IntKind.i64 0), (Go.Value.int Go.IntKind.i64 0), (Go.Value.int Go.IntKind.i64 0), (Go.Value.int Go.IntKind.i64 0), (Go.Value.int Go.IntKind.i64 0), (Go.Value.int Go.IntKind.i64 0), (Go.Value.int Go.IntKind.i64 0), (Go.Value.int Go.IntKind.i64 0), (Go.Value.int Go.IntKind.i64 0), (Go.Value.int Go.IntKind.i64 0), (Go.Value.int Go.IntKind.i64 0), (Go.Value.int Go.IntKind.i64 0), (Go.Value.int Go.IntKind.i64 0), (Go.Value.int Go.IntKind.i64 0), (Go.Value.int Go.IntKind.i64 0), (Go.Value.int Go.IntKind.i64 0), (Go.Value.int Go.IntKind.i64 0), (Go.Value.int Go.IntKind.i64 0), (Go.Value.int Go.IntKind.i64 0), (Go.Value.int Go.IntKind.i64 0), (Go.Value.int Go.IntKind.i64 0), (Go.Value.int Go.IntKind.i64 0), (Go.Value.int Go.IntKind.i64 0), (Go.Value.int Go.IntKind.i64 0), (Go.Value.int Go.IntKind.i64 0), (Go.Value.int Go.IntKind.i64 0), (Go.Value.int Go.IntKind.i64 0), (Go.Value.int Go.IntKind.i64 0), (Go.Value.int Go.IntKind.i64 0), (Go.Value.int Go.IntKind.i64 0), (Go.Value.int Go.IntKind.i64 0), (Go.Value.int Go.IntKind.i64 0), (Go.Value.int Go.IntKind.i64 0), (Go.Value.int Go.IntKind.i64 0), (Go.Value.int Go.IntKind.i64 0), (Go.Value.int Go.IntKind.i64 0), (Go.Value.int Go.IntKind.i64 0), (Go.Value.int Go.IntKind.i64 0), (Go.Value.int Go.IntKind.i64 0), (Go.Value.int Go.IntKind.i64 0), (Go.Value.int Go.IntKind.i64 0), (Go.Value.int Go.IntKind.i64 0), (Go.Value.int Go.IntKind.i64 0), (Go.Value.int Go.IntKind.i64 0), (Go.Value.int Go.IntKind.i64 0)] [(0, 120)] [])⟩, ⟨(.some 4), .none, .false, (.box 314 (.tmp 3))⟩, ⟨(.some 1), .none, .false, (.mv (.tmp 4))⟩]) (.seq (.seq (.reg [⟨(.some 5), .none, .false, (.mv (.const (Go.Value.int Go.IntKind.i64 0)))⟩]) (.block 0 (.loop (.seq (.reg [⟨(.some 6), .none, .false, (.bin .lss (.tmp 5) (.const (Go.Value.int Go.IntKind.i64 120)))⟩]) (.seq (.cond (.tmp 6) .skip (.exit 0)) (.seq (.block 1 (.seq (.reg [⟨(.some 7), .none, .false, (.mv (.tmp 5))⟩, ⟨(.some 2), .none, .false, (.mv (.tmp 7))⟩]) (.reg [⟨(.some 8), .none, .false, (.mv (.tmp 1))⟩, ⟨(.some 9), .none, .false, (.mv (.tmp 2))⟩, ⟨(.some 10), .none, .false, (.mv (.tmp 2))⟩, ⟨(.some 11), .none, .false, (.nc (.tmp 8))⟩, ⟨(.some 12), .none, .false, (.fa 0 (.tmp 11))⟩, ⟨(.some 13), .none, .false, (.ixa 120 1 (.tmp 12) (.tmp 9))⟩, ⟨.none, .none, .false, (.sto 1 (.tmp 13) (.tmp 10))⟩]))) (.reg [⟨(.some 14), .none, .false, (.bin .add (.tmp 5) (.const (Go.Value.int Go.IntKind.i64 1)))⟩, ⟨(.some 5), .none, .false, (.mv (.tmp 14))⟩]))))))) (.seq (.reg [⟨(.some 15), .none, .false, (.mv (.tmp 1))⟩, ⟨(.some 0), .none, .false, (.mv (.tmp 15))⟩]) .ret))))
set_option maxRecDepth 100000 in
theorem S.ok192 : stripF Try.prog Try.f192 = some S.s192 := by kernel_rfl
set_option maxRecDepth 100000 in
def S.s193 : SC := (.seq (.reg [⟨(.some 6), .none, .false, (.mv (.const (Go.Value.bool false)))⟩]) (.seq (.reg [⟨(.some 11), .none, .true, (.mv (.tmp 0))⟩, ⟨(.some 12), .none, .true, (.mv (.tmp 1))⟩, ⟨(.some 13), .none, .true, (.nc (.tmp 11))⟩, ⟨(.some 14), .none, .true, (.fa 0 (.tmp 13))⟩, ⟨(.some 15), .none, .true, (.ixa 120 1 (.tmp 14) (.tmp 12))⟩, ⟨(.some 16), .none, .true, (.ld .false 1 (.tmp 15))⟩, ⟨(.some 17), .none, .true, (.mv (.tmp 0))⟩, ⟨(.some 18), .none, .true, (.mv (.tmp 2))⟩, ⟨(.some 19), .none, .true, (.nc (.tmp 17))⟩, ⟨(.some 20), .none, .true, (.fa 0 (.tmp 19))⟩, ⟨(.some 21), .none, .true, (.ixa 120 1 (.tmp 20) (.tmp 18))⟩, ⟨(.some 22), .none, .true, (.ld .false 1 (.tmp 21))⟩, ⟨(.some 7), .none, .true, (.mv (.tmp 16))⟩, ⟨(.some 8), .none, .true, (.mv (.tmp 22))⟩]) (.seq (.seq (.reg [⟨(.some 23), .none, .false, (.mv (.tmp 7))⟩, ⟨(.some 24), .none, .false, (.mv (.tmp 8))⟩, ⟨(.some 25), .none, .false, (.bin .eql (.tmp 23) (.tmp 24))⟩]) (.cond (.tmp 25) (.seq (.reg [⟨(.some 6), .none, .false, (.mv (.const (Go.Value.bool false)))⟩]) .ret) .skip)) (.seq (.seq (.reg [⟨(.some 26), .none, .false, (.mv (.tmp 0))⟩, ⟨(.some 27), .none, .false, (.nc (.tmp 26))⟩, ⟨(.some 28), .none, .false, (.fa 0 (.tmp 27))⟩, ⟨(.some 29), .none, .false, (.ld .true 120 (.tmp 28))⟩, ⟨(.some 30), .none, .false, (.mv (.const (Go.Value.int Go.IntKind.i64 0)))⟩]) (.block 0 (.loop (.seq (.reg [⟨(.some 31), .none, .false, (.bin .lss (.tmp 30) (.const (Go.Value.int Go.IntKind.i64 120)))⟩]) (.seq (.cond (.tmp 31) .skip (.exit 0)) (.seq (.block 1 (.seq (.reg [⟨(.some 32), .none, .false, (.mv (.tmp 30))⟩, ⟨(.some 33), .none, .false, (.raw (.index 312 (.tmp 29) (.tmp 30)) 2)⟩, ⟨(.some 9), .none, .false, (.mv (.tmp 32))⟩, ⟨(.some 10), .none, .false, (.mv (.tmp 33))⟩]) (.seq (.reg [⟨(.some 34), .none, .false, (.mv (.tmp 10))⟩, ⟨(.some 35), .none, .false, (.mv (.tmp 7))⟩, ⟨(.some 36), .none, .false, (.mv (.tmp 8))⟩, ⟨(.some 37), .none, .false, (.max (.tmp 35) (.tmp 36))⟩, ⟨(.some 38), .none, .false, (.bin .eql (.tmp 34) (.tmp 37))⟩]) (.cond (.tmp 38) (.reg [⟨(.some 39), .none, .false, (.mv (.tmp 0))⟩, ⟨(.some 40), .none, .false, (.mv (.tmp 9))⟩, ⟨(.some 41), .none, .false, (.mv (.tmp 7))⟩, ⟨(.some 42), .none, .false, (.mv (.tmp 8))⟩, ⟨(.some 43), .none, .false, (.min (.tmp 41) (.tmp 42))⟩, ⟨(.some 44), .none, .false, (.nc (.tmp 39))⟩, ⟨(.some 45), .none, .false, (.fa 0 (.tmp 44))⟩, ⟨(.some 46), .none, .false, (.ixa 120 1 (.tmp 45) (.tmp 40))⟩, ⟨.none, .none, .false, (.sto 1 (.tmp 46) (.tmp 43))⟩]) .skip)))) (.reg [⟨(.some 47), .none, .false, (.bin .add (.tmp 30) (.const (Go.Value.int Go.IntKind.i64 1)))⟩, ⟨(.some 30), .none, .false, (.mv (.tmp 47))⟩]))))))) (.seq (.reg [⟨(.some 6), .none, .false, (.mv (.const (Go.Value.bool true)))⟩]) .ret)))))
set_option maxRecDepth 100000 in
theorem S.ok193 : stripF Try.prog Try.f193 = some S.s193 := by kernel_rfl
set_option maxRecDepth 100000 in
def S.s194 : SC := (.seq (.reg [⟨(.some 3), .none, .false, (.box 274 (.tmp 0))⟩, ⟨(.some 4), .none, .false, (.box 258 (.tmp 1))⟩, ⟨(.some 5), .none, .false, (.box 258 (.tmp 2))⟩, ⟨(.some 6), .none, .false, (.mv (.const (Go.Value.bool false)))⟩]) (.seq (.reg [⟨(.some 8), .none, .false, (.fa 0 (.tmp 3))⟩, ⟨(.some 9), .none, .false, (.ld .false 1 (.tmp 8))⟩, ⟨(.some 10), .none, .false, (.fa 1 (.tmp 4))⟩, ⟨(.some 11), .none, .false, (.ld .false 1 (.tmp 10))⟩, ⟨(.some 12), .none, .false, (.fa 1 (.tmp 5))⟩, ⟨(.some 13), .none, .false, (.ld .false 1 (.tmp 12))⟩, ⟨(.some 14), .none, .false, (.call (.func 193) [(.tmp 9), (.tmp 11), (.tmp 13)])⟩, ⟨(.some 7), .none, .false, (.mv (.tmp 14))⟩]) (.seq (.reg [⟨(.some 15), .none, .false, (.fa 1 (.tmp 3))⟩, ⟨(.some 16), .none, .false, (.ld .false 1 (.tmp 15))⟩, ⟨(.some 17), .none, .false, (.fa 2 (.tmp 4))⟩, ⟨(.some 18), .none, .false, (.ld .false 1 (.tmp 17))⟩, ⟨(.some 19), .none, .false, (.fa 2 (.tmp 5))⟩, ⟨(.some 20), .none, .false, (.ld .false 1 (.tmp 19))⟩, ⟨(.some 21), .none, .false, (.call (.func 193) [(.tmp 16), (.tmp 18), (.tmp 20)])⟩, ⟨(.some 22), .none, .false, (.mv (.tmp 21))⟩, ⟨(.some 23), (.some (22, .false)), .false, (.mv (.tmp 7))⟩, ⟨(.some 24), .none, .false, (.pick (.tmp 22) (.const (Go.Value.bool true)) (.tmp 23))⟩, ⟨(.some 6), .none, .false, (.mv (.tmp 24))⟩]) .ret)))
set_option maxRecDepth 100000 in
theorem S.ok194 : stripF Try.prog Try.f194 = some S.s194 := by kernel_rfl
set_option maxRecDepth 100000 in
def S.s234 : SC := (.seq (.reg [⟨(.some 2), .none, .false, (.box 274 (.tmp 0))⟩, ⟨(.some 3), .none, .false, (.box 258 (.tmp 1))⟩, ⟨(.some 4), .none, .false, (.al 258 [(Go.Value.int Go.IntKind.i64 0), (Go.Value.int Go.IntKind.i64 0), (Go.Value.int Go.IntKind.i64 0), (Go.Value.int Go.IntKind.i64 0), (Go.Value.int Go.IntKind.i64 0)])⟩]) (.seq (.reg [⟨(.some 5), .none, .true, (.fa 0 (.tmp 3))⟩, ⟨(.some 6), .none, .true, (.ld .false 1 (.tmp 5))⟩, ⟨(.some 7), .none, .true, (.fa 0 (.tmp 2))⟩, ⟨(.some 8), .none, .true, (.ld .false 1 (.tmp 7))⟩, ⟨(.some 9), .none, .true, (.fa 1 (.tmp 3))⟩, ⟨(.some 10), .none, .true, (.ld .false 1 (.tmp 9))⟩, ⟨(.some 11), .none, .true, (.nc (.tmp 8))⟩, ⟨(.some 12), .none, .true, (.fa 0 (.tmp 11))⟩, ⟨(.some 13), .none, .true, (.ixa 120 1 (.tmp 12) (.tmp 10))⟩, ⟨(.some 14), .none, .true, (.ld .false 1 (.tmp 13))⟩, ⟨(.some 15), .none, .true, (.fa 1 (.tmp 2))⟩, ⟨(.some 16), .none, .true, (.ld .false 1 (.tmp 15))⟩, ⟨(.some 17), .none, .true, (.fa 2 (.tmp 3))⟩, ⟨(.some 18), .none, .true, (.ld .false 1 (.tmp 17))⟩, ⟨(.some 19), .none, .true, (.nc (.tmp 16))⟩, ⟨(.some 20), .none, .true, (.fa 0 (.tmp 19))⟩, ⟨(.some 21), .none, .true, (.ixa 120 1 (.tmp 20) (.tmp 18))⟩, ⟨(.some 22), .none, .true, (.ld .false 1 (.tmp 21))⟩, ⟨(.some 23), .none, .true, (.fa 0 (.tmp 2))⟩, ⟨(.some 24), .none, .true, (.ld .false 1 (.tmp 23))⟩, ⟨(.some 25), .none, .true, (.fa 3 (.tmp 3))⟩, ⟨(.some 26), .none, .true, (.ld .false 1 (.tmp 25))⟩, ⟨(.some 27), .none, .true, (.nc (.tmp 24))⟩, ⟨(.some 28), .none, .true, (.fa 0 (.tmp 27))⟩, ⟨(.some 29), .none, .true, (.ixa 120 1 (.tmp 28) (.tmp 26))⟩, ⟨(.some 30), .none, .true, (.ld .false 1 (.tmp 29))⟩, ⟨(.some 31), .none, .true, (.fa 1 (.tmp 2))⟩, ⟨(.some 32), .none, .true, (.ld .false 1 (.tmp 31))⟩, ⟨(.some 33), .none, .true, (.fa 4 (.tmp 3))⟩, ⟨(.some 34), .none, .true, (.ld .false 1 (.tmp 33))⟩, ⟨(.some 35), .none, .true, (.nc (.tmp 32))⟩, ⟨(.some 36), .none, .true, (.fa 0 (.tmp 35))⟩, ⟨(.some 37), .none, .true, (.ixa 120 1 (.tmp 36) (.tmp 34))⟩, ⟨(.some 38), .none, .true, (.ld .false 1 (.tmp 37))⟩, ⟨(.some 39), .none, .true, (.bld [(Go.Value.int Go.IntKind.i64 0), (Go.Value.int Go.IntKind.i64 0), (Go.Value.int Go.IntKind.i64 0), (Go.Value.int Go.IntKind.i64 0), (Go.Value.int Go.IntKind.i64 0)] [(0, 1), (1, 1), (2, 1), (3, 1), (4, 1)] [(0, (.tmp 6)), (1, (.tmp 14)), (2, (.tmp 22)), (3, (.tmp 30)), (4, (.tmp 38))])⟩, ⟨.none, .none, .false, (.sto 5 (.tmp 4) (.tmp 39))⟩]) .ret))
set_option maxRecDepth 100000 in
theorem S.ok234 : stripF Try.prog Try.f234 = some S.s234 := by kernel_rfl
set_option maxRecDepth 100000 in
def S.s235 : SC := (.seq (.reg [⟨(.some 4), .none, .false, (.mv (.const (Go.Value.slice none 0 0)))⟩]) (.seq (.reg [⟨(.some 5), .none, .false, (.mv (.const (Go.Value.slice none 0 0)))⟩]) (.seq (.seq (.reg [⟨(.some 8), .none, .false, (.mv (.tmp 1))⟩, ⟨(.some 9), .none, .false, (.len (.tmp 8))⟩, ⟨(.some 10), .none, .false, (.mv (.const (Go.Value.int Go.IntKind.i64 0)))⟩]) (.block 0 (.loop (.seq (.reg [⟨(.some 11), .none, .false, (.bin .lss (.tmp 10) (.tmp 9))⟩]) (.seq (.cond (.tmp 11) .skip (.exit 0)) (.seq (.block 1 (.seq (.reg [⟨(.some 12), .none, .false, (.ix (.mk 2 1) (.tmp 8) (.tmp 10))⟩, ⟨(.some 13), .none, .false, (.ld .false 1 (.tmp 12))⟩, ⟨(.some 7), .none, .false, (.mv (.tmp 13))⟩]) (.reg [⟨(.some 14), .none, .false, (.mv (.tmp 5))⟩, ⟨(.some 15), .none, .false, (.mv (.tmp 0))⟩, ⟨(.some 16), .none, .false, (.mv (.tmp 7))⟩, ⟨(.some 17), .none, .false, (.nc (.tmp 15))⟩, ⟨(.some 18), .none, .false, (.fa 0 (.tmp 17))⟩, ⟨(.some 19), .none, .false, (.ixa 120 1 (.tmp 18) (.tmp 16))⟩, ⟨(.some 20), .none, .false, (.ld .false 1 (.tmp 19))⟩, ⟨(.some 21), .none, .false, (.bsl (.mk 2 1) 1 [(0, (.tmp 20))])⟩, ⟨(.some 22), .none, .false, (.app (.mk 2 1) 8 (.tmp 14) (.tmp 21))⟩, ⟨(.some 5), .none, .false, (.mv (.tmp 22))⟩]))) (.reg [⟨(.some 23), .none, .false, (.bin .add (.tmp 10) (.const (Go.Value.int Go.IntKind.i64 1)))⟩, ⟨(.some 10), .none, .false, (.mv (.tmp 23))⟩]))))))) (.seq (.reg [⟨(.some 24), .none, .false, (.mv (.tmp 5))⟩, ⟨(.some 4), .none, .false, (.mv (.tmp 24))⟩]) .ret))))
set_option maxRecDepth 100000 in
theorem S.ok235 : stripF Try.prog Try.f235 = some S.s235 := by kernel_rfl
set_option maxRecDepth 20000
set_option maxHeartbeats 8000000
/-- One name for two: the greater goes. -/
def mg (x y k : Int) : Int := if k = max x y then min x y else k
theorem mg_le (x y k : Int) : mg x y k ≤ k := by unfold mg; split <;> omega
theorem mg_nn {x y k : Int} (hx : 0 ≤ x) (hy : 0 ≤ y) (hk : 0 ≤ k) : 0 ≤ mg x y k := by unfold mg; split <;> omega
theorem mg_same (x k : Int) : mg x x k = k := by unfold mg; split <;> omega
theorem mg_swap (x y k : Int) : mg x y k = mg y x k := by unfold mg; rw [Int.max_comm x y, Int.min_comm x y]
theorem mg_le2 {x y : Int} (h : x ≤ y) (k : Int) : mg x y k = if k = y then x else k := by unfold mg; rw [Int.max_eq_right h, Int.min_eq_left h]
theorem mg_eq (x y : Int) : mg x y x = mg x y y := by
  rcases Int.le_total x y with h | h
  · rw [mg_le2 h, mg_le2 h, if_pos rfl]
    by_cases e : x = y
    · rw [if_pos e]
    · rw [if_neg e]
  · rw [mg_swap, mg_swap x y y, mg_le2 h, mg_le2 h, if_pos rfl]
    by_cases e : y = x
    · rw [if_pos e]
    · rw [if_neg e]
theorem mg_sp {x y : Int} (h : x ≤ y) (k : Int) : (k = y ∧ mg x y k = x) ∨ (k < y ∧ mg x y k = k) ∨ (y < k ∧ mg x y k = k) := by
  rw [mg_le2 h]
  split <;> omega
theorem mg_sp2 (x y k : Int) : (x ≤ y ∧ ((k = y ∧ mg x y k = x) ∨ (k < y ∧ mg x y k = k) ∨ (y < k ∧ mg x y k = k))) ∨ (y < x ∧ ((k = x ∧ mg x y k = y) ∨ (k < x ∧ mg x y k = k) ∨ (x < k ∧ mg x y k = k))) := by
  rcases Int.lt_or_le y x with h | h
  · exact .inr ⟨h, by rw [mg_swap]; exact mg_sp (Int.le_of_lt h) k⟩
  · exact .inl ⟨h, mg_sp h k⟩
theorem mg_comm1 {x y u v : Int} (h1 : x ≤ y) (h2 : u ≤ v) (k : Int) : mg (mg x y u) (mg x y v) (mg x y k) = mg (mg u v x) (mg u v y) (mg u v k) := by
  have a1 := mg_sp h1 u
  have a2 := mg_sp h1 v
  have a3 := mg_sp h1 k
  have a4 := mg_sp h2 x
  have a5 := mg_sp h2 y
  have a6 := mg_sp h2 k
  have a7 := mg_sp2 (mg x y u) (mg x y v) (mg x y k)
  have a8 := mg_sp2 (mg u v x) (mg u v y) (mg u v k)
  generalize mg x y u = b1 at *
  generalize mg x y v = b2 at *
  generalize mg x y k = b3 at *
  generalize mg u v x = b4 at *
  generalize mg u v y = b5 at *
  generalize mg u v k = b6 at *
  generalize mg b1 b2 b3 = b7 at *
  generalize mg b4 b5 b6 = b8 at *
  rcases a1 with ⟨c1, rfl⟩ | ⟨c1, rfl⟩ | ⟨c1, rfl⟩ <;> rcases a2 with ⟨c2, rfl⟩ | ⟨c2, rfl⟩ | ⟨c2, rfl⟩ <;> first | (exfalso; omega) | skip
  all_goals rcases a4 with ⟨c4, rfl⟩ | ⟨c4, rfl⟩ | ⟨c4, rfl⟩ <;> rcases a5 with ⟨c5, rfl⟩ | ⟨c5, rfl⟩ | ⟨c5, rfl⟩ <;> first | (exfalso; omega) | skip
  all_goals rcases a3 with ⟨c3, rfl⟩ | ⟨c3, rfl⟩ | ⟨c3, rfl⟩ <;> first | (exfalso; omega) | skip
  all_goals rcases a6 with ⟨c6, rfl⟩ | ⟨c6, rfl⟩ | ⟨c6, rfl⟩ <;> omega
theorem mg_comm (x y u v k : Int) : mg (mg x y u) (mg x y v) (mg x y k) = mg (mg u v x) (mg u v y) (mg u v k) := by
  rcases Int.le_total x y with h1 | h1 <;> rcases Int.le_total u v with h2 | h2
  · exact mg_comm1 h1 h2 k
  · have := mg_comm1 h1 h2 k
    rw [mg_swap v u x, mg_swap v u y, mg_swap v u k, mg_swap (mg x y v)] at this
    exact this
  · have := mg_comm1 h1 h2 k
    rw [mg_swap y x u, mg_swap y x v, mg_swap y x k, mg_swap (mg u v y)] at this
    exact this
  · have := mg_comm1 h1 h2 k
    rw [mg_swap y x u, mg_swap y x v, mg_swap y x k, mg_swap v u x, mg_swap v u y, mg_swap v u k, mg_swap (mg x y v), mg_swap (mg u v y)] at this
    exact this
/-- The name of a number. -/
def nm (l : List Int) (a : Int) : Int := l.getD a.toNat 0
def inN (l : List Int) (a : Int) : Prop := a.toNat < l.length
theorem nm_get {l : List Int} {a : Int} (h : inN l a) : l[a.toNat]? = some (nm l a) := by
  unfold nm inN at *
  rw [List.getD, List.getElem?_eq_getElem h]; rfl
theorem nm_map {l : List Int} {f : Int → Int} {a : Int} (h : inN l a) : nm (l.map f) a = f (nm l a) := by
  conv => lhs; unfold nm
  rw [List.getD, List.getElem?_map, nm_get h]
  rfl
def jn (l : List Int) (a b : Int) : List Int := l.map (mg (nm l a) (nm l b))
theorem jn_len (l : List Int) (a b : Int) : (jn l a b).length = l.length := by unfold jn; simp
theorem jn_same {l : List Int} {a b : Int} (h : nm l a = nm l b) : jn l a b = l := by
  unfold jn
  rw [h, show mg (nm l b) (nm l b) = id from funext fun k => mg_same _ k, List.map_id]
theorem jn_eq {l : List Int} {a b : Int} (ha : inN l a) (hb : inN l b) : nm (jn l a b) a = nm (jn l a b) b := by
  unfold jn
  rw [nm_map ha, nm_map hb, mg_eq]
theorem jn_comm {l : List Int} {a b c d : Int} (ha : inN l a) (hb : inN l b) (hc : inN l c) (hd : inN l d) : jn (jn l a b) c d = jn (jn l c d) a b := by
  unfold jn
  rw [nm_map ha, nm_map hb, nm_map hc, nm_map hd, List.map_map, List.map_map]
  exact List.map_congr_left fun k _ => mg_comm _ _ _ _ k
def nnL (l : List Int) : Prop := ∀ k ∈ l, 0 ≤ k
theorem nm_nn {l : List Int} (h : nnL l) (a : Int) : 0 ≤ nm l a := by
  unfold nm
  rw [List.getD]
  cases hx : l[a.toNat]? with
  | none => exact Int.le_refl 0
  | some x => exact h x (List.mem_of_getElem? hx)
theorem jn_nn {l : List Int} (h : nnL l) (a b : Int) : nnL (jn l a b) := fun k hk => by
  obtain ⟨x, hx, rfl⟩ := List.mem_map.1 hk
  exact mg_nn (nm_nn h a) (nm_nn h b) (h x hx)
/-- How much there is to lose. -/
def mu (l : List Int) : Nat := (l.map Int.toNat).sum
theorem mu_map {f : Int → Int} (hf : ∀ k, f k ≤ k) : ∀ l : List Int, mu (l.map f) ≤ mu l
  | [] => Nat.le_refl _
  | k :: l => by
    have h1 := mu_map hf l
    have h2 := hf k
    unfold mu at h1 ⊢
    simp only [List.map_cons, List.sum_cons]
    omega
theorem mu_map_lt {f : Int → Int} (hf : ∀ k, f k ≤ k) (hn : ∀ k, 0 ≤ k → 0 ≤ f k) : ∀ {l : List Int}, nnL l → l.map f ≠ l → mu (l.map f) < mu l
  | [], _, h => absurd rfl h
  | k :: l, hl, h => by
    have h1 := mu_map hf l
    have h2 := hf k
    have h3 := hl k (by simp)
    have h4 := hn k h3
    by_cases hk : f k = k
    · have h5 : l.map f ≠ l := fun e => h (by rw [List.map_cons, hk, e])
      have h6 := mu_map_lt hf hn (fun x hx => hl x (by simp [hx])) h5
      unfold mu at h6 ⊢
      simp only [List.map_cons, List.sum_cons]
      omega
    · unfold mu at h1 ⊢
      simp only [List.map_cons, List.sum_cons]
      omega
abbrev S2 := List Int × List Int
def nnS (s : S2) : Prop := nnL s.1 ∧ nnL s.2
def inS (s : S2) (p : TPiece) : Prop := inN s.1 p.fNorth ∧ inN s.2 p.fEast ∧ inN s.1 p.fSouth ∧ inN s.2 p.fWest
def muS (s : S2) : Nat := mu s.1 + mu s.2
def outl (s : S2) (p q : TPiece) : S2 := (jn s.1 p.fNorth q.fNorth, jn s.2 p.fEast q.fEast)
def keq (s : S2) (p q : TPiece) : Prop := nm s.1 p.fSouth = nm s.1 q.fSouth ∧ nm s.2 p.fWest = nm s.2 q.fWest
instance (s : S2) (p q : TPiece) : Decidable (keq s p q) := inferInstanceAs (Decidable (_ ∧ _))
def stepM (s : S2) (p q : TPiece) : S2 := if keq s p q then outl s p q else s
def rowM (s : S2) (p : TPiece) (qs : List TPiece) : S2 := qs.foldl (fun s q => stepM s p q) s
def passM (ps : List TPiece) (s : S2) : Nat → S2
  | 0 => s
  | i + 1 => match ps[i]? with
    | some p => rowM (passM ps s i) p (ps.take i)
    | none => passM ps s i
/-- What comes later is told by what was there. -/
structure Lat (s s' : S2) : Prop where
  a : ∃ f : Int → Int, s'.1 = s.1.map f
  b : ∃ f : Int → Int, s'.2 = s.2.map f
  m : muS s' ≤ muS s
  n : nnS s → nnS s'
  l : nnS s → s' ≠ s → muS s' < muS s
  u : ∀ c : Int, (∀ k ∈ s.1, k ≤ c) ∧ (∀ k ∈ s.2, k ≤ c) → (∀ k ∈ s'.1, k ≤ c) ∧ (∀ k ∈ s'.2, k ≤ c)
theorem Lat.refl (s : S2) : Lat s s := ⟨⟨id, by simp⟩, ⟨id, by simp⟩, Nat.le_refl _, fun h => h, fun _ h => absurd rfl h, fun _ h => h⟩
theorem Lat.trans {s s' s'' : S2} (h : Lat s s') (k : Lat s' s'') : Lat s s'' := by
  obtain ⟨f, hf⟩ := h.a
  obtain ⟨g, hg⟩ := k.a
  obtain ⟨f', hf'⟩ := h.b
  obtain ⟨g', hg'⟩ := k.b
  refine ⟨⟨g ∘ f, by rw [hg, hf, List.map_map]⟩, ⟨g' ∘ f', by rw [hg', hf', List.map_map]⟩, Nat.le_trans k.m h.m, fun hn => k.n (h.n hn), fun hn hne => ?_, fun c hc => k.u c (h.u c hc)⟩
  by_cases he : s' = s
  · subst he; exact k.l hn hne
  · exact Nat.lt_of_le_of_lt k.m (h.l hn he)
theorem Lat.keq {s s' : S2} {p q : TPiece} (h : Lat s s') (hp : inS s p) (hq : inS s q) (hk : keq s p q) : keq s' p q := by
  obtain ⟨f, hf⟩ := h.a
  obtain ⟨g, hg⟩ := h.b
  unfold Go.Proofs.Ytnkfbodolbfjpaa.keq at *
  rw [hf, hg, nm_map hp.2.2.1, nm_map hq.2.2.1, nm_map hp.2.2.2, nm_map hq.2.2.2, hk.1, hk.2]
  exact ⟨rfl, rfl⟩
theorem Lat.inS {s s' : S2} {p : TPiece} (h : Lat s s') (hp : inS s p) : inS s' p := by
  obtain ⟨f, hf⟩ := h.a
  obtain ⟨g, hg⟩ := h.b
  unfold Go.Proofs.Ytnkfbodolbfjpaa.inS inN at *
  rw [hf, hg]
  simpa using hp
theorem Lat.jn1 (l r : List Int) (a b : Int) : Lat (l, r) (jn l a b, r) := by
  refine ⟨⟨_, rfl⟩, ⟨id, by simp⟩, ?_, fun h => ⟨jn_nn h.1 a b, h.2⟩, fun h hne => ?_, fun c hc => ⟨fun k hk => ?_, hc.2⟩⟩
  · have := mu_map (mg_le (nm l a) (nm l b)) l
    show mu (jn l a b) + mu r ≤ mu l + mu r
    unfold jn
    omega
  · have h1 : jn l a b ≠ l := fun e => hne (by rw [e])
    have := mu_map_lt (mg_le (nm l a) (nm l b)) (fun k hk => mg_nn (nm_nn h.1 a) (nm_nn h.1 b) hk) h.1 h1
    replace this : mu (jn l a b) < mu l := this
    show mu (jn l a b) + mu r < mu l + mu r
    omega
  · obtain ⟨x, hx, rfl⟩ := List.mem_map.1 hk
    exact Int.le_trans (mg_le _ _ x) (hc.1 x hx)
theorem Lat.jn2 (l r : List Int) (a b : Int) : Lat (l, r) (l, jn r a b) := by
  refine ⟨⟨id, by simp⟩, ⟨_, rfl⟩, ?_, fun h => ⟨h.1, jn_nn h.2 a b⟩, fun h hne => ?_, fun c hc => ⟨hc.1, fun k hk => ?_⟩⟩
  · have := mu_map (mg_le (nm r a) (nm r b)) r
    show mu l + mu (jn r a b) ≤ mu l + mu r
    unfold jn
    omega
  · have h1 : jn r a b ≠ r := fun e => hne (by rw [e])
    have := mu_map_lt (mg_le (nm r a) (nm r b)) (fun k hk => mg_nn (nm_nn h.2 a) (nm_nn h.2 b) hk) h.2 h1
    replace this : mu (jn r a b) < mu r := this
    show mu l + mu (jn r a b) < mu l + mu r
    omega
  · obtain ⟨x, hx, rfl⟩ := List.mem_map.1 hk
    exact Int.le_trans (mg_le _ _ x) (hc.2 x hx)
theorem Lat.outl (s : S2) (p q : TPiece) : Lat s (outl s p q) := (Lat.jn1 s.1 s.2 p.fNorth q.fNorth).trans (Lat.jn2 (jn s.1 p.fNorth q.fNorth) s.2 p.fEast q.fEast)
theorem Lat.step (s : S2) (p q : TPiece) : Lat s (stepM s p q) := by
  unfold stepM
  split
  · exact Lat.outl s p q
  · exact Lat.refl s
theorem Lat.row (p : TPiece) : ∀ (qs : List TPiece) (s : S2), Lat s (rowM s p qs)
  | [], s => Lat.refl s
  | q :: qs, s => (Lat.step s p q).trans (Lat.row p qs (stepM s p q))
theorem Lat.pass (ps : List TPiece) (s : S2) : ∀ i : Nat, Lat s (passM ps s i)
  | 0 => Lat.refl s
  | i + 1 => by
    unfold passM
    split
    · exact (Lat.pass ps s i).trans (Lat.row _ _ _)
    · exact Lat.pass ps s i
theorem rowM_snoc {s : S2} {p q : TPiece} {qs : List TPiece} {k : Nat} (h : qs[k]? = some q) : rowM s p (qs.take (k + 1)) = stepM (rowM s p (qs.take k)) p q := by
  unfold rowM
  rw [take_snoc h, List.foldl_append]
  rfl
theorem passM_succ {ps : List TPiece} {s : S2} {i : Nat} {p : TPiece} (h : ps[i]? = some p) : passM ps s (i + 1) = rowM (passM ps s i) p (ps.take i) := by
  show (match ps[i]? with | some p => _ | none => _) = _
  rw [h]
def fin (ps : List TPiece) (s : S2) : S2 := if muS (passM ps s ps.length) < muS s then fin ps (passM ps s ps.length) else s
termination_by muS s
theorem fin_step {ps : List TPiece} {s : S2} (h : nnS s) : fin ps (passM ps s ps.length) = fin ps s := by
  by_cases hm : muS (passM ps s ps.length) < muS s
  · rw [fin.eq_def ps s, if_pos hm]
  · have : passM ps s ps.length = s := Classical.byContradiction fun hne => hm ((Lat.pass ps s ps.length).l h hne)
    rw [this]
theorem fin_done {ps : List TPiece} {s : S2} (h : passM ps s ps.length = s) : fin ps s = s := by
  rw [fin.eq_def, h, if_neg (by omega)]
theorem Lat.fin (ps : List TPiece) (s : S2) : Lat s (fin ps s) := by
  rw [fin.eq_def]
  split
  · exact (Lat.pass ps s ps.length).trans (Lat.fin ps _)
  · exact Lat.refl s
termination_by muS s
theorem fin_fix {ps : List TPiece} {s : S2} (h : nnS s) : passM ps (fin ps s) ps.length = fin ps s := by
  rw [fin.eq_def]
  split
  · exact fin_fix ((Lat.pass ps s ps.length).n h)
  · rename_i hm
    exact Classical.byContradiction fun hne => hm ((Lat.pass ps s ps.length).l h hne)
termination_by muS s
/-- Two pieces that meet alike and are of two colours. -/
def clash (ps : List TPiece) (s : S2) : Prop := ∃ p ∈ ps, ∃ q ∈ ps, keq s p q ∧ p.fColor ≠ q.fColor
def pcM (s : S2) (p : TPiece) : TPiece := ⟨p.fColor, nm s.1 p.fNorth, nm s.2 p.fEast, nm s.1 p.fSouth, nm s.2 p.fWest⟩
def sk (p q : TPiece) : Prop := p.fSouth = q.fSouth ∧ p.fWest = q.fWest
theorem sk.trans {p q r : TPiece} (h : sk p q) (k : sk q r) : sk p r := ⟨h.1.trans k.1, h.2.trans k.2⟩
theorem sk.symm {p q : TPiece} (h : sk p q) : sk q p := ⟨h.1.symm, h.2.symm⟩
def has2 (out : List TPiece) (p : TPiece) : Prop := ∃ q ∈ out, sk q p
open Classical in
noncomputable def addP (out : List TPiece) (p : TPiece) : List TPiece := if has2 out p then out else out ++ [p]
noncomputable def dedP (ps : List TPiece) : List TPiece := ps.foldl addP []
theorem dedP_snoc {ps : List TPiece} {i : Nat} {p : TPiece} (h : ps[i]? = some p) : dedP (ps.take (i + 1)) = addP (dedP (ps.take i)) p := by
  unfold dedP
  rw [take_snoc h, List.foldl_append]
  rfl
theorem addP_old {out : List TPiece} {p : TPiece} (h : has2 out p) : addP out p = out := if_pos h
theorem addP_new {out : List TPiece} {p : TPiece} (h : ¬ has2 out p) : addP out p = out ++ [p] := if_neg h
theorem addP_has {out : List TPiece} {p q : TPiece} (h : has2 out q ∨ p = q) : has2 (addP out p) q := by
  by_cases hp : has2 out p
  · rw [addP_old hp]
    rcases h with h | rfl
    · exact h
    · exact hp
  · rw [addP_new hp]
    rcases h with ⟨r, hr, hk⟩ | rfl
    · exact ⟨r, by simp [hr], hk⟩
    · exact ⟨p, by simp, rfl, rfl⟩
theorem foldP_has : ∀ {l out : List TPiece} {q : TPiece}, has2 out q ∨ q ∈ l → has2 (l.foldl addP out) q
  | [], out, q, h => h.elim id fun h => by cases h
  | p :: l, out, q, h => by
    refine foldP_has (l := l) (out := addP out p) ?_
    rcases h with h | h
    · exact .inl (addP_has (.inl h))
    · rcases List.mem_cons.1 h with rfl | h
      · exact .inl (addP_has (.inr rfl))
      · exact .inr h
theorem dedP_has {l : List TPiece} {q : TPiece} (h : q ∈ l) : has2 (dedP l) q := foldP_has (.inr h)
theorem foldP_mem : ∀ {l out : List TPiece} {q : TPiece}, q ∈ l.foldl addP out → q ∈ out ∨ q ∈ l
  | [], out, q, h => .inl h
  | p :: l, out, q, h => by
    rcases foldP_mem (l := l) (out := addP out p) h with h | h
    · by_cases hp : has2 out p
      · rw [addP_old hp] at h; exact .inl h
      · rw [addP_new hp] at h
        rcases List.mem_append.1 h with h | h
        · exact .inl h
        · exact .inr (by simp [List.mem_singleton.1 h])
    · exact .inr (by simp [h])
theorem dedP_mem {l : List TPiece} {q : TPiece} (h : q ∈ dedP l) : q ∈ l := (foldP_mem h).elim (fun h => by cases h) id
theorem dedP_len {l : List TPiece} : (dedP l).length ≤ l.length := by
  have : ∀ (l out : List TPiece), (l.foldl addP out).length ≤ out.length + l.length := by
    intro l
    induction l with
    | nil => intro out; simp
    | cons p l ih =>
      intro out
      have := ih (addP out p)
      have h2 : (addP out p).length ≤ out.length + 1 := by unfold addP; split <;> simp
      simp only [List.foldl_cons, List.length_cons]
      omega
  have := this l []
  rw [List.length_nil, Nat.zero_add] at this
  exact this
/-- So far no two that meet alike are of two colours. -/
def nocl (l : List TPiece) (i : Nat) : Prop := ∀ p ∈ l.take i, ∀ q ∈ dedP (l.take i), sk q p → q.fColor = p.fColor
theorem nocl_snoc {l : List TPiece} {i : Nat} {p : TPiece} (h : nocl l i) (hp : l[i]? = some p) (hc : ∀ q ∈ dedP (l.take i), sk q p → q.fColor = p.fColor) : nocl l (i + 1) := by
  unfold nocl
  rw [dedP_snoc hp, take_snoc hp]
  intro p' hp' q hq hk
  have hq2 : q ∈ dedP (l.take i) ∨ (q = p ∧ ¬ has2 (dedP (l.take i)) p) := by
    by_cases hh : has2 (dedP (l.take i)) p
    · rw [addP_old hh] at hq; exact .inl hq
    · rw [addP_new hh] at hq
      rcases List.mem_append.1 hq with hq | hq
      · exact .inl hq
      · exact .inr ⟨List.mem_singleton.1 hq, hh⟩
  rcases List.mem_append.1 hp' with hp2 | hp2
  · rcases hq2 with hq | ⟨hqp, hn⟩
    · exact h p' hp2 q hq hk
    · obtain ⟨r, hr, hrk⟩ := dedP_has (l := l.take i) hp2
      rw [hqp] at hk
      exact absurd ⟨r, hr, hrk.trans hk.symm⟩ hn
  · obtain rfl := List.mem_singleton.1 hp2
    rcases hq2 with hq | ⟨rfl, _⟩
    · exact hc q hq hk
    · rfl
theorem pcM_sk {s : S2} {p q : TPiece} : sk (pcM s p) (pcM s q) ↔ keq s p q := Iff.rfl
theorem clash_of {ps : List TPiece} {s : S2} {p q : TPiece} (hp : p ∈ ps) (hq : q ∈ (ps.map (pcM s))) (hk : sk q (pcM s p)) (hc : q.fColor ≠ p.fColor) : clash ps s := by
  obtain ⟨q0, hq0, rfl⟩ := List.mem_map.1 hq
  exact ⟨q0, hq0, p, hp, pcM_sk.1 hk, hc⟩
theorem not_clash {ps : List TPiece} {s : S2} (h : nocl (ps.map (pcM s)) ps.length) : ¬ clash ps s := by
  rintro ⟨p, hp, q, hq, hk, hc⟩
  have hl : (ps.map (pcM s)).take ps.length = ps.map (pcM s) := List.take_of_length_le (by simp)
  unfold nocl at h
  rw [hl] at h
  have hp' : pcM s p ∈ ps.map (pcM s) := List.mem_map.2 ⟨p, hp, rfl⟩
  have hq' : pcM s q ∈ ps.map (pcM s) := List.mem_map.2 ⟨q, hq, rfl⟩
  obtain ⟨r, hr, hrk⟩ := dedP_has hp'
  have h1 := h _ hp' r hr hrk
  have h2 := h _ hq' r hr (hrk.trans (pcM_sk.2 hk))
  exact hc (h1.symm.trans h2)
/-- Where two that meet alike are of two colours on the way, they are so at the end. -/
theorem clash_fin {ps : List TPiece} {s s' : S2} {p q : TPiece} (hl : Lat s' (fin ps s)) (hp : p ∈ ps) (hq : q ∈ ps) (ip : inS s' p) (iq : inS s' q) (hk : keq s' p q) (hc : p.fColor ≠ q.fColor) : clash ps (fin ps s) :=
  ⟨p, hp, q, hq, hl.keq ip iq hk, hc⟩
noncomputable def outM (d : TDesign) (s : S2) : TDesign := ⟨d.fBottom.map (nm s.1), d.fLeft.map (nm s.2), dedP (d.fPieces.map (pcM s))⟩
def ids : List Int := (List.range 120).map fun (n : Nat) => (n : Int)
def s0M (p q : TPiece) : S2 := (jn (jn ids p.fSouth q.fSouth) p.fNorth q.fNorth, jn (jn ids p.fWest q.fWest) p.fEast q.fEast)
open Classical in
noncomputable def fMrg (d : TDesign) (p q : TPiece) : TDesign × Bool := if clash d.fPieces (fin d.fPieces (s0M p q)) then (⟨[], [], []⟩, false) else (outM d (fin d.fPieces (s0M p q)), true)
abbrev dI (n : Int) : B := .d (iD n)
theorem vAll_id {α : Type} {f : α → Option α} : ∀ {l : List α}, (∀ x ∈ l, f x = some x) → vAll f l = some l
  | [], _ => rfl
  | x :: l, h => by
    unfold vAll
    rw [h x (by simp), vAll_id fun y hy => h y (by simp [hy])]
theorem vAll_map {α β γ : Type} {f : β → Option γ} {g : α → β} {h : α → γ} (hf : ∀ x, f (g x) = some (h x)) : ∀ {l : List α}, vAll f (l.map g) = some (l.map h)
  | [] => rfl
  | x :: l => by
    rw [List.map_cons]
    unfold vAll
    rw [hf x, vAll_map hf]
    rfl
theorem ren_dI (σ : Nat → Nat) (l : List Int) : (l.map dI).map (B.ren σ) = l.map dI := by rw [List.map_map]; rfl
theorem cOb_dI {hob : Nat → Option Ob} {ρ : List (Nat × Nat)} {T : TypeId} {l : List Int} : cOb hob ρ (.box T (l.map dI)) = some (.box T (l.map dI)) := by
  show (vAll (cB hob ρ) (l.map dI)).map (Ob.box T) = _
  rw [vAll_map (f := cB hob ρ) (g := dI) (h := dI) fun _ => rfl]
  rfl
theorem okO_nil {K : List Nat} : ([] : List (Nat × Ob)).all (fun p => p.2.inK K) = true := rfl
theorem all_dI (K : List Nat) (l : List Int) : (l.map dI).all (B.inK K) = true := by
  rw [List.all_map]
  exact List.all_eq_true.2 fun _ _ => rfl
/-- What is kept, object by object. -/
theorem okO_num {n T : Nat} {l : List Int} {L : List (Nat × Ob)} {K : List Nat} (h : L.all (fun p => p.2.inK K) = true) : ((n, Ob.box T (l.map dI)) :: L).all (fun p => p.2.inK K) = true := by
  rw [List.all_cons, h, Bool.and_true]
  exact all_dI K l
theorem okO_any {n : Nat} {x : Ob} {L : List (Nat × Ob)} {K : List Nat} (hx : x.inK K = true) (h : L.all (fun p => p.2.inK K) = true) : ((n, x) :: L).all (fun p => p.2.inK K) = true := by
  rw [List.all_cons, h, Bool.and_true]
  exact hx
theorem okA_num {n : Nat} {l : List Int} {L : List (Nat × AV)} {K : List Nat} (h : L.all (fun p => p.2.inK K) = true) : ((n, AV.v (.agg (l.map dI))) :: L).all (fun p => p.2.inK K) = true := by
  rw [List.all_cons, h, Bool.and_true]
  exact all_dI K l
theorem okA_any {n : Nat} {x : AV} {L : List (Nat × AV)} {K : List Nat} (hx : x.inK K = true) (h : L.all (fun p => p.2.inK K) = true) : ((n, x) :: L).all (fun p => p.2.inK K) = true := by
  rw [List.all_cons, h, Bool.and_true]
  exact hx
section
variable {P : Program} {Q : Exit → St → Prop} {ks : List Fr} {e : Nat → AV} {o : Nat → Option Ob} {d : Nat} {fr : Bool} {x y z : Operand} {rest : List SR}
/-- A pointer into an array of numbers. -/
theorem R.ixaL {len p : Nat} {k' : IntKind} {n : Int} (h : ev e x = .v (.c (.ptr p 0))) (h1 : ev e y = pvA (.int k' n)) (h0 : 0 ≤ n ∧ n < len) (k : WL P rest ks Q ⟨upd e d (.v (.c (.ptr p n.toNat))), o⟩) : WL P (⟨some d, none, fr, .ixa len 1 x y⟩ :: rest) ks Q ⟨e, o⟩ :=
  R.ixa h h1 h0 rfl (by show some (B.ptr p (0 + n.toNat * 1)) = _; rw [Nat.zero_add, Nat.mul_one]) k
theorem R.ldL {l : List Int} {p T i s' : Nat} (a : Int) (ha : l[i]? = some a) (h : ev e x = .v (.c (.ptr p i))) (ho : o p = some (.box T (l.map dI))) (k : WL P rest ks Q ⟨upd e d (pvA (.int .i64 a)), o⟩) : WL P (⟨some d, none, fr, .ld false s' x⟩ :: rest) ks Q ⟨e, o⟩ :=
  R.ld (cs := (l.map dI).drop i) (c := dI a) h (by simp [cellsAt, ho]) (by rw [List.getElem?_drop, Nat.add_zero, List.getElem?_map, ha]; rfl) k
theorem R.ldaL {l : List Int} {p T n : Nat} (hl : l.length = n) (h : ev e x = .v (.c (.ptr p 0))) (ho : o p = some (.box T (l.map dI))) (k : WL P rest ks Q ⟨upd e d (.v (.agg (l.map dI))), o⟩) : WL P (⟨some d, none, fr, .ld true n x⟩ :: rest) ks Q ⟨e, o⟩ :=
  R.lda (cs := l.map dI) (cs' := l.map dI) h (by simp [cellsAt, ho]) (by simp [hl]) (by rw [List.take_of_length_le (by simp [hl])]) k
theorem splice_set {l : List Int} {i : Nat} {v : Int} (hi : i < l.length) : splice (l.map dI) i [dI v] = (l.set i v).map dI := by
  rw [List.map_set, List.set_eq_take_append_cons_drop, if_pos (by simpa using hi)]
  simp [splice]
theorem R.stoL {l : List Int} {p i T : Nat} {v : Int} (h : ev e x = .v (.c (.ptr p i))) (h1 : ev e y = pvA (.int .i64 v)) (h2 : o p = some (.box T (l.map dI))) (hi : i < l.length) (k : WL P rest ks Q ⟨e, upd o p (some (.box T ((l.set i v).map dI)))⟩) : WL P (⟨none, none, false, .sto 1 x y⟩ :: rest) ks Q ⟨e, o⟩ :=
  R.stoB (cs := [dI v]) h h1 h2 rfl ⟨rfl, rfl, by simp; omega⟩ (splice_set hi) k
/-- An element of an array that is a value. -/
theorem R.ixV {l : List Int} {T et ty n i : Nat} {k' : IntKind} (a : Int) (ha : l[i]? = some a) (hT : P.underlying T = some (.array n et)) (hz : tyInfo P et = some (false, 1)) (hn : l.length = n) (h : ev e x = .v (.agg (l.map dI))) (h1 : ev e y = pvA (.int k' (i : Int))) (k : WL P rest ks Q ⟨upd e d (pvA (.int .i64 a)), o⟩) : WL P (⟨some d, none, fr, .raw (.index T x y) ty⟩ :: rest) ks Q ⟨e, o⟩ :=
  R.raw (fun q hop _ => OpS.value fun ac w R ι φ hob hxs => by
    have h2 := hxs x (by simp [hop, Op.operands])
    rw [h] at h2
    obtain ⟨vs, e1, e2⟩ := h2
    have h3 := hxs y (by simp [hop, Op.operands])
    rw [h1] at h3
    have e3 := (RA.pv h3).1
    have hi := (List.getElem?_eq_some_iff.1 ha).1
    obtain ⟨v, hv, hr⟩ := e2.get (i := i) (b := dI a) (by rw [List.getElem?_map, ha]; rfl)
    have hr : RD w R v (iD a) := hr
    have hok : okI (.int .i64 a) := by cases hr; assumption
    have hva : v = .int .i64 a := by cases hr; rfl
    subst hva
    refine ⟨.int .i64 a, ?_, RA.of_pv rfl hok⟩
    obtain ⟨q1, q2⟩ := run_tyInfo (w := w) hz
    unfold execOp
    rw [hop]
    simp only [e1, e3, Instr.index, asIntOf, Sem.run_bind, Sem.run_pure, Result.andThen_ok, run_underlying hT]
    rw [if_pos ⟨by omega, by omega⟩]
    simp [part, q1, q2, hv]) k
/-- What is handed over: boxes of numbers. -/
theorem R.callP1 {p i T : Nat} {l l' : List Int} {dst : Option Nat} {g : FuncId} {f : Operand} {xs : List Operand} {args : List V1} {v : Value} (h1 : ev e f = .v (.c (.d (.fn g [])))) (hc : SpecM P g args [(i, .box T (l.map dI))] (.v (.c (.d (.pv v)))) [(i, .box T (l'.map dI))]) (h2 : argsC (hobOf false [(p, i)] o) [(p, i)] e xs = some args) (h4 : o p = some (.box T (l.map dI))) (hi : Nat.ble pinN i = true)
    (k : WL P rest ks Q (putD ⟨e, upd o p (some (.box T (l'.map dI)))⟩ dst (pvA v))) : WL P (⟨dst, none, false, .call f xs⟩ :: rest) ks Q ⟨e, o⟩ := by
  refine R.callX (bor := false) [(p, i)] h1 hc h2 (by simp) ?_ ?_ rfl ?_
  · simp only [insC, h4, Option.bind_some, cOb_dI]
  · simp [nodupB, outsOk, look2, hi]
  · have e1 : stAfter ⟨e, o⟩ [(p, i)] (callId (dst.getD 0)) [(i, .box T (l'.map dI))] = ⟨e, upd o p (some (.box T (l'.map dI)))⟩ := by
      simp [stAfter, deadL, hasKey, St.kill, putOuts, sg, look2, Ob.ren]
      rfl
    rw [e1]
    exact k
theorem R.callP2 {p q i j T T' : Nat} {l l' r r' : List Int} {dst : Option Nat} {g : FuncId} {f : Operand} {xs : List Operand} {args : List V1} {v : Value} (h1 : ev e f = .v (.c (.d (.fn g [])))) (hc : SpecM P g args [(i, .box T (l.map dI)), (j, .box T' (r.map dI))] (.v (.c (.d (.pv v)))) [(i, .box T (l'.map dI)), (j, .box T' (r'.map dI))]) (h2 : argsC (hobOf false [(p, i), (q, j)] o) [(p, i), (q, j)] e xs = some args) (h4 : o p = some (.box T (l.map dI))) (h5 : o q = some (.box T' (r.map dI)))
    (hi : (Nat.ble pinN i && Nat.ble pinN j && !(Nat.beq i j) && !(Nat.beq p q)) = true) (k : WL P rest ks Q (putD ⟨e, upd (upd o q (some (.box T' (r'.map dI)))) p (some (.box T (l'.map dI)))⟩ dst (pvA v))) : WL P (⟨dst, none, false, .call f xs⟩ :: rest) ks Q ⟨e, o⟩ := by
  simp only [Bool.and_eq_true, Bool.not_eq_true'] at hi
  obtain ⟨⟨⟨q1, q2⟩, q3⟩, q4⟩ := hi
  have q3 : i ≠ j := fun h => by subst h; simp at q3
  have q4 : p ≠ q := fun h => by subst h; simp at q4
  refine R.callX (bor := false) [(p, i), (q, j)] h1 hc h2 (by simp) ?_ ?_ rfl ?_
  · simp only [insC, h4, h5, Option.bind_some, cOb_dI]
  · simp [nodupB, outsOk, look2, q1, q2, q3, q4, Ne.symm q3]
  · have e1 : stAfter ⟨e, o⟩ [(p, i), (q, j)] (callId (dst.getD 0)) [(i, .box T (l'.map dI)), (j, .box T' (r'.map dI))] = ⟨e, upd (upd o q (some (.box T' (r'.map dI)))) p (some (.box T (l'.map dI)))⟩ := by
      simp [stAfter, deadL, hasKey, St.kill, putOuts, sg, look2, Ob.ren, Ne.symm q3]
      rfl
    rw [e1]
    exact k
end
theorem vB_box {objs : Nat → Option Ob} {p T n : Nat} {l : List Int} (ho : objs p = some (.box T (l.map dI))) : vB objs (n + 1) (.ptr p 0) = some (.rp (l.map iD)) := by
  show (match objs p with | some (.box _ cs) => (vAll (vB objs n) (cs.drop 0)).map D.rp | _ => none) = _
  rw [ho]
  show (vAll (vB objs n) (l.map dI)).map D.rp = _
  rw [vAll_map (f := vB objs n) (g := dI) (h := iD) fun _ => by cases n <;> rfl]
  rfl
theorem cB_box {objs : Nat → Option Ob} {p T : Nat} {l : List Int} (ho : objs p = some (.box T (l.map dI))) : cB (hobOf true [] objs) [] (.ptr p 0) = some (.d (.rp (l.map iD))) := by
  show (vB (hobOf true [] objs) 3 (.ptr p 0)).map B.d = _
  rw [vB_box (T := T) (l := l) (show hobOf true [] objs p = _ from ho)]
  rfl
theorem inN_len {l : List Int} {a : Int} (hl : l.length = 120) (h : 0 ≤ a ∧ a ≤ 119) : inN l a := by unfold inN; omega
theorem ids_len : ids.length = 120 := by simp [ids]
theorem ids_get {i : Nat} (h : i < 120) : ids[i]? = some (i : Int) := by
  unfold ids
  rw [List.getElem?_map, List.getElem?_range h]; rfl
/-- A change that is told. -/
noncomputable def neS (a b : List Int) : Bool := decide (a ≠ b)
theorem jn_ne {l : List Int} {a b : Int} (ha : inN l a) (hb : inN l b) : jn l a b ≠ l ↔ nm l a ≠ nm l b :=
  ⟨fun h e => h (jn_same e), fun h e => h (by have := jn_eq ha hb; rwa [e] at this)⟩
abbrev kNam : TypeId := 314
theorem iNewNames : SpecM Try.prog 192 [] [] (.v (.c (.ptr 0 0))) [(0, .box kNam (ids.map dI))] := by
  refine SpecM.walk T.mixed Try.func192 S.ok192 (by simp [Try.f192]) fun hk => ?_
  clear hk
  unfold S.s192
  repeat' (first | refine R.mv rfl ?_ | refine R.reg ?_ | refine R.nil ?_ | refine R.seq ?_ | refine R.nseq ?_ | refine R.nblk ?_ | refine R.skip ?_ | refine R.blk ?_ | refine R.exit rfl ?_ | refine R.fa rfl rfl ?_ | refine R.lss rfl rfl ?_ | refine R.add rfl rfl (by omega) ?_ | refine R.nc rfl rfl ?_ | refine R.nc0 rfl rfl ?_ | refine R.box rfl rfl rfl ?_ | refine R.stoB rfl rfl rfl rfl ⟨rfl, rfl, Nat.le_of_ble_eq_true rfl⟩ rfl ?_ | refine R.stoE _ rfl rfl rfl rfl rfl (by assumption) rfl ⟨rfl, rfl, Nat.le_of_ble_eq_true rfl⟩ ?_ | refine R.bld rfl rfl ?_ | refine R.condT rfl ?_ | refine R.condF rfl ?_ | refine R.cond rfl (fun hc => ?_) (fun hc => ?_) | refine R.condN rfl (fun hc => ?_) (fun hc => ?_) | refine R.condB rfl (fun hc => ?_) (fun hc => ?_))
  refine R.loop (G := Nat) (fun i => [(1, .v (.c (.ptr 4 0))), (5, pvA (.int .i64 i))]) (fun i => [(4, .box kNam ((ids.take i ++ List.replicate (ids.length - i) (0 : Int)).map dI))]) (fun i => i ≤ 120) (fun i => 120 - i) 0 (by omega) (Weak.frame _ _ ⟨rfl, rfl, trivial⟩ ⟨by rw [ids_len]; rfl, trivial⟩ rfl (okO_num rfl)) fun i hi => ?_
  by_cases hil : i < 120
  · have hx := ids_get hil
    have hlen : (ids.take i ++ List.replicate (ids.length - i) (0 : Int)).length = 120 := by simp [ids_len]; omega
    repeat' (first | refine R.ixaL rfl rfl (by omega) ?_ | refine R.stoL rfl rfl rfl (by omega) ?_ | refine R.mv rfl ?_ | refine R.reg ?_ | refine R.nil ?_ | refine R.seq ?_ | refine R.nseq ?_ | refine R.nblk ?_ | refine R.skip ?_ | refine R.blk ?_ | refine R.exit rfl ?_ | refine R.fa rfl rfl ?_ | refine R.lss rfl rfl ?_ | refine R.add rfl rfl (by omega) ?_ | refine R.nc rfl rfl ?_ | refine R.nc0 rfl rfl ?_ | refine R.box rfl rfl rfl ?_ | refine R.stoB rfl rfl rfl rfl ⟨rfl, rfl, Nat.le_of_ble_eq_true rfl⟩ rfl ?_ | refine R.stoE _ rfl rfl rfl rfl rfl (by assumption) rfl ⟨rfl, rfl, Nat.le_of_ble_eq_true rfl⟩ ?_ | refine R.bld rfl rfl ?_ | refine R.condT rfl ?_ | refine R.condF rfl ?_ | refine R.cond rfl (fun hc => ?_) (fun hc => ?_) | refine R.condN rfl (fun hc => ?_) (fun hc => ?_) | refine R.condB rfl (fun hc => ?_) (fun hc => ?_))
    all_goals first
      | (exfalso; omega)
      | exact R.nloop (R.again (i + 1) (by omega) (by omega) ⟨rfl, rfl, trivial⟩ ⟨(by rw [Int.toNat_natCast, set_fill hx]; rfl), trivial⟩ rfl (okO_num rfl))
      | skip
  obtain rfl : i = 120 := by omega
  have he : (ids.take 120 ++ List.replicate (ids.length - 120) (0 : Int)) = ids := by rw [ids_len]; simp [List.take_of_length_le, ids_len]
  rw [he]
  repeat' (first | refine R.mv rfl ?_ | refine R.reg ?_ | refine R.nil ?_ | refine R.seq ?_ | refine R.nseq ?_ | refine R.nblk ?_ | refine R.skip ?_ | refine R.blk ?_ | refine R.exit rfl ?_ | refine R.fa rfl rfl ?_ | refine R.lss rfl rfl ?_ | refine R.add rfl rfl (by omega) ?_ | refine R.nc rfl rfl ?_ | refine R.nc0 rfl rfl ?_ | refine R.box rfl rfl rfl ?_ | refine R.stoB rfl rfl rfl rfl ⟨rfl, rfl, Nat.le_of_ble_eq_true rfl⟩ rfl ?_ | refine R.stoE _ rfl rfl rfl rfl rfl (by assumption) rfl ⟨rfl, rfl, Nat.le_of_ble_eq_true rfl⟩ ?_ | refine R.bld rfl rfl ?_ | refine R.condT rfl ?_ | refine R.condF rfl ?_ | refine R.cond rfl (fun hc => ?_) (fun hc => ?_) | refine R.condN rfl (fun hc => ?_) (fun hc => ?_) | refine R.condB rfl (fun hc => ?_) (fun hc => ?_))
  all_goals first
    | (exfalso; omega)
    | (refine R.ret ⟨.inr rfl, R.out rfl (.cons (R.tmp rfl) .nil) [(4, 0)] rfl ?_ rfl rfl⟩
       show insC _ _ _ [(4, 0)] = _
       simp only [insC, frO, upd_same, Option.bind_some, cOb_dI])
    | skip
theorem iMerge (l : List Int) (a b : Int) (hl : l.length = 120) (ha : 0 ≤ a ∧ a ≤ 119) (hb : 0 ≤ b ∧ b ≤ 119) : SpecM Try.prog 193 [.c (.ptr (pin 0) 0), .c (.d (iD a)), .c (.d (iD b))] [(pin 0, .box kNam (l.map dI))] (.v (.c (.d (.pv (.bool (neS (jn l a b) l)))))) [(pin 0, .box kNam ((jn l a b).map dI))] := by
  have ia := inN_len hl ha
  have ib := inN_len hl hb
  have ga := nm_get ia
  have gb := nm_get ib
  refine SpecM.walk T.mixed Try.func193 S.ok193 (by simp [Try.f193]) fun hk => ?_
  clear hk
  unfold S.s193
  by_cases hne : nm l a = nm l b
  · rw [jn_same hne, show neS l l = false from decide_eq_false fun h => h rfl]
    repeat' (first | refine R.ixaL rfl rfl (by omega) ?_ | refine R.ldL _ ga rfl rfl ?_ | refine R.ldL _ gb rfl rfl ?_ | refine R.mv rfl ?_ | refine R.reg ?_ | refine R.nil ?_ | refine R.seq ?_ | refine R.nseq ?_ | refine R.nblk ?_ | refine R.skip ?_ | refine R.blk ?_ | refine R.exit rfl ?_ | refine R.ldEp rfl rfl (by assumption) rfl rfl ?_ | refine R.ldaEp rfl rfl (by assumption) (Nat.le_of_ble_eq_true rfl) rfl rfl ?_ | refine R.ld rfl rfl rfl ?_ | refine R.lda rfl rfl (Nat.le_of_ble_eq_true rfl) rfl ?_ | refine R.fa rfl rfl ?_ | refine R.lss rfl rfl ?_ | refine R.eql rfl rfl ?_ | refine R.add rfl rfl (by omega) ?_ | refine R.max rfl rfl ?_ | refine R.min rfl rfl ?_ | refine R.nc rfl rfl ?_ | refine R.nc0 rfl rfl ?_ | refine R.stoB rfl rfl rfl rfl ⟨rfl, rfl, Nat.le_of_ble_eq_true rfl⟩ rfl ?_ | refine R.stoE _ rfl rfl rfl rfl rfl (by assumption) rfl ⟨rfl, rfl, Nat.le_of_ble_eq_true rfl⟩ ?_ | refine R.condT rfl ?_ | refine R.condF rfl ?_ | refine R.cond rfl (fun hc => ?_) (fun hc => ?_) | refine R.condN rfl (fun hc => ?_) (fun hc => ?_) | refine R.condB rfl (fun hc => ?_) (fun hc => ?_))
    all_goals first
      | (exfalso; omega)
      | (refine R.ret ⟨.inr rfl, R.out rfl (.cons (R.tmp rfl) .nil) [(pin 0, pin 0)] rfl ?_ rfl rfl⟩
         show insC _ _ _ [(pin 0, pin 0)] = _
         simp only [insC, frO, upd_same, Option.bind_some, cOb_dI])
      | skip
  rw [show neS (jn l a b) l = true from decide_eq_true ((jn_ne ia ib).2 hne)]
  repeat' (first | refine R.ixaL rfl rfl (by omega) ?_ | refine R.ldL _ ga rfl rfl ?_ | refine R.ldL _ gb rfl rfl ?_ | refine R.ldaL hl rfl rfl ?_ | refine R.mv rfl ?_ | refine R.reg ?_ | refine R.nil ?_ | refine R.seq ?_ | refine R.nseq ?_ | refine R.nblk ?_ | refine R.skip ?_ | refine R.blk ?_ | refine R.exit rfl ?_ | refine R.ldEp rfl rfl (by assumption) rfl rfl ?_ | refine R.ldaEp rfl rfl (by assumption) (Nat.le_of_ble_eq_true rfl) rfl rfl ?_ | refine R.ld rfl rfl rfl ?_ | refine R.lda rfl rfl (Nat.le_of_ble_eq_true rfl) rfl ?_ | refine R.fa rfl rfl ?_ | refine R.lss rfl rfl ?_ | refine R.eql rfl rfl ?_ | refine R.add rfl rfl (by omega) ?_ | refine R.max rfl rfl ?_ | refine R.min rfl rfl ?_ | refine R.nc rfl rfl ?_ | refine R.nc0 rfl rfl ?_ | refine R.stoB rfl rfl rfl rfl ⟨rfl, rfl, Nat.le_of_ble_eq_true rfl⟩ rfl ?_ | refine R.stoE _ rfl rfl rfl rfl rfl (by assumption) rfl ⟨rfl, rfl, Nat.le_of_ble_eq_true rfl⟩ ?_ | refine R.condT rfl ?_ | refine R.condF rfl ?_ | refine R.cond rfl (fun hc => ?_) (fun hc => ?_) | refine R.condN rfl (fun hc => ?_) (fun hc => ?_) | refine R.condB rfl (fun hc => ?_) (fun hc => ?_))
  all_goals first | (exfalso; omega) | skip
  refine R.loop (G := Nat) (fun i => [(0, .v (.c (.ptr (pin 0) 0))), (7, pvA (.int .i64 (nm l a))), (8, pvA (.int .i64 (nm l b))), (29, .v (.agg (l.map dI))), (30, pvA (.int .i64 i))]) (fun i => [(pin 0, .box kNam (((l.take i).map (mg (nm l a) (nm l b)) ++ l.drop i).map dI))]) (fun i => i ≤ 120) (fun i => 120 - i) 0 (by omega) (Weak.frame _ _ ⟨rfl, rfl, rfl, rfl, rfl, trivial⟩ ⟨rfl, trivial⟩ (okA_any rfl (okA_any rfl (okA_any rfl (okA_num (okA_any rfl rfl))))) (okO_num rfl)) fun i hi => ?_
  have hlen : ((l.take i).map (mg (nm l a) (nm l b)) ++ l.drop i).length = 120 := by simp; omega
  by_cases hil : i < 120
  · obtain ⟨c, hcx⟩ : ∃ c, l[i]? = some c := ⟨_, List.getElem?_eq_getElem (by omega)⟩
    have hd : l.drop i = c :: l.drop (i + 1) := by
      rw [List.drop_eq_getElem_cons (by omega)]
      congr 1
      have := List.getElem?_eq_getElem (l := l) (i := i) (by omega)
      rw [hcx] at this
      exact (Option.some.inj this).symm
    have hstep : ∀ v, v = mg (nm l a) (nm l b) c → ((l.take i).map (mg (nm l a) (nm l b)) ++ l.drop i).set i v = (l.take (i + 1)).map (mg (nm l a) (nm l b)) ++ l.drop (i + 1) := fun v hv => by
      have h1 : ((l.take i).map (mg (nm l a) (nm l b))).length = i := by simp; omega
      rw [hd, List.set_append_right _ _ (by omega), h1, Nat.sub_self, List.set_cons_zero, take_snoc hcx, List.map_append, hv]
      simp
    have hkeep : c = mg (nm l a) (nm l b) c → ((l.take i).map (mg (nm l a) (nm l b)) ++ l.drop i) = (l.take (i + 1)).map (mg (nm l a) (nm l b)) ++ l.drop (i + 1) := fun hv => by
      rw [← hstep c hv, List.set_append_right _ _ (by simp; omega), hd]
      have h1 : ((l.take i).map (mg (nm l a) (nm l b))).length = i := by simp; omega
      rw [h1, Nat.sub_self, List.set_cons_zero]
    by_cases hcm : c = max (nm l a) (nm l b)
    · have hm : min (nm l a) (nm l b) = mg (nm l a) (nm l b) c := by unfold mg; rw [if_pos hcm]
      repeat' (first | refine R.ixaL rfl rfl (by omega) ?_ | refine R.stoL rfl rfl rfl (by omega) ?_ | refine R.ixV c hcx Try.underlying312 T.ty2 hl rfl rfl ?_ | refine R.mv rfl ?_ | refine R.reg ?_ | refine R.nil ?_ | refine R.seq ?_ | refine R.nseq ?_ | refine R.nblk ?_ | refine R.skip ?_ | refine R.blk ?_ | refine R.exit rfl ?_ | refine R.ldEp rfl rfl (by assumption) rfl rfl ?_ | refine R.ldaEp rfl rfl (by assumption) (Nat.le_of_ble_eq_true rfl) rfl rfl ?_ | refine R.ld rfl rfl rfl ?_ | refine R.lda rfl rfl (Nat.le_of_ble_eq_true rfl) rfl ?_ | refine R.fa rfl rfl ?_ | refine R.lss rfl rfl ?_ | refine R.eql rfl rfl ?_ | refine R.add rfl rfl (by omega) ?_ | refine R.max rfl rfl ?_ | refine R.min rfl rfl ?_ | refine R.nc rfl rfl ?_ | refine R.nc0 rfl rfl ?_ | refine R.stoB rfl rfl rfl rfl ⟨rfl, rfl, Nat.le_of_ble_eq_true rfl⟩ rfl ?_ | refine R.stoE _ rfl rfl rfl rfl rfl (by assumption) rfl ⟨rfl, rfl, Nat.le_of_ble_eq_true rfl⟩ ?_ | refine R.condT rfl ?_ | refine R.condF rfl ?_ | refine R.cond rfl (fun hc => ?_) (fun hc => ?_) | refine R.condN rfl (fun hc => ?_) (fun hc => ?_) | refine R.condB rfl (fun hc => ?_) (fun hc => ?_))
      all_goals first
        | (exfalso; omega)
        | exact R.nloop (R.again (i + 1) (by omega) (by omega) ⟨rfl, rfl, rfl, rfl, rfl, trivial⟩ ⟨(by rw [Int.toNat_natCast, hstep _ hm]; rfl), trivial⟩ (okA_any rfl (okA_any rfl (okA_any rfl (okA_num (okA_any rfl rfl))))) (okO_num rfl))
        | skip
    · have hm : c = mg (nm l a) (nm l b) c := by unfold mg; rw [if_neg hcm]
      repeat' (first | refine R.ixV c hcx Try.underlying312 T.ty2 hl rfl rfl ?_ | refine R.mv rfl ?_ | refine R.reg ?_ | refine R.nil ?_ | refine R.seq ?_ | refine R.nseq ?_ | refine R.nblk ?_ | refine R.skip ?_ | refine R.blk ?_ | refine R.exit rfl ?_ | refine R.ldEp rfl rfl (by assumption) rfl rfl ?_ | refine R.ldaEp rfl rfl (by assumption) (Nat.le_of_ble_eq_true rfl) rfl rfl ?_ | refine R.ld rfl rfl rfl ?_ | refine R.lda rfl rfl (Nat.le_of_ble_eq_true rfl) rfl ?_ | refine R.fa rfl rfl ?_ | refine R.lss rfl rfl ?_ | refine R.eql rfl rfl ?_ | refine R.add rfl rfl (by omega) ?_ | refine R.max rfl rfl ?_ | refine R.min rfl rfl ?_ | refine R.nc rfl rfl ?_ | refine R.nc0 rfl rfl ?_ | refine R.stoB rfl rfl rfl rfl ⟨rfl, rfl, Nat.le_of_ble_eq_true rfl⟩ rfl ?_ | refine R.stoE _ rfl rfl rfl rfl rfl (by assumption) rfl ⟨rfl, rfl, Nat.le_of_ble_eq_true rfl⟩ ?_ | refine R.condT rfl ?_ | refine R.condF rfl ?_ | refine R.cond rfl (fun hc => ?_) (fun hc => ?_) | refine R.condN rfl (fun hc => ?_) (fun hc => ?_) | refine R.condB rfl (fun hc => ?_) (fun hc => ?_))
      all_goals first
        | (exfalso; omega)
        | exact R.nloop (R.again (i + 1) (by omega) (by omega) ⟨rfl, rfl, rfl, rfl, rfl, trivial⟩ ⟨(by rw [← hkeep hm]; rfl), trivial⟩ (okA_any rfl (okA_any rfl (okA_any rfl (okA_num (okA_any rfl rfl))))) (okO_num rfl))
        | skip
  obtain rfl : i = 120 := by omega
  have he : ((l.take 120).map (mg (nm l a) (nm l b)) ++ l.drop 120) = jn l a b := by rw [List.take_of_length_le (by omega), List.drop_of_length_le (by omega), List.append_nil]; rfl
  rw [he]
  repeat' (first | refine R.mv rfl ?_ | refine R.reg ?_ | refine R.nil ?_ | refine R.seq ?_ | refine R.nseq ?_ | refine R.nblk ?_ | refine R.skip ?_ | refine R.blk ?_ | refine R.exit rfl ?_ | refine R.ldEp rfl rfl (by assumption) rfl rfl ?_ | refine R.ldaEp rfl rfl (by assumption) (Nat.le_of_ble_eq_true rfl) rfl rfl ?_ | refine R.ld rfl rfl rfl ?_ | refine R.lda rfl rfl (Nat.le_of_ble_eq_true rfl) rfl ?_ | refine R.fa rfl rfl ?_ | refine R.lss rfl rfl ?_ | refine R.eql rfl rfl ?_ | refine R.add rfl rfl (by omega) ?_ | refine R.max rfl rfl ?_ | refine R.min rfl rfl ?_ | refine R.nc rfl rfl ?_ | refine R.nc0 rfl rfl ?_ | refine R.stoB rfl rfl rfl rfl ⟨rfl, rfl, Nat.le_of_ble_eq_true rfl⟩ rfl ?_ | refine R.stoE _ rfl rfl rfl rfl rfl (by assumption) rfl ⟨rfl, rfl, Nat.le_of_ble_eq_true rfl⟩ ?_ | refine R.condT rfl ?_ | refine R.condF rfl ?_ | refine R.cond rfl (fun hc => ?_) (fun hc => ?_) | refine R.condN rfl (fun hc => ?_) (fun hc => ?_) | refine R.condB rfl (fun hc => ?_) (fun hc => ?_))
  all_goals first
    | (exfalso; omega)
    | (refine R.ret ⟨.inr rfl, R.out rfl (.cons (R.tmp rfl) .nil) [(pin 0, pin 0)] rfl ?_ rfl rfl⟩
       show insC _ _ _ [(pin 0, pin 0)] = _
       simp only [insC, frO, upd_same, Option.bind_some, cOb_dI])
    | skip
section
variable {P : Program} {Q : Exit → St → Prop} {ks : List Fr} {e : Nat → AV} {o : Nat → Option Ob} {d : Nat} {fr : Bool} {x y z : Operand} {rest : List SR}
theorem R.ixaD {len : Nat} {k' : IntKind} {n : Int} {l : List Int} (h : ev e x = .v (.c (.d (.rp (l.map iD))))) (h1 : ev e y = pvA (.int k' n)) (h0 : 0 ≤ n ∧ n < len) (k : WL P rest ks Q ⟨upd e d (.v (.c (.d (.rp ((l.map iD).drop n.toNat))))), o⟩) : WL P (⟨some d, none, fr, .ixa len 1 x y⟩ :: rest) ks Q ⟨e, o⟩ :=
  R.ixa h h1 h0 rfl (by show some (B.d (.rp ((l.map iD).drop (n.toNat * 1)))) = _; rw [Nat.mul_one]) k
theorem R.ldD {l : List Int} {i s' : Nat} (a : Int) (ha : l[i]? = some a) (h : ev e x = .v (.c (.d (.rp ((l.map iD).drop i))))) (k : WL P rest ks Q ⟨upd e d (pvA (.int .i64 a)), o⟩) : WL P (⟨some d, none, fr, .ld false s' x⟩ :: rest) ks Q ⟨e, o⟩ :=
  R.ld (cs := ((l.map iD).drop i).map B.d) (c := dI a) h rfl (by rw [List.getElem?_map, List.getElem?_drop, Nat.add_zero, List.getElem?_map, ha]; rfl) k
end
structure In2 (s : S2) : Prop where
  a : s.1.length = 120
  b : s.2.length = 120
theorem In2.outl {s : S2} (h : In2 s) (p q : TPiece) : In2 (outl s p q) := ⟨by unfold Go.Proofs.Ytnkfbodolbfjpaa.outl; rw [jn_len]; exact h.a, by unfold Go.Proofs.Ytnkfbodolbfjpaa.outl; rw [jn_len]; exact h.b⟩
theorem In2.pc {s : S2} (h : In2 s) {p : TPiece} (hp : okPc p) : inS s p := ⟨inN_len h.a hp.2.1, inN_len h.b hp.2.2.1, inN_len h.a hp.2.2.2.1, inN_len h.b hp.2.2.2.2⟩
theorem In2.lat {s s' : S2} (h : In2 s) (l : Lat s s') : In2 s' := by
  obtain ⟨f, hf⟩ := l.a
  obtain ⟨g, hg⟩ := l.b
  exact ⟨by rw [hf, List.length_map]; exact h.a, by rw [hg, List.length_map]; exact h.b⟩
noncomputable def chg (s : S2) (p q : TPiece) : Bool := decide (outl s p q ≠ s)
theorem bx1 {st : St} {T : TypeId} {l : List Int} (h : st.objs (pin 0) = some (.box T (l.map dI))) : insC st.objs (fun _ => none) [(pin 0, pin 0)] [(pin 0, pin 0)] = some [(pin 0, .box T (l.map dI))] := by
  simp only [insC, h, Option.bind_some, cOb_dI]
theorem bx2 {st : St} {T T' : TypeId} {l r : List Int} (h : st.objs (pin 0) = some (.box T (l.map dI))) (h' : st.objs (pin 1) = some (.box T' (r.map dI))) : insC st.objs (fun _ => none) [(pin 0, pin 0), (pin 1, pin 1)] [(pin 0, pin 0), (pin 1, pin 1)] = some [(pin 0, .box T (l.map dI)), (pin 1, .box T' (r.map dI))] := by
  simp only [insC, h, h', Option.bind_some, cOb_dI]
theorem iOutlets (s : S2) (p q : TPiece) (hs : In2 s) (hp : okPc p) (hq : okPc q) : SpecM Try.prog 194 [.agg [.ptr (pin 0) 0, .ptr (pin 1) 0], .agg ((enPiece p).map B.d), .agg ((enPiece q).map B.d)] [(pin 0, .box kNam (s.1.map dI)), (pin 1, .box kNam (s.2.map dI))] (.v (.c (.d (.pv (.bool (chg s p q)))))) [(pin 0, .box kNam ((outl s p q).1.map dI)), (pin 1, .box kNam ((outl s p q).2.map dI))] := by
  have hM1 := iMerge s.1 p.fNorth q.fNorth hs.a hp.2.1 hq.2.1
  have hM2 := iMerge s.2 p.fEast q.fEast hs.b hp.2.2.1 hq.2.2.1
  have ho : ∀ (b1 b2 : Bool), neS (jn s.1 p.fNorth q.fNorth) s.1 = b1 → neS (jn s.2 p.fEast q.fEast) s.2 = b2 → chg s p q = (b2 || b1) := fun b1 b2 h1 h2 => by
    unfold chg outl
    unfold neS at h1 h2
    have e1 : ((jn s.1 p.fNorth q.fNorth, jn s.2 p.fEast q.fEast) ≠ s) ↔ (jn s.2 p.fEast q.fEast ≠ s.2 ∨ jn s.1 p.fNorth q.fNorth ≠ s.1) := by
      constructor
      · intro h
        by_cases hb : jn s.2 p.fEast q.fEast = s.2
        · exact .inr fun ha => h (by rw [ha, hb])
        · exact .inl hb
      · intro h e
        rcases h with h | h
        · exact h (by conv => rhs; rw [← e])
        · exact h (by conv => rhs; rw [← e])
    rw [show decide ((jn s.1 p.fNorth q.fNorth, jn s.2 p.fEast q.fEast) ≠ s) = decide (jn s.2 p.fEast q.fEast ≠ s.2 ∨ jn s.1 p.fNorth q.fNorth ≠ s.1) from decide_eq_decide.2 e1, Bool.decide_or, h1, h2]
  refine SpecM.walk T.mixed Try.func194 S.ok194 (by simp [Try.f194]) fun hk => ?_
  clear hk
  unfold S.s194
  cases e1 : neS (jn s.1 p.fNorth q.fNorth) s.1 <;> cases e2 : neS (jn s.2 p.fEast q.fEast) s.2
  all_goals rw [ho _ _ e1 e2]
  all_goals rw [e1] at hM1
  all_goals rw [e2] at hM2
  all_goals repeat' (first | refine R.mv rfl ?_ | refine R.reg ?_ | refine R.nil ?_ | refine R.seq ?_ | refine R.nseq ?_ | refine R.nblk ?_ | refine R.skip ?_ | refine R.blk ?_ | refine R.exit rfl ?_ | refine R.gRun rfl ?_ | refine R.gSkip rfl ?_ | refine R.gSkip0 rfl ?_ | refine R.gUndef rfl ?_ | refine R.gUndef0 rfl ?_ | refine R.ldEp rfl rfl (by assumption) rfl rfl ?_ | refine R.ldaEp rfl rfl (by assumption) (Nat.le_of_ble_eq_true rfl) rfl rfl ?_ | refine R.ld rfl rfl rfl ?_ | refine R.lda rfl rfl (Nat.le_of_ble_eq_true rfl) rfl ?_ | refine R.fa rfl rfl ?_ | refine R.pickT rfl rfl ?_ | refine R.pickF rfl rfl ?_ | refine R.box rfl rfl rfl ?_ | refine R.condT rfl ?_ | refine R.condF rfl ?_ | refine R.callP1 (p := pin 0) rfl hM1 rfl rfl rfl ?_ | refine R.callP1 (p := pin 1) rfl hM2 rfl rfl rfl ?_ | refine R.cond rfl (fun hc => ?_) (fun hc => ?_) | refine R.condN rfl (fun hc => ?_) (fun hc => ?_) | refine R.condB rfl (fun hc => ?_) (fun hc => ?_) | refine R.gP rfl (fun hc => ?_) (fun hc => ?_) | refine R.gN rfl (fun hc => ?_) (fun hc => ?_) | refine R.gB rfl (fun hc => ?_) (fun hc => ?_))
  all_goals exact R.ret ⟨.inr rfl, R.out rfl (.cons (R.tmp rfl) .nil) [(pin 0, pin 0), (pin 1, pin 1)] rfl (bx2 rfl rfl) rfl rfl⟩
theorem iPieceM (s : S2) (p : TPiece) (hs : In2 s) (hp : okPc p) : Spec Try.prog 234 [.agg [.rp (s.1.map iD), .rp (s.2.map iD)], .agg (enPiece p)] (.v (.agg [.fz (iD (pcM s p).fColor), .fz (iD (pcM s p).fNorth), .fz (iD (pcM s p).fEast), .fz (iD (pcM s p).fSouth), .fz (iD (pcM s p).fWest)])) := by
  obtain ⟨hc, hN, hE, hS, hW⟩ := hp
  have gN := nm_get (inN_len hs.a hN)
  have gE := nm_get (inN_len hs.b hE)
  have gS := nm_get (inN_len hs.a hS)
  have gW := nm_get (inN_len hs.b hW)
  refine Spec.walk T.mixed Try.func234 S.ok234 (by simp [Try.f234]) fun hk => ?_
  clear hk
  unfold S.s234
  repeat' (first | refine R.ixaD rfl rfl (by omega) ?_ | refine R.ldD _ gN rfl ?_ | refine R.ldD _ gE rfl ?_ | refine R.ldD _ gS rfl ?_ | refine R.ldD _ gW rfl ?_ | refine R.mv rfl ?_ | refine R.reg ?_ | refine R.nil ?_ | refine R.seq ?_ | refine R.nseq ?_ | refine R.nblk ?_ | refine R.skip ?_ | refine R.blk ?_ | refine R.exit rfl ?_ | refine R.ldEp rfl rfl (by assumption) rfl rfl ?_ | refine R.ldaEp rfl rfl (by assumption) (Nat.le_of_ble_eq_true rfl) rfl rfl ?_ | refine R.ld rfl rfl rfl ?_ | refine R.lda rfl rfl (Nat.le_of_ble_eq_true rfl) rfl ?_ | refine R.fa rfl rfl ?_ | refine R.nc rfl rfl ?_ | refine R.nc0 rfl rfl ?_ | refine R.al rfl ?_ | refine R.box rfl rfl rfl ?_ | refine R.stoB rfl rfl rfl rfl ⟨rfl, rfl, Nat.le_of_ble_eq_true rfl⟩ rfl ?_ | refine R.stoE _ rfl rfl rfl rfl rfl (by assumption) rfl ⟨rfl, rfl, Nat.le_of_ble_eq_true rfl⟩ ?_ | refine R.bld rfl rfl ?_ | refine R.condT rfl ?_ | refine R.condF rfl ?_ | refine R.cond rfl (fun hc => ?_) (fun hc => ?_) | refine R.condN rfl (fun hc => ?_) (fun hc => ?_) | refine R.condB rfl (fun hc => ?_) (fun hc => ?_))
  exact R.ret ⟨.inr rfl, R.outR rfl (.cons (R.cell rfl rfl T.ty258 (Nat.le_of_ble_eq_true rfl) rfl) .nil) rfl rfl rfl rfl⟩
theorem iListN (l xs : List Int) (hl : l.length = 120) (hx : ∀ x ∈ xs, 0 ≤ x ∧ x ≤ 119) (hn : xs.length ≤ 1048576) : Spec Try.prog 235 [.c (.rp (l.map iD)), vL kI (ints xs)] (oN kI (ints (xs.map (nm l)))) := by
  refine Spec.walk T.mixed Try.func235 S.ok235 (by simp [Try.f235]) fun hk => ?_
  clear hk
  unfold S.s235
  repeat' (first | refine R.mv rfl ?_ | refine R.reg ?_ | refine R.nil ?_ | refine R.seq ?_ | refine R.nseq ?_ | refine R.nblk ?_ | refine R.skip ?_ | refine R.blk ?_ | refine R.exit rfl ?_ | refine R.ldEp rfl rfl (by assumption) rfl rfl ?_ | refine R.ldaEp rfl rfl (by assumption) (Nat.le_of_ble_eq_true rfl) rfl rfl ?_ | refine R.ld rfl rfl rfl ?_ | refine R.lda rfl rfl (Nat.le_of_ble_eq_true rfl) rfl ?_ | refine R.fa rfl rfl ?_ | refine R.lenM rfl ?_ | refine R.lenO rfl rfl ?_ | refine R.len rfl rfl ?_ | refine R.lss rfl rfl ?_ | refine R.add rfl rfl (by omega) ?_ | refine R.ixN rfl rfl rfl (by omega) (fun a ha => ?_) | refine R.ixM rfl rfl rfl (by omega) (fun a ha => ?_) | refine R.ixON rfl rfl rfl (by first | omega | (simp; omega)) (fun a' ha' => ?_) | refine R.ixO rfl rfl rfl (by first | omega | (simp; omega)) (fun a' ha' => ?_) | refine R.nc rfl rfl ?_ | refine R.nc0 rfl rfl ?_ | refine R.condT rfl ?_ | refine R.condF rfl ?_ | refine R.cond rfl (fun hc => ?_) (fun hc => ?_) | refine R.condN rfl (fun hc => ?_) (fun hc => ?_) | refine R.condB rfl (fun hc => ?_) (fun hc => ?_))
  refine R.loop (G := Nat) (fun i => [(0, .v (.c (.d (.rp (l.map iD))))), (5, .v (.c (.own 10005))), (8, rdA kI (ints xs)), (9, pvA (.int .i64 xs.length)), (10, pvA (.int .i64 i))]) (fun i => [(10005, .arr kI (ints ((xs.take i).map (nm l))) [])]) (fun i => i ≤ xs.length) (fun i => xs.length - i) 0 (by omega) (Weak.trans (Weak.reify 5 10005 kI rfl rfl) (Weak.frame _ _ ⟨rfl, rfl, rfl, rfl, rfl, trivial⟩ ⟨rfl, trivial⟩ rfl rfl)) fun i hi => ?_
  by_cases hil : i < xs.length
  · obtain ⟨a, ha⟩ : ∃ a, xs[i]? = some a := ⟨_, List.getElem?_eq_getElem hil⟩
    have hab := hx a (List.mem_of_getElem? ha)
    have ga := nm_get (inN_len hl hab)
    have hst : (xs.take (i + 1)).map (nm l) = (xs.take i).map (nm l) ++ [nm l a] := by rw [take_snoc ha, List.map_append]; rfl
    repeat' (first | refine R.ixK a ha rfl rfl rfl ?_ | refine R.ixaD rfl rfl (by omega) ?_ | refine R.ldD _ ga rfl ?_ | refine R.mv rfl ?_ | refine R.reg ?_ | refine R.nil ?_ | refine R.seq ?_ | refine R.nseq ?_ | refine R.nblk ?_ | refine R.skip ?_ | refine R.blk ?_ | refine R.exit rfl ?_ | refine R.ldEp rfl rfl (by assumption) rfl rfl ?_ | refine R.ldaEp rfl rfl (by assumption) (Nat.le_of_ble_eq_true rfl) rfl rfl ?_ | refine R.ld rfl rfl rfl ?_ | refine R.lda rfl rfl (Nat.le_of_ble_eq_true rfl) rfl ?_ | refine R.fa rfl rfl ?_ | refine R.lenM rfl ?_ | refine R.lenO rfl rfl ?_ | refine R.len rfl rfl ?_ | refine R.lss rfl rfl ?_ | refine R.add rfl rfl (by omega) ?_ | refine R.ixN rfl rfl rfl (by omega) (fun a ha => ?_) | refine R.ixM rfl rfl rfl (by omega) (fun a ha => ?_) | refine R.ixON rfl rfl rfl (by first | omega | (simp; omega)) (fun a' ha' => ?_) | refine R.ixO rfl rfl rfl (by first | omega | (simp; omega)) (fun a' ha' => ?_) | refine R.nc rfl rfl ?_ | refine R.nc0 rfl rfl ?_ | refine R.condT rfl ?_ | refine R.condF rfl ?_ | refine R.bsl (f := enI) [nm l a] rfl rfl rfl rfl rfl ?_ | refine R.app (f := enI) (fun _ => rfl) rfl rfl rfl rfl rfl ⟨by simp only [List.length_map, List.length_take, List.length_singleton]; omega, by simp only [List.length_map, List.length_take, List.length_singleton]; omega⟩ ?_ | refine R.cond rfl (fun hc => ?_) (fun hc => ?_) | refine R.condN rfl (fun hc => ?_) (fun hc => ?_) | refine R.condB rfl (fun hc => ?_) (fun hc => ?_))
    all_goals first
      | (exfalso; omega)
      | exact R.nloop (R.again (i + 1) (by omega) (by omega) ⟨rfl, rfl, rfl, rfl, rfl, trivial⟩ ⟨arr_eq (by rw [hst]), trivial⟩ rfl rfl)
      | skip
  obtain rfl : i = xs.length := by omega
  rw [List.take_length]
  repeat' (first | refine R.mv rfl ?_ | refine R.reg ?_ | refine R.nil ?_ | refine R.seq ?_ | refine R.nseq ?_ | refine R.nblk ?_ | refine R.skip ?_ | refine R.blk ?_ | refine R.exit rfl ?_ | refine R.ldEp rfl rfl (by assumption) rfl rfl ?_ | refine R.ldaEp rfl rfl (by assumption) (Nat.le_of_ble_eq_true rfl) rfl rfl ?_ | refine R.ld rfl rfl rfl ?_ | refine R.lda rfl rfl (Nat.le_of_ble_eq_true rfl) rfl ?_ | refine R.fa rfl rfl ?_ | refine R.lenM rfl ?_ | refine R.lenO rfl rfl ?_ | refine R.len rfl rfl ?_ | refine R.lss rfl rfl ?_ | refine R.add rfl rfl (by omega) ?_ | refine R.ixN rfl rfl rfl (by omega) (fun a ha => ?_) | refine R.ixM rfl rfl rfl (by omega) (fun a ha => ?_) | refine R.ixON rfl rfl rfl (by first | omega | (simp; omega)) (fun a' ha' => ?_) | refine R.ixO rfl rfl rfl (by first | omega | (simp; omega)) (fun a' ha' => ?_) | refine R.nc rfl rfl ?_ | refine R.nc0 rfl rfl ?_ | refine R.condT rfl ?_ | refine R.condF rfl ?_ | refine R.cond rfl (fun hc => ?_) (fun hc => ?_) | refine R.condN rfl (fun hc => ?_) (fun hc => ?_) | refine R.condB rfl (fun hc => ?_) (fun hc => ?_))
  all_goals first
    | (exfalso; omega)
    | exact R.ret ⟨.inr rfl, R.outN rfl rfl rfl⟩
    | skip
end Go.Proofs.Ytnkfbodolbfjpaa
