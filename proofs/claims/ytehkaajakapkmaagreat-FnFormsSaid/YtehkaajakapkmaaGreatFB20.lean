/- Texts of one proof, one behind the other. -/
import Derived.Test.YtehkaajakapkmaaGreatFB19
namespace Go.Proofs.YtehkaajakapkmaaGreat
section
open Go.RowKit
set_option maxRecDepth 100000 in
def S.s22 : SC := (.seq (.reg [⟨(.some 4), .none, .false, (.mv (.const (Go.Value.slice none 0 0)))⟩, ⟨(.some 5), .none, .false, (.mv (.const (Go.Value.int Go.IntKind.i64 0)))⟩]) (.seq (.seq (.reg [⟨(.some 6), .none, .false, (.mv (.tmp 0))⟩, ⟨(.some 7), .none, .false, (.mv (.tmp 1))⟩, ⟨(.some 8), .none, .false, (.call (.func 60) [(.tmp 6), (.tmp 7)])⟩, ⟨(.some 9), .none, .false, (.not (.tmp 8))⟩]) (.cond (.tmp 9) (.seq (.reg [⟨(.some 4), .none, .false, (.mv (.const (Go.Value.slice none 0 0)))⟩, ⟨(.some 5), .none, .false, (.mv (.const (Go.Value.int Go.IntKind.i64 2)))⟩]) .ret) .skip)) (.seq (.reg [⟨(.some 10), .none, .false, (.mv (.tmp 0))⟩, ⟨(.some 11), .none, .false, (.mv (.tmp 1))⟩, ⟨(.some 12), .none, .false, (.call (.func 62) [(.tmp 10), (.tmp 11)])⟩, ⟨(.some 4), .none, .false, (.mv (.tmp 12))⟩, ⟨(.some 5), .none, .false, (.mv (.const (Go.Value.int Go.IntKind.i64 0)))⟩]) .ret)))
set_option maxRecDepth 100000 in
theorem S.ok22 : stripF Tryz.prog Tryz.f22 = some S.s22 := by kernel_rfl
set_option maxRecDepth 100000 in
def S.s60 : SC := (.seq (.reg [⟨(.some 4), .none, .false, (.mv (.const (Go.Value.bool false)))⟩]) (.seq (.reg [⟨(.some 5), .none, .false, (.mv (.tmp 0))⟩, ⟨(.some 6), .none, .false, (.call (.func 48) [(.tmp 5)])⟩, ⟨(.some 7), .none, .false, (.mv (.tmp 6))⟩, ⟨(.some 8), (.some (7, .true)), .false, (.mv (.tmp 1))⟩, ⟨(.some 9), (.some (7, .true)), .false, (.mv (.tmp 0))⟩, ⟨(.some 10), (.some (7, .true)), .false, (.bin .shl (.const (Go.Value.int Go.IntKind.i64 1)) (.tmp 9))⟩, ⟨(.some 11), (.some (7, .true)), .false, (.call (.func 55) [(.tmp 8), (.tmp 10)])⟩, ⟨(.some 12), .none, .false, (.pick (.tmp 7) (.tmp 11) (.const (Go.Value.bool false)))⟩, ⟨(.some 4), .none, .false, (.mv (.tmp 12))⟩]) .ret))
set_option maxRecDepth 100000 in
theorem S.ok60 : stripF Tryz.prog Tryz.f60 = some S.s60 := by kernel_rfl
set_option maxRecDepth 100000 in
def S.s62 : SC := (.seq (.reg [⟨(.some 4), .none, .false, (.mv (.const (Go.Value.slice none 0 0)))⟩]) (.seq (.reg [⟨(.some 5), .none, .false, (.mv (.const (Go.Value.slice none 0 0)))⟩]) (.seq (.seq (.reg [⟨(.some 9), .none, .false, (.mv (.tmp 0))⟩, ⟨(.some 10), .none, .false, (.bin .shl (.const (Go.Value.int Go.IntKind.i64 1)) (.tmp 9))⟩, ⟨(.some 11), .none, .false, (.mv (.const (Go.Value.int Go.IntKind.i64 0)))⟩]) (.block 0 (.loop (.seq (.reg [⟨(.some 12), .none, .false, (.bin .lss (.tmp 11) (.tmp 10))⟩]) (.seq (.cond (.tmp 12) .skip (.exit 0)) (.seq (.block 1 (.seq (.reg [⟨(.some 13), .none, .false, (.mv (.tmp 11))⟩, ⟨(.some 6), .none, .false, (.mv (.tmp 13))⟩]) (.seq (.reg [⟨(.some 14), .none, .false, (.mv (.tmp 6))⟩, ⟨(.some 15), .none, .false, (.bin .add (.tmp 14) (.const (Go.Value.int Go.IntKind.i64 1)))⟩, ⟨(.some 16), .none, .false, (.mv (.const (Go.Value.int Go.IntKind.i64 0)))⟩]) (.block 2 (.loop (.seq (.reg [⟨(.some 17), .none, .false, (.bin .lss (.tmp 16) (.tmp 15))⟩]) (.seq (.cond (.tmp 17) .skip (.exit 2)) (.seq (.block 3 (.seq (.reg [⟨(.some 18), .none, .false, (.mv (.tmp 16))⟩, ⟨(.some 7), .none, .false, (.mv (.tmp 18))⟩]) (.seq (.reg [⟨(.some 19), .none, .false, (.mv (.tmp 6))⟩, ⟨(.some 20), .none, .false, (.mv (.tmp 7))⟩, ⟨(.some 21), .none, .false, (.bld [(Go.Value.int Go.IntKind.i64 0), (Go.Value.int Go.IntKind.i64 0)] [(0, 1), (1, 1)] [(0, (.tmp 19)), (1, (.tmp 20))])⟩, ⟨(.some 8), .none, .false, (.al 56 [(Go.Value.int Go.IntKind.i64 0), (Go.Value.int Go.IntKind.i64 0)])⟩, ⟨.none, .none, .false, (.sto 2 (.tmp 8) (.tmp 21))⟩]) (.seq (.reg [⟨(.some 22), .none, .false, (.mv (.tmp 0))⟩, ⟨(.some 23), .none, .false, (.ld .true 2 (.tmp 8))⟩, ⟨(.some 24), .none, .false, (.call (.func 50) [(.tmp 22), (.tmp 23)])⟩, ⟨(.some 25), .none, .false, (.mv (.tmp 24))⟩, ⟨(.some 26), (.some (25, .true)), .false, (.ld .true 2 (.tmp 8))⟩, ⟨(.some 27), (.some (25, .true)), .false, (.mv (.tmp 1))⟩, ⟨(.some 28), (.some (25, .true)), .false, (.call (.func 91) [(.tmp 26), (.tmp 27)])⟩, ⟨(.some 29), .none, .false, (.pick (.tmp 25) (.tmp 28) (.const (Go.Value.bool false)))⟩, ⟨(.some 30), .none, .false, (.mv (.tmp 29))⟩, ⟨(.some 31), (.some (30, .true)), .false, (.mv (.tmp 0))⟩, ⟨(.some 32), (.some (30, .true)), .false, (.ld .true 2 (.tmp 8))⟩, ⟨(.some 33), (.some (30, .true)), .false, (.mv (.tmp 1))⟩, ⟨(.some 34), (.some (30, .true)), .false, (.call (.func 92) [(.tmp 31), (.tmp 32), (.tmp 33)])⟩, ⟨(.some 35), .none, .false, (.pick (.tmp 30) (.tmp 34) (.const (Go.Value.bool false)))⟩]) (.cond (.tmp 35) (.reg [⟨(.some 36), .none, .false, (.mv (.tmp 5))⟩, ⟨(.some 37), .none, .false, (.ld .true 2 (.tmp 8))⟩, ⟨(.some 38), .none, .false, (.bsl (.mk 56 2) 1 [(0, (.tmp 37))])⟩, ⟨(.some 39), .none, .false, (.app (.mk 56 2) 16 (.tmp 36) (.tmp 38))⟩, ⟨(.some 5), .none, .false, (.mv (.tmp 39))⟩]) .skip))))) (.reg [⟨(.some 40), .none, .false, (.bin .add (.tmp 16) (.const (Go.Value.int Go.IntKind.i64 1)))⟩, ⟨(.some 16), .none, .false, (.mv (.tmp 40))⟩]))))))))) (.reg [⟨(.some 41), .none, .false, (.bin .add (.tmp 11) (.const (Go.Value.int Go.IntKind.i64 1)))⟩, ⟨(.some 11), .none, .false, (.mv (.tmp 41))⟩]))))))) (.seq (.reg [⟨(.some 42), .none, .false, (.mv (.tmp 5))⟩, ⟨(.some 4), .none, .false, (.mv (.tmp 42))⟩]) .ret))))
set_option maxRecDepth 100000 in
theorem S.ok62 : stripF Tryz.prog Tryz.f62 = some S.s62 := by kernel_rfl
set_option maxRecDepth 100000 in
def S.s66 : SC := (.seq (.reg [⟨(.some 4), .none, .false, (.mv (.const (Go.Value.slice none 0 0)))⟩]) (.seq (.reg [⟨(.some 12), .none, .false, (.bsl (.mk 56 2) 0 [])⟩, ⟨(.some 5), .none, .false, (.mv (.tmp 12))⟩]) (.seq (.seq (.reg [⟨(.some 6), .none, .false, (.mv (.const (Go.Value.int Go.IntKind.i64 0)))⟩]) (.block 0 (.loop (.seq (.seq (.reg [⟨(.some 13), .none, .false, (.mv (.tmp 6))⟩, ⟨(.some 14), .none, .false, (.mv (.tmp 0))⟩, ⟨(.some 15), .none, .false, (.bin .shl (.const (Go.Value.int Go.IntKind.i64 1)) (.tmp 14))⟩, ⟨(.some 16), .none, .false, (.bin .lss (.tmp 13) (.tmp 15))⟩]) (.cond (.tmp 16) .skip (.exit 0))) (.seq (.block 1 (.seq (.reg [⟨(.some 7), .none, .false, (.mv (.const (Go.Value.int Go.IntKind.i64 0)))⟩]) (.block 2 (.loop (.seq (.seq (.reg [⟨(.some 19), .none, .false, (.mv (.tmp 7))⟩, ⟨(.some 20), .none, .false, (.mv (.tmp 0))⟩, ⟨(.some 21), .none, .false, (.bin .shl (.const (Go.Value.int Go.IntKind.i64 1)) (.tmp 20))⟩, ⟨(.some 22), .none, .false, (.bin .lss (.tmp 19) (.tmp 21))⟩]) (.cond (.tmp 22) .skip (.exit 2))) (.seq (.block 3 (.seq (.reg [⟨(.some 25), .none, .false, (.mv (.tmp 6))⟩, ⟨(.some 26), .none, .false, (.mv (.tmp 7))⟩, ⟨(.some 27), .none, .false, (.bld [(Go.Value.int Go.IntKind.i64 0), (Go.Value.int Go.IntKind.i64 0)] [(0, 1), (1, 1)] [(0, (.tmp 25)), (1, (.tmp 26))])⟩, ⟨(.some 8), .none, .false, (.al 56 [(Go.Value.int Go.IntKind.i64 0), (Go.Value.int Go.IntKind.i64 0)])⟩, ⟨.none, .none, .false, (.sto 2 (.tmp 8) (.tmp 27))⟩]) (.seq (.seq (.reg [⟨(.some 28), .none, .false, (.mv (.tmp 7))⟩, ⟨(.some 29), .none, .false, (.mv (.tmp 6))⟩, ⟨(.some 30), .none, .false, (.bin .and (.tmp 28) (.tmp 29))⟩, ⟨(.some 31), .none, .false, (.mv (.tmp 7))⟩, ⟨(.some 32), .none, .false, (.bin .neq (.tmp 30) (.tmp 31))⟩, ⟨(.some 33), .none, .false, (.mv (.tmp 32))⟩, ⟨(.some 34), (.some (33, .false)), .false, (.mv (.tmp 1))⟩, ⟨(.some 35), (.some (33, .false)), .false, (.ld .true 2 (.tmp 8))⟩, ⟨(.some 36), (.some (33, .false)), .false, (.call (.func 95) [(.tmp 34), (.tmp 35)])⟩, ⟨(.some 37), (.some (33, .false)), .false, (.not (.tmp 36))⟩, ⟨(.some 38), .none, .false, (.pick (.tmp 33) (.const (Go.Value.bool true)) (.tmp 37))⟩]) (.cond (.tmp 38) (.exit 3) .skip)) (.seq (.reg [⟨(.some 9), .none, .false, (.mv (.const (Go.Value.bool true)))⟩]) (.seq (.seq (.reg [⟨(.some 10), .none, .false, (.mv (.const (Go.Value.int Go.IntKind.i64 0)))⟩]) (.block 4 (.loop (.seq (.seq (.reg [⟨(.some 39), .none, .false, (.mv (.tmp 10))⟩, ⟨(.some 40), .none, .false, (.mv (.tmp 0))⟩, ⟨(.some 41), .none, .false, (.bin .lss (.tmp 39) (.tmp 40))⟩]) (.cond (.tmp 41) .skip (.exit 4))) (.seq (.block 5 (.seq (.regA [⟨(.some 44), .none, .true, (.mv (.tmp 6))⟩, ⟨(.some 45), .none, .true, (.mv (.tmp 10))⟩, ⟨(.some 46), .none, .true, (.bin .shl (.const (Go.Value.int Go.IntKind.i64 1)) (.tmp 45))⟩, ⟨(.some 47), .none, .true, (.bin .andNot (.tmp 44) (.tmp 46))⟩, ⟨(.some 48), .none, .true, (.mv (.tmp 7))⟩, ⟨(.some 49), .none, .true, (.mv (.tmp 10))⟩, ⟨(.some 50), .none, .true, (.bin .shl (.const (Go.Value.int Go.IntKind.i64 1)) (.tmp 49))⟩, ⟨(.some 51), .none, .true, (.bin .andNot (.tmp 48) (.tmp 50))⟩, ⟨(.some 52), .none, .true, (.bld [(Go.Value.int Go.IntKind.i64 0), (Go.Value.int Go.IntKind.i64 0)] [(0, 1), (1, 1)] [(0, (.tmp 47)), (1, (.tmp 51))])⟩, ⟨(.some 11), .none, .true, .kil⟩] [(11, (56, [(Go.Value.int Go.IntKind.i64 0), (Go.Value.int Go.IntKind.i64 0)]))] [⟨.none, .none, .false, (.sto 2 (.tmp 11) (.tmp 52))⟩]) (.seq (.reg [⟨(.some 53), .none, .false, (.ld .true 2 (.tmp 11))⟩, ⟨(.some 54), .none, .false, (.ld .true 2 (.tmp 8))⟩, ⟨(.some 55), .none, .false, (.eqs .true [(.i .i64), (.i .i64)] (.tmp 53) (.tmp 54))⟩, ⟨(.some 56), .none, .false, (.mv (.tmp 55))⟩, ⟨(.some 57), (.some (56, .true)), .false, (.mv (.tmp 6))⟩, ⟨(.some 58), (.some (56, .true)), .false, (.mv (.tmp 10))⟩, ⟨(.some 59), (.some (56, .true)), .false, (.bin .shr (.tmp 57) (.tmp 58))⟩, ⟨(.some 60), (.some (56, .true)), .false, (.bin .and (.tmp 59) (.const (Go.Value.int Go.IntKind.i64 1)))⟩, ⟨(.some 61), (.some (56, .true)), .false, (.bin .eql (.tmp 60) (.const (Go.Value.int Go.IntKind.i64 1)))⟩, ⟨(.some 62), .none, .false, (.pick (.tmp 56) (.tmp 61) (.const (Go.Value.bool false)))⟩, ⟨(.some 63), .none, .false, (.mv (.tmp 62))⟩, ⟨(.some 64), (.some (63, .true)), .false, (.mv (.tmp 1))⟩, ⟨(.some 65), (.some (63, .true)), .false, (.ld .true 2 (.tmp 11))⟩, ⟨(.some 66), (.some (63, .true)), .false, (.call (.func 95) [(.tmp 64), (.tmp 65)])⟩, ⟨(.some 67), .none, .false, (.pick (.tmp 63) (.tmp 66) (.const (Go.Value.bool false)))⟩]) (.cond (.tmp 67) (.reg [⟨(.some 9), .none, .false, (.mv (.const (Go.Value.bool false)))⟩]) .skip)))) (.reg [⟨(.some 42), .none, .false, (.mv (.tmp 10))⟩, ⟨(.some 43), .none, .false, (.bin .add (.tmp 42) (.const (Go.Value.int Go.IntKind.i64 1)))⟩, ⟨(.some 10), .none, .false, (.mv (.tmp 43))⟩])))))) (.seq (.reg [⟨(.some 68), .none, .false, (.mv (.tmp 9))⟩]) (.cond (.tmp 68) (.reg [⟨(.some 69), .none, .false, (.mv (.tmp 5))⟩, ⟨(.some 70), .none, .false, (.ld .true 2 (.tmp 8))⟩, ⟨(.some 71), .none, .false, (.bsl (.mk 56 2) 1 [(0, (.tmp 70))])⟩, ⟨(.some 72), .none, .false, (.app (.mk 56 2) 16 (.tmp 69) (.tmp 71))⟩, ⟨(.some 5), .none, .false, (.mv (.tmp 72))⟩]) .skip))))))) (.reg [⟨(.some 23), .none, .false, (.mv (.tmp 7))⟩, ⟨(.some 24), .none, .false, (.bin .add (.tmp 23) (.const (Go.Value.int Go.IntKind.i64 1)))⟩, ⟨(.some 7), .none, .false, (.mv (.tmp 24))⟩]))))))) (.reg [⟨(.some 17), .none, .false, (.mv (.tmp 6))⟩, ⟨(.some 18), .none, .false, (.bin .add (.tmp 17) (.const (Go.Value.int Go.IntKind.i64 1)))⟩, ⟨(.some 6), .none, .false, (.mv (.tmp 18))⟩])))))) (.seq (.reg [⟨(.some 73), .none, .false, (.mv (.tmp 5))⟩, ⟨(.some 4), .none, .false, (.mv (.tmp 73))⟩]) .ret))))
set_option maxRecDepth 100000 in
theorem S.ok66 : stripF Tryz.prog Tryz.f66 = some S.s66 := by kernel_rfl
set_option maxRecDepth 100000 in
def S.s91 : SC := (.seq (.reg [⟨(.some 2), .none, .false, (.box 56 (.tmp 0))⟩, ⟨(.some 4), .none, .false, (.mv (.const (Go.Value.bool false)))⟩]) (.seq (.seq (.reg [⟨(.some 7), .none, .false, (.mv (.tmp 1))⟩, ⟨(.some 8), .none, .false, (.len (.tmp 7))⟩, ⟨(.some 9), .none, .false, (.mv (.const (Go.Value.int Go.IntKind.i64 0)))⟩]) (.block 0 (.loop (.seq (.reg [⟨(.some 10), .none, .false, (.bin .lss (.tmp 9) (.tmp 8))⟩]) (.seq (.cond (.tmp 10) .skip (.exit 0)) (.seq (.block 1 (.seq (.reg [⟨(.some 11), .none, .false, (.mv (.tmp 9))⟩, ⟨(.some 12), .none, .false, (.ix (.mk 2 1) (.tmp 7) (.tmp 9))⟩, ⟨(.some 13), .none, .false, (.ld .false 1 (.tmp 12))⟩, ⟨(.some 5), .none, .false, (.mv (.tmp 11))⟩, ⟨(.some 6), .none, .false, (.mv (.tmp 13))⟩]) (.seq (.reg [⟨(.some 14), .none, .false, (.mv (.tmp 6))⟩, ⟨(.some 15), .none, .false, (.bin .eql (.tmp 14) (.const (Go.Value.int Go.IntKind.i64 0)))⟩, ⟨(.some 16), .none, .false, (.mv (.tmp 15))⟩, ⟨(.some 17), (.some (16, .true)), .false, (.ld .true 2 (.tmp 2))⟩, ⟨(.some 18), (.some (16, .true)), .false, (.mv (.tmp 5))⟩, ⟨(.some 19), (.some (16, .true)), .false, (.call (.func 59) [(.tmp 17), (.tmp 18)])⟩, ⟨(.some 20), .none, .false, (.pick (.tmp 16) (.tmp 19) (.const (Go.Value.bool false)))⟩]) (.cond (.tmp 20) (.seq (.reg [⟨(.some 4), .none, .false, (.mv (.const (Go.Value.bool false)))⟩]) .ret) .skip)))) (.reg [⟨(.some 21), .none, .false, (.bin .add (.tmp 9) (.const (Go.Value.int Go.IntKind.i64 1)))⟩, ⟨(.some 9), .none, .false, (.mv (.tmp 21))⟩]))))))) (.seq (.reg [⟨(.some 4), .none, .false, (.mv (.const (Go.Value.bool true)))⟩]) .ret)))
set_option maxRecDepth 100000 in
theorem S.ok91 : stripF Tryz.prog Tryz.f91 = some S.s91 := by kernel_rfl
set_option maxRecDepth 100000 in
def S.s92 : SC := (.seq (.reg [⟨(.some 4), .none, .false, (.box 56 (.tmp 1))⟩, ⟨(.some 6), .none, .false, (.mv (.const (Go.Value.bool false)))⟩]) (.seq (.seq (.reg [⟨(.some 9), .none, .false, (.mv (.tmp 0))⟩, ⟨(.some 10), .none, .false, (.mv (.const (Go.Value.int Go.IntKind.i64 0)))⟩]) (.block 0 (.loop (.seq (.reg [⟨(.some 11), .none, .false, (.bin .lss (.tmp 10) (.tmp 9))⟩]) (.seq (.cond (.tmp 11) .skip (.exit 0)) (.seq (.block 1 (.seq (.reg [⟨(.some 12), .none, .false, (.mv (.tmp 10))⟩, ⟨(.some 7), .none, .false, (.mv (.tmp 12))⟩]) (.seq (.reg [⟨(.some 13), .none, .false, (.mv (.tmp 7))⟩, ⟨(.some 14), .none, .false, (.bin .shl (.const (Go.Value.int Go.IntKind.i64 1)) (.tmp 13))⟩, ⟨(.some 8), .none, .false, (.mv (.tmp 14))⟩]) (.seq (.reg [⟨(.some 15), .none, .false, (.fa 0 (.tmp 4))⟩, ⟨(.some 16), .none, .false, (.ld .false 1 (.tmp 15))⟩, ⟨(.some 17), .none, .false, (.mv (.tmp 8))⟩, ⟨(.some 18), .none, .false, (.bin .and (.tmp 16) (.tmp 17))⟩, ⟨(.some 19), .none, .false, (.bin .neq (.tmp 18) (.const (Go.Value.int Go.IntKind.i64 0)))⟩, ⟨(.some 20), .none, .false, (.mv (.tmp 19))⟩, ⟨(.some 21), (.some (20, .true)), .false, (.fa 0 (.tmp 4))⟩, ⟨(.some 22), (.some (20, .true)), .false, (.ld .false 1 (.tmp 21))⟩, ⟨(.some 23), (.some (20, .true)), .false, (.mv (.tmp 8))⟩, ⟨(.some 24), (.some (20, .true)), .false, (.bin .andNot (.tmp 22) (.tmp 23))⟩, ⟨(.some 25), (.some (20, .true)), .false, (.fa 1 (.tmp 4))⟩, ⟨(.some 26), (.some (20, .true)), .false, (.ld .false 1 (.tmp 25))⟩, ⟨(.some 27), (.some (20, .true)), .false, (.mv (.tmp 8))⟩, ⟨(.some 28), (.some (20, .true)), .false, (.bin .andNot (.tmp 26) (.tmp 27))⟩, ⟨(.some 29), (.some (20, .true)), .false, (.bld [(Go.Value.int Go.IntKind.i64 0), (Go.Value.int Go.IntKind.i64 0)] [(0, 1), (1, 1)] [(0, (.tmp 24)), (1, (.tmp 28))])⟩, ⟨(.some 30), (.some (20, .true)), .false, (.mv (.tmp 2))⟩, ⟨(.some 31), (.some (20, .true)), .false, (.call (.func 91) [(.tmp 29), (.tmp 30)])⟩, ⟨(.some 32), .none, .false, (.pick (.tmp 20) (.tmp 31) (.const (Go.Value.bool false)))⟩]) (.cond (.tmp 32) (.seq (.reg [⟨(.some 6), .none, .false, (.mv (.const (Go.Value.bool false)))⟩]) .ret) .skip))))) (.reg [⟨(.some 33), .none, .false, (.bin .add (.tmp 10) (.const (Go.Value.int Go.IntKind.i64 1)))⟩, ⟨(.some 10), .none, .false, (.mv (.tmp 33))⟩]))))))) (.seq (.reg [⟨(.some 6), .none, .false, (.mv (.const (Go.Value.bool true)))⟩]) .ret)))
set_option maxRecDepth 100000 in
theorem S.ok92 : stripF Tryz.prog Tryz.f92 = some S.s92 := by kernel_rfl
set_option maxRecDepth 100000 in
def S.s95 : SC := (.seq (.reg [⟨(.some 3), .none, .false, (.box 56 (.tmp 1))⟩, ⟨(.some 4), .none, .false, (.mv (.const (Go.Value.bool false)))⟩]) (.seq (.seq (.reg [⟨(.some 5), .none, .false, (.mv (.const (Go.Value.int Go.IntKind.i64 0)))⟩]) (.block 0 (.loop (.seq (.seq (.reg [⟨(.some 6), .none, .false, (.mv (.tmp 5))⟩, ⟨(.some 7), .none, .false, (.mv (.tmp 0))⟩, ⟨(.some 8), .none, .false, (.len (.tmp 7))⟩, ⟨(.some 9), .none, .false, (.bin .lss (.tmp 6) (.tmp 8))⟩]) (.cond (.tmp 9) .skip (.exit 0))) (.seq (.block 1 (.seq (.reg [⟨(.some 12), .none, .false, (.ld .true 2 (.tmp 3))⟩, ⟨(.some 13), .none, .false, (.mv (.tmp 5))⟩, ⟨(.some 14), .none, .false, (.call (.func 96) [(.tmp 12), (.tmp 13)])⟩, ⟨(.some 15), .none, .false, (.mv (.tmp 14))⟩, ⟨(.some 16), (.some (15, .true)), .false, (.mv (.tmp 0))⟩, ⟨(.some 17), (.some (15, .true)), .false, (.mv (.tmp 5))⟩, ⟨(.some 18), (.some (15, .true)), .false, (.ix (.mk 2 1) (.tmp 16) (.tmp 17))⟩, ⟨(.some 19), (.some (15, .true)), .false, (.ld .false 1 (.tmp 18))⟩, ⟨(.some 20), (.some (15, .true)), .false, (.bin .eql (.tmp 19) (.const (Go.Value.int Go.IntKind.i64 0)))⟩, ⟨(.some 21), .none, .false, (.pick (.tmp 15) (.tmp 20) (.const (Go.Value.bool false)))⟩]) (.cond (.tmp 21) (.seq (.reg [⟨(.some 4), .none, .false, (.mv (.const (Go.Value.bool false)))⟩]) .ret) .skip))) (.reg [⟨(.some 10), .none, .false, (.mv (.tmp 5))⟩, ⟨(.some 11), .none, .false, (.bin .add (.tmp 10) (.const (Go.Value.int Go.IntKind.i64 1)))⟩, ⟨(.some 5), .none, .false, (.mv (.tmp 11))⟩])))))) (.seq (.reg [⟨(.some 4), .none, .false, (.mv (.const (Go.Value.bool true)))⟩]) .ret)))
set_option maxRecDepth 100000 in
theorem S.ok95 : stripF Tryz.prog Tryz.f95 = some S.s95 := by kernel_rfl
set_option maxRecDepth 10000
set_option maxHeartbeats 4000000
def covTo (l : List Int) (c : TCube) (n : Nat) : Prop := ∀ (i : Nat) v, i < n → l[i]? = some v → v = 0 → hasQ c i = false
theorem covTo_succ {l : List Int} {c : TCube} {n : Nat} {v : Int} (h : covTo l c n) (hv : l[n]? = some v) (h1 : v = 0 → hasQ c n = false) : covTo l c (n + 1) := fun i x hi hx h0 => by
  by_cases hin : i = n
  · subst hin
    rw [hv] at hx
    cases hx
    exact h1 h0
  · exact h i x (by omega) hx h0
def covQ (l : List Int) (c : TCube) : Prop := covTo l c l.length
def lessQ (c : TCube) (j : Nat) : TCube := ⟨andNotI c.fCare (2 ^ j), andNotI c.fValue (2 ^ j)⟩
def primTo (l : List Int) (c : TCube) (n : Nat) : Prop := ∀ j : Nat, j < n → ¬ (andI c.fCare (2 ^ j) ≠ 0 ∧ covQ l (lessQ c j))
theorem primTo_succ {l : List Int} {c : TCube} {n : Nat} (h : primTo l c n) (h1 : ¬ (andI c.fCare (2 ^ n) ≠ 0 ∧ covQ l (lessQ c n))) : primTo l c (n + 1) := fun j hj => by
  by_cases hjn : j = n
  · subst hjn; exact h1
  · exact h j (by omega)
theorem primTo_iff {l : List Int} {c : TCube} {n : Nat} (h1 : ¬ (andI c.fCare (2 ^ n) ≠ 0 ∧ covQ l (lessQ c n))) : primTo l c (n + 1) ↔ primTo l c n := ⟨fun h j hj => h j (by omega), fun h => primTo_succ h h1⟩
def okT (n : Int) (l : List Int) : Prop := (1 ≤ n ∧ n ≤ 4) ∧ inK l (2 ^ n.toNat)
def okPr (n : Nat) (l : List Int) (c : TCube) : Prop := andI c.fValue c.fCare = c.fValue ∧ covQ l c ∧ primTo l c n
open Classical in
noncomputable def gQ (n : Nat) (l : List Int) (c v : Nat) : List TCube := if okPr n l ⟨c, v⟩ then [⟨c, v⟩] else []
theorem gQ_len {n : Nat} {l : List Int} {c v : Nat} : (gQ n l c v).length ≤ 1 := by
  unfold gQ
  split <;> simp
noncomputable def rowQ (n : Nat) (l : List Int) (c : Nat) : Nat → List TCube
  | 0 => []
  | v + 1 => rowQ n l c v ++ gQ n l c v
theorem rowQ_len {n : Nat} {l : List Int} {c : Nat} : ∀ v : Nat, (rowQ n l c v).length ≤ v
  | 0 => by simp [rowQ]
  | v + 1 => by
    have := rowQ_len (n := n) (l := l) (c := c) v
    have := gQ_len (n := n) (l := l) (c := c) (v := v)
    simp only [rowQ, List.length_append]
    omega
theorem gQ_big {n : Nat} {l : List Int} {c v : Nat} (h : c < v) (hc : c < 16) : gQ n l c v = [] := by
  unfold gQ
  rw [if_neg]
  intro h1
  have := (andI_le (m := (v : Int)) (n := (c : Int)) ⟨by omega, by omega⟩).2
  have h2 : andI (v : Int) (c : Int) = v := h1.1
  omega
theorem rowQ_big {n : Nat} {l : List Int} {c : Nat} (hc : c < 16) : ∀ k : Nat, rowQ n l c (c + 1 + k) = rowQ n l c (c + 1)
  | 0 => rfl
  | k + 1 => by
    rw [show c + 1 + (k + 1) = (c + 1 + k) + 1 from rfl, rowQ, gQ_big (by omega) hc, List.append_nil]
    exact rowQ_big hc k
noncomputable def tabQ (n : Nat) (l : List Int) : Nat → List TCube
  | 0 => []
  | c + 1 => tabQ n l c ++ rowQ n l c (c + 1)
theorem tabQ_len {n : Nat} {l : List Int} : ∀ c : Nat, c ≤ 16 → (tabQ n l c).length ≤ c * 16
  | 0, _ => by simp [tabQ]
  | c + 1, h => by
    have := tabQ_len (n := n) (l := l) c (by omega)
    have := rowQ_len (n := n) (l := l) (c := c) (c + 1)
    simp only [tabQ, List.length_append]
    omega
open Classical in
noncomputable def fPrimes (n : Int) (l : List Int) : List TCube × Int := if okT n l then (tabQ n.toNat l (2 ^ n.toNat), 0) else ([], 2)
theorem p16 {n : Nat} (h : 1 ≤ n ∧ n ≤ 4) : 2 ≤ (2 : Nat) ^ n ∧ (2 : Nat) ^ n ≤ 16 := by
  have : n = 1 ∨ n = 2 ∨ n = 3 ∨ n = 4 := by omega
  rcases this with rfl | rfl | rfl | rfl <;> decide
theorem p16c {n : Nat} : ((2 ^ n : Nat) : Int) = 2 ^ n := by simp
theorem bit1 : ∀ c : Fin 16, ∀ j : Fin 4, andI (c.val : Int) (2 ^ j.val) ≠ 0 → andI ((c.val : Int) / 2 ^ j.val) 1 = 1 ∧ andNotI (c.val : Int) (2 ^ j.val) ≠ (c.val : Int) := by decide
theorem bit0 : ∀ c : Fin 16, ∀ j : Fin 4, andI (c.val : Int) (2 ^ j.val) = 0 → andI ((c.val : Int) / 2 ^ j.val) 1 ≠ 1 := by decide
theorem iImp (c : TCube) (l : List Int) : Spec Tryz.prog 91 [.agg (enCube c), vL kI (ints l)] (oB (bP (covQ l c))) := by
  refine Spec.walk T.mixed Tryz.func91 S.ok91 (by simp [Tryz.f91]) fun hk => ?_
  have hlen := (K.c hk 1 rfl).lenM
  unfold S.s91
  repeat' (first|refine R.mv rfl ?_|refine R.reg ?_|refine R.nil ?_|refine R.seq ?_|refine R.nseq ?_|refine R.blk ?_|refine R.lenM rfl ?_|refine R.box rfl rfl rfl ?_)
  refine R.loop (G := Nat) (fun i => [(2, .v (.c (.ptr 2 0))), (7, rdA kI (ints l)), (8, pvA (.int .i64 l.length)), (9, pvA (.int .i64 i))]) (fun _ => [(2, .box 56 ((enCube c).map B.d))]) (fun i => i ≤ l.length ∧ covTo l c i) (fun i => l.length - i) 0 ⟨by omega, fun i v hi => by omega⟩ (Weak.frame _ _ ⟨rfl, rfl, rfl, rfl, trivial⟩ ⟨rfl, trivial⟩ rfl rfl) fun i hi => ?_
  obtain ⟨hi, hu⟩ := hi
  by_cases hil : i < l.length
  · obtain ⟨v, hv⟩ : ∃ v, l[i]? = some v := ⟨_, List.getElem?_eq_getElem hil⟩
    by_cases hb : hasQ c i = true
    · have hh := iHas c i
      rw [hb] at hh
      repeat' (first|refine R.ixK v hv rfl rfl rfl ?_|refine R.mv rfl ?_|refine R.reg ?_|refine R.nil ?_|refine R.seq ?_|refine R.nseq ?_|refine R.nblk ?_|refine R.skip ?_|refine R.blk ?_|refine R.exit rfl ?_|refine R.gRun rfl ?_|refine R.gSkip rfl ?_|refine R.ld rfl rfl rfl ?_|refine R.lda rfl rfl (lbT rfl) rfl ?_|refine R.lss rfl rfl ?_|refine R.eql rfl rfl ?_|refine R.add rfl rfl (by omega) ?_|refine R.pickT rfl rfl ?_|refine R.pickF rfl rfl ?_|refine R.condT rfl ?_|refine R.condF rfl ?_|refine R.call (bor := false) rfl rfl (hh) rfl rfl rfl ?_|refine R.cond rfl (fun hc => ?_) (fun hc => ?_)|refine R.gP rfl (fun hc => ?_) (fun hc => ?_))
      all_goals first
        | (exfalso; omega)
        | exact R.nloop (R.again (i + 1) ⟨by omega, covTo_succ hu hv (fun h0 => absurd h0 (by assumption))⟩ (by omega) ⟨rfl, rfl, rfl, rfl, trivial⟩ ⟨rfl, trivial⟩ rfl rfl)
        | exact R.ret ⟨.inr rfl, R.outB rfl rfl (bP_false fun h => by have := h i v hil hv (by assumption); rw [hb] at this; cases this)⟩
    · have hh := iHas c i
      rw [Bool.eq_false_iff.2 hb] at hh
      repeat' (first|refine R.ixK v hv rfl rfl rfl ?_|refine R.mv rfl ?_|refine R.reg ?_|refine R.nil ?_|refine R.seq ?_|refine R.nseq ?_|refine R.nblk ?_|refine R.skip ?_|refine R.blk ?_|refine R.exit rfl ?_|refine R.gRun rfl ?_|refine R.gSkip rfl ?_|refine R.ld rfl rfl rfl ?_|refine R.lda rfl rfl (lbT rfl) rfl ?_|refine R.lss rfl rfl ?_|refine R.eql rfl rfl ?_|refine R.add rfl rfl (by omega) ?_|refine R.pickT rfl rfl ?_|refine R.pickF rfl rfl ?_|refine R.condF rfl ?_|refine R.call (bor := false) rfl rfl (hh) rfl rfl rfl ?_|refine R.cond rfl (fun hc => ?_) (fun hc => ?_)|refine R.gP rfl (fun hc => ?_) (fun hc => ?_))
      all_goals first
        | (exfalso; omega)
        | exact R.nloop (R.again (i + 1) ⟨by omega, covTo_succ hu hv (fun _ => Bool.eq_false_iff.2 hb)⟩ (by omega) ⟨rfl, rfl, rfl, rfl, trivial⟩ ⟨rfl, trivial⟩ rfl rfl)
  · repeat' (first|refine R.mv rfl ?_|refine R.reg ?_|refine R.nil ?_|refine R.seq ?_|refine R.nseq ?_|refine R.nblk ?_|refine R.skip ?_|refine R.blk ?_|refine R.exit rfl ?_|refine R.gRun rfl ?_|refine R.gSkip rfl ?_|refine R.ld rfl rfl rfl ?_|refine R.lda rfl rfl (lbT rfl) rfl ?_|refine R.lss rfl rfl ?_|refine R.eql rfl rfl ?_|refine R.add rfl rfl (by omega) ?_|refine R.ixN rfl rfl rfl (by omega) (fun a ha => ?_)|refine R.pickF rfl rfl ?_|refine R.condF rfl ?_|refine R.cond rfl (fun hc => ?_) (fun hc => ?_)|refine R.gP rfl (fun hc => ?_) (fun hc => ?_))
    all_goals first
      | (exfalso; omega)
      | (obtain rfl : i = l.length := by omega
         exact R.ret ⟨.inr rfl, R.outB rfl rfl (bP_true hu)⟩)
theorem iImpT {c : TCube} {l : List Int} (h : covQ l c) : Spec Tryz.prog 91 [.agg (enCube c), vL kI (ints l)] (oB true) := by have := iImp c l; rwa [bP_iff.2 h] at this
theorem iImpF {c : TCube} {l : List Int} (h : ¬ covQ l c) : Spec Tryz.prog 91 [.agg (enCube c), vL kI (ints l)] (oB false) := by have := iImp c l; rwa [bP_not.2 h] at this
theorem iPrime (n : Nat) (c : TCube) (l : List Int) (hn : 1 ≤ n ∧ n ≤ 4) : Spec Tryz.prog 92 [vI n, .agg (enCube c), vL kI (ints l)] (oB (bP (primTo l c n))) := by
  refine Spec.walk T.mixed Tryz.func92 S.ok92 (by simp [Tryz.f92]) fun hk => ?_
  unfold S.s92
  repeat' (first|refine R.mv rfl ?_|refine R.reg ?_|refine R.nil ?_|refine R.seq ?_|refine R.nseq ?_|refine R.blk ?_|refine R.box rfl rfl rfl ?_)
  refine R.loop (G := Nat) (fun i => [(2, rdA kI (ints l)), (4, .v (.c (.ptr 4 0))), (9, pvA (.int .i64 n)), (10, pvA (.int .i64 i))]) (fun _ => [(4, .box 56 ((enCube c).map B.d))]) (fun i => i ≤ n ∧ primTo l c i) (fun i => n - i) 0 ⟨by omega, fun i hi => by omega⟩ (Weak.frame _ _ ⟨rfl, rfl, rfl, rfl, trivial⟩ ⟨rfl, trivial⟩ rfl rfl) fun i hi => ?_
  obtain ⟨hi, hu⟩ := hi
  by_cases hil : i < n
  · by_cases hb : covQ l (lessQ c i)
    · repeat' (first|refine R.mv rfl ?_|refine R.reg ?_|refine R.nil ?_|refine R.seq ?_|refine R.nseq ?_|refine R.nblk ?_|refine R.skip ?_|refine R.blk ?_|refine R.exit rfl ?_|refine R.gRun rfl ?_|refine R.gSkip rfl ?_|refine R.ld rfl rfl rfl ?_|refine R.fa rfl rfl ?_|refine R.lss rfl rfl ?_|refine R.neq rfl rfl ?_|refine R.add rfl rfl (by omega) ?_|refine R.pickT rfl rfl ?_|refine R.pickF rfl rfl ?_|refine R.bld rfl rfl ?_|refine R.and rfl rfl ?_|refine R.andNot rfl rfl ?_|refine R.shl1 rfl rfl (by omega) (fun hp => ?_)|refine R.condT rfl ?_|refine R.condF rfl ?_|refine R.call (bor := false) rfl rfl (iImpT (c := lessQ c i) hb) rfl rfl rfl ?_|refine R.cond rfl (fun hc => ?_) (fun hc => ?_)|refine R.gN rfl (fun hc => ?_) (fun hc => ?_))
      all_goals first
        | (exfalso; omega)
        | exact R.nloop (R.again (i + 1) ⟨by omega, primTo_succ hu (fun h => h.1 (by first | assumption | simp_all))⟩ (by omega) ⟨rfl, rfl, rfl, rfl, trivial⟩ ⟨rfl, trivial⟩ rfl rfl)
        | exact R.ret ⟨.inr rfl, R.outB rfl rfl (bP_false fun h => h i hil ⟨by first | assumption | simp_all, hb⟩)⟩
    · repeat' (first|refine R.mv rfl ?_|refine R.reg ?_|refine R.nil ?_|refine R.seq ?_|refine R.nseq ?_|refine R.nblk ?_|refine R.skip ?_|refine R.blk ?_|refine R.exit rfl ?_|refine R.gRun rfl ?_|refine R.gSkip rfl ?_|refine R.ld rfl rfl rfl ?_|refine R.fa rfl rfl ?_|refine R.lss rfl rfl ?_|refine R.neq rfl rfl ?_|refine R.add rfl rfl (by omega) ?_|refine R.pickT rfl rfl ?_|refine R.pickF rfl rfl ?_|refine R.bld rfl rfl ?_|refine R.and rfl rfl ?_|refine R.andNot rfl rfl ?_|refine R.shl1 rfl rfl (by omega) (fun hp => ?_)|refine R.condF rfl ?_|refine R.call (bor := false) rfl rfl (iImpF (c := lessQ c i) hb) rfl rfl rfl ?_|refine R.cond rfl (fun hc => ?_) (fun hc => ?_)|refine R.gN rfl (fun hc => ?_) (fun hc => ?_))
      all_goals first
        | (exfalso; omega)
        | exact R.nloop (R.again (i + 1) ⟨by omega, primTo_succ hu (fun h => hb h.2)⟩ (by omega) ⟨rfl, rfl, rfl, rfl, trivial⟩ ⟨rfl, trivial⟩ rfl rfl)
  · repeat' (first|refine R.mv rfl ?_|refine R.reg ?_|refine R.nil ?_|refine R.seq ?_|refine R.nseq ?_|refine R.nblk ?_|refine R.skip ?_|refine R.blk ?_|refine R.exit rfl ?_|refine R.gRun rfl ?_|refine R.gSkip rfl ?_|refine R.ld rfl rfl rfl ?_|refine R.fa rfl rfl ?_|refine R.lss rfl rfl ?_|refine R.neq rfl rfl ?_|refine R.add rfl rfl (by omega) ?_|refine R.pickF rfl rfl ?_|refine R.bld rfl rfl ?_|refine R.and rfl rfl ?_|refine R.andNot rfl rfl ?_|refine R.shl1 rfl rfl (by omega) (fun hp => ?_)|refine R.condF rfl ?_|refine R.cond rfl (fun hc => ?_) (fun hc => ?_)|refine R.gN rfl (fun hc => ?_) (fun hc => ?_))
    all_goals first
      | (exfalso; omega)
      | exact R.ret ⟨.inr rfl, R.outB rfl rfl (bP_true ((show i = n by omega) ▸ hu))⟩
theorem iPriT {n : Nat} {c : TCube} {l : List Int} (hn : 1 ≤ n ∧ n ≤ 4) (h : primTo l c n) : Spec Tryz.prog 92 [vI n, .agg (enCube c), vL kI (ints l)] (oB true) := by have := iPrime n c l hn; rwa [bP_iff.2 h] at this
theorem iPriF {n : Nat} {c : TCube} {l : List Int} (hn : 1 ≤ n ∧ n ≤ 4) (h : ¬ primTo l c n) : Spec Tryz.prog 92 [vI n, .agg (enCube c), vL kI (ints l)] (oB false) := by have := iPrime n c l hn; rwa [bP_not.2 h] at this
theorem iCubT {n : Int} {q : TCube} (h : 1 ≤ n ∧ n ≤ 4) (h2 : okQ n q) : Spec Tryz.prog 50 [vI n, .agg (enCube q)] (oB true) := by have := iIsCube n q h; rwa [bP_iff.2 h2] at this
theorem iCubF {n : Int} {q : TCube} (h : 1 ≤ n ∧ n ≤ 4) (h2 : ¬ okQ n q) : Spec Tryz.prog 50 [vI n, .agg (enCube q)] (oB false) := by have := iIsCube n q h; rwa [bP_not.2 h2] at this
theorem iPrimes1 (n : Nat) (l : List Int) (hn : 1 ≤ n ∧ n ≤ 4) : Spec Tryz.prog 62 [vI n, vL kI (ints l)] (oN kCube ((tabQ n l (2 ^ n)).map enCube)) := by
  refine Spec.walk T.mixed Tryz.func62 S.ok62 (by simp [Tryz.f62]) fun hk => ?_
  have hp := p16 hn
  have hc2 := p16c (n := n)
  have hnI : 1 ≤ (n : Int) ∧ (n : Int) ≤ 4 := ⟨by omega, by omega⟩
  unfold S.s62
  repeat' (first|refine R.mv rfl ?_|refine R.reg ?_|refine R.nil ?_|refine R.seq ?_|refine R.nseq ?_|refine R.blk ?_|refine R.shl1 rfl rfl (by omega) (fun hp => ?_))
  refine R.loop (G := Nat) (fun c => [(0, pvA (.int .i64 n)), (1, rdA kI (ints l)), (5, .v (.c (.own 5))), (10, pvA (.int .i64 (2 ^ n))), (11, pvA (.int .i64 c))]) (fun c => [(5, .arr kCube ((tabQ n l c).map enCube) [])]) (fun c => c ≤ 2 ^ n) (fun c => 2 ^ n - c) 0 (by omega) (Weak.trans (Weak.reify 5 5 kCube rfl rfl) (Weak.frame _ _ ⟨rfl, rfl, rfl, rfl, rfl, trivial⟩ ⟨rfl, trivial⟩ rfl rfl)) fun c hcn => ?_
  have htl := tabQ_len (n := n) (l := l) c (by omega)
  by_cases hcl : c < 2 ^ n
  · repeat' (first|refine R.mv rfl ?_|refine R.reg ?_|refine R.nil ?_|refine R.seq ?_|refine R.nseq ?_|refine R.skip ?_|refine R.blk ?_|refine R.exit rfl ?_|refine R.lss rfl rfl ?_|refine R.add rfl rfl (by omega) ?_|refine R.cond rfl (fun hc => ?_) (fun hc => ?_))
    all_goals first | (exfalso; omega) | skip
    refine R.loop (G := Nat) (fun v => [(0, pvA (.int .i64 n)), (1, rdA kI (ints l)), (5, .v (.c (.own 5))), (6, pvA (.int .i64 c)), (10, pvA (.int .i64 (2 ^ n))), (11, pvA (.int .i64 c)), (15, pvA (.int .i64 (c + 1))), (16, pvA (.int .i64 v))]) (fun v => [(5, .arr kCube ((tabQ n l c ++ rowQ n l c v).map enCube) [])]) (fun v => v ≤ c + 1) (fun v => c + 1 - v) 0 (by omega) (Weak.frame _ _ ⟨rfl, rfl, rfl, rfl, rfl, rfl, rfl, rfl, trivial⟩ ⟨by simp [rowQ]; rfl, trivial⟩ rfl rfl) fun v hv => ?_
    have hrl := rowQ_len (n := n) (l := l) (c := c) v
    by_cases hvl : v < c + 1
    · by_cases hA : okQ n ⟨c, v⟩
      · by_cases hB : covQ l ⟨c, v⟩
        · by_cases hC : primTo l ⟨c, v⟩ n
          · have hg : gQ n l c v = [⟨c, v⟩] := if_pos ⟨hA.2, hB, hC⟩
            repeat' (first|refine R.mv rfl ?_|refine R.reg ?_|refine R.nil ?_|refine R.seq ?_|refine R.nseq ?_|refine R.nblk ?_|refine R.skip ?_|refine R.blk ?_|refine R.exit rfl ?_|refine R.gRun rfl ?_|refine R.lda rfl rfl (lbT rfl) rfl ?_|refine R.lss rfl rfl ?_|refine R.add rfl rfl (by omega) ?_|refine R.pickT rfl rfl ?_|refine R.al rfl ?_|refine R.stoB rfl rfl rfl rfl ⟨rfl, rfl, Nat.le_of_ble_eq_true rfl⟩ rfl ?_|refine R.bld rfl rfl ?_|refine R.condT rfl ?_|refine R.call (bor := false) rfl rfl (iCubT (q := ⟨c, v⟩) hnI hA) rfl rfl rfl ?_|refine R.call (bor := false) rfl rfl (iImpT (c := ⟨c, v⟩) hB) rfl rfl rfl ?_|refine R.call (bor := false) rfl rfl (iPriT (c := ⟨c, v⟩) hn hC) rfl rfl rfl ?_|refine R.bsl (f := enCube) [(⟨c, v⟩ : TCube)] rfl rfl rfl rfl rfl ?_|refine R.app (f := enCube) (fun _ => rfl) rfl rfl rfl rfl rfl ⟨by simp only [List.length_append, List.length_singleton]; omega, by simp only [List.length_append, List.length_singleton]; omega⟩ ?_|refine R.cond rfl (fun hc => ?_) (fun hc => ?_))
            all_goals first
              | (exfalso; omega)
              | exact R.nloop (R.again (v + 1) (by omega) (by omega) ⟨rfl, rfl, rfl, rfl, rfl, rfl, rfl, rfl, trivial⟩ ⟨arr_eq (by rw [rowQ, hg, List.append_assoc]), trivial⟩ rfl rfl)
          · have hg : gQ n l c v = [] := if_neg fun h => hC h.2.2
            repeat' (first|refine R.mv rfl ?_|refine R.reg ?_|refine R.nil ?_|refine R.seq ?_|refine R.nseq ?_|refine R.nblk ?_|refine R.skip ?_|refine R.blk ?_|refine R.exit rfl ?_|refine R.gRun rfl ?_|refine R.lda rfl rfl (lbT rfl) rfl ?_|refine R.lss rfl rfl ?_|refine R.add rfl rfl (by omega) ?_|refine R.pickT rfl rfl ?_|refine R.al rfl ?_|refine R.stoB rfl rfl rfl rfl ⟨rfl, rfl, Nat.le_of_ble_eq_true rfl⟩ rfl ?_|refine R.bld rfl rfl ?_|refine R.condF rfl ?_|refine R.call (bor := false) rfl rfl (iCubT (q := ⟨c, v⟩) hnI hA) rfl rfl rfl ?_|refine R.call (bor := false) rfl rfl (iImpT (c := ⟨c, v⟩) hB) rfl rfl rfl ?_|refine R.call (bor := false) rfl rfl (iPriF (c := ⟨c, v⟩) hn hC) rfl rfl rfl ?_|refine R.cond rfl (fun hc => ?_) (fun hc => ?_))
            all_goals first
              | (exfalso; omega)
              | exact R.nloop (R.again (v + 1) (by omega) (by omega) ⟨rfl, rfl, rfl, rfl, rfl, rfl, rfl, rfl, trivial⟩ ⟨arr_eq (by rw [rowQ, hg, List.append_nil]), trivial⟩ rfl rfl)
        · have hg : gQ n l c v = [] := if_neg fun h => hB h.2.1
          repeat' (first|refine R.mv rfl ?_|refine R.reg ?_|refine R.nil ?_|refine R.seq ?_|refine R.nseq ?_|refine R.nblk ?_|refine R.skip ?_|refine R.blk ?_|refine R.exit rfl ?_|refine R.gRun rfl ?_|refine R.gSkip rfl ?_|refine R.lda rfl rfl (lbT rfl) rfl ?_|refine R.lss rfl rfl ?_|refine R.add rfl rfl (by omega) ?_|refine R.pickT rfl rfl ?_|refine R.pickF rfl rfl ?_|refine R.al rfl ?_|refine R.stoB rfl rfl rfl rfl ⟨rfl, rfl, Nat.le_of_ble_eq_true rfl⟩ rfl ?_|refine R.bld rfl rfl ?_|refine R.condF rfl ?_|refine R.call (bor := false) rfl rfl (iCubT (q := ⟨c, v⟩) hnI hA) rfl rfl rfl ?_|refine R.call (bor := false) rfl rfl (iImpF (c := ⟨c, v⟩) hB) rfl rfl rfl ?_|refine R.cond rfl (fun hc => ?_) (fun hc => ?_))
          all_goals first
            | (exfalso; omega)
            | exact R.nloop (R.again (v + 1) (by omega) (by omega) ⟨rfl, rfl, rfl, rfl, rfl, rfl, rfl, rfl, trivial⟩ ⟨arr_eq (by rw [rowQ, hg, List.append_nil]), trivial⟩ rfl rfl)
      · have hg : gQ n l c v = [] := if_neg fun h => hA ⟨⟨by show 0 ≤ (c : Int); omega, by show (c : Int) ≤ 2 ^ (n : Int).toNat - 1; rw [Int.toNat_natCast]; omega⟩, h.1⟩
        repeat' (first|refine R.mv rfl ?_|refine R.reg ?_|refine R.nil ?_|refine R.seq ?_|refine R.nseq ?_|refine R.nblk ?_|refine R.skip ?_|refine R.blk ?_|refine R.exit rfl ?_|refine R.gSkip rfl ?_|refine R.lda rfl rfl (lbT rfl) rfl ?_|refine R.lss rfl rfl ?_|refine R.add rfl rfl (by omega) ?_|refine R.pickF rfl rfl ?_|refine R.al rfl ?_|refine R.stoB rfl rfl rfl rfl ⟨rfl, rfl, Nat.le_of_ble_eq_true rfl⟩ rfl ?_|refine R.bld rfl rfl ?_|refine R.condF rfl ?_|refine R.call (bor := false) rfl rfl (iCubF (q := ⟨c, v⟩) hnI hA) rfl rfl rfl ?_|refine R.cond rfl (fun hc => ?_) (fun hc => ?_))
        all_goals first
          | (exfalso; omega)
          | exact R.nloop (R.again (v + 1) (by omega) (by omega) ⟨rfl, rfl, rfl, rfl, rfl, rfl, rfl, rfl, trivial⟩ ⟨arr_eq (by rw [rowQ, hg, List.append_nil]), trivial⟩ rfl rfl)
    obtain rfl : v = c + 1 := by omega
    repeat' (first|refine R.mv rfl ?_|refine R.reg ?_|refine R.nil ?_|refine R.seq ?_|refine R.nseq ?_|refine R.nblk ?_|refine R.skip ?_|refine R.blk ?_|refine R.exit rfl ?_|refine R.lda rfl rfl (lbT rfl) rfl ?_|refine R.lss rfl rfl ?_|refine R.add rfl rfl (by omega) ?_|refine R.al rfl ?_|refine R.stoB rfl rfl rfl rfl ⟨rfl, rfl, Nat.le_of_ble_eq_true rfl⟩ rfl ?_|refine R.bld rfl rfl ?_|refine R.cond rfl (fun hc => ?_) (fun hc => ?_))
    all_goals first
      | (exfalso; omega)
      | exact R.nloop (R.again (c + 1) (by omega) (by omega) ⟨rfl, rfl, rfl, rfl, rfl, trivial⟩ ⟨arr_eq (by rw [tabQ]), trivial⟩ rfl rfl)
  obtain rfl : c = 2 ^ n := by omega
  repeat' (first|refine R.mv rfl ?_|refine R.reg ?_|refine R.nil ?_|refine R.seq ?_|refine R.nseq ?_|refine R.skip ?_|refine R.blk ?_|refine R.exit rfl ?_|refine R.lss rfl rfl ?_|refine R.add rfl rfl (by omega) ?_|refine R.cond rfl (fun hc => ?_) (fun hc => ?_))
  all_goals first
    | (exfalso; omega)
    | exact R.ret ⟨.inr rfl, R.outN rfl rfl rfl⟩
theorem iTabT {n : Nat} {l : List Int} (hn : 1 ≤ n ∧ n ≤ 4) (h : inK l (2 ^ n)) : Spec Tryz.prog 60 [vI n, vL kI (ints l)] (oB true) := by
  refine Spec.walk T.mixed Tryz.func60 S.ok60 (by simp [Tryz.f60]) fun hk => ?_
  unfold S.s60
  repeat' (first|refine R.mv rfl ?_|refine R.reg ?_|refine R.nil ?_|refine R.seq ?_|refine R.nseq ?_|refine R.gRun rfl ?_|refine R.pickT rfl rfl ?_|refine R.shl1 rfl rfl (by omega) (fun hp => ?_)|refine R.call (bor := false) rfl rfl (iInT ⟨by omega, by omega⟩) rfl rfl rfl ?_|refine R.call (bor := false) rfl rfl (iBitsT (n := 2 ^ n) h) rfl rfl rfl ?_)
  exact R.ret ⟨.inr rfl, R.outB rfl rfl rfl⟩
theorem iTabF {n : Int} {l : List Int} (h : ¬ okT n l) : Spec Tryz.prog 60 [vI n, vL kI (ints l)] (oB false) := by
  refine Spec.walk T.mixed Tryz.func60 S.ok60 (by simp [Tryz.f60]) fun hk => ?_
  unfold S.s60
  by_cases hn : 1 ≤ n ∧ n ≤ 4
  · repeat' (first|refine R.mv rfl ?_|refine R.reg ?_|refine R.nil ?_|refine R.seq ?_|refine R.nseq ?_|refine R.gRun rfl ?_|refine R.pickT rfl rfl ?_|refine R.shl1 rfl rfl (by omega) (fun hp => ?_)|refine R.call (bor := false) rfl rfl (iInT hn) rfl rfl rfl ?_|refine R.call (bor := false) rfl rfl (iBitsF (n := 2 ^ n.toNat) (fun h1 => h ⟨hn, h1⟩)) rfl rfl rfl ?_)
    exact R.ret ⟨.inr rfl, R.outB rfl rfl rfl⟩
  · repeat' (first|refine R.mv rfl ?_|refine R.reg ?_|refine R.nil ?_|refine R.seq ?_|refine R.nseq ?_|refine R.gSkip rfl ?_|refine R.pickF rfl rfl ?_|refine R.call (bor := false) rfl rfl (iInF hn) rfl rfl rfl ?_)
    exact R.ret ⟨.inr rfl, R.outB rfl rfl rfl⟩
theorem iPrimesOf (n : Int) (l : List Int) : Spec Tryz.prog 22 [vI n, vL kI (ints l)] (.tup [cN kCube ((fPrimes n l).1.map enCube), cI (fPrimes n l).2]) := by
  refine Spec.walk T.mixed Tryz.func22 S.ok22 (by simp [Tryz.f22]) fun hk => ?_
  unfold S.s22
  by_cases h : okT n l
  · rw [show fPrimes n l = (tabQ n.toNat l (2 ^ n.toNat), 0) from if_pos h]
    obtain ⟨m, rfl⟩ : ∃ m : Nat, n = m := ⟨n.toNat, by have := h.1; omega⟩
    have hm : 1 ≤ m ∧ m ≤ 4 := ⟨by have := h.1; omega, by have := h.1; omega⟩
    repeat' (first|refine R.mv rfl ?_|refine R.reg ?_|refine R.nil ?_|refine R.seq ?_|refine R.nseq ?_|refine R.skip ?_|refine R.not rfl ?_|refine R.condF rfl ?_|refine R.call (bor := false) rfl rfl (iTabT hm h.2) rfl rfl rfl ?_|refine R.callN1 (bor := false) rfl rfl (iPrimes1 m l hm) rfl rfl ?_)
    exact R.ret ⟨.inr rfl, R.outNI rfl rfl rfl rfl rfl⟩
  · rw [show fPrimes n l = ([], 2) from if_neg h]
    repeat' (first|refine R.mv rfl ?_|refine R.reg ?_|refine R.nil ?_|refine R.seq ?_|refine R.nseq ?_|refine R.not rfl ?_|refine R.condT rfl ?_|refine R.call (bor := false) rfl rfl (iTabF h) rfl rfl rfl ?_)
    exact R.ret ⟨.inr rfl, R.outNilI rfl rfl rfl rfl rfl rfl⟩
theorem sImp (c : TCube) (l : List Int) : Spec Tryz.prog 95 [vL kI (ints l), .agg (enCube c)] (oB (bP (covQ l c))) := by
  refine Spec.walk T.mixed Tryz.func95 S.ok95 (by simp [Tryz.f95]) fun hk => ?_
  have hlen := (K.c hk 0 rfl).lenM
  unfold S.s95
  repeat' (first|refine R.mv rfl ?_|refine R.reg ?_|refine R.nil ?_|refine R.seq ?_|refine R.nseq ?_|refine R.blk ?_|refine R.box rfl rfl rfl ?_)
  refine R.loop (G := Nat) (fun i => [(0, rdA kI (ints l)), (3, .v (.c (.ptr 3 0))), (5, pvA (.int .i64 i))]) (fun _ => [(3, .box 56 ((enCube c).map B.d))]) (fun i => i ≤ l.length ∧ covTo l c i) (fun i => l.length - i) 0 ⟨by omega, fun i v hi => by omega⟩ (Weak.frame _ _ ⟨rfl, rfl, rfl, trivial⟩ ⟨rfl, trivial⟩ rfl rfl) fun i hi => ?_
  obtain ⟨hi, hu⟩ := hi
  by_cases hil : i < l.length
  · obtain ⟨v, hv⟩ : ∃ v, l[i]? = some v := ⟨_, List.getElem?_eq_getElem hil⟩
    by_cases hb : hasQ c i = true
    · have hh := sHas c i
      rw [hb] at hh
      repeat' (first|refine R.ixK v hv rfl rfl rfl ?_|refine R.mv rfl ?_|refine R.reg ?_|refine R.nil ?_|refine R.seq ?_|refine R.nseq ?_|refine R.nblk ?_|refine R.skip ?_|refine R.blk ?_|refine R.exit rfl ?_|refine R.gRun rfl ?_|refine R.ld rfl rfl rfl ?_|refine R.lda rfl rfl (lbT rfl) rfl ?_|refine R.lenM rfl ?_|refine R.lss rfl rfl ?_|refine R.eql rfl rfl ?_|refine R.add rfl rfl (by omega) ?_|refine R.pickT rfl rfl ?_|refine R.call (bor := false) rfl rfl (hh) rfl rfl rfl ?_|refine R.cond rfl (fun hc => ?_) (fun hc => ?_))
      all_goals first
        | (exfalso; omega)
        | exact R.nloop (R.again (i + 1) ⟨by omega, covTo_succ hu hv (fun h0 => absurd h0 (by assumption))⟩ (by omega) ⟨rfl, rfl, rfl, trivial⟩ ⟨rfl, trivial⟩ rfl rfl)
        | exact R.ret ⟨.inr rfl, R.outB rfl rfl (bP_false fun h => by have := h i v hil hv (by assumption); rw [hb] at this; cases this)⟩
    · have hh := sHas c i
      rw [Bool.eq_false_iff.2 hb] at hh
      repeat' (first|refine R.mv rfl ?_|refine R.reg ?_|refine R.nil ?_|refine R.seq ?_|refine R.nseq ?_|refine R.nblk ?_|refine R.skip ?_|refine R.blk ?_|refine R.exit rfl ?_|refine R.gSkip rfl ?_|refine R.lda rfl rfl (lbT rfl) rfl ?_|refine R.lenM rfl ?_|refine R.lss rfl rfl ?_|refine R.add rfl rfl (by omega) ?_|refine R.pickF rfl rfl ?_|refine R.condF rfl ?_|refine R.call (bor := false) rfl rfl (hh) rfl rfl rfl ?_|refine R.cond rfl (fun hc => ?_) (fun hc => ?_))
      all_goals first
        | (exfalso; omega)
        | exact R.nloop (R.again (i + 1) ⟨by omega, covTo_succ hu hv (fun _ => Bool.eq_false_iff.2 hb)⟩ (by omega) ⟨rfl, rfl, rfl, trivial⟩ ⟨rfl, trivial⟩ rfl rfl)
  · repeat' (first|refine R.mv rfl ?_|refine R.reg ?_|refine R.nil ?_|refine R.seq ?_|refine R.nseq ?_|refine R.skip ?_|refine R.blk ?_|refine R.exit rfl ?_|refine R.lda rfl rfl (lbT rfl) rfl ?_|refine R.lenM rfl ?_|refine R.lss rfl rfl ?_|refine R.cond rfl (fun hc => ?_) (fun hc => ?_))
    all_goals first
      | (exfalso; omega)
      | (obtain rfl : i = l.length := by omega
         exact R.ret ⟨.inr rfl, R.outB rfl rfl (bP_true hu)⟩)
theorem sImpT {c : TCube} {l : List Int} (h : covQ l c) : Spec Tryz.prog 95 [vL kI (ints l), .agg (enCube c)] (oB true) := by have := sImp c l; rwa [bP_iff.2 h] at this
theorem sImpF {c : TCube} {l : List Int} (h : ¬ covQ l c) : Spec Tryz.prog 95 [vL kI (ints l), .agg (enCube c)] (oB false) := by have := sImp c l; rwa [bP_not.2 h] at this
theorem sPrimes1 (n : Nat) (l : List Int) (hn : 1 ≤ n ∧ n ≤ 4) : Spec Tryz.prog 66 [vI n, vL kI (ints l)] (oN kCube ((tabQ n l (2 ^ n)).map enCube)) := by
  refine Spec.walk T.mixed Tryz.func66 S.ok66 (by simp [Tryz.f66]) fun hk => ?_
  have hp := p16 hn
  have hc2 := p16c (n := n)
  unfold S.s66
  repeat' (first|refine R.mv rfl ?_|refine R.reg ?_|refine R.nil ?_|refine R.seq ?_|refine R.nseq ?_|refine R.blk ?_|refine R.bsl (f := enCube) ([] : List TCube) rfl rfl rfl rfl rfl ?_)
  refine R.loop (G := Nat) (fun c => [(0, pvA (.int .i64 n)), (1, rdA kI (ints l)), (5, .v (.c (.own 12))), (6, pvA (.int .i64 c))]) (fun c => [(12, .arr kCube ((tabQ n l c).map enCube) [])]) (fun c => c ≤ 2 ^ n) (fun c => 2 ^ n - c) 0 (by omega) (Weak.frame _ _ ⟨rfl, rfl, rfl, rfl, trivial⟩ ⟨rfl, trivial⟩ rfl rfl) fun c hcn => ?_
  have htl := tabQ_len (n := n) (l := l) c (by omega)
  by_cases hcl : c < 2 ^ n
  · repeat' (first|refine R.mv rfl ?_|refine R.reg ?_|refine R.nil ?_|refine R.seq ?_|refine R.nseq ?_|refine R.skip ?_|refine R.blk ?_|refine R.exit rfl ?_|refine R.lss rfl rfl ?_|refine R.shl1 rfl rfl (by omega) (fun hp => ?_)|refine R.cond rfl (fun hc => ?_) (fun hc => ?_))
    all_goals first | (exfalso; simp only [Int.toNat_natCast] at *; omega) | skip
    refine R.loop (G := Nat) (fun v => [(0, pvA (.int .i64 n)), (1, rdA kI (ints l)), (5, .v (.c (.own 12))), (6, pvA (.int .i64 c)), (7, pvA (.int .i64 v))]) (fun v => [(12, .arr kCube ((tabQ n l c ++ rowQ n l c v).map enCube) [])]) (fun v => v ≤ 2 ^ n) (fun v => 2 ^ n - v) 0 (by omega) (Weak.frame _ _ ⟨rfl, rfl, rfl, rfl, rfl, trivial⟩ ⟨by simp [rowQ]; rfl, trivial⟩ rfl rfl) fun v hv => ?_
    have hrl := rowQ_len (n := n) (l := l) (c := c) v
    by_cases hvl : v < 2 ^ n
    · by_cases hA : andI (v : Int) (c : Int) = v
      case neg =>
        have hg : gQ n l c v = [] := if_neg fun h => hA h.1
        repeat' (first|refine R.mv rfl ?_|refine R.reg ?_|refine R.nil ?_|refine R.seq ?_|refine R.nseq ?_|refine R.nblk ?_|refine R.skip ?_|refine R.blk ?_|refine R.exit rfl ?_|refine R.gRun rfl ?_|refine R.gSkip rfl ?_|refine R.lda rfl rfl (lbT rfl) rfl ?_|refine R.lss rfl rfl ?_|refine R.neq rfl rfl ?_|refine R.add rfl rfl (by omega) ?_|refine R.pickT rfl rfl ?_|refine R.al rfl ?_|refine R.stoB rfl rfl rfl rfl ⟨rfl, rfl, Nat.le_of_ble_eq_true rfl⟩ rfl ?_|refine R.bld rfl rfl ?_|refine R.and rfl rfl ?_|refine R.shl1 rfl rfl (by omega) (fun hp => ?_)|refine R.condT rfl ?_|refine R.cond rfl (fun hc => ?_) (fun hc => ?_)|refine R.gN rfl (fun hc => ?_) (fun hc => ?_))
        all_goals first
          | (exfalso; simp only [Int.toNat_natCast] at *; omega)
          | exact R.nloop (R.again (v + 1) (by omega) (by omega) ⟨rfl, rfl, rfl, rfl, rfl, trivial⟩ ⟨arr_eq (by rw [rowQ, hg, List.append_nil]), trivial⟩ rfl rfl)
          | (exfalso; simp_all; done)
      by_cases hB : covQ l ⟨c, v⟩
      case neg =>
        have hg : gQ n l c v = [] := if_neg fun h => hB h.2.1
        repeat' (first|refine R.mv rfl ?_|refine R.reg ?_|refine R.nil ?_|refine R.seq ?_|refine R.nseq ?_|refine R.nblk ?_|refine R.skip ?_|refine R.blk ?_|refine R.exit rfl ?_|refine R.gRun rfl ?_|refine R.gSkip rfl ?_|refine R.lda rfl rfl (lbT rfl) rfl ?_|refine R.lss rfl rfl ?_|refine R.neq rfl rfl ?_|refine R.add rfl rfl (by omega) ?_|refine R.pickT rfl rfl ?_|refine R.pickF rfl rfl ?_|refine R.not rfl ?_|refine R.al rfl ?_|refine R.stoB rfl rfl rfl rfl ⟨rfl, rfl, Nat.le_of_ble_eq_true rfl⟩ rfl ?_|refine R.bld rfl rfl ?_|refine R.and rfl rfl ?_|refine R.shl1 rfl rfl (by omega) (fun hp => ?_)|refine R.condT rfl ?_|refine R.call (bor := false) rfl rfl (sImpF (c := ⟨c, v⟩) hB) rfl rfl rfl ?_|refine R.cond rfl (fun hc => ?_) (fun hc => ?_)|refine R.gN rfl (fun hc => ?_) (fun hc => ?_))
        all_goals first
          | (exfalso; simp only [Int.toNat_natCast] at *; omega)
          | exact R.nloop (R.again (v + 1) (by omega) (by omega) ⟨rfl, rfl, rfl, rfl, rfl, trivial⟩ ⟨arr_eq (by rw [rowQ, hg, List.append_nil]), trivial⟩ rfl rfl)
          | (exfalso; simp_all; done)
      repeat' (first|refine R.mv rfl ?_|refine R.reg ?_|refine R.nil ?_|refine R.seq ?_|refine R.nseq ?_|refine R.nblk ?_|refine R.skip ?_|refine R.blk ?_|refine R.exit rfl ?_|refine R.gRun rfl ?_|refine R.gSkip rfl ?_|refine R.lda rfl rfl (lbT rfl) rfl ?_|refine R.lss rfl rfl ?_|refine R.neq rfl rfl ?_|refine R.add rfl rfl (by omega) ?_|refine R.pickT rfl rfl ?_|refine R.pickF rfl rfl ?_|refine R.not rfl ?_|refine R.al rfl ?_|refine R.stoB rfl rfl rfl rfl ⟨rfl, rfl, Nat.le_of_ble_eq_true rfl⟩ rfl ?_|refine R.bld rfl rfl ?_|refine R.and rfl rfl ?_|refine R.shl1 rfl rfl (by omega) (fun hp => ?_)|refine R.condT rfl ?_|refine R.condF rfl ?_|refine R.call (bor := false) rfl rfl (sImpT (c := ⟨c, v⟩) hB) rfl rfl rfl ?_|refine R.cond rfl (fun hc => ?_) (fun hc => ?_)|refine R.gN rfl (fun hc => ?_) (fun hc => ?_))
      all_goals first | (exfalso; simp only [Int.toNat_natCast] at *; omega) | skip
      refine R.loop (G := Nat) (fun i => [(0, pvA (.int .i64 n)), (1, rdA kI (ints l)), (5, .v (.c (.own 12))), (6, pvA (.int .i64 c)), (7, pvA (.int .i64 v)), (8, .v (.c (.ptr 8 0))), (9, pvA (.bool (bP (primTo l ⟨c, v⟩ i)))), (10, pvA (.int .i64 i))]) (fun _ => [(8, .box 56 ((enCube ⟨c, v⟩).map B.d)), (12, .arr kCube ((tabQ n l c ++ rowQ n l c v).map enCube) [])]) (fun i => i ≤ n) (fun i => n - i) 0 (by omega) (Weak.frame _ _ ⟨rfl, rfl, rfl, rfl, rfl, rfl, by rw [bP_iff.2 (show primTo l ⟨c, v⟩ 0 from fun j hj => by omega)]; rfl, rfl, trivial⟩ ⟨rfl, rfl, trivial⟩ rfl rfl) fun i hi => ?_
      by_cases hil : i < n
      · have hz0 := bit0 ⟨c, by omega⟩ ⟨i, by omega⟩
        have hz1 := bit1 ⟨c, by omega⟩ ⟨i, by omega⟩
        dsimp only at hz0 hz1
        by_cases hz : andI (c : Int) (2 ^ i) = 0
        · have hb := hz0 hz
          have he : bP (primTo l ⟨c, v⟩ (i + 1)) = bP (primTo l ⟨c, v⟩ i) := congrArg bP (propext (primTo_iff fun h => h.1 hz))
          repeat' (first|refine R.mv rfl ?_|refine R.reg ?_|refine R.regA ?_|refine R.nal rfl ?_|refine R.nal0 ?_|refine R.kil ?_|refine R.nil ?_|refine R.seq ?_|refine R.nseq ?_|refine R.nblk ?_|refine R.skip ?_|refine R.blk ?_|refine R.exit rfl ?_|refine R.gRun rfl ?_|refine R.gSkip rfl ?_|refine R.lda rfl rfl (lbT rfl) rfl ?_|refine R.lss rfl rfl ?_|refine R.eql rfl rfl ?_|refine R.add rfl rfl (by omega) ?_|refine R.pickT rfl rfl ?_|refine R.pickF rfl rfl ?_|refine R.stoB rfl rfl rfl rfl ⟨rfl, rfl, Nat.le_of_ble_eq_true rfl⟩ rfl ?_|refine R.bld rfl rfl ?_|refine R.and rfl rfl ?_|refine R.andNot rfl rfl ?_|refine R.shl1 rfl rfl (by omega) (fun hp => ?_)|refine R.shr rfl rfl (by omega) ?_|refine R.neqs rfl rfl rfl rfl rfl ?_|refine R.condF rfl ?_|exact absurd (by assumption) hb|refine R.cond rfl (fun hc => ?_) (fun hc => ?_)|refine R.condB rfl (fun hc => ?_) (fun hc => ?_)|refine R.gP rfl (fun hc => ?_) (fun hc => ?_)|refine R.gB rfl (fun hc => ?_) (fun hc => ?_))
          all_goals first
            | (exfalso; omega)
            | exact R.nloop (R.again (i + 1) (by omega) (by omega) ⟨rfl, rfl, rfl, rfl, rfl, rfl, by rw [he]; rfl, rfl, trivial⟩ ⟨rfl, rfl, trivial⟩ rfl rfl)
            | (exfalso; simp_all [eqVs, eqV]; done)
        · have hb := hz1 hz
          by_cases hW : covQ l (lessQ ⟨c, v⟩ i)
          · have he : bP (primTo l ⟨c, v⟩ (i + 1)) = false := bP_not.2 fun h => h i (Nat.lt_succ_self i) ⟨hz, hW⟩
            repeat' (first|refine R.mv rfl ?_|refine R.reg ?_|refine R.regA ?_|refine R.nal rfl ?_|refine R.nal0 ?_|refine R.kil ?_|refine R.nil ?_|refine R.seq ?_|refine R.nseq ?_|refine R.nblk ?_|refine R.skip ?_|refine R.blk ?_|refine R.exit rfl ?_|refine R.gRun rfl ?_|refine R.gSkip rfl ?_|refine R.lda rfl rfl (lbT rfl) rfl ?_|refine R.lss rfl rfl ?_|refine R.eql rfl rfl ?_|refine R.add rfl rfl (by omega) ?_|refine R.pickT rfl rfl ?_|refine R.pickF rfl rfl ?_|refine R.stoB rfl rfl rfl rfl ⟨rfl, rfl, Nat.le_of_ble_eq_true rfl⟩ rfl ?_|refine R.bld rfl rfl ?_|refine R.and rfl rfl ?_|refine R.andNot rfl rfl ?_|refine R.shl1 rfl rfl (by omega) (fun hp => ?_)|refine R.shr rfl rfl (by omega) ?_|refine R.neqs rfl rfl rfl rfl rfl ?_|refine R.condT rfl ?_|refine R.condF rfl ?_|refine R.call (bor := false) rfl rfl (sImpT (c := lessQ ⟨c, v⟩ i) hW) rfl rfl rfl ?_|refine R.cond rfl (fun hc => ?_) (fun hc => ?_)|refine R.condB rfl (fun hc => ?_) (fun hc => ?_)|refine R.gP rfl (fun hc => ?_) (fun hc => ?_)|refine R.gB rfl (fun hc => ?_) (fun hc => ?_))
            all_goals first
              | (exfalso; omega)
              | exact R.nloop (R.again (i + 1) (by omega) (by omega) ⟨rfl, rfl, rfl, rfl, rfl, rfl, by rw [he]; rfl, rfl, trivial⟩ ⟨rfl, rfl, trivial⟩ rfl rfl)
              | (exfalso; simp_all [eqVs, eqV]; done)
          · have he : bP (primTo l ⟨c, v⟩ (i + 1)) = bP (primTo l ⟨c, v⟩ i) := congrArg bP (propext (primTo_iff fun h => hW h.2))
            repeat' (first|refine R.mv rfl ?_|refine R.reg ?_|refine R.regA ?_|refine R.nal rfl ?_|refine R.nal0 ?_|refine R.kil ?_|refine R.nil ?_|refine R.seq ?_|refine R.nseq ?_|refine R.nblk ?_|refine R.skip ?_|refine R.blk ?_|refine R.exit rfl ?_|refine R.gRun rfl ?_|refine R.gSkip rfl ?_|refine R.lda rfl rfl (lbT rfl) rfl ?_|refine R.lss rfl rfl ?_|refine R.eql rfl rfl ?_|refine R.add rfl rfl (by omega) ?_|refine R.pickT rfl rfl ?_|refine R.pickF rfl rfl ?_|refine R.stoB rfl rfl rfl rfl ⟨rfl, rfl, Nat.le_of_ble_eq_true rfl⟩ rfl ?_|refine R.bld rfl rfl ?_|refine R.and rfl rfl ?_|refine R.andNot rfl rfl ?_|refine R.shl1 rfl rfl (by omega) (fun hp => ?_)|refine R.shr rfl rfl (by omega) ?_|refine R.neqs rfl rfl rfl rfl rfl ?_|refine R.condF rfl ?_|refine R.call (bor := false) rfl rfl (sImpF (c := lessQ ⟨c, v⟩ i) hW) rfl rfl rfl ?_|refine R.cond rfl (fun hc => ?_) (fun hc => ?_)|refine R.condB rfl (fun hc => ?_) (fun hc => ?_)|refine R.gP rfl (fun hc => ?_) (fun hc => ?_)|refine R.gB rfl (fun hc => ?_) (fun hc => ?_))
            all_goals first
              | (exfalso; omega)
              | exact R.nloop (R.again (i + 1) (by omega) (by omega) ⟨rfl, rfl, rfl, rfl, rfl, rfl, by rw [he]; rfl, rfl, trivial⟩ ⟨rfl, rfl, trivial⟩ rfl rfl)
              | (exfalso; simp_all [eqVs, eqV]; done)
      obtain rfl : i = n := by omega
      by_cases hC : primTo l ⟨c, v⟩ i
      · have hg : gQ i l c v = [⟨c, v⟩] := if_pos ⟨hA, hB, hC⟩
        rw [bP_iff.2 hC]
        repeat' (first|refine R.mv rfl ?_|refine R.reg ?_|refine R.regA ?_|refine R.nal rfl ?_|refine R.nal0 ?_|refine R.kil ?_|refine R.nil ?_|refine R.seq ?_|refine R.nseq ?_|refine R.nblk ?_|refine R.skip ?_|refine R.blk ?_|refine R.exit rfl ?_|refine R.gRun rfl ?_|refine R.gSkip rfl ?_|refine R.lda rfl rfl (lbT rfl) rfl ?_|refine R.lss rfl rfl ?_|refine R.eql rfl rfl ?_|refine R.add rfl rfl (by omega) ?_|refine R.pickT rfl rfl ?_|refine R.pickF rfl rfl ?_|refine R.stoB rfl rfl rfl rfl ⟨rfl, rfl, Nat.le_of_ble_eq_true rfl⟩ rfl ?_|refine R.bld rfl rfl ?_|refine R.and rfl rfl ?_|refine R.andNot rfl rfl ?_|refine R.shl1 rfl rfl (by omega) (fun hp => ?_)|refine R.shr rfl rfl (by omega) ?_|refine R.neqs rfl rfl rfl rfl rfl ?_|refine R.condT rfl ?_|refine R.condF rfl ?_|refine R.bsl (f := enCube) [(⟨c, v⟩ : TCube)] rfl rfl rfl rfl rfl ?_|refine R.app (f := enCube) (fun _ => rfl) rfl rfl rfl rfl rfl ⟨by simp only [List.length_append, List.length_singleton]; omega, by simp only [List.length_append, List.length_singleton]; omega⟩ ?_|refine R.cond rfl (fun hc => ?_) (fun hc => ?_)|refine R.gP rfl (fun hc => ?_) (fun hc => ?_)|refine R.gB rfl (fun hc => ?_) (fun hc => ?_))
        all_goals first
          | (exfalso; omega)
          | exact R.nloop (R.again (v + 1) (by omega) (by omega) ⟨rfl, rfl, rfl, rfl, rfl, trivial⟩ ⟨arr_eq (by rw [rowQ, hg, List.append_assoc]), trivial⟩ rfl rfl)
      · have hg : gQ i l c v = [] := if_neg fun h => hC h.2.2
        rw [bP_not.2 hC]
        repeat' (first|refine R.mv rfl ?_|refine R.reg ?_|refine R.regA ?_|refine R.nal rfl ?_|refine R.nal0 ?_|refine R.kil ?_|refine R.nil ?_|refine R.seq ?_|refine R.nseq ?_|refine R.nblk ?_|refine R.skip ?_|refine R.blk ?_|refine R.exit rfl ?_|refine R.gRun rfl ?_|refine R.gSkip rfl ?_|refine R.lda rfl rfl (lbT rfl) rfl ?_|refine R.lss rfl rfl ?_|refine R.eql rfl rfl ?_|refine R.add rfl rfl (by omega) ?_|refine R.pickT rfl rfl ?_|refine R.pickF rfl rfl ?_|refine R.stoB rfl rfl rfl rfl ⟨rfl, rfl, Nat.le_of_ble_eq_true rfl⟩ rfl ?_|refine R.bld rfl rfl ?_|refine R.and rfl rfl ?_|refine R.andNot rfl rfl ?_|refine R.shl1 rfl rfl (by omega) (fun hp => ?_)|refine R.shr rfl rfl (by omega) ?_|refine R.neqs rfl rfl rfl rfl rfl ?_|refine R.condF rfl ?_|refine R.cond rfl (fun hc => ?_) (fun hc => ?_)|refine R.gP rfl (fun hc => ?_) (fun hc => ?_)|refine R.gB rfl (fun hc => ?_) (fun hc => ?_))
        all_goals first
          | (exfalso; omega)
          | exact R.nloop (R.again (v + 1) (by omega) (by omega) ⟨rfl, rfl, rfl, rfl, rfl, trivial⟩ ⟨arr_eq (by rw [rowQ, hg, List.append_nil]), trivial⟩ rfl rfl)
    obtain rfl : v = 2 ^ n := by omega
    have hbig := rowQ_big (n := n) (l := l) (c := c) (by omega) (2 ^ n - (c + 1))
    rw [show c + 1 + (2 ^ n - (c + 1)) = 2 ^ n by omega] at hbig
    repeat' (first|refine R.mv rfl ?_|refine R.reg ?_|refine R.nil ?_|refine R.seq ?_|refine R.nseq ?_|refine R.nblk ?_|refine R.skip ?_|refine R.blk ?_|refine R.exit rfl ?_|refine R.gRun rfl ?_|refine R.gSkip rfl ?_|refine R.lda rfl rfl (lbT rfl) rfl ?_|refine R.lss rfl rfl ?_|refine R.neq rfl rfl ?_|refine R.add rfl rfl (by omega) ?_|refine R.pickT rfl rfl ?_|refine R.al rfl ?_|refine R.stoB rfl rfl rfl rfl ⟨rfl, rfl, Nat.le_of_ble_eq_true rfl⟩ rfl ?_|refine R.bld rfl rfl ?_|refine R.and rfl rfl ?_|refine R.shl1 rfl rfl (by omega) (fun hp => ?_)|refine R.condT rfl ?_|refine R.cond rfl (fun hc => ?_) (fun hc => ?_)|refine R.gN rfl (fun hc => ?_) (fun hc => ?_))
    all_goals first
      | (exfalso; simp only [Int.toNat_natCast] at *; omega)
      | exact R.nloop (R.again (c + 1) (by omega) (by omega) ⟨rfl, rfl, rfl, rfl, trivial⟩ ⟨arr_eq (by rw [tabQ, hbig]), trivial⟩ rfl rfl)
  obtain rfl : c = 2 ^ n := by omega
  repeat' (first|refine R.mv rfl ?_|refine R.reg ?_|refine R.nil ?_|refine R.seq ?_|refine R.nseq ?_|refine R.skip ?_|refine R.blk ?_|refine R.exit rfl ?_|refine R.lss rfl rfl ?_|refine R.shl1 rfl rfl (by omega) (fun hp => ?_)|refine R.cond rfl (fun hc => ?_) (fun hc => ?_))
  all_goals first
    | (exfalso; simp only [Int.toNat_natCast] at *; omega)
    | exact R.ret ⟨.inr rfl, R.outN rfl rfl rfl⟩
end
end Go.Proofs.YtehkaajakapkmaaGreat
