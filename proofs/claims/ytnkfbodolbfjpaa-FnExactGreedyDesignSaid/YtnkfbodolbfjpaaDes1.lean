/- Designs: whether they are valid; the piece with two glues. -/
import Derived.Test.YtnkfbodolbfjpaaLibP
namespace Go.Proofs.Ytnkfbodolbfjpaa
open Go.RowKit
set_option maxRecDepth 100000 in
def S.s110 : SC := (.seq (.reg [⟨(.some 2), .none, .false, (.mv (.const (Go.Value.bool false)))⟩]) (.seq (.seq (.reg [⟨(.some 5), .none, .false, (.mv (.tmp 0))⟩, ⟨(.some 6), .none, .false, (.nc (.tmp 5))⟩, ⟨(.some 7), .none, .false, (.fa 0 (.tmp 6))⟩, ⟨(.some 8), .none, .false, (.ld .false 1 (.tmp 7))⟩, ⟨(.some 9), .none, .false, (.call (.func 182) [(.tmp 8)])⟩, ⟨(.some 10), .none, .false, (.not (.tmp 9))⟩, ⟨(.some 11), .none, .false, (.mv (.tmp 10))⟩, ⟨(.some 12), (.some (11, .false)), .false, (.mv (.tmp 0))⟩, ⟨(.some 13), (.some (11, .false)), .false, (.nc (.tmp 12))⟩, ⟨(.some 14), (.some (11, .false)), .false, (.fa 1 (.tmp 13))⟩, ⟨(.some 15), (.some (11, .false)), .false, (.ld .false 1 (.tmp 14))⟩, ⟨(.some 16), (.some (11, .false)), .false, (.call (.func 182) [(.tmp 15)])⟩, ⟨(.some 17), (.some (11, .false)), .false, (.not (.tmp 16))⟩, ⟨(.some 18), .none, .false, (.pick (.tmp 11) (.const (Go.Value.bool true)) (.tmp 17))⟩, ⟨(.some 19), .none, .false, (.mv (.tmp 18))⟩, ⟨(.some 20), (.some (19, .false)), .false, (.mv (.tmp 0))⟩, ⟨(.some 21), (.some (19, .false)), .false, (.nc (.tmp 20))⟩, ⟨(.some 22), (.some (19, .false)), .false, (.fa 2 (.tmp 21))⟩, ⟨(.some 23), (.some (19, .false)), .false, (.ld .false 1 (.tmp 22))⟩, ⟨(.some 24), (.some (19, .false)), .false, (.len (.tmp 23))⟩, ⟨(.some 25), (.some (19, .false)), .false, (.bin .gtr (.tmp 24) (.const (Go.Value.int Go.IntKind.i64 100)))⟩, ⟨(.some 26), .none, .false, (.pick (.tmp 19) (.const (Go.Value.bool true)) (.tmp 25))⟩]) (.cond (.tmp 26) (.seq (.reg [⟨(.some 2), .none, .false, (.mv (.const (Go.Value.bool false)))⟩]) .ret) .skip)) (.seq (.seq (.reg [⟨(.some 3), .none, .false, (.mv (.const (Go.Value.int Go.IntKind.i64 0)))⟩]) (.block 0 (.loop (.seq (.seq (.reg [⟨(.some 27), .none, .false, (.mv (.tmp 3))⟩, ⟨(.some 28), .none, .false, (.mv (.tmp 0))⟩, ⟨(.some 29), .none, .false, (.nc (.tmp 28))⟩, ⟨(.some 30), .none, .false, (.fa 2 (.tmp 29))⟩, ⟨(.some 31), .none, .false, (.ld .false 1 (.tmp 30))⟩, ⟨(.some 32), .none, .false, (.len (.tmp 31))⟩, ⟨(.some 33), .none, .false, (.bin .lss (.tmp 27) (.tmp 32))⟩]) (.cond (.tmp 33) .skip (.exit 0))) (.seq (.block 1 (.seq (.seq (.reg [⟨(.some 36), .none, .false, (.mv (.tmp 0))⟩, ⟨(.some 37), .none, .false, (.nc (.tmp 36))⟩, ⟨(.some 38), .none, .false, (.fa 2 (.tmp 37))⟩, ⟨(.some 39), .none, .false, (.ld .false 1 (.tmp 38))⟩, ⟨(.some 40), .none, .false, (.mv (.tmp 3))⟩, ⟨(.some 41), .none, .false, (.ix (.mk 258 5) (.tmp 39) (.tmp 40))⟩, ⟨(.some 42), .none, .false, (.call (.func 183) [(.tmp 41)])⟩, ⟨(.some 43), .none, .false, (.not (.tmp 42))⟩]) (.cond (.tmp 43) (.seq (.reg [⟨(.some 2), .none, .false, (.mv (.const (Go.Value.bool false)))⟩]) .ret) .skip)) (.seq (.reg [⟨(.some 4), .none, .false, (.mv (.const (Go.Value.int Go.IntKind.i64 0)))⟩]) (.block 2 (.loop (.seq (.seq (.reg [⟨(.some 44), .none, .false, (.mv (.tmp 4))⟩, ⟨(.some 45), .none, .false, (.mv (.tmp 3))⟩, ⟨(.some 46), .none, .false, (.bin .lss (.tmp 44) (.tmp 45))⟩]) (.cond (.tmp 46) .skip (.exit 2))) (.seq (.block 3 (.seq (.reg [⟨(.some 49), .none, .true, (.mv (.tmp 0))⟩, ⟨(.some 50), .none, .true, (.nc (.tmp 49))⟩, ⟨(.some 51), .none, .true, (.fa 2 (.tmp 50))⟩, ⟨(.some 52), .none, .true, (.ld .false 1 (.tmp 51))⟩, ⟨(.some 53), .none, .true, (.mv (.tmp 4))⟩, ⟨(.some 54), .none, .true, (.ix (.mk 258 5) (.tmp 52) (.tmp 53))⟩, ⟨(.some 55), .none, .true, (.fa 3 (.tmp 54))⟩, ⟨(.some 56), .none, .true, (.ld .false 1 (.tmp 55))⟩, ⟨(.some 57), .none, .true, (.mv (.tmp 0))⟩, ⟨(.some 58), .none, .true, (.nc (.tmp 57))⟩, ⟨(.some 59), .none, .true, (.fa 2 (.tmp 58))⟩, ⟨(.some 60), .none, .true, (.ld .false 1 (.tmp 59))⟩, ⟨(.some 61), .none, .true, (.mv (.tmp 3))⟩, ⟨(.some 62), .none, .true, (.ix (.mk 258 5) (.tmp 60) (.tmp 61))⟩, ⟨(.some 63), .none, .true, (.fa 3 (.tmp 62))⟩, ⟨(.some 64), .none, .true, (.ld .false 1 (.tmp 63))⟩, ⟨(.some 65), .none, .true, (.bin .eql (.tmp 56) (.tmp 64))⟩, ⟨(.some 66), .none, .true, (.mv (.tmp 65))⟩, ⟨(.some 67), (.some (66, .true)), .true, (.mv (.tmp 0))⟩, ⟨(.some 68), (.some (66, .true)), .true, (.nc (.tmp 67))⟩, ⟨(.some 69), (.some (66, .true)), .true, (.fa 2 (.tmp 68))⟩, ⟨(.some 70), (.some (66, .true)), .true, (.ld .false 1 (.tmp 69))⟩, ⟨(.some 71), (.some (66, .true)), .true, (.mv (.tmp 4))⟩, ⟨(.some 72), (.some (66, .true)), .true, (.ix (.mk 258 5) (.tmp 70) (.tmp 71))⟩, ⟨(.some 73), (.some (66, .true)), .true, (.fa 4 (.tmp 72))⟩, ⟨(.some 74), (.some (66, .true)), .true, (.ld .false 1 (.tmp 73))⟩, ⟨(.some 75), (.some (66, .true)), .true, (.mv (.tmp 0))⟩, ⟨(.some 76), (.some (66, .true)), .true, (.nc (.tmp 75))⟩, ⟨(.some 77), (.some (66, .true)), .true, (.fa 2 (.tmp 76))⟩, ⟨(.some 78), (.some (66, .true)), .true, (.ld .false 1 (.tmp 77))⟩, ⟨(.some 79), (.some (66, .true)), .true, (.mv (.tmp 3))⟩, ⟨(.some 80), (.some (66, .true)), .true, (.ix (.mk 258 5) (.tmp 78) (.tmp 79))⟩, ⟨(.some 81), (.some (66, .true)), .true, (.fa 4 (.tmp 80))⟩, ⟨(.some 82), (.some (66, .true)), .true, (.ld .false 1 (.tmp 81))⟩, ⟨(.some 83), (.some (66, .true)), .true, (.bin .eql (.tmp 74) (.tmp 82))⟩, ⟨(.some 84), .none, .true, (.pick (.tmp 66) (.tmp 83) (.const (Go.Value.bool false)))⟩]) (.cond (.tmp 84) (.seq (.reg [⟨(.some 2), .none, .false, (.mv (.const (Go.Value.bool false)))⟩]) .ret) .skip))) (.reg [⟨(.some 47), .none, .false, (.mv (.tmp 4))⟩, ⟨(.some 48), .none, .false, (.bin .add (.tmp 47) (.const (Go.Value.int Go.IntKind.i64 1)))⟩, ⟨(.some 4), .none, .false, (.mv (.tmp 48))⟩])))))))) (.reg [⟨(.some 34), .none, .false, (.mv (.tmp 3))⟩, ⟨(.some 35), .none, .false, (.bin .add (.tmp 34) (.const (Go.Value.int Go.IntKind.i64 1)))⟩, ⟨(.some 3), .none, .false, (.mv (.tmp 35))⟩])))))) (.seq (.reg [⟨(.some 2), .none, .false, (.mv (.const (Go.Value.bool true)))⟩]) .ret))))
set_option maxRecDepth 100000 in
theorem S.ok110 : stripF Try.prog Try.f110 = some S.s110 := by kernel_rfl
set_option maxRecDepth 100000 in
def S.s113 : SC := (.seq (.reg [⟨(.some 1), .none, .false, (.box 86 (.tmp 0))⟩, ⟨(.some 2), .none, .false, (.mv (.const (Go.Value.bool false)))⟩]) (.seq (.seq (.reg [⟨(.some 4), .none, .false, (.fa 0 (.tmp 1))⟩, ⟨(.some 5), .none, .false, (.ld .false 1 (.tmp 4))⟩, ⟨(.some 6), .none, .false, (.call (.func 187) [(.tmp 5)])⟩, ⟨(.some 7), .none, .false, (.not (.tmp 6))⟩, ⟨(.some 8), .none, .false, (.mv (.tmp 7))⟩, ⟨(.some 9), (.some (8, .false)), .false, (.fa 1 (.tmp 1))⟩, ⟨(.some 10), (.some (8, .false)), .false, (.ld .false 1 (.tmp 9))⟩, ⟨(.some 11), (.some (8, .false)), .false, (.call (.func 187) [(.tmp 10)])⟩, ⟨(.some 12), (.some (8, .false)), .false, (.not (.tmp 11))⟩, ⟨(.some 13), .none, .false, (.pick (.tmp 8) (.const (Go.Value.bool true)) (.tmp 12))⟩, ⟨(.some 14), .none, .false, (.mv (.tmp 13))⟩, ⟨(.some 15), (.some (14, .false)), .false, (.fa 2 (.tmp 1))⟩, ⟨(.some 16), (.some (14, .false)), .false, (.ld .false 1 (.tmp 15))⟩, ⟨(.some 17), (.some (14, .false)), .false, (.len (.tmp 16))⟩, ⟨(.some 18), (.some (14, .false)), .false, (.bin .gtr (.tmp 17) (.const (Go.Value.int Go.IntKind.i64 100)))⟩, ⟨(.some 19), .none, .false, (.pick (.tmp 14) (.const (Go.Value.bool true)) (.tmp 18))⟩]) (.cond (.tmp 19) (.seq (.reg [⟨(.some 2), .none, .false, (.mv (.const (Go.Value.bool false)))⟩]) .ret) .skip)) (.seq (.reg [⟨(.some 3), .none, .false, (.mv (.func 188))⟩]) (.seq (.reg [⟨(.some 20), .none, .true, (.fa 2 (.tmp 1))⟩, ⟨(.some 21), .none, .true, (.ld .false 1 (.tmp 20))⟩, ⟨(.some 22), .none, .true, (.mv (.tmp 3))⟩, ⟨(.some 23), .none, .true, (.fcal (.func 190) [(.tmp 21), (.tmp 22)])⟩, ⟨(.some 24), .none, .true, (.not (.tmp 23))⟩, ⟨(.some 25), .none, .true, (.mv (.tmp 24))⟩, ⟨(.some 26), (.some (25, .true)), .true, (.fa 2 (.tmp 1))⟩, ⟨(.some 27), (.some (25, .true)), .true, (.ld .false 1 (.tmp 26))⟩, ⟨(.some 28), (.some (25, .true)), .true, (.fcal (.func 191) [(.tmp 27)])⟩, ⟨(.some 29), (.some (25, .true)), .true, (.raw (.call (.mk (.builtin .len) (.mk [(.tmp 28)]) (.mk [269]))) 3)⟩, ⟨(.some 30), (.some (25, .true)), .true, (.fa 2 (.tmp 1))⟩, ⟨(.some 31), (.some (25, .true)), .true, (.ld .false 1 (.tmp 30))⟩, ⟨(.some 32), (.some (25, .true)), .true, (.len (.tmp 31))⟩, ⟨(.some 33), (.some (25, .true)), .true, (.bin .eql (.tmp 29) (.tmp 32))⟩, ⟨(.some 34), .none, .true, (.pick (.tmp 25) (.tmp 33) (.const (Go.Value.bool false)))⟩, ⟨(.some 2), .none, .true, (.mv (.tmp 34))⟩]) .ret))))
set_option maxRecDepth 100000 in
theorem S.ok113 : stripF Try.prog Try.f113 = some S.s113 := by kernel_rfl
set_option maxRecDepth 100000 in
def S.s182 : SC := (.seq (.reg [⟨(.some 2), .none, .false, (.mv (.const (Go.Value.bool false)))⟩]) (.seq (.seq (.reg [⟨(.some 4), .none, .false, (.mv (.tmp 0))⟩, ⟨(.some 5), .none, .false, (.len (.tmp 4))⟩, ⟨(.some 6), .none, .false, (.call (.func 93) [(.tmp 5), (.const (Go.Value.int Go.IntKind.i64 1)), (.const (Go.Value.int Go.IntKind.i64 10))])⟩, ⟨(.some 7), .none, .false, (.not (.tmp 6))⟩]) (.cond (.tmp 7) (.seq (.reg [⟨(.some 2), .none, .false, (.mv (.const (Go.Value.bool false)))⟩]) .ret) .skip)) (.seq (.seq (.reg [⟨(.some 3), .none, .false, (.mv (.const (Go.Value.int Go.IntKind.i64 0)))⟩]) (.block 0 (.loop (.seq (.seq (.reg [⟨(.some 8), .none, .false, (.mv (.tmp 3))⟩, ⟨(.some 9), .none, .false, (.mv (.tmp 0))⟩, ⟨(.some 10), .none, .false, (.len (.tmp 9))⟩, ⟨(.some 11), .none, .false, (.bin .lss (.tmp 8) (.tmp 10))⟩]) (.cond (.tmp 11) .skip (.exit 0))) (.seq (.block 1 (.seq (.reg [⟨(.some 14), .none, .false, (.mv (.tmp 0))⟩, ⟨(.some 15), .none, .false, (.mv (.tmp 3))⟩, ⟨(.some 16), .none, .false, (.ix (.mk 2 1) (.tmp 14) (.tmp 15))⟩, ⟨(.some 17), .none, .false, (.ld .false 1 (.tmp 16))⟩, ⟨(.some 18), .none, .false, (.call (.func 93) [(.tmp 17), (.const (Go.Value.int Go.IntKind.i64 0)), (.const (Go.Value.int Go.IntKind.i64 119))])⟩, ⟨(.some 19), .none, .false, (.not (.tmp 18))⟩]) (.cond (.tmp 19) (.seq (.reg [⟨(.some 2), .none, .false, (.mv (.const (Go.Value.bool false)))⟩]) .ret) .skip))) (.reg [⟨(.some 12), .none, .false, (.mv (.tmp 3))⟩, ⟨(.some 13), .none, .false, (.bin .add (.tmp 12) (.const (Go.Value.int Go.IntKind.i64 1)))⟩, ⟨(.some 3), .none, .false, (.mv (.tmp 13))⟩])))))) (.seq (.reg [⟨(.some 2), .none, .false, (.mv (.const (Go.Value.bool true)))⟩]) .ret))))
set_option maxRecDepth 100000 in
theorem S.ok182 : stripF Try.prog Try.f182 = some S.s182 := by kernel_rfl
set_option maxRecDepth 100000 in
def S.s183 : SC := (.seq (.reg [⟨(.some 2), .none, .false, (.mv (.const (Go.Value.bool false)))⟩]) (.seq (.reg [⟨(.some 3), .none, .false, (.mv (.tmp 0))⟩, ⟨(.some 4), .none, .false, (.nc (.tmp 3))⟩, ⟨(.some 5), .none, .false, (.fa 0 (.tmp 4))⟩, ⟨(.some 6), .none, .false, (.ld .false 1 (.tmp 5))⟩, ⟨(.some 7), .none, .false, (.call (.func 93) [(.tmp 6), (.const (Go.Value.int Go.IntKind.i64 0)), (.const (Go.Value.int Go.IntKind.i64 5))])⟩, ⟨(.some 8), .none, .false, (.mv (.tmp 7))⟩, ⟨(.some 9), (.some (8, .true)), .false, (.mv (.tmp 0))⟩, ⟨(.some 10), (.some (8, .true)), .false, (.nc (.tmp 9))⟩, ⟨(.some 11), (.some (8, .true)), .false, (.fa 1 (.tmp 10))⟩, ⟨(.some 12), (.some (8, .true)), .false, (.ld .false 1 (.tmp 11))⟩, ⟨(.some 13), (.some (8, .true)), .false, (.call (.func 93) [(.tmp 12), (.const (Go.Value.int Go.IntKind.i64 0)), (.const (Go.Value.int Go.IntKind.i64 119))])⟩, ⟨(.some 14), .none, .false, (.pick (.tmp 8) (.tmp 13) (.const (Go.Value.bool false)))⟩, ⟨(.some 15), .none, .false, (.mv (.tmp 14))⟩, ⟨(.some 16), (.some (15, .true)), .false, (.mv (.tmp 0))⟩, ⟨(.some 17), (.some (15, .true)), .false, (.nc (.tmp 16))⟩, ⟨(.some 18), (.some (15, .true)), .false, (.fa 2 (.tmp 17))⟩, ⟨(.some 19), (.some (15, .true)), .false, (.ld .false 1 (.tmp 18))⟩, ⟨(.some 20), (.some (15, .true)), .false, (.call (.func 93) [(.tmp 19), (.const (Go.Value.int Go.IntKind.i64 0)), (.const (Go.Value.int Go.IntKind.i64 119))])⟩, ⟨(.some 21), .none, .false, (.pick (.tmp 15) (.tmp 20) (.const (Go.Value.bool false)))⟩, ⟨(.some 22), .none, .false, (.mv (.tmp 21))⟩, ⟨(.some 23), (.some (22, .true)), .false, (.mv (.tmp 0))⟩, ⟨(.some 24), (.some (22, .true)), .false, (.nc (.tmp 23))⟩, ⟨(.some 25), (.some (22, .true)), .false, (.fa 3 (.tmp 24))⟩, ⟨(.some 26), (.some (22, .true)), .false, (.ld .false 1 (.tmp 25))⟩, ⟨(.some 27), (.some (22, .true)), .false, (.call (.func 93) [(.tmp 26), (.const (Go.Value.int Go.IntKind.i64 0)), (.const (Go.Value.int Go.IntKind.i64 119))])⟩, ⟨(.some 28), .none, .false, (.pick (.tmp 22) (.tmp 27) (.const (Go.Value.bool false)))⟩, ⟨(.some 29), .none, .false, (.mv (.tmp 28))⟩, ⟨(.some 30), (.some (29, .true)), .false, (.mv (.tmp 0))⟩, ⟨(.some 31), (.some (29, .true)), .false, (.nc (.tmp 30))⟩, ⟨(.some 32), (.some (29, .true)), .false, (.fa 4 (.tmp 31))⟩, ⟨(.some 33), (.some (29, .true)), .false, (.ld .false 1 (.tmp 32))⟩, ⟨(.some 34), (.some (29, .true)), .false, (.call (.func 93) [(.tmp 33), (.const (Go.Value.int Go.IntKind.i64 0)), (.const (Go.Value.int Go.IntKind.i64 119))])⟩, ⟨(.some 35), .none, .false, (.pick (.tmp 29) (.tmp 34) (.const (Go.Value.bool false)))⟩, ⟨(.some 2), .none, .false, (.mv (.tmp 35))⟩]) .ret))
set_option maxRecDepth 100000 in
theorem S.ok183 : stripF Try.prog Try.f183 = some S.s183 := by kernel_rfl
set_option maxRecDepth 100000 in
def S.s187 : SC := (.seq (.reg [⟨(.some 2), .none, .false, (.mv (.const (Go.Value.bool false)))⟩]) (.seq (.reg [⟨(.some 3), .none, .false, (.mv (.tmp 0))⟩, ⟨(.some 4), .none, .false, (.len (.tmp 3))⟩, ⟨(.some 5), .none, .false, (.call (.func 133) [(.tmp 4), (.const (Go.Value.int Go.IntKind.i64 1)), (.const (Go.Value.int Go.IntKind.i64 10))])⟩, ⟨(.some 6), .none, .false, (.mv (.tmp 5))⟩, ⟨(.some 7), (.some (6, .true)), .false, (.mv (.tmp 0))⟩, ⟨(.some 8), (.some (6, .true)), .false, (.call (.func 189) [(.tmp 7)])⟩, ⟨(.some 9), .none, .false, (.pick (.tmp 6) (.tmp 8) (.const (Go.Value.bool false)))⟩, ⟨(.some 2), .none, .false, (.mv (.tmp 9))⟩]) .ret))
set_option maxRecDepth 100000 in
theorem S.ok187 : stripF Try.prog Try.f187 = some S.s187 := by kernel_rfl
set_option maxRecDepth 100000 in
def S.s188 : SC := (.seq (.reg [⟨(.some 1), .none, .false, (.box 258 (.tmp 0))⟩, ⟨(.some 2), .none, .false, (.mv (.const (Go.Value.bool false)))⟩]) (.seq (.reg [⟨(.some 3), .none, .false, (.fa 0 (.tmp 1))⟩, ⟨(.some 4), .none, .false, (.ld .false 1 (.tmp 3))⟩, ⟨(.some 5), .none, .false, (.call (.func 133) [(.tmp 4), (.const (Go.Value.int Go.IntKind.i64 0)), (.const (Go.Value.int Go.IntKind.i64 5))])⟩, ⟨(.some 6), .none, .false, (.not (.tmp 5))⟩, ⟨(.some 7), .none, .false, (.mv (.tmp 6))⟩, ⟨(.some 8), (.some (7, .false)), .false, (.fa 1 (.tmp 1))⟩, ⟨(.some 9), (.some (7, .false)), .false, (.ld .false 1 (.tmp 8))⟩, ⟨(.some 10), (.some (7, .false)), .false, (.fa 2 (.tmp 1))⟩, ⟨(.some 11), (.some (7, .false)), .false, (.ld .false 1 (.tmp 10))⟩, ⟨(.some 12), (.some (7, .false)), .false, (.fa 3 (.tmp 1))⟩, ⟨(.some 13), (.some (7, .false)), .false, (.ld .false 1 (.tmp 12))⟩, ⟨(.some 14), (.some (7, .false)), .false, (.fa 4 (.tmp 1))⟩, ⟨(.some 15), (.some (7, .false)), .false, (.ld .false 1 (.tmp 14))⟩, ⟨(.some 16), (.some (7, .false)), .false, (.bsl (.mk 2 1) 4 [(0, (.tmp 9)), (1, (.tmp 11)), (2, (.tmp 13)), (3, (.tmp 15))])⟩, ⟨(.some 17), (.some (7, .false)), .false, (.call (.func 189) [(.tmp 16)])⟩, ⟨(.some 18), (.some (7, .false)), .false, (.not (.tmp 17))⟩, ⟨(.some 19), .none, .false, (.pick (.tmp 7) (.const (Go.Value.bool true)) (.tmp 18))⟩, ⟨(.some 2), .none, .false, (.mv (.tmp 19))⟩]) .ret))
set_option maxRecDepth 100000 in
theorem S.ok188 : stripF Try.prog Try.f188 = some S.s188 := by kernel_rfl
set_option maxRecDepth 100000 in
def S.s189 : SC := (.seq (.reg [⟨(.some 2), .none, .false, (.mv (.const (Go.Value.bool false)))⟩]) (.seq (.reg [⟨(.some 3), .none, .false, (.mv (.tmp 0))⟩, ⟨(.some 4), .none, .false, (.call (.func 154) [(.tmp 3), (.const (Go.Value.int Go.IntKind.i64 120))])⟩, ⟨(.some 2), .none, .false, (.mv (.tmp 4))⟩]) .ret))
set_option maxRecDepth 100000 in
theorem S.ok189 : stripF Try.prog Try.f189 = some S.s189 := by kernel_rfl
set_option maxRecDepth 10000
set_option maxHeartbeats 4000000
theorem putE_mem {k v q : Value} : ∀ {es : List (Value × Value)}, (∃ e ∈ putE k v es, e.1 = q) ↔ q = k ∨ ∃ e ∈ es, e.1 = q
  | [] => by simp [putE, eq_comm]
  | (a, b) :: es => by
    rw [putE]
    split
    · rename_i h
      subst h
      simp only [List.mem_cons, exists_eq_or_imp]
      constructor
      · rintro (h | h)
        · exact .inr (.inl h)
        · exact .inr (.inr h)
      · rintro (h | h | h)
        · exact .inl h.symm
        · exact .inl h
        · exact .inr h
    · simp only [List.mem_cons, exists_eq_or_imp, putE_mem (es := es)]
      constructor
      · rintro (h | h | h)
        · exact .inr (.inl h)
        · exact .inl h
        · exact .inr (.inr h)
      · rintro (h | h | h)
        · exact .inr (.inl h)
        · exact .inl h
        · exact .inr (.inr h)
theorem putE_len {k v : Value} : ∀ {es : List (Value × Value)}, (∃ e ∈ es, e.1 = k) → (putE k v es).length = es.length
  | [], h => by simp at h
  | (a, b) :: es, h => by
    rw [putE]
    split
    · simp
    · rename_i hne
      have : ∃ e ∈ es, e.1 = k := by
        obtain ⟨e, he, hk⟩ := h
        rcases List.mem_cons.1 he with rfl | he
        · exact absurd hk hne
        · exact ⟨e, he, hk⟩
      simp [putE_len this]
theorem getE_same {k v : Value} : ∀ {es : List (Value × Value)}, getE k (putE k v es) = some v
  | [] => by simp [putE, getE]
  | (a, b) :: es => by
    rw [putE]
    split
    · rename_i h
      rw [getE, if_pos h]
    · rename_i h
      rw [getE, if_neg h, getE_same]
theorem getE_other {k k' v : Value} (hne : k ≠ k') : ∀ {es : List (Value × Value)}, getE k' (putE k v es) = getE k' es
  | [] => by simp [putE, getE, hne]
  | (a, b) :: es => by
    rw [putE]
    split
    · rename_i h
      rw [getE, getE, if_neg (fun e => hne (h.symm.trans e)), if_neg (fun e => hne (h.symm.trans e))]
    · rename_i h
      rw [getE, getE, getE_other hne]
theorem keyP_eq {u v : TPiece} : keyP u = keyP v ↔ u.fSouth = v.fSouth ∧ u.fWest = v.fWest := by simp [keyP]
/-- What the map holds when the places from m on have been written. -/
noncomputable def sufE (ps : List TPiece) (m : Nat) : List (Value × Value) := inlE ps ((List.range ps.length).reverse.take (ps.length - m))
theorem sufE_all (ps : List TPiece) : sufE ps 0 = inlE ps (List.range ps.length).reverse := by
  unfold sufE
  rw [List.take_of_length_le (by simp)]
theorem sufE_end (ps : List TPiece) : sufE ps ps.length = [] := by
  unfold sufE
  simp [inlE]
theorem sufE_step {ps : List TPiece} {m : Nat} (h : m < ps.length) : sufE ps m = putE (keyP ps[m]) (.int .i64 m) (sufE ps (m + 1)) := by
  unfold sufE
  rw [rev_take h, inlE_snoc h]
theorem sufE_mem {ps : List TPiece} {q : Value} : ∀ (n m : Nat), n + m = ps.length → ((∃ e ∈ sufE ps m, e.1 = q) ↔ ∃ (j : Nat) (v : TPiece), m ≤ j ∧ ps[j]? = some v ∧ keyP v = q)
  | 0, m, h => by
    obtain rfl : m = ps.length := by omega
    rw [sufE_end]
    constructor
    · rintro ⟨e, he, _⟩; cases he
    · rintro ⟨j, v, h1, h2, _⟩
      have := (List.getElem?_eq_some_iff.1 h2).1
      omega
  | n + 1, m, h => by
    have hm : m < ps.length := by omega
    rw [sufE_step hm, putE_mem, sufE_mem n (m + 1) (by omega)]
    constructor
    · rintro (h | ⟨j, v, h1, h2, h3⟩)
      · exact ⟨m, ps[m], Nat.le_refl _, List.getElem?_eq_getElem hm, h.symm⟩
      · exact ⟨j, v, by omega, h2, h3⟩
    · rintro ⟨j, v, h1, h2, h3⟩
      by_cases hj : j = m
      · subst hj
        rw [List.getElem?_eq_getElem hm] at h2
        cases h2
        exact .inl h3.symm
      · exact .inr ⟨j, v, by omega, h2, h3⟩
theorem sufE_len {ps : List TPiece} : ∀ (n m : Nat), n + m = ps.length → (sufE ps m).length ≤ n ∧ ((sufE ps m).length = n ↔ ∀ (i j : Nat) (u v : TPiece), m ≤ i → i < j → ps[i]? = some u → ps[j]? = some v → keyP u ≠ keyP v)
  | 0, m, h => by
    obtain rfl : m = ps.length := by omega
    rw [sufE_end]
    refine ⟨Nat.le_refl _, fun _ i j u v h1 _ h2 => ?_, fun _ => rfl⟩
    have := (List.getElem?_eq_some_iff.1 h2).1
    omega
  | n + 1, m, h => by
    have hm : m < ps.length := by omega
    obtain ⟨h1, h2⟩ := sufE_len (ps := ps) n (m + 1) (by omega)
    have h4 := sufE_mem (ps := ps) (q := keyP ps[m]) n (m + 1) (by omega)
    have hg : ps[m]? = some ps[m] := List.getElem?_eq_getElem hm
    rw [sufE_step hm]
    by_cases hin : ∃ e ∈ sufE ps (m + 1), e.1 = keyP ps[m]
    · rw [putE_len hin]
      refine ⟨by omega, fun e => by omega, fun hall => ?_⟩
      obtain ⟨j, v, g1, g2, g3⟩ := h4.1 hin
      exact absurd g3.symm (hall m j _ v (Nat.le_refl _) (by omega) hg g2)
    · rw [putE_new fun e he hk => hin ⟨e, he, hk⟩, List.length_append, List.length_singleton]
      refine ⟨by omega, fun e i j u v g1 g2 g3 g4 hk => ?_, fun hall => ?_⟩
      · by_cases hi : i = m
        · subst hi
          rw [hg] at g3
          cases g3
          exact hin (h4.2 ⟨j, v, by omega, g4, hk.symm⟩)
        · exact h2.1 (by omega) i j u v (by omega) g2 g3 g4 hk
      · have := h2.2 fun i j u v g1 g2 g3 g4 => hall i j u v (by omega) g2 g3 g4
        omega
def pq (s w : Int) (v : TPiece) : Bool := decide (v.fSouth = s ∧ v.fWest = w)
theorem idxOf_cases {α : Type} (p : α → Bool) (l : List α) : (idxOf p l = -1 ∧ ∀ b ∈ l, p b = false) ∨ ∃ (i : Nat) (a : α), idxOf p l = i ∧ l[i]? = some a ∧ p a = true ∧ ∀ (j : Nat) (b : α), j < i → l[j]? = some b → p b = false := by
  unfold idxOf
  cases h : l.findIdx? p with
  | none =>
    rw [List.findIdx?_eq_none_iff] at h
    exact .inl ⟨rfl, h⟩
  | some i =>
    rw [List.findIdx?_eq_some_iff_getElem] at h
    obtain ⟨h1, h2, h3⟩ := h
    refine .inr ⟨i, l[i], rfl, List.getElem?_eq_getElem h1, h2, fun j b hj hb => ?_⟩
    obtain ⟨hl, rfl⟩ := List.getElem?_eq_some_iff.1 hb
    simpa using h3 j hj
theorem sufE_get {ps : List TPiece} {s w : Int} : ∀ (n m : Nat), n + m = ps.length →
    ((∀ (j : Nat) (v : TPiece), m ≤ j → ps[j]? = some v → pq s w v = false) → getE (.agg #[.int .i64 s, .int .i64 w]) (sufE ps m) = none) ∧
    ∀ (i : Nat) (v : TPiece), m ≤ i → ps[i]? = some v → pq s w v = true → (∀ (j : Nat) (u : TPiece), m ≤ j → j < i → ps[j]? = some u → pq s w u = false) → getE (.agg #[.int .i64 s, .int .i64 w]) (sufE ps m) = some (.int .i64 i)
  | 0, m, h => by
    obtain rfl : m = ps.length := by omega
    rw [sufE_end]
    refine ⟨fun _ => rfl, fun i v h1 h2 => ?_⟩
    have := (List.getElem?_eq_some_iff.1 h2).1
    omega
  | n + 1, m, h => by
    have hm : m < ps.length := by omega
    obtain ⟨h1, h2⟩ := sufE_get (ps := ps) (s := s) (w := w) n (m + 1) (by omega)
    have hg : ps[m]? = some ps[m] := List.getElem?_eq_getElem hm
    have hne : pq s w ps[m] = false → keyP ps[m] ≠ .agg #[.int .i64 s, .int .i64 w] := fun hq hk => by
      have : ps[m].fSouth = s ∧ ps[m].fWest = w := by simpa [keyP] using hk
      simp [pq, this] at hq
    rw [sufE_step hm]
    refine ⟨fun hall => ?_, fun i v g1 g2 g3 g4 => ?_⟩
    · rw [getE_other (hne (hall m _ (Nat.le_refl _) hg))]
      exact h1 fun j v hj hv => hall j v (by omega) hv
    · by_cases hi : i = m
      · subst hi
        rw [hg] at g2
        cases g2
        have : ps[i].fSouth = s ∧ ps[i].fWest = w := by simpa [pq] using g3
        rw [← this.1, ← this.2, getE_same]
      · rw [getE_other (hne (g4 m _ (Nat.le_refl _) (by omega) hg))]
        exact h2 i v (by omega) g2 g3 fun j u hj hji hu => g4 j u (by omega) hji hu
theorem inl_none {ps : List TPiece} {s w : Int} (h : idxOf (pq s w) ps = -1) : getE (.agg #[.int .i64 s, .int .i64 w]) (inlE ps (List.range ps.length).reverse) = none := by
  rcases idxOf_cases (pq s w) ps with ⟨_, h2⟩ | ⟨i, a, h2, _⟩
  · rw [← sufE_all]
    exact (sufE_get ps.length 0 rfl).1 fun j v _ hv => h2 v (List.mem_of_getElem? hv)
  · omega
theorem inl_some {ps : List TPiece} {s w : Int} {i : Nat} (h : idxOf (pq s w) ps = i) : getE (.agg #[.int .i64 s, .int .i64 w]) (inlE ps (List.range ps.length).reverse) = some (.int .i64 i) ∧ ∃ v, ps[i]? = some v ∧ v.fSouth = s ∧ v.fWest = w := by
  rcases idxOf_cases (pq s w) ps with ⟨h2, _⟩ | ⟨j, a, h2, h3, h4, h5⟩
  · omega
  · obtain rfl : i = j := by omega
    rw [← sufE_all]
    exact ⟨(sufE_get ps.length 0 rfl).2 i a (Nat.zero_le _) h3 h4 fun j u _ hj hu => h5 j u hj hu, a, h3, by simpa [pq] using h4⟩
def okPc (v : TPiece) : Prop := (0 ≤ v.fColor ∧ v.fColor ≤ 5) ∧ (0 ≤ v.fNorth ∧ v.fNorth ≤ 119) ∧ (0 ≤ v.fEast ∧ v.fEast ≤ 119) ∧ (0 ≤ v.fSouth ∧ v.fSouth ≤ 119) ∧ (0 ≤ v.fWest ∧ v.fWest ≤ 119)
def okEd (l : List Int) : Prop := (1 ≤ (l.length : Int) ∧ (l.length : Int) ≤ 10) ∧ ∀ n ∈ l, 0 ≤ n ∧ n ≤ 119
def okDes (d : TDesign) : Prop := okEd d.fBottom ∧ okEd d.fLeft ∧ d.fPieces.length ≤ 100 ∧ ∀ (i : Nat) (v : TPiece), d.fPieces[i]? = some v → okPc v ∧ ∀ (k : Nat) (u : TPiece), k < i → d.fPieces[k]? = some u → ¬ (u.fSouth = v.fSouth ∧ u.fWest = v.fWest)
theorem iGluesOk (l : List Int) : Spec Try.prog 189 [vL kI (ints l)] (oB (bP (∀ n ∈ l, 0 ≤ n ∧ n ≤ 119))) := by
  have hb := iBelowP l 120 (by omega) (by omega)
  rw [show (120 : Int) - 1 = 119 by rfl] at hb
  refine Spec.walk T.mixed Try.func189 S.ok189 (by simp [Try.f189]) fun hk => ?_
  unfold S.s189
  repeat' (first | refine R.mv rfl ?_ | refine R.reg ?_ | refine R.nil ?_ | refine R.seq ?_ | refine R.nseq ?_ | refine R.nblk ?_ | refine R.skip ?_ | refine R.blk ?_ | refine R.exit rfl ?_ | refine R.condT rfl ?_ | refine R.condF rfl ?_ | refine R.call (bor := false) rfl rfl (hb) rfl rfl rfl ?_ | refine R.call (bor := true) rfl rfl (hb) rfl rfl rfl ?_ | refine R.fcal (bor := false) rfl rfl (hb) rfl rfl rfl ?_ | refine R.fcal (bor := true) rfl rfl (hb) rfl rfl rfl ?_ | refine R.cond rfl (fun hc => ?_) (fun hc => ?_) | refine R.condN rfl (fun hc => ?_) (fun hc => ?_) | refine R.condB rfl (fun hc => ?_) (fun hc => ?_))
  exact R.ret ⟨.inr rfl, R.outB rfl rfl rfl⟩
theorem iEdgeOk (l : List Int) : Spec Try.prog 187 [vL kI (ints l)] (oB (bP (okEd l))) := by
  refine Spec.walk T.mixed Try.func187 S.ok187 (by simp [Try.f187]) fun hk => ?_
  have hlen := (K.c hk 0 rfl).lenM
  unfold S.s187
  repeat' (first | refine R.mv rfl ?_ | refine R.reg ?_ | refine R.nil ?_ | refine R.seq ?_ | refine R.nseq ?_ | refine R.nblk ?_ | refine R.skip ?_ | refine R.blk ?_ | refine R.exit rfl ?_ | refine R.gRun rfl ?_ | refine R.gSkip rfl ?_ | refine R.gSkip0 rfl ?_ | refine R.gUndef rfl ?_ | refine R.gUndef0 rfl ?_ | refine R.lenM rfl ?_ | refine R.lenO rfl rfl ?_ | refine R.len rfl rfl ?_ | refine R.pickT rfl rfl ?_ | refine R.pickF rfl rfl ?_ | refine R.condT rfl ?_ | refine R.condF rfl ?_ | refine R.call (bor := false) rfl rfl (iWithin _ _ _) rfl rfl rfl ?_ | refine R.call (bor := true) rfl rfl (iWithin _ _ _) rfl rfl rfl ?_ | refine R.fcal (bor := false) rfl rfl (iWithin _ _ _) rfl rfl rfl ?_ | refine R.fcal (bor := true) rfl rfl (iWithin _ _ _) rfl rfl rfl ?_ | refine R.call (bor := false) rfl rfl (iGluesOk _) rfl rfl rfl ?_ | refine R.call (bor := true) rfl rfl (iGluesOk _) rfl rfl rfl ?_ | refine R.fcal (bor := false) rfl rfl (iGluesOk _) rfl rfl rfl ?_ | refine R.fcal (bor := true) rfl rfl (iGluesOk _) rfl rfl rfl ?_ | refine R.cond rfl (fun hc => ?_) (fun hc => ?_) | refine R.condN rfl (fun hc => ?_) (fun hc => ?_) | refine R.condB rfl (fun hc => ?_) (fun hc => ?_) | refine R.gP rfl (fun hc => ?_) (fun hc => ?_) | refine R.gN rfl (fun hc => ?_) (fun hc => ?_) | refine R.gB rfl (fun hc => ?_) (fun hc => ?_))
  all_goals refine R.ret ⟨.inr rfl, R.outB rfl rfl ?_⟩
  all_goals rw [Bool.eq_iff_iff, bP_iff]
  all_goals first
    | (simp only [Bool.false_eq_true, false_iff]; exact fun h => absurd h.1 (by assumption))
    | (simp_all [okEd, bP_iff]; done)
theorem iEdT {l : List Int} (h : okEd l) : Spec Try.prog 187 [vL kI (ints l)] (oB true) := by have := iEdgeOk l; rwa [bP_iff.2 h] at this
theorem iEdF {l : List Int} (h : ¬ okEd l) : Spec Try.prog 187 [vL kI (ints l)] (oB false) := by have := iEdgeOk l; rwa [bP_not.2 h] at this
theorem iWrong (v : TPiece) : Spec Try.prog 188 [.agg (enPiece v)] (oB (!(bP (okPc v)))) := by
  refine Spec.walk T.mixed Try.func188 S.ok188 (by simp [Try.f188]) fun hk => ?_
  unfold S.s188
  by_cases hC : 0 ≤ v.fColor ∧ v.fColor ≤ 5
  case neg =>
    repeat' (first | refine R.mv rfl ?_ | refine R.reg ?_ | refine R.nil ?_ | refine R.seq ?_ | refine R.nseq ?_ | refine R.nblk ?_ | refine R.skip ?_ | refine R.blk ?_ | refine R.exit rfl ?_ | refine R.gRun rfl ?_ | refine R.gSkip rfl ?_ | refine R.gSkip0 rfl ?_ | refine R.gUndef rfl ?_ | refine R.gUndef0 rfl ?_ | refine R.ldEp rfl rfl (by assumption) rfl rfl ?_ | refine R.ldaEp rfl rfl (by assumption) (Nat.le_of_ble_eq_true rfl) rfl rfl ?_ | refine R.ld rfl rfl rfl ?_ | refine R.lda rfl rfl (Nat.le_of_ble_eq_true rfl) rfl ?_ | refine R.fa rfl rfl ?_ | refine R.pickT rfl rfl ?_ | refine R.pickF rfl rfl ?_ | refine R.not rfl ?_ | refine R.box rfl rfl rfl ?_ | refine R.condT rfl ?_ | refine R.condF rfl ?_ | refine R.call (bor := false) rfl rfl (iWinF hC) rfl rfl rfl ?_ | refine R.call (bor := true) rfl rfl (iWinF hC) rfl rfl rfl ?_ | refine R.fcal (bor := false) rfl rfl (iWinF hC) rfl rfl rfl ?_ | refine R.fcal (bor := true) rfl rfl (iWinF hC) rfl rfl rfl ?_ | refine R.cond rfl (fun hc => ?_) (fun hc => ?_) | refine R.condN rfl (fun hc => ?_) (fun hc => ?_) | refine R.condB rfl (fun hc => ?_) (fun hc => ?_) | refine R.gP rfl (fun hc => ?_) (fun hc => ?_) | refine R.gN rfl (fun hc => ?_) (fun hc => ?_) | refine R.gB rfl (fun hc => ?_) (fun hc => ?_))
    exact R.ret ⟨.inr rfl, R.outB rfl rfl (by rw [bP_not.2 fun h => hC h.1]; rfl)⟩
  repeat' (first | refine R.mv rfl ?_ | refine R.reg ?_ | refine R.nil ?_ | refine R.seq ?_ | refine R.nseq ?_ | refine R.nblk ?_ | refine R.skip ?_ | refine R.blk ?_ | refine R.exit rfl ?_ | refine R.gRun rfl ?_ | refine R.gSkip rfl ?_ | refine R.gSkip0 rfl ?_ | refine R.gUndef rfl ?_ | refine R.gUndef0 rfl ?_ | refine R.ldEp rfl rfl (by assumption) rfl rfl ?_ | refine R.ldaEp rfl rfl (by assumption) (Nat.le_of_ble_eq_true rfl) rfl rfl ?_ | refine R.ld rfl rfl rfl ?_ | refine R.lda rfl rfl (Nat.le_of_ble_eq_true rfl) rfl ?_ | refine R.fa rfl rfl ?_ | refine R.pickT rfl rfl ?_ | refine R.pickF rfl rfl ?_ | refine R.not rfl ?_ | refine R.box rfl rfl rfl ?_ | refine R.condT rfl ?_ | refine R.condF rfl ?_ | refine R.call (bor := false) rfl rfl (iWinT hC) rfl rfl rfl ?_ | refine R.call (bor := true) rfl rfl (iWinT hC) rfl rfl rfl ?_ | refine R.fcal (bor := false) rfl rfl (iWinT hC) rfl rfl rfl ?_ | refine R.fcal (bor := true) rfl rfl (iWinT hC) rfl rfl rfl ?_ | refine R.call (bor := false) rfl rfl (iGluesOk [v.fNorth, v.fEast, v.fSouth, v.fWest]) rfl rfl rfl ?_ | refine R.call (bor := true) rfl rfl (iGluesOk [v.fNorth, v.fEast, v.fSouth, v.fWest]) rfl rfl rfl ?_ | refine R.fcal (bor := false) rfl rfl (iGluesOk [v.fNorth, v.fEast, v.fSouth, v.fWest]) rfl rfl rfl ?_ | refine R.fcal (bor := true) rfl rfl (iGluesOk [v.fNorth, v.fEast, v.fSouth, v.fWest]) rfl rfl rfl ?_ | refine R.bsl (f := enI) [v.fNorth, v.fEast, v.fSouth, v.fWest] rfl rfl rfl rfl rfl ?_ | refine R.cond rfl (fun hc => ?_) (fun hc => ?_) | refine R.condN rfl (fun hc => ?_) (fun hc => ?_) | refine R.condB rfl (fun hc => ?_) (fun hc => ?_) | refine R.gP rfl (fun hc => ?_) (fun hc => ?_) | refine R.gN rfl (fun hc => ?_) (fun hc => ?_) | refine R.gB rfl (fun hc => ?_) (fun hc => ?_))
  refine R.ret ⟨.inr rfl, R.outB rfl rfl ?_⟩
  rw [Bool.eq_iff_iff]
  simp_all [okPc]
theorem iValidDesign (d : TDesign) : Spec Try.prog 113 [.agg (enDesign d)] (oB (bP (okDes d))) := by
  refine Spec.walk T.mixed Try.func113 S.ok113 (by simp [Try.f113]) fun hk => ?_
  have hlen := (K.a hk 0 2 rfl rfl).lenM
  unfold S.s113
  by_cases h1 : okEd d.fBottom
  case neg =>
    repeat' (first | refine R.mv rfl ?_ | refine R.reg ?_ | refine R.nil ?_ | refine R.seq ?_ | refine R.nseq ?_ | refine R.nblk ?_ | refine R.skip ?_ | refine R.blk ?_ | refine R.exit rfl ?_ | refine R.gRun rfl ?_ | refine R.gSkip rfl ?_ | refine R.gSkip0 rfl ?_ | refine R.gUndef rfl ?_ | refine R.gUndef0 rfl ?_ | refine R.ldEp rfl rfl (by assumption) rfl rfl ?_ | refine R.ldaEp rfl rfl (by assumption) (Nat.le_of_ble_eq_true rfl) rfl rfl ?_ | refine R.ld rfl rfl rfl ?_ | refine R.lda rfl rfl (Nat.le_of_ble_eq_true rfl) rfl ?_ | refine R.fa rfl rfl ?_ | refine R.lenM rfl ?_ | refine R.lenO rfl rfl ?_ | refine R.len rfl rfl ?_ | refine R.gtr rfl rfl ?_ | refine R.eql rfl rfl ?_ | refine R.pickT rfl rfl ?_ | refine R.pickF rfl rfl ?_ | refine R.not rfl ?_ | refine R.box rfl rfl rfl ?_ | refine R.condT rfl ?_ | refine R.condF rfl ?_ | refine R.call (bor := false) rfl rfl (iEdF h1) rfl rfl rfl ?_ | refine R.call (bor := true) rfl rfl (iEdF h1) rfl rfl rfl ?_ | refine R.fcal (bor := false) rfl rfl (iEdF h1) rfl rfl rfl ?_ | refine R.fcal (bor := true) rfl rfl (iEdF h1) rfl rfl rfl ?_ | refine R.cond rfl (fun hc => ?_) (fun hc => ?_) | refine R.condN rfl (fun hc => ?_) (fun hc => ?_) | refine R.condB rfl (fun hc => ?_) (fun hc => ?_) | refine R.gP rfl (fun hc => ?_) (fun hc => ?_) | refine R.gN rfl (fun hc => ?_) (fun hc => ?_) | refine R.gB rfl (fun hc => ?_) (fun hc => ?_))
    all_goals first | (exfalso; omega) | exact R.ret ⟨.inr rfl, R.outB rfl rfl (bP_false fun h => h1 h.1)⟩
  by_cases h2 : okEd d.fLeft
  case neg =>
    repeat' (first | refine R.mv rfl ?_ | refine R.reg ?_ | refine R.nil ?_ | refine R.seq ?_ | refine R.nseq ?_ | refine R.nblk ?_ | refine R.skip ?_ | refine R.blk ?_ | refine R.exit rfl ?_ | refine R.gRun rfl ?_ | refine R.gSkip rfl ?_ | refine R.gSkip0 rfl ?_ | refine R.gUndef rfl ?_ | refine R.gUndef0 rfl ?_ | refine R.ldEp rfl rfl (by assumption) rfl rfl ?_ | refine R.ldaEp rfl rfl (by assumption) (Nat.le_of_ble_eq_true rfl) rfl rfl ?_ | refine R.ld rfl rfl rfl ?_ | refine R.lda rfl rfl (Nat.le_of_ble_eq_true rfl) rfl ?_ | refine R.fa rfl rfl ?_ | refine R.lenM rfl ?_ | refine R.lenO rfl rfl ?_ | refine R.len rfl rfl ?_ | refine R.gtr rfl rfl ?_ | refine R.eql rfl rfl ?_ | refine R.pickT rfl rfl ?_ | refine R.pickF rfl rfl ?_ | refine R.not rfl ?_ | refine R.box rfl rfl rfl ?_ | refine R.condT rfl ?_ | refine R.condF rfl ?_ | refine R.call (bor := false) rfl rfl (iEdT h1) rfl rfl rfl ?_ | refine R.call (bor := true) rfl rfl (iEdT h1) rfl rfl rfl ?_ | refine R.fcal (bor := false) rfl rfl (iEdT h1) rfl rfl rfl ?_ | refine R.fcal (bor := true) rfl rfl (iEdT h1) rfl rfl rfl ?_ | refine R.call (bor := false) rfl rfl (iEdF h2) rfl rfl rfl ?_ | refine R.call (bor := true) rfl rfl (iEdF h2) rfl rfl rfl ?_ | refine R.fcal (bor := false) rfl rfl (iEdF h2) rfl rfl rfl ?_ | refine R.fcal (bor := true) rfl rfl (iEdF h2) rfl rfl rfl ?_ | refine R.cond rfl (fun hc => ?_) (fun hc => ?_) | refine R.condN rfl (fun hc => ?_) (fun hc => ?_) | refine R.condB rfl (fun hc => ?_) (fun hc => ?_) | refine R.gP rfl (fun hc => ?_) (fun hc => ?_) | refine R.gN rfl (fun hc => ?_) (fun hc => ?_) | refine R.gB rfl (fun hc => ?_) (fun hc => ?_))
    all_goals first | (exfalso; omega) | exact R.ret ⟨.inr rfl, R.outB rfl rfl (bP_false fun h => h2 h.2.1)⟩
  by_cases hL : d.fPieces.length ≤ 100
  case neg =>
    repeat' (first | refine R.mv rfl ?_ | refine R.reg ?_ | refine R.nil ?_ | refine R.seq ?_ | refine R.nseq ?_ | refine R.nblk ?_ | refine R.skip ?_ | refine R.blk ?_ | refine R.exit rfl ?_ | refine R.gRun rfl ?_ | refine R.gSkip rfl ?_ | refine R.gSkip0 rfl ?_ | refine R.gUndef rfl ?_ | refine R.gUndef0 rfl ?_ | refine R.ldEp rfl rfl (by assumption) rfl rfl ?_ | refine R.ldaEp rfl rfl (by assumption) (Nat.le_of_ble_eq_true rfl) rfl rfl ?_ | refine R.ld rfl rfl rfl ?_ | refine R.lda rfl rfl (Nat.le_of_ble_eq_true rfl) rfl ?_ | refine R.fa rfl rfl ?_ | refine R.lenM rfl ?_ | refine R.lenO rfl rfl ?_ | refine R.len rfl rfl ?_ | refine R.gtr rfl rfl ?_ | refine R.eql rfl rfl ?_ | refine R.pickT rfl rfl ?_ | refine R.pickF rfl rfl ?_ | refine R.not rfl ?_ | refine R.box rfl rfl rfl ?_ | refine R.condT rfl ?_ | refine R.condF rfl ?_ | refine R.call (bor := false) rfl rfl (iEdT h1) rfl rfl rfl ?_ | refine R.call (bor := true) rfl rfl (iEdT h1) rfl rfl rfl ?_ | refine R.fcal (bor := false) rfl rfl (iEdT h1) rfl rfl rfl ?_ | refine R.fcal (bor := true) rfl rfl (iEdT h1) rfl rfl rfl ?_ | refine R.call (bor := false) rfl rfl (iEdT h2) rfl rfl rfl ?_ | refine R.call (bor := true) rfl rfl (iEdT h2) rfl rfl rfl ?_ | refine R.fcal (bor := false) rfl rfl (iEdT h2) rfl rfl rfl ?_ | refine R.fcal (bor := true) rfl rfl (iEdT h2) rfl rfl rfl ?_ | refine R.cond rfl (fun hc => ?_) (fun hc => ?_) | refine R.condN rfl (fun hc => ?_) (fun hc => ?_) | refine R.condB rfl (fun hc => ?_) (fun hc => ?_) | refine R.gP rfl (fun hc => ?_) (fun hc => ?_) | refine R.gN rfl (fun hc => ?_) (fun hc => ?_) | refine R.gB rfl (fun hc => ?_) (fun hc => ?_))
    all_goals first | (exfalso; omega) | exact R.ret ⟨.inr rfl, R.outB rfl rfl (bP_false fun h => hL h.2.2.1)⟩
  have hany := lib_anyPiece (l := d.fPieces) (g := 188) (caps := []) (p := fun v => !(bP (okPc v))) fun v _ => iWrong v
  have htl := sufE_len (ps := d.fPieces) d.fPieces.length 0 rfl
  rw [sufE_all] at htl
  by_cases hV : ∀ v ∈ d.fPieces, okPc v
  · have hf : (d.fPieces.any fun v => !(bP (okPc v))) = false := by
      rw [List.any_eq_false]
      intro v hv
      simp [bP_iff.2 (hV v hv)]
    rw [hf] at hany
    repeat' (first | refine R.mv rfl ?_ | refine R.reg ?_ | refine R.nil ?_ | refine R.seq ?_ | refine R.nseq ?_ | refine R.nblk ?_ | refine R.skip ?_ | refine R.blk ?_ | refine R.exit rfl ?_ | refine R.gRun rfl ?_ | refine R.gSkip rfl ?_ | refine R.gSkip0 rfl ?_ | refine R.gUndef rfl ?_ | refine R.gUndef0 rfl ?_ | refine R.ldEp rfl rfl (by assumption) rfl rfl ?_ | refine R.ldaEp rfl rfl (by assumption) (Nat.le_of_ble_eq_true rfl) rfl rfl ?_ | refine R.ld rfl rfl rfl ?_ | refine R.lda rfl rfl (Nat.le_of_ble_eq_true rfl) rfl ?_ | refine R.fa rfl rfl ?_ | refine R.lenM rfl ?_ | refine R.lenO rfl rfl ?_ | refine R.len rfl rfl ?_ | refine R.gtr rfl rfl ?_ | refine R.eql rfl rfl ?_ | refine R.pickT rfl rfl ?_ | refine R.pickF rfl rfl ?_ | refine R.not rfl ?_ | refine R.box rfl rfl rfl ?_ | refine R.condT rfl ?_ | refine R.condF rfl ?_ | refine R.call (bor := false) rfl rfl (iEdT h1) rfl rfl rfl ?_ | refine R.call (bor := true) rfl rfl (iEdT h1) rfl rfl rfl ?_ | refine R.fcal (bor := false) rfl rfl (iEdT h1) rfl rfl rfl ?_ | refine R.fcal (bor := true) rfl rfl (iEdT h1) rfl rfl rfl ?_ | refine R.call (bor := false) rfl rfl (iEdT h2) rfl rfl rfl ?_ | refine R.call (bor := true) rfl rfl (iEdT h2) rfl rfl rfl ?_ | refine R.fcal (bor := false) rfl rfl (iEdT h2) rfl rfl rfl ?_ | refine R.fcal (bor := true) rfl rfl (iEdT h2) rfl rfl rfl ?_ | refine R.call (bor := false) rfl rfl (hany) rfl rfl rfl ?_ | refine R.call (bor := true) rfl rfl (hany) rfl rfl rfl ?_ | refine R.fcal (bor := false) rfl rfl (hany) rfl rfl rfl ?_ | refine R.fcal (bor := true) rfl rfl (hany) rfl rfl rfl ?_ | refine R.call (bor := false) rfl rfl (iByInlet d.fPieces) rfl rfl rfl ?_ | refine R.call (bor := true) rfl rfl (iByInlet d.fPieces) rfl rfl rfl ?_ | refine R.fcal (bor := false) rfl rfl (iByInlet d.fPieces) rfl rfl rfl ?_ | refine R.fcal (bor := true) rfl rfl (iByInlet d.fPieces) rfl rfl rfl ?_ | refine R.mapLen Try.underlying269 rfl (by omega) ?_ | refine R.cond rfl (fun hc => ?_) (fun hc => ?_) | refine R.condN rfl (fun hc => ?_) (fun hc => ?_) | refine R.condB rfl (fun hc => ?_) (fun hc => ?_) | refine R.gP rfl (fun hc => ?_) (fun hc => ?_) | refine R.gN rfl (fun hc => ?_) (fun hc => ?_) | refine R.gB rfl (fun hc => ?_) (fun hc => ?_))
    all_goals first | (exfalso; omega) | skip
    refine R.ret ⟨.inr rfl, R.outB rfl rfl ?_⟩
    rw [Bool.eq_iff_iff, bP_iff, decide_eq_true_eq]
    constructor
    · intro h
      have h2' := htl.2.1 (by omega)
      exact ⟨h1, h2, hL, fun i v hv => ⟨hV v (List.mem_of_getElem? hv), fun k u hk hu e => h2' k i u v (Nat.zero_le _) hk hu hv (keyP_eq.2 e)⟩⟩
    · intro h
      rw [htl.2.2 fun i j u v _ hij hu hv e => (h.2.2.2 j v hv).2 i u hij hu (keyP_eq.1 e)]
  · have hf : (d.fPieces.any fun v => !(bP (okPc v))) = true := by
      rw [List.any_eq_true]
      simp only [Classical.not_forall] at hV
      obtain ⟨v, hv, hn⟩ := hV
      exact ⟨v, hv, by simp [bP_not.2 hn]⟩
    rw [hf] at hany
    repeat' (first | refine R.mv rfl ?_ | refine R.reg ?_ | refine R.nil ?_ | refine R.seq ?_ | refine R.nseq ?_ | refine R.nblk ?_ | refine R.skip ?_ | refine R.blk ?_ | refine R.exit rfl ?_ | refine R.gRun rfl ?_ | refine R.gSkip rfl ?_ | refine R.gSkip0 rfl ?_ | refine R.gUndef rfl ?_ | refine R.gUndef0 rfl ?_ | refine R.ldEp rfl rfl (by assumption) rfl rfl ?_ | refine R.ldaEp rfl rfl (by assumption) (Nat.le_of_ble_eq_true rfl) rfl rfl ?_ | refine R.ld rfl rfl rfl ?_ | refine R.lda rfl rfl (Nat.le_of_ble_eq_true rfl) rfl ?_ | refine R.fa rfl rfl ?_ | refine R.lenM rfl ?_ | refine R.lenO rfl rfl ?_ | refine R.len rfl rfl ?_ | refine R.gtr rfl rfl ?_ | refine R.eql rfl rfl ?_ | refine R.pickT rfl rfl ?_ | refine R.pickF rfl rfl ?_ | refine R.not rfl ?_ | refine R.box rfl rfl rfl ?_ | refine R.condT rfl ?_ | refine R.condF rfl ?_ | refine R.call (bor := false) rfl rfl (iEdT h1) rfl rfl rfl ?_ | refine R.call (bor := true) rfl rfl (iEdT h1) rfl rfl rfl ?_ | refine R.fcal (bor := false) rfl rfl (iEdT h1) rfl rfl rfl ?_ | refine R.fcal (bor := true) rfl rfl (iEdT h1) rfl rfl rfl ?_ | refine R.call (bor := false) rfl rfl (iEdT h2) rfl rfl rfl ?_ | refine R.call (bor := true) rfl rfl (iEdT h2) rfl rfl rfl ?_ | refine R.fcal (bor := false) rfl rfl (iEdT h2) rfl rfl rfl ?_ | refine R.fcal (bor := true) rfl rfl (iEdT h2) rfl rfl rfl ?_ | refine R.call (bor := false) rfl rfl (hany) rfl rfl rfl ?_ | refine R.call (bor := true) rfl rfl (hany) rfl rfl rfl ?_ | refine R.fcal (bor := false) rfl rfl (hany) rfl rfl rfl ?_ | refine R.fcal (bor := true) rfl rfl (hany) rfl rfl rfl ?_ | refine R.cond rfl (fun hc => ?_) (fun hc => ?_) | refine R.condN rfl (fun hc => ?_) (fun hc => ?_) | refine R.condB rfl (fun hc => ?_) (fun hc => ?_) | refine R.gP rfl (fun hc => ?_) (fun hc => ?_) | refine R.gN rfl (fun hc => ?_) (fun hc => ?_) | refine R.gB rfl (fun hc => ?_) (fun hc => ?_))
    all_goals first
      | (exfalso; omega)
      | exact R.ret ⟨.inr rfl, R.outB rfl rfl (bP_false fun h => hV fun v hv => by
          obtain ⟨i, hi⟩ := List.getElem?_of_mem hv
          exact (h.2.2.2 i v hi).1)⟩
theorem sNumbers (l : List Int) : Spec Try.prog 182 [vL kI (ints l)] (oB (bP (okEd l))) := by
  refine Spec.walk T.mixed Try.func182 S.ok182 (by simp [Try.f182]) fun hk => ?_
  have hlen := (K.c hk 0 rfl).lenM
  unfold S.s182
  by_cases hT : 1 ≤ (l.length : Int) ∧ (l.length : Int) ≤ 10
  case neg =>
    repeat' (first | refine R.mv rfl ?_ | refine R.reg ?_ | refine R.nil ?_ | refine R.seq ?_ | refine R.nseq ?_ | refine R.nblk ?_ | refine R.skip ?_ | refine R.blk ?_ | refine R.exit rfl ?_ | refine R.ldEp rfl rfl (by assumption) rfl rfl ?_ | refine R.ldaEp rfl rfl (by assumption) (Nat.le_of_ble_eq_true rfl) rfl rfl ?_ | refine R.ld rfl rfl rfl ?_ | refine R.lda rfl rfl (Nat.le_of_ble_eq_true rfl) rfl ?_ | refine R.lenM rfl ?_ | refine R.lenO rfl rfl ?_ | refine R.len rfl rfl ?_ | refine R.lss rfl rfl ?_ | refine R.add rfl rfl (by omega) ?_ | refine R.ixN rfl rfl rfl (by omega) (fun a ha => ?_) | refine R.ixM rfl rfl rfl (by omega) (fun a ha => ?_) | refine R.ixON rfl rfl rfl (by first | omega | (simp; omega)) (fun a' ha' => ?_) | refine R.ixO rfl rfl rfl (by first | omega | (simp; omega)) (fun a' ha' => ?_) | refine R.not rfl ?_ | refine R.condT rfl ?_ | refine R.condF rfl ?_ | refine R.call (bor := false) rfl rfl (sInF hT) rfl rfl rfl ?_ | refine R.call (bor := true) rfl rfl (sInF hT) rfl rfl rfl ?_ | refine R.fcal (bor := false) rfl rfl (sInF hT) rfl rfl rfl ?_ | refine R.fcal (bor := true) rfl rfl (sInF hT) rfl rfl rfl ?_ | refine R.cond rfl (fun hc => ?_) (fun hc => ?_) | refine R.condN rfl (fun hc => ?_) (fun hc => ?_) | refine R.condB rfl (fun hc => ?_) (fun hc => ?_))
    all_goals exact R.ret ⟨.inr rfl, R.outB rfl rfl (bP_false fun h => hT h.1)⟩
  repeat' (first | refine R.mv rfl ?_ | refine R.reg ?_ | refine R.nil ?_ | refine R.seq ?_ | refine R.nseq ?_ | refine R.nblk ?_ | refine R.skip ?_ | refine R.blk ?_ | refine R.exit rfl ?_ | refine R.ldEp rfl rfl (by assumption) rfl rfl ?_ | refine R.ldaEp rfl rfl (by assumption) (Nat.le_of_ble_eq_true rfl) rfl rfl ?_ | refine R.ld rfl rfl rfl ?_ | refine R.lda rfl rfl (Nat.le_of_ble_eq_true rfl) rfl ?_ | refine R.lenM rfl ?_ | refine R.lenO rfl rfl ?_ | refine R.len rfl rfl ?_ | refine R.lss rfl rfl ?_ | refine R.add rfl rfl (by omega) ?_ | refine R.ixN rfl rfl rfl (by omega) (fun a ha => ?_) | refine R.ixM rfl rfl rfl (by omega) (fun a ha => ?_) | refine R.ixON rfl rfl rfl (by first | omega | (simp; omega)) (fun a' ha' => ?_) | refine R.ixO rfl rfl rfl (by first | omega | (simp; omega)) (fun a' ha' => ?_) | refine R.not rfl ?_ | refine R.condT rfl ?_ | refine R.condF rfl ?_ | refine R.call (bor := false) rfl rfl (sInT hT) rfl rfl rfl ?_ | refine R.call (bor := true) rfl rfl (sInT hT) rfl rfl rfl ?_ | refine R.fcal (bor := false) rfl rfl (sInT hT) rfl rfl rfl ?_ | refine R.fcal (bor := true) rfl rfl (sInT hT) rfl rfl rfl ?_ | refine R.cond rfl (fun hc => ?_) (fun hc => ?_) | refine R.condN rfl (fun hc => ?_) (fun hc => ?_) | refine R.condB rfl (fun hc => ?_) (fun hc => ?_))
  refine R.loop (G := Nat) (fun i => [(0, rdA kI (ints l)), (3, pvA (.int .i64 i))]) (fun _ => []) (fun i => i ≤ l.length ∧ ∀ w ∈ l.take i, 0 ≤ w ∧ w ≤ 119) (fun i => l.length - i) 0 ⟨by omega, by simp⟩ (Weak.frame _ _ ⟨rfl, rfl, trivial⟩ trivial rfl rfl) fun n hn => ?_
  by_cases hnl : n < l.length
  · obtain ⟨v, hv⟩ : ∃ v, l[n]? = some v := ⟨_, List.getElem?_eq_getElem hnl⟩
    by_cases hg : 0 ≤ v ∧ v ≤ 119
    · repeat' (first | refine R.ixK v hv rfl rfl rfl ?_ | refine R.mv rfl ?_ | refine R.reg ?_ | refine R.nil ?_ | refine R.seq ?_ | refine R.nseq ?_ | refine R.nblk ?_ | refine R.skip ?_ | refine R.blk ?_ | refine R.exit rfl ?_ | refine R.ldEp rfl rfl (by assumption) rfl rfl ?_ | refine R.ldaEp rfl rfl (by assumption) (Nat.le_of_ble_eq_true rfl) rfl rfl ?_ | refine R.ld rfl rfl rfl ?_ | refine R.lda rfl rfl (Nat.le_of_ble_eq_true rfl) rfl ?_ | refine R.lenM rfl ?_ | refine R.lenO rfl rfl ?_ | refine R.len rfl rfl ?_ | refine R.lss rfl rfl ?_ | refine R.add rfl rfl (by omega) ?_ | refine R.ixN rfl rfl rfl (by omega) (fun a ha => ?_) | refine R.ixM rfl rfl rfl (by omega) (fun a ha => ?_) | refine R.ixON rfl rfl rfl (by first | omega | (simp; omega)) (fun a' ha' => ?_) | refine R.ixO rfl rfl rfl (by first | omega | (simp; omega)) (fun a' ha' => ?_) | refine R.not rfl ?_ | refine R.condT rfl ?_ | refine R.condF rfl ?_ | refine R.call (bor := false) rfl rfl (sInT hg) rfl rfl rfl ?_ | refine R.call (bor := true) rfl rfl (sInT hg) rfl rfl rfl ?_ | refine R.fcal (bor := false) rfl rfl (sInT hg) rfl rfl rfl ?_ | refine R.fcal (bor := true) rfl rfl (sInT hg) rfl rfl rfl ?_ | refine R.cond rfl (fun hc => ?_) (fun hc => ?_) | refine R.condN rfl (fun hc => ?_) (fun hc => ?_) | refine R.condB rfl (fun hc => ?_) (fun hc => ?_))
      all_goals first
        | (exfalso; omega)
        | (refine R.nloop (R.again (n + 1) ⟨by omega, ?_⟩ (by omega) ⟨rfl, rfl, trivial⟩ trivial rfl rfl)
           rw [take_snoc hv]
           intro w hw
           rcases List.mem_append.1 hw with hw | hw
           · exact hn.2 w hw
           · rw [List.mem_singleton.1 hw]; exact hg)
    · repeat' (first | refine R.ixK v hv rfl rfl rfl ?_ | refine R.mv rfl ?_ | refine R.reg ?_ | refine R.nil ?_ | refine R.seq ?_ | refine R.nseq ?_ | refine R.nblk ?_ | refine R.skip ?_ | refine R.blk ?_ | refine R.exit rfl ?_ | refine R.ldEp rfl rfl (by assumption) rfl rfl ?_ | refine R.ldaEp rfl rfl (by assumption) (Nat.le_of_ble_eq_true rfl) rfl rfl ?_ | refine R.ld rfl rfl rfl ?_ | refine R.lda rfl rfl (Nat.le_of_ble_eq_true rfl) rfl ?_ | refine R.lenM rfl ?_ | refine R.lenO rfl rfl ?_ | refine R.len rfl rfl ?_ | refine R.lss rfl rfl ?_ | refine R.add rfl rfl (by omega) ?_ | refine R.ixN rfl rfl rfl (by omega) (fun a ha => ?_) | refine R.ixM rfl rfl rfl (by omega) (fun a ha => ?_) | refine R.ixON rfl rfl rfl (by first | omega | (simp; omega)) (fun a' ha' => ?_) | refine R.ixO rfl rfl rfl (by first | omega | (simp; omega)) (fun a' ha' => ?_) | refine R.not rfl ?_ | refine R.condT rfl ?_ | refine R.condF rfl ?_ | refine R.call (bor := false) rfl rfl (sInF hg) rfl rfl rfl ?_ | refine R.call (bor := true) rfl rfl (sInF hg) rfl rfl rfl ?_ | refine R.fcal (bor := false) rfl rfl (sInF hg) rfl rfl rfl ?_ | refine R.fcal (bor := true) rfl rfl (sInF hg) rfl rfl rfl ?_ | refine R.cond rfl (fun hc => ?_) (fun hc => ?_) | refine R.condN rfl (fun hc => ?_) (fun hc => ?_) | refine R.condB rfl (fun hc => ?_) (fun hc => ?_))
      all_goals first
        | (exfalso; omega)
        | exact R.ret ⟨.inr rfl, R.outB rfl rfl (bP_false fun h => hg (h.2 v (List.mem_of_getElem? hv)))⟩
  · obtain rfl : n = l.length := by omega
    repeat' (first | refine R.mv rfl ?_ | refine R.reg ?_ | refine R.nil ?_ | refine R.seq ?_ | refine R.nseq ?_ | refine R.nblk ?_ | refine R.skip ?_ | refine R.blk ?_ | refine R.exit rfl ?_ | refine R.ldEp rfl rfl (by assumption) rfl rfl ?_ | refine R.ldaEp rfl rfl (by assumption) (Nat.le_of_ble_eq_true rfl) rfl rfl ?_ | refine R.ld rfl rfl rfl ?_ | refine R.lda rfl rfl (Nat.le_of_ble_eq_true rfl) rfl ?_ | refine R.lenM rfl ?_ | refine R.lenO rfl rfl ?_ | refine R.len rfl rfl ?_ | refine R.lss rfl rfl ?_ | refine R.add rfl rfl (by omega) ?_ | refine R.ixN rfl rfl rfl (by omega) (fun a ha => ?_) | refine R.ixM rfl rfl rfl (by omega) (fun a ha => ?_) | refine R.ixON rfl rfl rfl (by first | omega | (simp; omega)) (fun a' ha' => ?_) | refine R.ixO rfl rfl rfl (by first | omega | (simp; omega)) (fun a' ha' => ?_) | refine R.not rfl ?_ | refine R.condT rfl ?_ | refine R.condF rfl ?_ | refine R.cond rfl (fun hc => ?_) (fun hc => ?_) | refine R.condN rfl (fun hc => ?_) (fun hc => ?_) | refine R.condB rfl (fun hc => ?_) (fun hc => ?_))
    all_goals first
      | (exfalso; omega)
      | exact R.ret ⟨.inr rfl, R.outB rfl rfl (bP_true ⟨hT, by simpa using hn.2⟩)⟩
theorem sNumT {l : List Int} (h : okEd l) : Spec Try.prog 182 [vL kI (ints l)] (oB true) := by have := sNumbers l; rwa [bP_iff.2 h] at this
theorem sNumF {l : List Int} (h : ¬ okEd l) : Spec Try.prog 182 [vL kI (ints l)] (oB false) := by have := sNumbers l; rwa [bP_not.2 h] at this
theorem sPiece (v : TPiece) : Spec Try.prog 183 [vP (enPiece v)] (oB (bP (okPc v))) := by
  refine Spec.walk T.mixed Try.func183 S.ok183 (by simp [Try.f183]) fun hk => ?_
  unfold S.s183
  repeat' (first | refine R.mv rfl ?_ | refine R.reg ?_ | refine R.nil ?_ | refine R.seq ?_ | refine R.nseq ?_ | refine R.nblk ?_ | refine R.skip ?_ | refine R.blk ?_ | refine R.exit rfl ?_ | refine R.gRun rfl ?_ | refine R.gSkip rfl ?_ | refine R.gSkip0 rfl ?_ | refine R.gUndef rfl ?_ | refine R.gUndef0 rfl ?_ | refine R.ldEp rfl rfl (by assumption) rfl rfl ?_ | refine R.ldaEp rfl rfl (by assumption) (Nat.le_of_ble_eq_true rfl) rfl rfl ?_ | refine R.ld rfl rfl rfl ?_ | refine R.lda rfl rfl (Nat.le_of_ble_eq_true rfl) rfl ?_ | refine R.fa rfl rfl ?_ | refine R.pickT rfl rfl ?_ | refine R.pickF rfl rfl ?_ | refine R.nc rfl rfl ?_ | refine R.nc0 rfl rfl ?_ | refine R.condT rfl ?_ | refine R.condF rfl ?_ | refine R.call (bor := false) rfl rfl (sIn _ _ _) rfl rfl rfl ?_ | refine R.call (bor := true) rfl rfl (sIn _ _ _) rfl rfl rfl ?_ | refine R.fcal (bor := false) rfl rfl (sIn _ _ _) rfl rfl rfl ?_ | refine R.fcal (bor := true) rfl rfl (sIn _ _ _) rfl rfl rfl ?_ | refine R.cond rfl (fun hc => ?_) (fun hc => ?_) | refine R.condN rfl (fun hc => ?_) (fun hc => ?_) | refine R.condB rfl (fun hc => ?_) (fun hc => ?_) | refine R.gP rfl (fun hc => ?_) (fun hc => ?_) | refine R.gN rfl (fun hc => ?_) (fun hc => ?_) | refine R.gB rfl (fun hc => ?_) (fun hc => ?_))
  all_goals refine R.ret ⟨.inr rfl, R.outB rfl rfl ?_⟩
  all_goals rw [Bool.eq_iff_iff, bP_iff]
  all_goals first
    | (simp only [Bool.false_eq_true, false_iff]; rintro ⟨g1, g2, g3, g4, g5⟩; contradiction)
    | (simp_all [okPc]; done)
theorem sDesign (d : TDesign) : Spec Try.prog 110 [vP (enDesign d)] (oB (bP (okDes d))) := by
  refine Spec.walk T.mixed Try.func110 S.ok110 (by simp [Try.f110]) fun hk => ?_
  have hlen := ((K.c hk 0 rfl).cells (.rd kPiece (d.fPieces.map enPiece)) (by simp)).lenM
  unfold S.s110
  by_cases h1 : okEd d.fBottom
  case neg =>
    repeat' (first | refine R.mv rfl ?_ | refine R.reg ?_ | refine R.nil ?_ | refine R.seq ?_ | refine R.nseq ?_ | refine R.nblk ?_ | refine R.skip ?_ | refine R.blk ?_ | refine R.exit rfl ?_ | refine R.gRun rfl ?_ | refine R.gSkip rfl ?_ | refine R.gSkip0 rfl ?_ | refine R.gUndef rfl ?_ | refine R.gUndef0 rfl ?_ | refine R.ldEp rfl rfl (by assumption) rfl rfl ?_ | refine R.ldaEp rfl rfl (by assumption) (Nat.le_of_ble_eq_true rfl) rfl rfl ?_ | refine R.ld rfl rfl rfl ?_ | refine R.lda rfl rfl (Nat.le_of_ble_eq_true rfl) rfl ?_ | refine R.fa rfl rfl ?_ | refine R.lenM rfl ?_ | refine R.lenO rfl rfl ?_ | refine R.len rfl rfl ?_ | refine R.lss rfl rfl ?_ | refine R.gtr rfl rfl ?_ | refine R.eql rfl rfl ?_ | refine R.add rfl rfl (by omega) ?_ | refine R.ixN rfl rfl rfl (by omega) (fun a ha => ?_) | refine R.ixM rfl rfl rfl (by omega) (fun a ha => ?_) | refine R.ixON rfl rfl rfl (by first | omega | (simp; omega)) (fun a' ha' => ?_) | refine R.ixO rfl rfl rfl (by first | omega | (simp; omega)) (fun a' ha' => ?_) | refine R.pickT rfl rfl ?_ | refine R.pickF rfl rfl ?_ | refine R.not rfl ?_ | refine R.nc rfl rfl ?_ | refine R.nc0 rfl rfl ?_ | refine R.condT rfl ?_ | refine R.condF rfl ?_ | refine R.call (bor := false) rfl rfl (sNumF h1) rfl rfl rfl ?_ | refine R.call (bor := true) rfl rfl (sNumF h1) rfl rfl rfl ?_ | refine R.fcal (bor := false) rfl rfl (sNumF h1) rfl rfl rfl ?_ | refine R.fcal (bor := true) rfl rfl (sNumF h1) rfl rfl rfl ?_ | refine R.cond rfl (fun hc => ?_) (fun hc => ?_) | refine R.condN rfl (fun hc => ?_) (fun hc => ?_) | refine R.condB rfl (fun hc => ?_) (fun hc => ?_) | refine R.gP rfl (fun hc => ?_) (fun hc => ?_) | refine R.gN rfl (fun hc => ?_) (fun hc => ?_) | refine R.gB rfl (fun hc => ?_) (fun hc => ?_))
    all_goals first | (exfalso; omega) | exact R.ret ⟨.inr rfl, R.outB rfl rfl (bP_false fun h => h1 h.1)⟩
  by_cases h2 : okEd d.fLeft
  case neg =>
    repeat' (first | refine R.mv rfl ?_ | refine R.reg ?_ | refine R.nil ?_ | refine R.seq ?_ | refine R.nseq ?_ | refine R.nblk ?_ | refine R.skip ?_ | refine R.blk ?_ | refine R.exit rfl ?_ | refine R.gRun rfl ?_ | refine R.gSkip rfl ?_ | refine R.gSkip0 rfl ?_ | refine R.gUndef rfl ?_ | refine R.gUndef0 rfl ?_ | refine R.ldEp rfl rfl (by assumption) rfl rfl ?_ | refine R.ldaEp rfl rfl (by assumption) (Nat.le_of_ble_eq_true rfl) rfl rfl ?_ | refine R.ld rfl rfl rfl ?_ | refine R.lda rfl rfl (Nat.le_of_ble_eq_true rfl) rfl ?_ | refine R.fa rfl rfl ?_ | refine R.lenM rfl ?_ | refine R.lenO rfl rfl ?_ | refine R.len rfl rfl ?_ | refine R.lss rfl rfl ?_ | refine R.gtr rfl rfl ?_ | refine R.eql rfl rfl ?_ | refine R.add rfl rfl (by omega) ?_ | refine R.ixN rfl rfl rfl (by omega) (fun a ha => ?_) | refine R.ixM rfl rfl rfl (by omega) (fun a ha => ?_) | refine R.ixON rfl rfl rfl (by first | omega | (simp; omega)) (fun a' ha' => ?_) | refine R.ixO rfl rfl rfl (by first | omega | (simp; omega)) (fun a' ha' => ?_) | refine R.pickT rfl rfl ?_ | refine R.pickF rfl rfl ?_ | refine R.not rfl ?_ | refine R.nc rfl rfl ?_ | refine R.nc0 rfl rfl ?_ | refine R.condT rfl ?_ | refine R.condF rfl ?_ | refine R.call (bor := false) rfl rfl (sNumT h1) rfl rfl rfl ?_ | refine R.call (bor := true) rfl rfl (sNumT h1) rfl rfl rfl ?_ | refine R.fcal (bor := false) rfl rfl (sNumT h1) rfl rfl rfl ?_ | refine R.fcal (bor := true) rfl rfl (sNumT h1) rfl rfl rfl ?_ | refine R.call (bor := false) rfl rfl (sNumF h2) rfl rfl rfl ?_ | refine R.call (bor := true) rfl rfl (sNumF h2) rfl rfl rfl ?_ | refine R.fcal (bor := false) rfl rfl (sNumF h2) rfl rfl rfl ?_ | refine R.fcal (bor := true) rfl rfl (sNumF h2) rfl rfl rfl ?_ | refine R.cond rfl (fun hc => ?_) (fun hc => ?_) | refine R.condN rfl (fun hc => ?_) (fun hc => ?_) | refine R.condB rfl (fun hc => ?_) (fun hc => ?_) | refine R.gP rfl (fun hc => ?_) (fun hc => ?_) | refine R.gN rfl (fun hc => ?_) (fun hc => ?_) | refine R.gB rfl (fun hc => ?_) (fun hc => ?_))
    all_goals first | (exfalso; omega) | exact R.ret ⟨.inr rfl, R.outB rfl rfl (bP_false fun h => h2 h.2.1)⟩
  by_cases hL : d.fPieces.length ≤ 100
  case neg =>
    repeat' (first | refine R.mv rfl ?_ | refine R.reg ?_ | refine R.nil ?_ | refine R.seq ?_ | refine R.nseq ?_ | refine R.nblk ?_ | refine R.skip ?_ | refine R.blk ?_ | refine R.exit rfl ?_ | refine R.gRun rfl ?_ | refine R.gSkip rfl ?_ | refine R.gSkip0 rfl ?_ | refine R.gUndef rfl ?_ | refine R.gUndef0 rfl ?_ | refine R.ldEp rfl rfl (by assumption) rfl rfl ?_ | refine R.ldaEp rfl rfl (by assumption) (Nat.le_of_ble_eq_true rfl) rfl rfl ?_ | refine R.ld rfl rfl rfl ?_ | refine R.lda rfl rfl (Nat.le_of_ble_eq_true rfl) rfl ?_ | refine R.fa rfl rfl ?_ | refine R.lenM rfl ?_ | refine R.lenO rfl rfl ?_ | refine R.len rfl rfl ?_ | refine R.lss rfl rfl ?_ | refine R.gtr rfl rfl ?_ | refine R.eql rfl rfl ?_ | refine R.add rfl rfl (by omega) ?_ | refine R.ixN rfl rfl rfl (by omega) (fun a ha => ?_) | refine R.ixM rfl rfl rfl (by omega) (fun a ha => ?_) | refine R.ixON rfl rfl rfl (by first | omega | (simp; omega)) (fun a' ha' => ?_) | refine R.ixO rfl rfl rfl (by first | omega | (simp; omega)) (fun a' ha' => ?_) | refine R.pickT rfl rfl ?_ | refine R.pickF rfl rfl ?_ | refine R.not rfl ?_ | refine R.nc rfl rfl ?_ | refine R.nc0 rfl rfl ?_ | refine R.condT rfl ?_ | refine R.condF rfl ?_ | refine R.call (bor := false) rfl rfl (sNumT h1) rfl rfl rfl ?_ | refine R.call (bor := true) rfl rfl (sNumT h1) rfl rfl rfl ?_ | refine R.fcal (bor := false) rfl rfl (sNumT h1) rfl rfl rfl ?_ | refine R.fcal (bor := true) rfl rfl (sNumT h1) rfl rfl rfl ?_ | refine R.call (bor := false) rfl rfl (sNumT h2) rfl rfl rfl ?_ | refine R.call (bor := true) rfl rfl (sNumT h2) rfl rfl rfl ?_ | refine R.fcal (bor := false) rfl rfl (sNumT h2) rfl rfl rfl ?_ | refine R.fcal (bor := true) rfl rfl (sNumT h2) rfl rfl rfl ?_ | refine R.cond rfl (fun hc => ?_) (fun hc => ?_) | refine R.condN rfl (fun hc => ?_) (fun hc => ?_) | refine R.condB rfl (fun hc => ?_) (fun hc => ?_) | refine R.gP rfl (fun hc => ?_) (fun hc => ?_) | refine R.gN rfl (fun hc => ?_) (fun hc => ?_) | refine R.gB rfl (fun hc => ?_) (fun hc => ?_))
    all_goals first | (exfalso; omega) | exact R.ret ⟨.inr rfl, R.outB rfl rfl (bP_false fun h => hL h.2.2.1)⟩
  repeat' (first | refine R.mv rfl ?_ | refine R.reg ?_ | refine R.nil ?_ | refine R.seq ?_ | refine R.nseq ?_ | refine R.nblk ?_ | refine R.skip ?_ | refine R.blk ?_ | refine R.exit rfl ?_ | refine R.gRun rfl ?_ | refine R.gSkip rfl ?_ | refine R.gSkip0 rfl ?_ | refine R.gUndef rfl ?_ | refine R.gUndef0 rfl ?_ | refine R.ldEp rfl rfl (by assumption) rfl rfl ?_ | refine R.ldaEp rfl rfl (by assumption) (Nat.le_of_ble_eq_true rfl) rfl rfl ?_ | refine R.ld rfl rfl rfl ?_ | refine R.lda rfl rfl (Nat.le_of_ble_eq_true rfl) rfl ?_ | refine R.fa rfl rfl ?_ | refine R.lenM rfl ?_ | refine R.lenO rfl rfl ?_ | refine R.len rfl rfl ?_ | refine R.lss rfl rfl ?_ | refine R.gtr rfl rfl ?_ | refine R.eql rfl rfl ?_ | refine R.add rfl rfl (by omega) ?_ | refine R.ixN rfl rfl rfl (by omega) (fun a ha => ?_) | refine R.ixM rfl rfl rfl (by omega) (fun a ha => ?_) | refine R.ixON rfl rfl rfl (by first | omega | (simp; omega)) (fun a' ha' => ?_) | refine R.ixO rfl rfl rfl (by first | omega | (simp; omega)) (fun a' ha' => ?_) | refine R.pickT rfl rfl ?_ | refine R.pickF rfl rfl ?_ | refine R.not rfl ?_ | refine R.nc rfl rfl ?_ | refine R.nc0 rfl rfl ?_ | refine R.condT rfl ?_ | refine R.condF rfl ?_ | refine R.call (bor := false) rfl rfl (sNumT h1) rfl rfl rfl ?_ | refine R.call (bor := true) rfl rfl (sNumT h1) rfl rfl rfl ?_ | refine R.fcal (bor := false) rfl rfl (sNumT h1) rfl rfl rfl ?_ | refine R.fcal (bor := true) rfl rfl (sNumT h1) rfl rfl rfl ?_ | refine R.call (bor := false) rfl rfl (sNumT h2) rfl rfl rfl ?_ | refine R.call (bor := true) rfl rfl (sNumT h2) rfl rfl rfl ?_ | refine R.fcal (bor := false) rfl rfl (sNumT h2) rfl rfl rfl ?_ | refine R.fcal (bor := true) rfl rfl (sNumT h2) rfl rfl rfl ?_ | refine R.cond rfl (fun hc => ?_) (fun hc => ?_) | refine R.condN rfl (fun hc => ?_) (fun hc => ?_) | refine R.condB rfl (fun hc => ?_) (fun hc => ?_) | refine R.gP rfl (fun hc => ?_) (fun hc => ?_) | refine R.gN rfl (fun hc => ?_) (fun hc => ?_) | refine R.gB rfl (fun hc => ?_) (fun hc => ?_))
  all_goals first | (exfalso; omega) | skip
  refine R.loop (G := Nat) (fun i => [(0, .v (.c (.d (.rp (enDesign d))))), (3, pvA (.int .i64 i))]) (fun _ => []) (fun i => i ≤ d.fPieces.length ∧ ∀ (j : Nat) v, j < i → d.fPieces[j]? = some v → okPc v ∧ ∀ (k : Nat) (u : TPiece), k < j → d.fPieces[k]? = some u → ¬ (u.fSouth = v.fSouth ∧ u.fWest = v.fWest)) (fun i => d.fPieces.length - i) 0 ⟨by omega, fun j v h => by omega⟩ (Weak.frame _ _ ⟨rfl, rfl, trivial⟩ trivial rfl rfl) fun i hi => ?_
  obtain ⟨hi, hu⟩ := hi
  by_cases hil : i < d.fPieces.length
  · obtain ⟨v, hv⟩ : ∃ v, d.fPieces[i]? = some v := ⟨_, List.getElem?_eq_getElem hil⟩
    have hsp := sPiece v
    by_cases hg : okPc v
    case neg =>
      rw [bP_not.2 hg] at hsp
      repeat' (first | refine R.ixK v hv rfl rfl rfl ?_ | refine R.mv rfl ?_ | refine R.reg ?_ | refine R.nil ?_ | refine R.seq ?_ | refine R.nseq ?_ | refine R.nblk ?_ | refine R.skip ?_ | refine R.blk ?_ | refine R.exit rfl ?_ | refine R.gRun rfl ?_ | refine R.gSkip rfl ?_ | refine R.gSkip0 rfl ?_ | refine R.gUndef rfl ?_ | refine R.gUndef0 rfl ?_ | refine R.ldEp rfl rfl (by assumption) rfl rfl ?_ | refine R.ldaEp rfl rfl (by assumption) (Nat.le_of_ble_eq_true rfl) rfl rfl ?_ | refine R.ld rfl rfl rfl ?_ | refine R.lda rfl rfl (Nat.le_of_ble_eq_true rfl) rfl ?_ | refine R.fa rfl rfl ?_ | refine R.lenM rfl ?_ | refine R.lenO rfl rfl ?_ | refine R.len rfl rfl ?_ | refine R.lss rfl rfl ?_ | refine R.gtr rfl rfl ?_ | refine R.eql rfl rfl ?_ | refine R.add rfl rfl (by omega) ?_ | refine R.ixN rfl rfl rfl (by omega) (fun a ha => ?_) | refine R.ixM rfl rfl rfl (by omega) (fun a ha => ?_) | refine R.ixON rfl rfl rfl (by first | omega | (simp; omega)) (fun a' ha' => ?_) | refine R.ixO rfl rfl rfl (by first | omega | (simp; omega)) (fun a' ha' => ?_) | refine R.pickT rfl rfl ?_ | refine R.pickF rfl rfl ?_ | refine R.not rfl ?_ | refine R.nc rfl rfl ?_ | refine R.nc0 rfl rfl ?_ | refine R.condT rfl ?_ | refine R.condF rfl ?_ | refine R.call (bor := false) rfl rfl (hsp) rfl rfl rfl ?_ | refine R.call (bor := true) rfl rfl (hsp) rfl rfl rfl ?_ | refine R.fcal (bor := false) rfl rfl (hsp) rfl rfl rfl ?_ | refine R.fcal (bor := true) rfl rfl (hsp) rfl rfl rfl ?_ | refine R.cond rfl (fun hc => ?_) (fun hc => ?_) | refine R.condN rfl (fun hc => ?_) (fun hc => ?_) | refine R.condB rfl (fun hc => ?_) (fun hc => ?_) | refine R.gP rfl (fun hc => ?_) (fun hc => ?_) | refine R.gN rfl (fun hc => ?_) (fun hc => ?_) | refine R.gB rfl (fun hc => ?_) (fun hc => ?_))
      all_goals first
        | (exfalso; omega)
        | exact R.ret ⟨.inr rfl, R.outB rfl rfl (bP_false fun h => hg (h.2.2.2 i v hv).1)⟩
    rw [bP_iff.2 hg] at hsp
    repeat' (first | refine R.ixK v hv rfl rfl rfl ?_ | refine R.mv rfl ?_ | refine R.reg ?_ | refine R.nil ?_ | refine R.seq ?_ | refine R.nseq ?_ | refine R.nblk ?_ | refine R.skip ?_ | refine R.blk ?_ | refine R.exit rfl ?_ | refine R.gRun rfl ?_ | refine R.gSkip rfl ?_ | refine R.gSkip0 rfl ?_ | refine R.gUndef rfl ?_ | refine R.gUndef0 rfl ?_ | refine R.ldEp rfl rfl (by assumption) rfl rfl ?_ | refine R.ldaEp rfl rfl (by assumption) (Nat.le_of_ble_eq_true rfl) rfl rfl ?_ | refine R.ld rfl rfl rfl ?_ | refine R.lda rfl rfl (Nat.le_of_ble_eq_true rfl) rfl ?_ | refine R.fa rfl rfl ?_ | refine R.lenM rfl ?_ | refine R.lenO rfl rfl ?_ | refine R.len rfl rfl ?_ | refine R.lss rfl rfl ?_ | refine R.gtr rfl rfl ?_ | refine R.eql rfl rfl ?_ | refine R.add rfl rfl (by omega) ?_ | refine R.ixN rfl rfl rfl (by omega) (fun a ha => ?_) | refine R.ixM rfl rfl rfl (by omega) (fun a ha => ?_) | refine R.ixON rfl rfl rfl (by first | omega | (simp; omega)) (fun a' ha' => ?_) | refine R.ixO rfl rfl rfl (by first | omega | (simp; omega)) (fun a' ha' => ?_) | refine R.pickT rfl rfl ?_ | refine R.pickF rfl rfl ?_ | refine R.not rfl ?_ | refine R.nc rfl rfl ?_ | refine R.nc0 rfl rfl ?_ | refine R.condT rfl ?_ | refine R.condF rfl ?_ | refine R.call (bor := false) rfl rfl (hsp) rfl rfl rfl ?_ | refine R.call (bor := true) rfl rfl (hsp) rfl rfl rfl ?_ | refine R.fcal (bor := false) rfl rfl (hsp) rfl rfl rfl ?_ | refine R.fcal (bor := true) rfl rfl (hsp) rfl rfl rfl ?_ | refine R.cond rfl (fun hc => ?_) (fun hc => ?_) | refine R.condN rfl (fun hc => ?_) (fun hc => ?_) | refine R.condB rfl (fun hc => ?_) (fun hc => ?_) | refine R.gP rfl (fun hc => ?_) (fun hc => ?_) | refine R.gN rfl (fun hc => ?_) (fun hc => ?_) | refine R.gB rfl (fun hc => ?_) (fun hc => ?_))
    all_goals first | (exfalso; omega) | skip
    refine R.loop (G := Nat) (fun k => [(0, .v (.c (.d (.rp (enDesign d))))), (3, pvA (.int .i64 i)), (4, pvA (.int .i64 k))]) (fun _ => []) (fun k => k ≤ i ∧ ∀ (j : Nat) (u : TPiece), j < k → d.fPieces[j]? = some u → ¬ (u.fSouth = v.fSouth ∧ u.fWest = v.fWest)) (fun k => i - k) 0 ⟨by omega, fun j v h => by omega⟩ (Weak.frame _ _ ⟨rfl, rfl, rfl, trivial⟩ trivial rfl rfl) fun k hk' => ?_
    obtain ⟨hki, hx⟩ := hk'
    by_cases hkl : k < i
    · obtain ⟨u, hku⟩ : ∃ u, d.fPieces[k]? = some u := ⟨_, List.getElem?_eq_getElem (by omega)⟩
      repeat' (first | refine R.ixK v hv rfl rfl rfl ?_ | refine R.ixK u hku rfl rfl rfl ?_ | refine R.mv rfl ?_ | refine R.reg ?_ | refine R.nil ?_ | refine R.seq ?_ | refine R.nseq ?_ | refine R.nblk ?_ | refine R.skip ?_ | refine R.blk ?_ | refine R.exit rfl ?_ | refine R.gRun rfl ?_ | refine R.gSkip rfl ?_ | refine R.gSkip0 rfl ?_ | refine R.gUndef rfl ?_ | refine R.gUndef0 rfl ?_ | refine R.ldEp rfl rfl (by assumption) rfl rfl ?_ | refine R.ldaEp rfl rfl (by assumption) (Nat.le_of_ble_eq_true rfl) rfl rfl ?_ | refine R.ld rfl rfl rfl ?_ | refine R.lda rfl rfl (Nat.le_of_ble_eq_true rfl) rfl ?_ | refine R.fa rfl rfl ?_ | refine R.lenM rfl ?_ | refine R.lenO rfl rfl ?_ | refine R.len rfl rfl ?_ | refine R.lss rfl rfl ?_ | refine R.gtr rfl rfl ?_ | refine R.eql rfl rfl ?_ | refine R.add rfl rfl (by omega) ?_ | refine R.ixN rfl rfl rfl (by omega) (fun a ha => ?_) | refine R.ixM rfl rfl rfl (by omega) (fun a ha => ?_) | refine R.ixON rfl rfl rfl (by first | omega | (simp; omega)) (fun a' ha' => ?_) | refine R.ixO rfl rfl rfl (by first | omega | (simp; omega)) (fun a' ha' => ?_) | refine R.pickT rfl rfl ?_ | refine R.pickF rfl rfl ?_ | refine R.not rfl ?_ | refine R.nc rfl rfl ?_ | refine R.nc0 rfl rfl ?_ | refine R.condT rfl ?_ | refine R.condF rfl ?_ | refine R.cond rfl (fun hc => ?_) (fun hc => ?_) | refine R.condN rfl (fun hc => ?_) (fun hc => ?_) | refine R.condB rfl (fun hc => ?_) (fun hc => ?_) | refine R.gP rfl (fun hc => ?_) (fun hc => ?_) | refine R.gN rfl (fun hc => ?_) (fun hc => ?_) | refine R.gB rfl (fun hc => ?_) (fun hc => ?_))
      all_goals first
        | (exfalso; omega)
        | (refine R.ret ⟨.inr rfl, R.outB rfl rfl (bP_false fun h => ?_)⟩
           exact (h.2.2.2 i v hv).2 k u hkl hku (by simp_all))
        | (refine R.nloop (R.again (k + 1) ⟨by omega, fun j u' hj hju => ?_⟩ (by omega) ⟨rfl, rfl, rfl, trivial⟩ trivial rfl rfl)
           by_cases hjk : j = k
           · subst hjk
             rw [hku] at hju
             cases hju
             simp_all
           · exact hx j u' (by omega) hju)
    · obtain rfl : k = i := by omega
      repeat' (first | refine R.mv rfl ?_ | refine R.reg ?_ | refine R.nil ?_ | refine R.seq ?_ | refine R.nseq ?_ | refine R.nblk ?_ | refine R.skip ?_ | refine R.blk ?_ | refine R.exit rfl ?_ | refine R.gRun rfl ?_ | refine R.gSkip rfl ?_ | refine R.gSkip0 rfl ?_ | refine R.gUndef rfl ?_ | refine R.gUndef0 rfl ?_ | refine R.ldEp rfl rfl (by assumption) rfl rfl ?_ | refine R.ldaEp rfl rfl (by assumption) (Nat.le_of_ble_eq_true rfl) rfl rfl ?_ | refine R.ld rfl rfl rfl ?_ | refine R.lda rfl rfl (Nat.le_of_ble_eq_true rfl) rfl ?_ | refine R.fa rfl rfl ?_ | refine R.lenM rfl ?_ | refine R.lenO rfl rfl ?_ | refine R.len rfl rfl ?_ | refine R.lss rfl rfl ?_ | refine R.gtr rfl rfl ?_ | refine R.eql rfl rfl ?_ | refine R.add rfl rfl (by omega) ?_ | refine R.ixN rfl rfl rfl (by omega) (fun a ha => ?_) | refine R.ixM rfl rfl rfl (by omega) (fun a ha => ?_) | refine R.ixON rfl rfl rfl (by first | omega | (simp; omega)) (fun a' ha' => ?_) | refine R.ixO rfl rfl rfl (by first | omega | (simp; omega)) (fun a' ha' => ?_) | refine R.pickT rfl rfl ?_ | refine R.pickF rfl rfl ?_ | refine R.not rfl ?_ | refine R.nc rfl rfl ?_ | refine R.nc0 rfl rfl ?_ | refine R.condT rfl ?_ | refine R.condF rfl ?_ | refine R.cond rfl (fun hc => ?_) (fun hc => ?_) | refine R.condN rfl (fun hc => ?_) (fun hc => ?_) | refine R.condB rfl (fun hc => ?_) (fun hc => ?_) | refine R.gP rfl (fun hc => ?_) (fun hc => ?_) | refine R.gN rfl (fun hc => ?_) (fun hc => ?_) | refine R.gB rfl (fun hc => ?_) (fun hc => ?_))
      all_goals first
        | (exfalso; omega)
        | (refine R.nloop (R.again (k + 1) ⟨by omega, fun j u hj hju => ?_⟩ (by omega) ⟨rfl, rfl, trivial⟩ trivial rfl rfl)
           by_cases hjk : j = k
           · subst hjk
             rw [hv] at hju
             cases hju
             exact ⟨hg, hx⟩
           · exact hu j u (by omega) hju)
  · repeat' (first | refine R.mv rfl ?_ | refine R.reg ?_ | refine R.nil ?_ | refine R.seq ?_ | refine R.nseq ?_ | refine R.nblk ?_ | refine R.skip ?_ | refine R.blk ?_ | refine R.exit rfl ?_ | refine R.gRun rfl ?_ | refine R.gSkip rfl ?_ | refine R.gSkip0 rfl ?_ | refine R.gUndef rfl ?_ | refine R.gUndef0 rfl ?_ | refine R.ldEp rfl rfl (by assumption) rfl rfl ?_ | refine R.ldaEp rfl rfl (by assumption) (Nat.le_of_ble_eq_true rfl) rfl rfl ?_ | refine R.ld rfl rfl rfl ?_ | refine R.lda rfl rfl (Nat.le_of_ble_eq_true rfl) rfl ?_ | refine R.fa rfl rfl ?_ | refine R.lenM rfl ?_ | refine R.lenO rfl rfl ?_ | refine R.len rfl rfl ?_ | refine R.lss rfl rfl ?_ | refine R.gtr rfl rfl ?_ | refine R.eql rfl rfl ?_ | refine R.add rfl rfl (by omega) ?_ | refine R.ixN rfl rfl rfl (by omega) (fun a ha => ?_) | refine R.ixM rfl rfl rfl (by omega) (fun a ha => ?_) | refine R.ixON rfl rfl rfl (by first | omega | (simp; omega)) (fun a' ha' => ?_) | refine R.ixO rfl rfl rfl (by first | omega | (simp; omega)) (fun a' ha' => ?_) | refine R.pickT rfl rfl ?_ | refine R.pickF rfl rfl ?_ | refine R.not rfl ?_ | refine R.nc rfl rfl ?_ | refine R.nc0 rfl rfl ?_ | refine R.condT rfl ?_ | refine R.condF rfl ?_ | refine R.cond rfl (fun hc => ?_) (fun hc => ?_) | refine R.condN rfl (fun hc => ?_) (fun hc => ?_) | refine R.condB rfl (fun hc => ?_) (fun hc => ?_) | refine R.gP rfl (fun hc => ?_) (fun hc => ?_) | refine R.gN rfl (fun hc => ?_) (fun hc => ?_) | refine R.gB rfl (fun hc => ?_) (fun hc => ?_))
    all_goals first
      | (exfalso; omega)
      | exact R.ret ⟨.inr rfl, R.outB rfl rfl (bP_true ⟨h1, h2, hL, fun j v hv => hu j v (by have := (List.getElem?_eq_some_iff.1 hv).1; omega) hv⟩)⟩
end Go.Proofs.Ytnkfbodolbfjpaa
