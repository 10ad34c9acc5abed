/- LpZS and LpR and LawLP. -/
import Derived.Test.YtlblmofimjhbbaaDoorLPg
import Derived.Test.YtlblmofimjhbbaaDoorLPf
import Derived.Test.YtlblmofimjhbbaaDoorLPc
namespace Go.Proofs.YtlblmofimjhbbaaDoor
open Go.RowKit
set_option maxRecDepth 100000 in
def S.s3 : SC := (.seq (.reg [⟨(.some 2), .none, .false, (.mv (.const (Go.Value.bool false)))⟩]) (.seq (.reg [⟨(.some 15), .none, .false, (.mv (.tmp 0))⟩, ⟨(.some 16), .none, .false, (.call (.func 5) [(.tmp 15)])⟩, ⟨(.some 14), .none, .false, (.mv (.tmp 16))⟩, ⟨(.some 17), .none, .false, (.ext (.tmp 14) 0)⟩, ⟨(.some 18), .none, .false, (.ext (.tmp 14) 1)⟩, ⟨(.some 19), .none, .false, (.ext (.tmp 14) 2)⟩, ⟨(.some 3), .none, .false, (.al 25 [(Go.Value.slice none 0 0), (Go.Value.slice none 0 0)])⟩, ⟨(.some 4), .none, .false, (.al 28 [(Go.Value.slice none 0 0)])⟩, ⟨.none, .none, .false, (.sto 2 (.tmp 3) (.tmp 17))⟩, ⟨.none, .none, .false, (.sto 1 (.tmp 4) (.tmp 18))⟩, ⟨(.some 5), .none, .false, (.mv (.tmp 19))⟩]) (.seq (.reg [⟨(.some 21), .none, .false, (.mv (.tmp 0))⟩, ⟨(.some 22), .none, .false, (.call (.func 6) [(.tmp 21)])⟩, ⟨(.some 20), .none, .false, (.mv (.tmp 22))⟩, ⟨(.some 23), .none, .false, (.ext (.tmp 20) 0)⟩, ⟨(.some 24), .none, .false, (.ext (.tmp 20) 1)⟩, ⟨(.some 25), .none, .false, (.ext (.tmp 20) 2)⟩, ⟨(.some 6), .none, .false, (.al 25 [(Go.Value.slice none 0 0), (Go.Value.slice none 0 0)])⟩, ⟨(.some 7), .none, .false, (.al 28 [(Go.Value.slice none 0 0)])⟩, ⟨.none, .none, .false, (.sto 2 (.tmp 6) (.tmp 23))⟩, ⟨.none, .none, .false, (.sto 1 (.tmp 7) (.tmp 24))⟩, ⟨(.some 8), .none, .false, (.mv (.tmp 25))⟩]) (.seq (.seq (.reg [⟨(.some 26), .none, .false, (.ld .true 2 (.tmp 6))⟩, ⟨(.some 27), .none, .false, (.ld .true 2 (.tmp 3))⟩, ⟨(.some 28), .none, .false, (.call (.func 7) [(.tmp 26), (.tmp 27)])⟩, ⟨(.some 29), .none, .false, (.not (.tmp 28))⟩, ⟨(.some 30), .none, .false, (.mv (.tmp 29))⟩, ⟨(.some 31), (.some (30, .false)), .false, (.ld .true 1 (.tmp 7))⟩, ⟨(.some 32), (.some (30, .false)), .false, (.ld .true 1 (.tmp 4))⟩, ⟨(.some 33), (.some (30, .false)), .false, (.call (.func 8) [(.tmp 31), (.tmp 32)])⟩, ⟨(.some 34), (.some (30, .false)), .false, (.not (.tmp 33))⟩, ⟨(.some 35), .none, .false, (.pick (.tmp 30) (.const (Go.Value.bool true)) (.tmp 34))⟩, ⟨(.some 36), .none, .false, (.mv (.tmp 35))⟩, ⟨(.some 37), (.some (36, .false)), .false, (.mv (.tmp 8))⟩, ⟨(.some 38), (.some (36, .false)), .false, (.mv (.tmp 5))⟩, ⟨(.some 39), (.some (36, .false)), .false, (.bin .neq (.tmp 37) (.tmp 38))⟩, ⟨(.some 40), .none, .false, (.pick (.tmp 36) (.const (Go.Value.bool true)) (.tmp 39))⟩]) (.cond (.tmp 40) (.seq (.reg [⟨(.some 2), .none, .false, (.mv (.const (Go.Value.bool false)))⟩]) .ret) .skip)) (.seq (.reg [⟨(.some 9), .none, .false, (.mv (.const (Go.Value.int Go.IntKind.i64 1)))⟩]) (.seq (.reg [⟨(.some 41), .none, .false, (.ld .true 2 (.tmp 6))⟩, ⟨(.some 42), .none, .false, (.mv (.tmp 9))⟩, ⟨(.some 43), .none, .false, (.call (.func 9) [(.tmp 41), (.tmp 42)])⟩, ⟨(.some 9), .none, .false, (.mv (.tmp 43))⟩]) (.seq (.reg [⟨(.some 44), .none, .false, (.ld .true 1 (.tmp 7))⟩, ⟨(.some 45), .none, .false, (.mv (.tmp 9))⟩, ⟨(.some 46), .none, .false, (.call (.func 10) [(.tmp 44), (.tmp 45)])⟩, ⟨(.some 9), .none, .false, (.mv (.tmp 46))⟩]) (.seq (.reg [⟨(.some 10), .none, .false, (.mv (.const (Go.Value.int Go.IntKind.i64 1)))⟩]) (.seq (.reg [⟨(.some 47), .none, .false, (.ld .true 2 (.tmp 6))⟩, ⟨(.some 48), .none, .false, (.mv (.tmp 10))⟩, ⟨(.some 49), .none, .false, (.call (.func 11) [(.tmp 47), (.tmp 48)])⟩, ⟨(.some 10), .none, .false, (.mv (.tmp 49))⟩]) (.seq (.seq (.reg [⟨(.some 50), .none, .false, (.mv (.tmp 10))⟩, ⟨(.some 51), .none, .false, (.bin .lss (.tmp 50) (.const (Go.Value.int Go.IntKind.i64 0)))⟩]) (.cond (.tmp 51) (.seq (.reg [⟨(.some 2), .none, .false, (.mv (.const (Go.Value.bool false)))⟩]) .ret) .skip)) (.seq (.reg [⟨(.some 52), .none, .false, (.ld .true 1 (.tmp 7))⟩, ⟨(.some 53), .none, .false, (.mv (.tmp 10))⟩, ⟨(.some 54), .none, .false, (.call (.func 12) [(.tmp 52), (.tmp 53)])⟩, ⟨(.some 10), .none, .false, (.mv (.tmp 54))⟩]) (.seq (.seq (.reg [⟨(.some 55), .none, .false, (.mv (.tmp 10))⟩, ⟨(.some 56), .none, .false, (.bin .lss (.tmp 55) (.const (Go.Value.int Go.IntKind.i64 0)))⟩]) (.cond (.tmp 56) (.seq (.reg [⟨(.some 2), .none, .false, (.mv (.const (Go.Value.bool false)))⟩]) .ret) .skip)) (.seq (.seq (.reg [⟨(.some 57), .none, .false, (.mv (.tmp 10))⟩, ⟨(.some 58), .none, .false, (.mv (.tmp 9))⟩, ⟨(.some 59), .none, .false, (.bin .neq (.tmp 57) (.tmp 58))⟩]) (.cond (.tmp 59) (.seq (.reg [⟨(.some 2), .none, .false, (.mv (.const (Go.Value.bool false)))⟩]) .ret) .skip)) (.seq (.reg [⟨(.some 61), .none, .false, (.mv (.tmp 0))⟩, ⟨(.some 62), .none, .false, (.call (.func 6) [(.tmp 61)])⟩, ⟨(.some 60), .none, .false, (.mv (.tmp 62))⟩, ⟨(.some 63), .none, .false, (.ext (.tmp 60) 0)⟩, ⟨(.some 64), .none, .false, (.ext (.tmp 60) 1)⟩, ⟨(.some 65), .none, .false, (.ext (.tmp 60) 2)⟩, ⟨(.some 11), .none, .false, (.al 25 [(Go.Value.slice none 0 0), (Go.Value.slice none 0 0)])⟩, ⟨(.some 12), .none, .false, (.al 28 [(Go.Value.slice none 0 0)])⟩, ⟨.none, .none, .false, (.sto 2 (.tmp 11) (.tmp 63))⟩, ⟨.none, .none, .false, (.sto 1 (.tmp 12) (.tmp 64))⟩, ⟨(.some 13), .none, .false, (.mv (.tmp 65))⟩]) (.seq (.seq (.reg [⟨(.some 66), .none, .false, (.ld .true 2 (.tmp 11))⟩, ⟨(.some 67), .none, .false, (.ld .true 2 (.tmp 3))⟩, ⟨(.some 68), .none, .false, (.call (.func 7) [(.tmp 66), (.tmp 67)])⟩, ⟨(.some 69), .none, .false, (.not (.tmp 68))⟩, ⟨(.some 70), .none, .false, (.mv (.tmp 69))⟩, ⟨(.some 71), (.some (70, .false)), .false, (.ld .true 1 (.tmp 12))⟩, ⟨(.some 72), (.some (70, .false)), .false, (.ld .true 1 (.tmp 4))⟩, ⟨(.some 73), (.some (70, .false)), .false, (.call (.func 8) [(.tmp 71), (.tmp 72)])⟩, ⟨(.some 74), (.some (70, .false)), .false, (.not (.tmp 73))⟩, ⟨(.some 75), .none, .false, (.pick (.tmp 70) (.const (Go.Value.bool true)) (.tmp 74))⟩, ⟨(.some 76), .none, .false, (.mv (.tmp 75))⟩, ⟨(.some 77), (.some (76, .false)), .false, (.mv (.tmp 13))⟩, ⟨(.some 78), (.some (76, .false)), .false, (.mv (.tmp 5))⟩, ⟨(.some 79), (.some (76, .false)), .false, (.bin .neq (.tmp 77) (.tmp 78))⟩, ⟨(.some 80), .none, .false, (.pick (.tmp 76) (.const (Go.Value.bool true)) (.tmp 79))⟩]) (.cond (.tmp 80) (.seq (.reg [⟨(.some 2), .none, .false, (.mv (.const (Go.Value.bool false)))⟩]) .ret) .skip)) (.seq (.reg [⟨(.some 10), .none, .false, (.mv (.const (Go.Value.int Go.IntKind.i64 1)))⟩]) (.seq (.reg [⟨(.some 81), .none, .false, (.ld .true 2 (.tmp 6))⟩, ⟨(.some 82), .none, .false, (.mv (.tmp 10))⟩, ⟨(.some 83), .none, .false, (.call (.func 11) [(.tmp 81), (.tmp 82)])⟩, ⟨(.some 10), .none, .false, (.mv (.tmp 83))⟩]) (.seq (.seq (.reg [⟨(.some 84), .none, .false, (.mv (.tmp 10))⟩, ⟨(.some 85), .none, .false, (.bin .lss (.tmp 84) (.const (Go.Value.int Go.IntKind.i64 0)))⟩]) (.cond (.tmp 85) (.seq (.reg [⟨(.some 2), .none, .false, (.mv (.const (Go.Value.bool false)))⟩]) .ret) .skip)) (.seq (.reg [⟨(.some 86), .none, .false, (.ld .true 1 (.tmp 7))⟩, ⟨(.some 87), .none, .false, (.mv (.tmp 10))⟩, ⟨(.some 88), .none, .false, (.call (.func 12) [(.tmp 86), (.tmp 87)])⟩, ⟨(.some 10), .none, .false, (.mv (.tmp 88))⟩]) (.seq (.seq (.reg [⟨(.some 89), .none, .false, (.mv (.tmp 10))⟩, ⟨(.some 90), .none, .false, (.bin .lss (.tmp 89) (.const (Go.Value.int Go.IntKind.i64 0)))⟩]) (.cond (.tmp 90) (.seq (.reg [⟨(.some 2), .none, .false, (.mv (.const (Go.Value.bool false)))⟩]) .ret) .skip)) (.seq (.seq (.reg [⟨(.some 91), .none, .false, (.mv (.tmp 10))⟩, ⟨(.some 92), .none, .false, (.mv (.tmp 9))⟩, ⟨(.some 93), .none, .false, (.bin .neq (.tmp 91) (.tmp 92))⟩]) (.cond (.tmp 93) (.seq (.reg [⟨(.some 2), .none, .false, (.mv (.const (Go.Value.bool false)))⟩]) .ret) .skip)) (.seq (.reg [⟨(.some 2), .none, .false, (.mv (.const (Go.Value.bool true)))⟩]) .ret))))))))))))))))))))))
set_option maxRecDepth 100000 in
theorem S.ok3 : stripF Tryd.prog Tryd.f3 = some S.s3 := by kernel_rfl
set_option maxRecDepth 100000 in
def S.s5 : SC := (.seq (.reg [⟨(.some 2), .none, .false, (.al 25 [(Go.Value.slice none 0 0), (Go.Value.slice none 0 0)])⟩, ⟨(.some 3), .none, .false, (.al 28 [(Go.Value.slice none 0 0)])⟩, ⟨(.some 4), .none, .false, (.mv (.const (Go.Value.int Go.IntKind.i64 0)))⟩]) (.seq (.seq (.reg [⟨(.some 14), .none, .false, (.mv (.tmp 0))⟩, ⟨(.some 15), .none, .false, (.call (.func 15) [(.tmp 14), (.const (Go.Value.int Go.IntKind.i64 1)), (.const (Go.Value.int Go.IntKind.i64 12))])⟩, ⟨(.some 16), .none, .false, (.not (.tmp 15))⟩]) (.cond (.tmp 16) (.seq (.reg [⟨(.some 17), .none, .false, (.bld [(Go.Value.slice none 0 0), (Go.Value.slice none 0 0)] [(0, 1), (1, 1)] [])⟩, ⟨(.some 18), .none, .false, (.bld [(Go.Value.slice none 0 0)] [(0, 1)] [])⟩, ⟨.none, .none, .false, (.sto 2 (.tmp 2) (.tmp 17))⟩, ⟨.none, .none, .false, (.sto 1 (.tmp 3) (.tmp 18))⟩, ⟨(.some 4), .none, .false, (.mv (.const (Go.Value.int Go.IntKind.i64 2)))⟩]) .ret) .skip)) (.seq (.reg [⟨(.some 19), .none, .false, (.mv (.tmp 0))⟩, ⟨(.some 20), .none, .false, (.bld [(Go.Value.int Go.IntKind.i64 0), (Go.Value.int Go.IntKind.i64 0), (Go.Value.int Go.IntKind.i64 0)] [(0, 1), (1, 1), (2, 1)] [(0, (.tmp 19)), (1, (.const (Go.Value.int Go.IntKind.i64 0))), (2, (.const (Go.Value.int Go.IntKind.i64 0)))])⟩, ⟨(.some 21), .none, .false, (.bsl (.mk 41 3) 1 [(0, (.tmp 20))])⟩, ⟨(.some 5), .none, .false, (.mv (.tmp 21))⟩]) (.seq (.reg [⟨(.some 22), .none, .false, (.bsl (.mk 43 1) 0 [])⟩, ⟨(.some 6), .none, .false, (.mv (.tmp 22))⟩]) (.seq (.seq (.reg [⟨(.some 23), .none, .false, (.mv (.tmp 0))⟩, ⟨(.some 24), .none, .false, (.bin .gtr (.tmp 23) (.const (Go.Value.int Go.IntKind.i64 1)))⟩, ⟨(.some 7), .none, .false, (.mv (.tmp 24))⟩]) (.block 0 (.loop (.seq (.seq (.reg [⟨(.some 25), .none, .false, (.mv (.tmp 7))⟩]) (.cond (.tmp 25) .skip (.exit 0))) (.block 1 (.seq (.reg [⟨(.some 27), .none, .false, (.mv (.tmp 5))⟩, ⟨(.some 28), .none, .false, (.call (.func 16) [(.tmp 27)])⟩, ⟨(.some 26), .none, .false, (.mv (.tmp 28))⟩, ⟨(.some 29), .none, .false, (.ext (.tmp 26) 0)⟩, ⟨(.some 30), .none, .false, (.ext (.tmp 26) 1)⟩, ⟨(.some 8), .none, .false, (.mv (.tmp 29))⟩, ⟨(.some 9), .none, .false, (.mv (.tmp 30))⟩]) (.seq (.reg [⟨(.some 31), .none, .false, (.mv (.tmp 9))⟩, ⟨(.some 32), .none, .false, (.bsl (.mk 43 1) 1 [(0, (.tmp 31))])⟩, ⟨(.some 33), .none, .false, (.mv (.tmp 6))⟩, ⟨(.some 34), .none, .false, (.app (.mk 43 1) 24 (.tmp 32) (.tmp 33))⟩, ⟨(.some 6), .none, .false, (.mv (.tmp 34))⟩]) (.seq (.reg [⟨(.some 35), .none, .false, (.mv (.tmp 8))⟩, ⟨(.some 5), .none, .false, (.mv (.tmp 35))⟩]) (.seq (.reg [⟨(.some 7), .none, .false, (.mv (.const (Go.Value.bool false)))⟩]) (.seq (.reg [⟨(.some 10), .none, .false, (.mv (.const (Go.Value.int Go.IntKind.i64 0)))⟩]) (.block 2 (.loop (.seq (.seq (.reg [⟨(.some 36), .none, .false, (.mv (.tmp 10))⟩, ⟨(.some 37), .none, .false, (.mv (.tmp 5))⟩, ⟨(.some 38), .none, .false, (.len (.tmp 37))⟩, ⟨(.some 39), .none, .false, (.bin .lss (.tmp 36) (.tmp 38))⟩]) (.cond (.tmp 39) .skip (.exit 2))) (.seq (.block 3 (.reg [⟨(.some 42), .none, .false, (.mv (.tmp 7))⟩, ⟨(.some 43), .none, .false, (.mv (.tmp 42))⟩, ⟨(.some 44), (.some (43, .false)), .false, (.mv (.tmp 5))⟩, ⟨(.some 45), (.some (43, .false)), .false, (.mv (.tmp 10))⟩, ⟨(.some 46), (.some (43, .false)), .false, (.ix (.mk 41 3) (.tmp 44) (.tmp 45))⟩, ⟨(.some 47), (.some (43, .false)), .false, (.fa 0 (.tmp 46))⟩, ⟨(.some 48), (.some (43, .false)), .false, (.ld .false 1 (.tmp 47))⟩, ⟨(.some 49), (.some (43, .false)), .false, (.bin .gtr (.tmp 48) (.const (Go.Value.int Go.IntKind.i64 1)))⟩, ⟨(.some 50), .none, .false, (.pick (.tmp 43) (.const (Go.Value.bool true)) (.tmp 49))⟩, ⟨(.some 7), .none, .false, (.mv (.tmp 50))⟩])) (.reg [⟨(.some 40), .none, .false, (.mv (.tmp 10))⟩, ⟨(.some 41), .none, .false, (.bin .add (.tmp 40) (.const (Go.Value.int Go.IntKind.i64 1)))⟩, ⟨(.some 10), .none, .false, (.mv (.tmp 41))⟩]))))))))))))))) (.seq (.reg [⟨(.some 51), .none, .false, (.bld [(Go.Value.string { data := #[] }), (Go.Value.int Go.IntKind.i64 0)] [(0, 1), (1, 1)] [(0, (.const (Go.Value.string { data := #[97] }))), (1, (.const (Go.Value.int Go.IntKind.i64 1)))])⟩, ⟨(.some 52), .none, .false, (.bld [(Go.Value.string { data := #[] }), (Go.Value.int Go.IntKind.i64 0)] [(0, 1), (1, 1)] [(0, (.const (Go.Value.string { data := #[98] }))), (1, (.const (Go.Value.int Go.IntKind.i64 1)))])⟩, ⟨(.some 53), .none, .false, (.bld [(Go.Value.string { data := #[] }), (Go.Value.int Go.IntKind.i64 0)] [(0, 1), (1, 1)] [(0, (.const (Go.Value.string { data := #[99] }))), (1, (.const (Go.Value.int Go.IntKind.i64 1)))])⟩, ⟨(.some 54), .none, .false, (.bsl (.mk 47 2) 3 [(0, (.tmp 51)), (1, (.tmp 52)), (2, (.tmp 53))])⟩, ⟨(.some 55), .none, .false, (.bld [(Go.Value.slice none 0 0), (Go.Value.slice none 0 0)] [(0, 1), (1, 1)] [(0, (.tmp 54))])⟩, ⟨(.some 11), .none, .false, (.al 25 [(Go.Value.slice none 0 0), (Go.Value.slice none 0 0)])⟩, ⟨.none, .none, .false, (.sto 2 (.tmp 11) (.tmp 55))⟩]) (.seq (.reg [⟨(.some 56), .none, .false, (.bsl (.mk 53 2) 0 [])⟩, ⟨(.some 12), .none, .false, (.mv (.tmp 56))⟩]) (.seq (.seq (.reg [⟨(.some 13), .none, .false, (.mv (.const (Go.Value.int Go.IntKind.i64 0)))⟩]) (.block 4 (.loop (.seq (.seq (.reg [⟨(.some 57), .none, .false, (.mv (.tmp 13))⟩, ⟨(.some 58), .none, .false, (.mv (.tmp 5))⟩, ⟨(.some 59), .none, .false, (.len (.tmp 58))⟩, ⟨(.some 60), .none, .false, (.bin .lss (.tmp 57) (.tmp 59))⟩]) (.cond (.tmp 60) .skip (.exit 4))) (.seq (.block 5 (.seq (.regZ [(⟨(.some 63), .none, .false, (.fa 1 (.tmp 11))⟩, []), (⟨(.some 64), .none, .false, (.ld .false 1 (.tmp 63))⟩, [0]), (⟨(.some 65), .none, .false, (.mv (.tmp 5))⟩, []), (⟨(.some 66), .none, .false, (.mv (.tmp 13))⟩, []), (⟨(.some 67), .none, .false, (.ix (.mk 41 3) (.tmp 65) (.tmp 66))⟩, [2, 3]), (⟨(.some 68), .none, .false, (.fa 1 (.tmp 67))⟩, [4]), (⟨(.some 69), .none, .false, (.ld .false 1 (.tmp 68))⟩, [5]), (⟨(.some 70), .none, .false, (.call (.func 17) [(.tmp 69)])⟩, [6]), (⟨(.some 71), .none, .false, (.bin .add (.const (Go.Value.string { data := #[108] })) (.tmp 70))⟩, [7]), (⟨(.some 72), .none, .false, (.mv (.tmp 5))⟩, []), (⟨(.some 73), .none, .false, (.mv (.tmp 13))⟩, []), (⟨(.some 74), .none, .false, (.ix (.mk 41 3) (.tmp 72) (.tmp 73))⟩, [9, 10]), (⟨(.some 75), .none, .false, (.fa 2 (.tmp 74))⟩, [11]), (⟨(.some 76), .none, .false, (.ld .false 1 (.tmp 75))⟩, [12]), (⟨(.some 77), .none, .false, (.call (.func 17) [(.tmp 76)])⟩, [13, 7]), (⟨(.some 78), .none, .false, (.bin .add (.tmp 71) (.tmp 77))⟩, [8, 14]), (⟨(.some 79), .none, .false, (.mv (.tmp 5))⟩, []), (⟨(.some 80), .none, .false, (.mv (.tmp 13))⟩, []), (⟨(.some 81), .none, .false, (.ix (.mk 41 3) (.tmp 79) (.tmp 80))⟩, [16, 17]), (⟨(.some 82), .none, .false, (.fa 2 (.tmp 81))⟩, [18]), (⟨(.some 83), .none, .false, (.ld .false 1 (.tmp 82))⟩, [19]), (⟨(.some 84), .none, .false, (.mv (.tmp 5))⟩, []), (⟨(.some 85), .none, .false, (.mv (.tmp 13))⟩, []), (⟨(.some 86), .none, .false, (.ix (.mk 41 3) (.tmp 84) (.tmp 85))⟩, [21, 22]), (⟨(.some 87), .none, .false, (.fa 1 (.tmp 86))⟩, [23]), (⟨(.some 88), .none, .false, (.ld .false 1 (.tmp 87))⟩, [24]), (⟨(.some 89), .none, .false, (.bsl (.mk 2 1) 4 [(0, (.const (Go.Value.int Go.IntKind.i64 0))), (1, (.tmp 83)), (2, (.const (Go.Value.int Go.IntKind.i64 0))), (3, (.tmp 88))])⟩, [20, 25]), (⟨(.some 90), .none, .false, (.bld [(Go.Value.string { data := #[] }), (Go.Value.slice none 0 0)] [(0, 1), (1, 1)] [(0, (.tmp 78)), (1, (.tmp 89))])⟩, [15, 26]), (⟨(.some 91), .none, .false, (.bsl (.mk 51 2) 1 [(0, (.tmp 90))])⟩, [27]), (⟨(.some 92), .none, .false, (.app (.mk 51 2) 40 (.tmp 64) (.tmp 91))⟩, [1, 28, 14]), (⟨(.some 93), .none, .false, (.fa 1 (.tmp 11))⟩, [0, 1, 2, 3, 4, 5, 6, 7, 8, 9, 10, 11, 12, 13, 14, 15, 16, 17, 18, 19, 20, 21, 22, 23, 24, 25, 26, 27, 28, 29]), (⟨.none, .none, .false, (.sto 1 (.tmp 93) (.tmp 92))⟩, [30, 29, 29, 0, 1, 2, 3, 4, 5, 6, 7, 8, 9, 10, 11, 12, 13, 14, 15, 16, 17, 18, 19, 20, 21, 22, 23, 24, 25, 26, 27, 28, 29])]) (.reg [⟨(.some 94), .none, .false, (.mv (.tmp 12))⟩, ⟨(.some 95), .none, .false, (.mv (.tmp 13))⟩, ⟨(.some 96), .none, .false, (.bsl (.mk 2 1) 1 [(0, (.tmp 95))])⟩, ⟨(.some 97), .none, .false, (.bld [(Go.Value.slice none 0 0), (Go.Value.slice none 0 0)] [(0, 1), (1, 1)] [(1, (.tmp 96))])⟩, ⟨(.some 98), .none, .false, (.bsl (.mk 53 2) 1 [(0, (.tmp 97))])⟩, ⟨(.some 99), .none, .false, (.app (.mk 53 2) 48 (.tmp 94) (.tmp 98))⟩, ⟨(.some 12), .none, .false, (.mv (.tmp 99))⟩]))) (.reg [⟨(.some 61), .none, .false, (.mv (.tmp 13))⟩, ⟨(.some 62), .none, .false, (.bin .add (.tmp 61) (.const (Go.Value.int Go.IntKind.i64 1)))⟩, ⟨(.some 13), .none, .false, (.mv (.tmp 62))⟩])))))) (.seq (.regO (.take ⟨(.some 101), .none, .false, (.mv (.tmp 12))⟩ (.take ⟨(.some 103), .none, .false, (.mv (.tmp 6))⟩ (.both (.take ⟨(.some 100), .none, .false, (.ld .true 2 (.tmp 11))⟩ (.take ⟨(.some 102), .none, .false, (.bsl (.mk 43 1) 1 [(0, (.tmp 101))])⟩ (.take ⟨(.some 104), .none, .false, (.app (.mk 43 1) 24 (.tmp 102) (.tmp 103))⟩ (.both (.take ⟨(.some 105), .none, .false, (.bld [(Go.Value.slice none 0 0)] [(0, 1)] [(0, (.tmp 104))])⟩ (.take ⟨.none, .none, .false, (.sto 2 (.tmp 2) (.tmp 100))⟩ (.take ⟨.none, .none, .false, (.sto 1 (.tmp 3) (.tmp 105))⟩ (.take ⟨(.some 4), .none, .false, (.mv (.const (Go.Value.int Go.IntKind.i64 0)))⟩ .done)))) (.take ⟨.none, .none, .false, (.sto 2 (.tmp 2) (.tmp 100))⟩ (.take ⟨(.some 105), .none, .false, (.bld [(Go.Value.slice none 0 0)] [(0, 1)] [(0, (.tmp 104))])⟩ (.take ⟨.none, .none, .false, (.sto 1 (.tmp 3) (.tmp 105))⟩ (.take ⟨(.some 4), .none, .false, (.mv (.const (Go.Value.int Go.IntKind.i64 0)))⟩ .done)))))))) (.take ⟨(.some 102), .none, .false, (.bsl (.mk 43 1) 1 [(0, (.tmp 101))])⟩ (.both (.take ⟨(.some 100), .none, .false, (.ld .true 2 (.tmp 11))⟩ (.take ⟨(.some 104), .none, .false, (.app (.mk 43 1) 24 (.tmp 102) (.tmp 103))⟩ (.both (.take ⟨(.some 105), .none, .false, (.bld [(Go.Value.slice none 0 0)] [(0, 1)] [(0, (.tmp 104))])⟩ (.take ⟨.none, .none, .false, (.sto 2 (.tmp 2) (.tmp 100))⟩ (.take ⟨.none, .none, .false, (.sto 1 (.tmp 3) (.tmp 105))⟩ (.take ⟨(.some 4), .none, .false, (.mv (.const (Go.Value.int Go.IntKind.i64 0)))⟩ .done)))) (.take ⟨.none, .none, .false, (.sto 2 (.tmp 2) (.tmp 100))⟩ (.take ⟨(.some 105), .none, .false, (.bld [(Go.Value.slice none 0 0)] [(0, 1)] [(0, (.tmp 104))])⟩ (.take ⟨.none, .none, .false, (.sto 1 (.tmp 3) (.tmp 105))⟩ (.take ⟨(.some 4), .none, .false, (.mv (.const (Go.Value.int Go.IntKind.i64 0)))⟩ .done))))))) (.take ⟨(.some 104), .none, .false, (.app (.mk 43 1) 24 (.tmp 102) (.tmp 103))⟩ (.both (.take ⟨(.some 100), .none, .false, (.ld .true 2 (.tmp 11))⟩ (.both (.take ⟨(.some 105), .none, .false, (.bld [(Go.Value.slice none 0 0)] [(0, 1)] [(0, (.tmp 104))])⟩ (.take ⟨.none, .none, .false, (.sto 2 (.tmp 2) (.tmp 100))⟩ (.take ⟨.none, .none, .false, (.sto 1 (.tmp 3) (.tmp 105))⟩ (.take ⟨(.some 4), .none, .false, (.mv (.const (Go.Value.int Go.IntKind.i64 0)))⟩ .done)))) (.take ⟨.none, .none, .false, (.sto 2 (.tmp 2) (.tmp 100))⟩ (.take ⟨(.some 105), .none, .false, (.bld [(Go.Value.slice none 0 0)] [(0, 1)] [(0, (.tmp 104))])⟩ (.take ⟨.none, .none, .false, (.sto 1 (.tmp 3) (.tmp 105))⟩ (.take ⟨(.some 4), .none, .false, (.mv (.const (Go.Value.int Go.IntKind.i64 0)))⟩ .done)))))) (.take ⟨(.some 105), .none, .false, (.bld [(Go.Value.slice none 0 0)] [(0, 1)] [(0, (.tmp 104))])⟩ (.take ⟨(.some 100), .none, .false, (.ld .true 2 (.tmp 11))⟩ (.take ⟨.none, .none, .false, (.sto 2 (.tmp 2) (.tmp 100))⟩ (.take ⟨.none, .none, .false, (.sto 1 (.tmp 3) (.tmp 105))⟩ (.take ⟨(.some 4), .none, .false, (.mv (.const (Go.Value.int Go.IntKind.i64 0)))⟩ .done))))))))))))) .ret)))))))))
set_option maxRecDepth 100000 in
theorem S.ok5 : stripF Tryd.prog Tryd.f5 = some S.s5 := by kernel_rfl
set_option maxRecDepth 20000
set_option maxHeartbeats 8000000
/-- What is known while the operations of the region are carried out. -/
def zS (pl : List (List TMixture)) (st : List TStrip) (i : Nat) (s : TStrip) (ms : List TMixture) (ts : List TTile) (b0 b1 b2 b3 b4 b5 b6 b7 b8 b9 b10 b11 b12 b13 b14 b15 b16 b17 b18 b19 b20 b21 b22 b23 b24 b25 b26 b27 b28 b29 b30 b31 : Bool) : St := ⟨frE ([(2, .v (.c (.ptr 2 0))), (3, .v (.c (.ptr 3 0))), (5, rdA kPc (st.map enSt)), (6, .v (.c (.own 22))), (11, .v (.c (.ptr 11 0))), (12, .v (.c (.own 56))), (13, pvA (.int .i64 i))] ++ [(63, cV b0 (.v (.c (.ptr 11 1)))), (64, cV (b1 && !b29) (.v (.c (.own 901)))), (65, cV b2 (rdA kPc (st.map enSt))), (66, cV b3 (pvA (.int .i64 i))), (67, cV b4 (.v (.c (.d (.rp (enSt s)))))), (68, cV b5 (.v (.c (.d (.rp ((enSt s).drop 1)))))), (69, cV b6 (pvA (.int .i64 s.w))), (70, cV b7 (pvA (.string (bA (decL s.w))))), (71, cV b8 (pvA (.string (bA ([108] ++ decL s.w))))), (72, cV b9 (rdA kPc (st.map enSt))), (73, cV b10 (pvA (.int .i64 i))), (74, cV b11 (.v (.c (.d (.rp (enSt s)))))), (75, cV b12 (.v (.c (.d (.rp ((enSt s).drop 2)))))), (76, cV b13 (pvA (.int .i64 s.e))), (77, cV b14 (pvA (.string (bA (decL s.e))))), (78, cV b15 (pvA (.string (bA ([108] ++ decL s.w ++ decL s.e))))), (79, cV b16 (rdA kPc (st.map enSt))), (80, cV b17 (pvA (.int .i64 i))), (81, cV b18 (.v (.c (.d (.rp (enSt s)))))), (82, cV b19 (.v (.c (.d (.rp ((enSt s).drop 2)))))), (83, cV b20 (pvA (.int .i64 s.e))), (84, cV b21 (rdA kPc (st.map enSt))), (85, cV b22 (pvA (.int .i64 i))), (86, cV b23 (.v (.c (.d (.rp (enSt s)))))), (87, cV b24 (.v (.c (.d (.rp ((enSt s).drop 1)))))), (88, cV b25 (pvA (.int .i64 s.w))), (89, cV (b26 && !b28) (.v (.c (.own 89)))), (90, cV b27 (.v (.agg [.d (sD (bA ([108] ++ decL s.w ++ decL s.e))), bif b26 && !b28 then .own 89 else .dead]))), (91, cV (b28 && !b29) (.v (.c (.own 91)))), (92, cV b29 (.v (.c (.own 901)))), (93, cV b30 (.v (.c (.ptr 11 1))))]), frO ([(2, .box 25 [nilB, nilB]), (3, .box 28 [nilB]), (11, .box 25 [.own 54, bif b29 && !b31 then .dead else .own 901]), (22, .arr kRMixture (pl.map enRMixture) []), (54, .arr kGlue (gl3.map enGlue) []), (56, .arr kMixture (ms.map enMixture) []), (901, .arr kTile ((bif b29 then ts ++ [tileS s] else ts).map enTile) [])] ++ (bif b26 && !b28 then [(89, .arr kI (ints [0, s.e, 0, s.w]) [])] else []) ++ (bif b28 && !b29 then [(91, .arr kTile ([tileS s].map enTile) [])] else []))⟩
theorem zS_all (pl : List (List TMixture)) (st : List TStrip) (i : Nat) (s : TStrip) (ms : List TMixture) (ts : List TTile) (hix : st[i]? = some s) (hDw : Spec Tryd.prog 17 [vI s.w] (oS (bA (decL s.w)))) (hDe : Spec Tryd.prog 17 [vI s.e] (oS (bA (decL s.e)))) (hl1 : ([108] : List UInt8).length + (decL s.w).length ≤ 281474976710656) (hl2 : (([108] : List UInt8) ++ decL s.w).length + (decL s.e).length ≤ 281474976710656) (hap : (ts.length + [tileS s].length) * 40 ≤ 140737488355328 ∧ ts.length + [tileS s].length ≤ 140737488355328) : WZ Tryd.prog (fun L => zS pl st i s ms ts (L 0) (L 1) (L 2) (L 3) (L 4) (L 5) (L 6) (L 7) (L 8) (L 9) (L 10) (L 11) (L 12) (L 13) (L 14) (L 15) (L 16) (L 17) (L 18) (L 19) (L 20) (L 21) (L 22) (L 23) (L 24) (L 25) (L 26) (L 27) (L 28) (L 29) (L 30) (L 31)) (ZC ([(⟨(.some 63), .none, .false, (.fa 1 (.tmp 11))⟩, []), (⟨(.some 64), .none, .false, (.ld .false 1 (.tmp 63))⟩, [0]), (⟨(.some 65), .none, .false, (.mv (.tmp 5))⟩, []), (⟨(.some 66), .none, .false, (.mv (.tmp 13))⟩, []), (⟨(.some 67), .none, .false, (.ix (.mk 41 3) (.tmp 65) (.tmp 66))⟩, [2, 3]), (⟨(.some 68), .none, .false, (.fa 1 (.tmp 67))⟩, [4]), (⟨(.some 69), .none, .false, (.ld .false 1 (.tmp 68))⟩, [5]), (⟨(.some 70), .none, .false, (.call (.func 17) [(.tmp 69)])⟩, [6]), (⟨(.some 71), .none, .false, (.bin .add (.const (Go.Value.string { data := #[108] })) (.tmp 70))⟩, [7]), (⟨(.some 72), .none, .false, (.mv (.tmp 5))⟩, []), (⟨(.some 73), .none, .false, (.mv (.tmp 13))⟩, []), (⟨(.some 74), .none, .false, (.ix (.mk 41 3) (.tmp 72) (.tmp 73))⟩, [9, 10]), (⟨(.some 75), .none, .false, (.fa 2 (.tmp 74))⟩, [11]), (⟨(.some 76), .none, .false, (.ld .false 1 (.tmp 75))⟩, [12]), (⟨(.some 77), .none, .false, (.call (.func 17) [(.tmp 76)])⟩, [13, 7]), (⟨(.some 78), .none, .false, (.bin .add (.tmp 71) (.tmp 77))⟩, [8, 14]), (⟨(.some 79), .none, .false, (.mv (.tmp 5))⟩, []), (⟨(.some 80), .none, .false, (.mv (.tmp 13))⟩, []), (⟨(.some 81), .none, .false, (.ix (.mk 41 3) (.tmp 79) (.tmp 80))⟩, [16, 17]), (⟨(.some 82), .none, .false, (.fa 2 (.tmp 81))⟩, [18]), (⟨(.some 83), .none, .false, (.ld .false 1 (.tmp 82))⟩, [19]), (⟨(.some 84), .none, .false, (.mv (.tmp 5))⟩, []), (⟨(.some 85), .none, .false, (.mv (.tmp 13))⟩, []), (⟨(.some 86), .none, .false, (.ix (.mk 41 3) (.tmp 84) (.tmp 85))⟩, [21, 22]), (⟨(.some 87), .none, .false, (.fa 1 (.tmp 86))⟩, [23]), (⟨(.some 88), .none, .false, (.ld .false 1 (.tmp 87))⟩, [24]), (⟨(.some 89), .none, .false, (.bsl (.mk 2 1) 4 [(0, (.const (Go.Value.int Go.IntKind.i64 0))), (1, (.tmp 83)), (2, (.const (Go.Value.int Go.IntKind.i64 0))), (3, (.tmp 88))])⟩, [20, 25]), (⟨(.some 90), .none, .false, (.bld [(Go.Value.string { data := #[] }), (Go.Value.slice none 0 0)] [(0, 1), (1, 1)] [(0, (.tmp 78)), (1, (.tmp 89))])⟩, [15, 26]), (⟨(.some 91), .none, .false, (.bsl (.mk 51 2) 1 [(0, (.tmp 90))])⟩, [27]), (⟨(.some 92), .none, .false, (.app (.mk 51 2) 40 (.tmp 64) (.tmp 91))⟩, [1, 28, 14]), (⟨(.some 93), .none, .false, (.fa 1 (.tmp 11))⟩, [0, 1, 2, 3, 4, 5, 6, 7, 8, 9, 10, 11, 12, 13, 14, 15, 16, 17, 18, 19, 20, 21, 22, 23, 24, 25, 26, 27, 28, 29]), (⟨.none, .none, .false, (.sto 1 (.tmp 93) (.tmp 92))⟩, [30, 29, 29, 0, 1, 2, 3, 4, 5, 6, 7, 8, 9, 10, 11, 12, 13, 14, 15, 16, 17, 18, 19, 20, 21, 22, 23, 24, 25, 26, 27, 28, 29])] : List (SR × List Nat))) 0 ([(⟨(.some 63), .none, .false, (.fa 1 (.tmp 11))⟩, []), (⟨(.some 64), .none, .false, (.ld .false 1 (.tmp 63))⟩, [0]), (⟨(.some 65), .none, .false, (.mv (.tmp 5))⟩, []), (⟨(.some 66), .none, .false, (.mv (.tmp 13))⟩, []), (⟨(.some 67), .none, .false, (.ix (.mk 41 3) (.tmp 65) (.tmp 66))⟩, [2, 3]), (⟨(.some 68), .none, .false, (.fa 1 (.tmp 67))⟩, [4]), (⟨(.some 69), .none, .false, (.ld .false 1 (.tmp 68))⟩, [5]), (⟨(.some 70), .none, .false, (.call (.func 17) [(.tmp 69)])⟩, [6]), (⟨(.some 71), .none, .false, (.bin .add (.const (Go.Value.string { data := #[108] })) (.tmp 70))⟩, [7]), (⟨(.some 72), .none, .false, (.mv (.tmp 5))⟩, []), (⟨(.some 73), .none, .false, (.mv (.tmp 13))⟩, []), (⟨(.some 74), .none, .false, (.ix (.mk 41 3) (.tmp 72) (.tmp 73))⟩, [9, 10]), (⟨(.some 75), .none, .false, (.fa 2 (.tmp 74))⟩, [11]), (⟨(.some 76), .none, .false, (.ld .false 1 (.tmp 75))⟩, [12]), (⟨(.some 77), .none, .false, (.call (.func 17) [(.tmp 76)])⟩, [13, 7]), (⟨(.some 78), .none, .false, (.bin .add (.tmp 71) (.tmp 77))⟩, [8, 14]), (⟨(.some 79), .none, .false, (.mv (.tmp 5))⟩, []), (⟨(.some 80), .none, .false, (.mv (.tmp 13))⟩, []), (⟨(.some 81), .none, .false, (.ix (.mk 41 3) (.tmp 79) (.tmp 80))⟩, [16, 17]), (⟨(.some 82), .none, .false, (.fa 2 (.tmp 81))⟩, [18]), (⟨(.some 83), .none, .false, (.ld .false 1 (.tmp 82))⟩, [19]), (⟨(.some 84), .none, .false, (.mv (.tmp 5))⟩, []), (⟨(.some 85), .none, .false, (.mv (.tmp 13))⟩, []), (⟨(.some 86), .none, .false, (.ix (.mk 41 3) (.tmp 84) (.tmp 85))⟩, [21, 22]), (⟨(.some 87), .none, .false, (.fa 1 (.tmp 86))⟩, [23]), (⟨(.some 88), .none, .false, (.ld .false 1 (.tmp 87))⟩, [24]), (⟨(.some 89), .none, .false, (.bsl (.mk 2 1) 4 [(0, (.const (Go.Value.int Go.IntKind.i64 0))), (1, (.tmp 83)), (2, (.const (Go.Value.int Go.IntKind.i64 0))), (3, (.tmp 88))])⟩, [20, 25]), (⟨(.some 90), .none, .false, (.bld [(Go.Value.string { data := #[] }), (Go.Value.slice none 0 0)] [(0, 1), (1, 1)] [(0, (.tmp 78)), (1, (.tmp 89))])⟩, [15, 26]), (⟨(.some 91), .none, .false, (.bsl (.mk 51 2) 1 [(0, (.tmp 90))])⟩, [27]), (⟨(.some 92), .none, .false, (.app (.mk 51 2) 40 (.tmp 64) (.tmp 91))⟩, [1, 28, 14]), (⟨(.some 93), .none, .false, (.fa 1 (.tmp 11))⟩, [0, 1, 2, 3, 4, 5, 6, 7, 8, 9, 10, 11, 12, 13, 14, 15, 16, 17, 18, 19, 20, 21, 22, 23, 24, 25, 26, 27, 28, 29]), (⟨.none, .none, .false, (.sto 1 (.tmp 93) (.tmp 92))⟩, [30, 29, 29, 0, 1, 2, 3, 4, 5, 6, 7, 8, 9, 10, 11, 12, 13, 14, 15, 16, 17, 18, 19, 20, 21, 22, 23, 24, 25, 26, 27, 28, 29])] : List (SR × List Nat)) := by
  refine ⟨?z0, ?z1, ?z2, ?z3, ?z4, ?z5, ?z6, ?z7, ?z8, ?z9, ?z10, ?z11, ?z12, ?z13, ?z14, ?z15, ?z16, ?z17, ?z18, ?z19, ?z20, ?z21, ?z22, ?z23, ?z24, ?z25, ?z26, ?z27, ?z28, ?z29, ?z30, ?z31, trivial⟩
  case z0 =>
    intro L hc hk hd
    have f0 : L 0 = false := hk
    have f1 : L 1 = false := by cases h : L 1 with | false => rfl | true => have := hc 1 0 _ _ rfl h (by simp); rw [f0] at this; cases this
    have f29 : L 29 = false := by cases h : L 29 with | false => rfl | true => have := hc 29 1 _ _ rfl h (by simp); rw [f1] at this; cases this
    have f30 : L 30 = false := by cases h : L 30 with | false => rfl | true => have := hc 30 0 _ _ rfl h (by simp); rw [f0] at this; cases this
    have f31 : L 31 = false := by cases h : L 31 with | false => rfl | true => have := hc 31 0 _ _ rfl h (by simp); rw [f0] at this; cases this
    show WL _ _ [] (fun _ s' => Weak s' (zS pl st i s ms ts true (L 1) (L 2) (L 3) (L 4) (L 5) (L 6) (L 7) (L 8) (L 9) (L 10) (L 11) (L 12) (L 13) (L 14) (L 15) (L 16) (L 17) (L 18) (L 19) (L 20) (L 21) (L 22) (L 23) (L 24) (L 25) (L 26) (L 27) (L 28) (L 29) (L 30) (L 31))) (zS pl st i s ms ts (L 0) (L 1) (L 2) (L 3) (L 4) (L 5) (L 6) (L 7) (L 8) (L 9) (L 10) (L 11) (L 12) (L 13) (L 14) (L 15) (L 16) (L 17) (L 18) (L 19) (L 20) (L 21) (L 22) (L 23) (L 24) (L 25) (L 26) (L 27) (L 28) (L 29) (L 30) (L 31))
    rw [f0]
    rw [f1]
    rw [f29]
    rw [f30]
    rw [f31]
    generalize L 2 = b2
    generalize L 3 = b3
    generalize L 4 = b4
    generalize L 5 = b5
    generalize L 6 = b6
    generalize L 7 = b7
    generalize L 8 = b8
    generalize L 9 = b9
    generalize L 10 = b10
    generalize L 11 = b11
    generalize L 12 = b12
    generalize L 13 = b13
    generalize L 14 = b14
    generalize L 15 = b15
    generalize L 16 = b16
    generalize L 17 = b17
    generalize L 18 = b18
    generalize L 19 = b19
    generalize L 20 = b20
    generalize L 21 = b21
    generalize L 22 = b22
    generalize L 23 = b23
    generalize L 24 = b24
    generalize L 25 = b25
    generalize L 26 = b26
    generalize L 27 = b27
    generalize L 28 = b28
    clear f0 f1 f29 f30 f31 hd hk hc L
    cases b26 <;> cases b28 <;> (unfold zS; repeat' (first | refine R.ixK s hix rfl rfl rfl ?_ | refine R.mv rfl ?_ | refine R.fa rfl rfl ?_ | refine R.ld rfl rfl rfl ?_ | refine R.call (bor := false) rfl rfl hDw rfl rfl rfl ?_ | refine R.call (bor := false) rfl rfl hDe rfl rfl rfl ?_ | refine R.sadd (s := [108]) (t := decL s.w) rfl rfl hl1 ?_ | refine R.sadd (s := [108] ++ decL s.w) (t := decL s.e) rfl rfl hl2 ?_ | refine R.bsl (f := enI) [0, s.e, 0, s.w] rfl rfl rfl rfl rfl ?_ | refine R.bld rfl rfl ?_ | refine R.bslA (f := enTile) [tileS s] rfl rfl rfl rfl rfl rfl ?_ | refine R.appN (f := enTile) rfl rfl rfl rfl rfl hap ?_ | refine R.stoB rfl rfl rfl rfl ⟨rfl, rfl, Nat.le_of_ble_eq_true rfl⟩ rfl ?_); refine R.nil (R.zN (Weak.frame _ _ ?g1 ?g2 ?g3 ?g4)); (case g1 => exact ⟨rfl, rfl, rfl, rfl, rfl, rfl, rfl, rfl, rfl, rfl, rfl, rfl, rfl, rfl, rfl, rfl, rfl, rfl, rfl, rfl, rfl, rfl, rfl, rfl, rfl, rfl, rfl, rfl, rfl, rfl, rfl, rfl, rfl, rfl, rfl, rfl, rfl, rfl, trivial⟩); (case g2 => first | exact ⟨rfl, rfl, rfl, rfl, rfl, rfl, rfl, trivial⟩ | exact ⟨rfl, rfl, rfl, rfl, rfl, rfl, rfl, rfl, trivial⟩ | exact ⟨rfl, rfl, rfl, rfl, rfl, rfl, rfl, rfl, rfl, trivial⟩); (case g3 => repeat' (first | exact rfl | refine all_cons (cV_inK rfl) ?_ | refine all_cons rfl ?_)); (case g4 => exact rfl))
  case z1 =>
    intro L hc hk hd
    have f0 : L 0 = true := hd 0 (by simp)
    have f1 : L 1 = false := hk
    have f29 : L 29 = false := by cases h : L 29 with | false => rfl | true => have := hc 29 1 _ _ rfl h (by simp); rw [f1] at this; cases this
    have f30 : L 30 = false := by cases h : L 30 with | false => rfl | true => have := hc 30 1 _ _ rfl h (by simp); rw [f1] at this; cases this
    have f31 : L 31 = false := by cases h : L 31 with | false => rfl | true => have := hc 31 1 _ _ rfl h (by simp); rw [f1] at this; cases this
    show WL _ _ [] (fun _ s' => Weak s' (zS pl st i s ms ts (L 0) true (L 2) (L 3) (L 4) (L 5) (L 6) (L 7) (L 8) (L 9) (L 10) (L 11) (L 12) (L 13) (L 14) (L 15) (L 16) (L 17) (L 18) (L 19) (L 20) (L 21) (L 22) (L 23) (L 24) (L 25) (L 26) (L 27) (L 28) (L 29) (L 30) (L 31))) (zS pl st i s ms ts (L 0) (L 1) (L 2) (L 3) (L 4) (L 5) (L 6) (L 7) (L 8) (L 9) (L 10) (L 11) (L 12) (L 13) (L 14) (L 15) (L 16) (L 17) (L 18) (L 19) (L 20) (L 21) (L 22) (L 23) (L 24) (L 25) (L 26) (L 27) (L 28) (L 29) (L 30) (L 31))
    rw [f0]
    rw [f1]
    rw [f29]
    rw [f30]
    rw [f31]
    generalize L 2 = b2
    generalize L 3 = b3
    generalize L 4 = b4
    generalize L 5 = b5
    generalize L 6 = b6
    generalize L 7 = b7
    generalize L 8 = b8
    generalize L 9 = b9
    generalize L 10 = b10
    generalize L 11 = b11
    generalize L 12 = b12
    generalize L 13 = b13
    generalize L 14 = b14
    generalize L 15 = b15
    generalize L 16 = b16
    generalize L 17 = b17
    generalize L 18 = b18
    generalize L 19 = b19
    generalize L 20 = b20
    generalize L 21 = b21
    generalize L 22 = b22
    generalize L 23 = b23
    generalize L 24 = b24
    generalize L 25 = b25
    generalize L 26 = b26
    generalize L 27 = b27
    generalize L 28 = b28
    clear f0 f1 f29 f30 f31 hd hk hc L
    cases b26 <;> cases b28 <;> (unfold zS; repeat' (first | refine R.ixK s hix rfl rfl rfl ?_ | refine R.mv rfl ?_ | refine R.fa rfl rfl ?_ | refine R.ld rfl rfl rfl ?_ | refine R.call (bor := false) rfl rfl hDw rfl rfl rfl ?_ | refine R.call (bor := false) rfl rfl hDe rfl rfl rfl ?_ | refine R.sadd (s := [108]) (t := decL s.w) rfl rfl hl1 ?_ | refine R.sadd (s := [108] ++ decL s.w) (t := decL s.e) rfl rfl hl2 ?_ | refine R.bsl (f := enI) [0, s.e, 0, s.w] rfl rfl rfl rfl rfl ?_ | refine R.bld rfl rfl ?_ | refine R.bslA (f := enTile) [tileS s] rfl rfl rfl rfl rfl rfl ?_ | refine R.appN (f := enTile) rfl rfl rfl rfl rfl hap ?_ | refine R.stoB rfl rfl rfl rfl ⟨rfl, rfl, Nat.le_of_ble_eq_true rfl⟩ rfl ?_); refine R.nil (R.zN (Weak.frame _ _ ?g1 ?g2 ?g3 ?g4)); (case g1 => exact ⟨rfl, rfl, rfl, rfl, rfl, rfl, rfl, rfl, rfl, rfl, rfl, rfl, rfl, rfl, rfl, rfl, rfl, rfl, rfl, rfl, rfl, rfl, rfl, rfl, rfl, rfl, rfl, rfl, rfl, rfl, rfl, rfl, rfl, rfl, rfl, rfl, rfl, rfl, trivial⟩); (case g2 => first | exact ⟨rfl, rfl, rfl, rfl, rfl, rfl, rfl, trivial⟩ | exact ⟨rfl, rfl, rfl, rfl, rfl, rfl, rfl, rfl, trivial⟩ | exact ⟨rfl, rfl, rfl, rfl, rfl, rfl, rfl, rfl, rfl, trivial⟩); (case g3 => repeat' (first | exact rfl | refine all_cons (cV_inK rfl) ?_ | refine all_cons rfl ?_)); (case g4 => exact rfl))
  case z2 =>
    intro L hc hk hd
    have f2 : L 2 = false := hk
    have f4 : L 4 = false := by cases h : L 4 with | false => rfl | true => have := hc 4 2 _ _ rfl h (by simp); rw [f2] at this; cases this
    have f5 : L 5 = false := by cases h : L 5 with | false => rfl | true => have := hc 5 4 _ _ rfl h (by simp); rw [f4] at this; cases this
    have f6 : L 6 = false := by cases h : L 6 with | false => rfl | true => have := hc 6 5 _ _ rfl h (by simp); rw [f5] at this; cases this
    have f7 : L 7 = false := by cases h : L 7 with | false => rfl | true => have := hc 7 6 _ _ rfl h (by simp); rw [f6] at this; cases this
    have f8 : L 8 = false := by cases h : L 8 with | false => rfl | true => have := hc 8 7 _ _ rfl h (by simp); rw [f7] at this; cases this
    have f14 : L 14 = false := by cases h : L 14 with | false => rfl | true => have := hc 14 7 _ _ rfl h (by simp); rw [f7] at this; cases this
    have f15 : L 15 = false := by cases h : L 15 with | false => rfl | true => have := hc 15 8 _ _ rfl h (by simp); rw [f8] at this; cases this
    have f27 : L 27 = false := by cases h : L 27 with | false => rfl | true => have := hc 27 15 _ _ rfl h (by simp); rw [f15] at this; cases this
    have f28 : L 28 = false := by cases h : L 28 with | false => rfl | true => have := hc 28 27 _ _ rfl h (by simp); rw [f27] at this; cases this
    have f29 : L 29 = false := by cases h : L 29 with | false => rfl | true => have := hc 29 14 _ _ rfl h (by simp); rw [f14] at this; cases this
    have f30 : L 30 = false := by cases h : L 30 with | false => rfl | true => have := hc 30 2 _ _ rfl h (by simp); rw [f2] at this; cases this
    have f31 : L 31 = false := by cases h : L 31 with | false => rfl | true => have := hc 31 2 _ _ rfl h (by simp); rw [f2] at this; cases this
    show WL _ _ [] (fun _ s' => Weak s' (zS pl st i s ms ts (L 0) (L 1) true (L 3) (L 4) (L 5) (L 6) (L 7) (L 8) (L 9) (L 10) (L 11) (L 12) (L 13) (L 14) (L 15) (L 16) (L 17) (L 18) (L 19) (L 20) (L 21) (L 22) (L 23) (L 24) (L 25) (L 26) (L 27) (L 28) (L 29) (L 30) (L 31))) (zS pl st i s ms ts (L 0) (L 1) (L 2) (L 3) (L 4) (L 5) (L 6) (L 7) (L 8) (L 9) (L 10) (L 11) (L 12) (L 13) (L 14) (L 15) (L 16) (L 17) (L 18) (L 19) (L 20) (L 21) (L 22) (L 23) (L 24) (L 25) (L 26) (L 27) (L 28) (L 29) (L 30) (L 31))
    rw [f2]
    rw [f4]
    rw [f5]
    rw [f6]
    rw [f7]
    rw [f8]
    rw [f14]
    rw [f15]
    rw [f27]
    rw [f28]
    rw [f29]
    rw [f30]
    rw [f31]
    generalize L 0 = b0
    generalize L 1 = b1
    generalize L 3 = b3
    generalize L 9 = b9
    generalize L 10 = b10
    generalize L 11 = b11
    generalize L 12 = b12
    generalize L 13 = b13
    generalize L 16 = b16
    generalize L 17 = b17
    generalize L 18 = b18
    generalize L 19 = b19
    generalize L 20 = b20
    generalize L 21 = b21
    generalize L 22 = b22
    generalize L 23 = b23
    generalize L 24 = b24
    generalize L 25 = b25
    generalize L 26 = b26
    clear f2 f4 f5 f6 f7 f8 f14 f15 f27 f28 f29 f30 f31 hd hk hc L
    cases b26 <;> (unfold zS; repeat' (first | refine R.ixK s hix rfl rfl rfl ?_ | refine R.mv rfl ?_ | refine R.fa rfl rfl ?_ | refine R.ld rfl rfl rfl ?_ | refine R.call (bor := false) rfl rfl hDw rfl rfl rfl ?_ | refine R.call (bor := false) rfl rfl hDe rfl rfl rfl ?_ | refine R.sadd (s := [108]) (t := decL s.w) rfl rfl hl1 ?_ | refine R.sadd (s := [108] ++ decL s.w) (t := decL s.e) rfl rfl hl2 ?_ | refine R.bsl (f := enI) [0, s.e, 0, s.w] rfl rfl rfl rfl rfl ?_ | refine R.bld rfl rfl ?_ | refine R.bslA (f := enTile) [tileS s] rfl rfl rfl rfl rfl rfl ?_ | refine R.appN (f := enTile) rfl rfl rfl rfl rfl hap ?_ | refine R.stoB rfl rfl rfl rfl ⟨rfl, rfl, Nat.le_of_ble_eq_true rfl⟩ rfl ?_); refine R.nil (R.zN (Weak.frame _ _ ?g1 ?g2 ?g3 ?g4)); (case g1 => exact ⟨rfl, rfl, rfl, rfl, rfl, rfl, rfl, rfl, rfl, rfl, rfl, rfl, rfl, rfl, rfl, rfl, rfl, rfl, rfl, rfl, rfl, rfl, rfl, rfl, rfl, rfl, rfl, rfl, rfl, rfl, rfl, rfl, rfl, rfl, rfl, rfl, rfl, rfl, trivial⟩); (case g2 => first | exact ⟨rfl, rfl, rfl, rfl, rfl, rfl, rfl, trivial⟩ | exact ⟨rfl, rfl, rfl, rfl, rfl, rfl, rfl, rfl, trivial⟩ | exact ⟨rfl, rfl, rfl, rfl, rfl, rfl, rfl, rfl, rfl, trivial⟩); (case g3 => repeat' (first | exact rfl | refine all_cons (cV_inK rfl) ?_ | refine all_cons rfl ?_)); (case g4 => exact rfl))
  case z3 =>
    intro L hc hk hd
    have f3 : L 3 = false := hk
    have f4 : L 4 = false := by cases h : L 4 with | false => rfl | true => have := hc 4 3 _ _ rfl h (by simp); rw [f3] at this; cases this
    have f5 : L 5 = false := by cases h : L 5 with | false => rfl | true => have := hc 5 4 _ _ rfl h (by simp); rw [f4] at this; cases this
    have f6 : L 6 = false := by cases h : L 6 with | false => rfl | true => have := hc 6 5 _ _ rfl h (by simp); rw [f5] at this; cases this
    have f7 : L 7 = false := by cases h : L 7 with | false => rfl | true => have := hc 7 6 _ _ rfl h (by simp); rw [f6] at this; cases this
    have f8 : L 8 = false := by cases h : L 8 with | false => rfl | true => have := hc 8 7 _ _ rfl h (by simp); rw [f7] at this; cases this
    have f14 : L 14 = false := by cases h : L 14 with | false => rfl | true => have := hc 14 7 _ _ rfl h (by simp); rw [f7] at this; cases this
    have f15 : L 15 = false := by cases h : L 15 with | false => rfl | true => have := hc 15 8 _ _ rfl h (by simp); rw [f8] at this; cases this
    have f27 : L 27 = false := by cases h : L 27 with | false => rfl | true => have := hc 27 15 _ _ rfl h (by simp); rw [f15] at this; cases this
    have f28 : L 28 = false := by cases h : L 28 with | false => rfl | true => have := hc 28 27 _ _ rfl h (by simp); rw [f27] at this; cases this
    have f29 : L 29 = false := by cases h : L 29 with | false => rfl | true => have := hc 29 14 _ _ rfl h (by simp); rw [f14] at this; cases this
    have f30 : L 30 = false := by cases h : L 30 with | false => rfl | true => have := hc 30 3 _ _ rfl h (by simp); rw [f3] at this; cases this
    have f31 : L 31 = false := by cases h : L 31 with | false => rfl | true => have := hc 31 3 _ _ rfl h (by simp); rw [f3] at this; cases this
    show WL _ _ [] (fun _ s' => Weak s' (zS pl st i s ms ts (L 0) (L 1) (L 2) true (L 4) (L 5) (L 6) (L 7) (L 8) (L 9) (L 10) (L 11) (L 12) (L 13) (L 14) (L 15) (L 16) (L 17) (L 18) (L 19) (L 20) (L 21) (L 22) (L 23) (L 24) (L 25) (L 26) (L 27) (L 28) (L 29) (L 30) (L 31))) (zS pl st i s ms ts (L 0) (L 1) (L 2) (L 3) (L 4) (L 5) (L 6) (L 7) (L 8) (L 9) (L 10) (L 11) (L 12) (L 13) (L 14) (L 15) (L 16) (L 17) (L 18) (L 19) (L 20) (L 21) (L 22) (L 23) (L 24) (L 25) (L 26) (L 27) (L 28) (L 29) (L 30) (L 31))
    rw [f3]
    rw [f4]
    rw [f5]
    rw [f6]
    rw [f7]
    rw [f8]
    rw [f14]
    rw [f15]
    rw [f27]
    rw [f28]
    rw [f29]
    rw [f30]
    rw [f31]
    generalize L 0 = b0
    generalize L 1 = b1
    generalize L 2 = b2
    generalize L 9 = b9
    generalize L 10 = b10
    generalize L 11 = b11
    generalize L 12 = b12
    generalize L 13 = b13
    generalize L 16 = b16
    generalize L 17 = b17
    generalize L 18 = b18
    generalize L 19 = b19
    generalize L 20 = b20
    generalize L 21 = b21
    generalize L 22 = b22
    generalize L 23 = b23
    generalize L 24 = b24
    generalize L 25 = b25
    generalize L 26 = b26
    clear f3 f4 f5 f6 f7 f8 f14 f15 f27 f28 f29 f30 f31 hd hk hc L
    cases b26 <;> (unfold zS; repeat' (first | refine R.ixK s hix rfl rfl rfl ?_ | refine R.mv rfl ?_ | refine R.fa rfl rfl ?_ | refine R.ld rfl rfl rfl ?_ | refine R.call (bor := false) rfl rfl hDw rfl rfl rfl ?_ | refine R.call (bor := false) rfl rfl hDe rfl rfl rfl ?_ | refine R.sadd (s := [108]) (t := decL s.w) rfl rfl hl1 ?_ | refine R.sadd (s := [108] ++ decL s.w) (t := decL s.e) rfl rfl hl2 ?_ | refine R.bsl (f := enI) [0, s.e, 0, s.w] rfl rfl rfl rfl rfl ?_ | refine R.bld rfl rfl ?_ | refine R.bslA (f := enTile) [tileS s] rfl rfl rfl rfl rfl rfl ?_ | refine R.appN (f := enTile) rfl rfl rfl rfl rfl hap ?_ | refine R.stoB rfl rfl rfl rfl ⟨rfl, rfl, Nat.le_of_ble_eq_true rfl⟩ rfl ?_); refine R.nil (R.zN (Weak.frame _ _ ?g1 ?g2 ?g3 ?g4)); (case g1 => exact ⟨rfl, rfl, rfl, rfl, rfl, rfl, rfl, rfl, rfl, rfl, rfl, rfl, rfl, rfl, rfl, rfl, rfl, rfl, rfl, rfl, rfl, rfl, rfl, rfl, rfl, rfl, rfl, rfl, rfl, rfl, rfl, rfl, rfl, rfl, rfl, rfl, rfl, rfl, trivial⟩); (case g2 => first | exact ⟨rfl, rfl, rfl, rfl, rfl, rfl, rfl, trivial⟩ | exact ⟨rfl, rfl, rfl, rfl, rfl, rfl, rfl, rfl, trivial⟩ | exact ⟨rfl, rfl, rfl, rfl, rfl, rfl, rfl, rfl, rfl, trivial⟩); (case g3 => repeat' (first | exact rfl | refine all_cons (cV_inK rfl) ?_ | refine all_cons rfl ?_)); (case g4 => exact rfl))
  case z4 =>
    intro L hc hk hd
    have f2 : L 2 = true := hd 2 (by simp)
    have f3 : L 3 = true := hd 3 (by simp)
    have f4 : L 4 = false := hk
    have f5 : L 5 = false := by cases h : L 5 with | false => rfl | true => have := hc 5 4 _ _ rfl h (by simp); rw [f4] at this; cases this
    have f6 : L 6 = false := by cases h : L 6 with | false => rfl | true => have := hc 6 5 _ _ rfl h (by simp); rw [f5] at this; cases this
    have f7 : L 7 = false := by cases h : L 7 with | false => rfl | true => have := hc 7 6 _ _ rfl h (by simp); rw [f6] at this; cases this
    have f8 : L 8 = false := by cases h : L 8 with | false => rfl | true => have := hc 8 7 _ _ rfl h (by simp); rw [f7] at this; cases this
    have f14 : L 14 = false := by cases h : L 14 with | false => rfl | true => have := hc 14 7 _ _ rfl h (by simp); rw [f7] at this; cases this
    have f15 : L 15 = false := by cases h : L 15 with | false => rfl | true => have := hc 15 8 _ _ rfl h (by simp); rw [f8] at this; cases this
    have f27 : L 27 = false := by cases h : L 27 with | false => rfl | true => have := hc 27 15 _ _ rfl h (by simp); rw [f15] at this; cases this
    have f28 : L 28 = false := by cases h : L 28 with | false => rfl | true => have := hc 28 27 _ _ rfl h (by simp); rw [f27] at this; cases this
    have f29 : L 29 = false := by cases h : L 29 with | false => rfl | true => have := hc 29 14 _ _ rfl h (by simp); rw [f14] at this; cases this
    have f30 : L 30 = false := by cases h : L 30 with | false => rfl | true => have := hc 30 4 _ _ rfl h (by simp); rw [f4] at this; cases this
    have f31 : L 31 = false := by cases h : L 31 with | false => rfl | true => have := hc 31 4 _ _ rfl h (by simp); rw [f4] at this; cases this
    show WL _ _ [] (fun _ s' => Weak s' (zS pl st i s ms ts (L 0) (L 1) (L 2) (L 3) true (L 5) (L 6) (L 7) (L 8) (L 9) (L 10) (L 11) (L 12) (L 13) (L 14) (L 15) (L 16) (L 17) (L 18) (L 19) (L 20) (L 21) (L 22) (L 23) (L 24) (L 25) (L 26) (L 27) (L 28) (L 29) (L 30) (L 31))) (zS pl st i s ms ts (L 0) (L 1) (L 2) (L 3) (L 4) (L 5) (L 6) (L 7) (L 8) (L 9) (L 10) (L 11) (L 12) (L 13) (L 14) (L 15) (L 16) (L 17) (L 18) (L 19) (L 20) (L 21) (L 22) (L 23) (L 24) (L 25) (L 26) (L 27) (L 28) (L 29) (L 30) (L 31))
    rw [f2]
    rw [f3]
    rw [f4]
    rw [f5]
    rw [f6]
    rw [f7]
    rw [f8]
    rw [f14]
    rw [f15]
    rw [f27]
    rw [f28]
    rw [f29]
    rw [f30]
    rw [f31]
    generalize L 0 = b0
    generalize L 1 = b1
    generalize L 9 = b9
    generalize L 10 = b10
    generalize L 11 = b11
    generalize L 12 = b12
    generalize L 13 = b13
    generalize L 16 = b16
    generalize L 17 = b17
    generalize L 18 = b18
    generalize L 19 = b19
    generalize L 20 = b20
    generalize L 21 = b21
    generalize L 22 = b22
    generalize L 23 = b23
    generalize L 24 = b24
    generalize L 25 = b25
    generalize L 26 = b26
    clear f2 f3 f4 f5 f6 f7 f8 f14 f15 f27 f28 f29 f30 f31 hd hk hc L
    cases b26 <;> (unfold zS; repeat' (first | refine R.ixK s hix rfl rfl rfl ?_ | refine R.mv rfl ?_ | refine R.fa rfl rfl ?_ | refine R.ld rfl rfl rfl ?_ | refine R.call (bor := false) rfl rfl hDw rfl rfl rfl ?_ | refine R.call (bor := false) rfl rfl hDe rfl rfl rfl ?_ | refine R.sadd (s := [108]) (t := decL s.w) rfl rfl hl1 ?_ | refine R.sadd (s := [108] ++ decL s.w) (t := decL s.e) rfl rfl hl2 ?_ | refine R.bsl (f := enI) [0, s.e, 0, s.w] rfl rfl rfl rfl rfl ?_ | refine R.bld rfl rfl ?_ | refine R.bslA (f := enTile) [tileS s] rfl rfl rfl rfl rfl rfl ?_ | refine R.appN (f := enTile) rfl rfl rfl rfl rfl hap ?_ | refine R.stoB rfl rfl rfl rfl ⟨rfl, rfl, Nat.le_of_ble_eq_true rfl⟩ rfl ?_); refine R.nil (R.zN (Weak.frame _ _ ?g1 ?g2 ?g3 ?g4)); (case g1 => exact ⟨rfl, rfl, rfl, rfl, rfl, rfl, rfl, rfl, rfl, rfl, rfl, rfl, rfl, rfl, rfl, rfl, rfl, rfl, rfl, rfl, rfl, rfl, rfl, rfl, rfl, rfl, rfl, rfl, rfl, rfl, rfl, rfl, rfl, rfl, rfl, rfl, rfl, rfl, trivial⟩); (case g2 => first | exact ⟨rfl, rfl, rfl, rfl, rfl, rfl, rfl, trivial⟩ | exact ⟨rfl, rfl, rfl, rfl, rfl, rfl, rfl, rfl, trivial⟩ | exact ⟨rfl, rfl, rfl, rfl, rfl, rfl, rfl, rfl, rfl, trivial⟩); (case g3 => repeat' (first | exact rfl | refine all_cons (cV_inK rfl) ?_ | refine all_cons rfl ?_)); (case g4 => exact rfl))
  case z5 =>
    intro L hc hk hd
    have f4 : L 4 = true := hd 4 (by simp)
    have f3 : L 3 = true := hc 4 3 _ _ rfl f4 (by simp)
    have f2 : L 2 = true := hc 4 2 _ _ rfl f4 (by simp)
    have f5 : L 5 = false := hk
    have f6 : L 6 = false := by cases h : L 6 with | false => rfl | true => have := hc 6 5 _ _ rfl h (by simp); rw [f5] at this; cases this
    have f7 : L 7 = false := by cases h : L 7 with | false => rfl | true => have := hc 7 6 _ _ rfl h (by simp); rw [f6] at this; cases this
    have f8 : L 8 = false := by cases h : L 8 with | false => rfl | true => have := hc 8 7 _ _ rfl h (by simp); rw [f7] at this; cases this
    have f14 : L 14 = false := by cases h : L 14 with | false => rfl | true => have := hc 14 7 _ _ rfl h (by simp); rw [f7] at this; cases this
    have f15 : L 15 = false := by cases h : L 15 with | false => rfl | true => have := hc 15 8 _ _ rfl h (by simp); rw [f8] at this; cases this
    have f27 : L 27 = false := by cases h : L 27 with | false => rfl | true => have := hc 27 15 _ _ rfl h (by simp); rw [f15] at this; cases this
    have f28 : L 28 = false := by cases h : L 28 with | false => rfl | true => have := hc 28 27 _ _ rfl h (by simp); rw [f27] at this; cases this
    have f29 : L 29 = false := by cases h : L 29 with | false => rfl | true => have := hc 29 14 _ _ rfl h (by simp); rw [f14] at this; cases this
    have f30 : L 30 = false := by cases h : L 30 with | false => rfl | true => have := hc 30 5 _ _ rfl h (by simp); rw [f5] at this; cases this
    have f31 : L 31 = false := by cases h : L 31 with | false => rfl | true => have := hc 31 5 _ _ rfl h (by simp); rw [f5] at this; cases this
    show WL _ _ [] (fun _ s' => Weak s' (zS pl st i s ms ts (L 0) (L 1) (L 2) (L 3) (L 4) true (L 6) (L 7) (L 8) (L 9) (L 10) (L 11) (L 12) (L 13) (L 14) (L 15) (L 16) (L 17) (L 18) (L 19) (L 20) (L 21) (L 22) (L 23) (L 24) (L 25) (L 26) (L 27) (L 28) (L 29) (L 30) (L 31))) (zS pl st i s ms ts (L 0) (L 1) (L 2) (L 3) (L 4) (L 5) (L 6) (L 7) (L 8) (L 9) (L 10) (L 11) (L 12) (L 13) (L 14) (L 15) (L 16) (L 17) (L 18) (L 19) (L 20) (L 21) (L 22) (L 23) (L 24) (L 25) (L 26) (L 27) (L 28) (L 29) (L 30) (L 31))
    rw [f2]
    rw [f3]
    rw [f4]
    rw [f5]
    rw [f6]
    rw [f7]
    rw [f8]
    rw [f14]
    rw [f15]
    rw [f27]
    rw [f28]
    rw [f29]
    rw [f30]
    rw [f31]
    generalize L 0 = b0
    generalize L 1 = b1
    generalize L 9 = b9
    generalize L 10 = b10
    generalize L 11 = b11
    generalize L 12 = b12
    generalize L 13 = b13
    generalize L 16 = b16
    generalize L 17 = b17
    generalize L 18 = b18
    generalize L 19 = b19
    generalize L 20 = b20
    generalize L 21 = b21
    generalize L 22 = b22
    generalize L 23 = b23
    generalize L 24 = b24
    generalize L 25 = b25
    generalize L 26 = b26
    clear f2 f3 f4 f5 f6 f7 f8 f14 f15 f27 f28 f29 f30 f31 hd hk hc L
    cases b26 <;> (unfold zS; repeat' (first | refine R.ixK s hix rfl rfl rfl ?_ | refine R.mv rfl ?_ | refine R.fa rfl rfl ?_ | refine R.ld rfl rfl rfl ?_ | refine R.call (bor := false) rfl rfl hDw rfl rfl rfl ?_ | refine R.call (bor := false) rfl rfl hDe rfl rfl rfl ?_ | refine R.sadd (s := [108]) (t := decL s.w) rfl rfl hl1 ?_ | refine R.sadd (s := [108] ++ decL s.w) (t := decL s.e) rfl rfl hl2 ?_ | refine R.bsl (f := enI) [0, s.e, 0, s.w] rfl rfl rfl rfl rfl ?_ | refine R.bld rfl rfl ?_ | refine R.bslA (f := enTile) [tileS s] rfl rfl rfl rfl rfl rfl ?_ | refine R.appN (f := enTile) rfl rfl rfl rfl rfl hap ?_ | refine R.stoB rfl rfl rfl rfl ⟨rfl, rfl, Nat.le_of_ble_eq_true rfl⟩ rfl ?_); refine R.nil (R.zN (Weak.frame _ _ ?g1 ?g2 ?g3 ?g4)); (case g1 => exact ⟨rfl, rfl, rfl, rfl, rfl, rfl, rfl, rfl, rfl, rfl, rfl, rfl, rfl, rfl, rfl, rfl, rfl, rfl, rfl, rfl, rfl, rfl, rfl, rfl, rfl, rfl, rfl, rfl, rfl, rfl, rfl, rfl, rfl, rfl, rfl, rfl, rfl, rfl, trivial⟩); (case g2 => first | exact ⟨rfl, rfl, rfl, rfl, rfl, rfl, rfl, trivial⟩ | exact ⟨rfl, rfl, rfl, rfl, rfl, rfl, rfl, rfl, trivial⟩ | exact ⟨rfl, rfl, rfl, rfl, rfl, rfl, rfl, rfl, rfl, trivial⟩); (case g3 => repeat' (first | exact rfl | refine all_cons (cV_inK rfl) ?_ | refine all_cons rfl ?_)); (case g4 => exact rfl))
  case z6 =>
    intro L hc hk hd
    have f5 : L 5 = true := hd 5 (by simp)
    have f4 : L 4 = true := hc 5 4 _ _ rfl f5 (by simp)
    have f3 : L 3 = true := hc 4 3 _ _ rfl f4 (by simp)
    have f2 : L 2 = true := hc 4 2 _ _ rfl f4 (by simp)
    have f6 : L 6 = false := hk
    have f7 : L 7 = false := by cases h : L 7 with | false => rfl | true => have := hc 7 6 _ _ rfl h (by simp); rw [f6] at this; cases this
    have f8 : L 8 = false := by cases h : L 8 with | false => rfl | true => have := hc 8 7 _ _ rfl h (by simp); rw [f7] at this; cases this
    have f14 : L 14 = false := by cases h : L 14 with | false => rfl | true => have := hc 14 7 _ _ rfl h (by simp); rw [f7] at this; cases this
    have f15 : L 15 = false := by cases h : L 15 with | false => rfl | true => have := hc 15 8 _ _ rfl h (by simp); rw [f8] at this; cases this
    have f27 : L 27 = false := by cases h : L 27 with | false => rfl | true => have := hc 27 15 _ _ rfl h (by simp); rw [f15] at this; cases this
    have f28 : L 28 = false := by cases h : L 28 with | false => rfl | true => have := hc 28 27 _ _ rfl h (by simp); rw [f27] at this; cases this
    have f29 : L 29 = false := by cases h : L 29 with | false => rfl | true => have := hc 29 14 _ _ rfl h (by simp); rw [f14] at this; cases this
    have f30 : L 30 = false := by cases h : L 30 with | false => rfl | true => have := hc 30 6 _ _ rfl h (by simp); rw [f6] at this; cases this
    have f31 : L 31 = false := by cases h : L 31 with | false => rfl | true => have := hc 31 6 _ _ rfl h (by simp); rw [f6] at this; cases this
    show WL _ _ [] (fun _ s' => Weak s' (zS pl st i s ms ts (L 0) (L 1) (L 2) (L 3) (L 4) (L 5) true (L 7) (L 8) (L 9) (L 10) (L 11) (L 12) (L 13) (L 14) (L 15) (L 16) (L 17) (L 18) (L 19) (L 20) (L 21) (L 22) (L 23) (L 24) (L 25) (L 26) (L 27) (L 28) (L 29) (L 30) (L 31))) (zS pl st i s ms ts (L 0) (L 1) (L 2) (L 3) (L 4) (L 5) (L 6) (L 7) (L 8) (L 9) (L 10) (L 11) (L 12) (L 13) (L 14) (L 15) (L 16) (L 17) (L 18) (L 19) (L 20) (L 21) (L 22) (L 23) (L 24) (L 25) (L 26) (L 27) (L 28) (L 29) (L 30) (L 31))
    rw [f2]
    rw [f3]
    rw [f4]
    rw [f5]
    rw [f6]
    rw [f7]
    rw [f8]
    rw [f14]
    rw [f15]
    rw [f27]
    rw [f28]
    rw [f29]
    rw [f30]
    rw [f31]
    generalize L 0 = b0
    generalize L 1 = b1
    generalize L 9 = b9
    generalize L 10 = b10
    generalize L 11 = b11
    generalize L 12 = b12
    generalize L 13 = b13
    generalize L 16 = b16
    generalize L 17 = b17
    generalize L 18 = b18
    generalize L 19 = b19
    generalize L 20 = b20
    generalize L 21 = b21
    generalize L 22 = b22
    generalize L 23 = b23
    generalize L 24 = b24
    generalize L 25 = b25
    generalize L 26 = b26
    clear f2 f3 f4 f5 f6 f7 f8 f14 f15 f27 f28 f29 f30 f31 hd hk hc L
    cases b26 <;> (unfold zS; repeat' (first | refine R.ixK s hix rfl rfl rfl ?_ | refine R.mv rfl ?_ | refine R.fa rfl rfl ?_ | refine R.ld rfl rfl rfl ?_ | refine R.call (bor := false) rfl rfl hDw rfl rfl rfl ?_ | refine R.call (bor := false) rfl rfl hDe rfl rfl rfl ?_ | refine R.sadd (s := [108]) (t := decL s.w) rfl rfl hl1 ?_ | refine R.sadd (s := [108] ++ decL s.w) (t := decL s.e) rfl rfl hl2 ?_ | refine R.bsl (f := enI) [0, s.e, 0, s.w] rfl rfl rfl rfl rfl ?_ | refine R.bld rfl rfl ?_ | refine R.bslA (f := enTile) [tileS s] rfl rfl rfl rfl rfl rfl ?_ | refine R.appN (f := enTile) rfl rfl rfl rfl rfl hap ?_ | refine R.stoB rfl rfl rfl rfl ⟨rfl, rfl, Nat.le_of_ble_eq_true rfl⟩ rfl ?_); refine R.nil (R.zN (Weak.frame _ _ ?g1 ?g2 ?g3 ?g4)); (case g1 => exact ⟨rfl, rfl, rfl, rfl, rfl, rfl, rfl, rfl, rfl, rfl, rfl, rfl, rfl, rfl, rfl, rfl, rfl, rfl, rfl, rfl, rfl, rfl, rfl, rfl, rfl, rfl, rfl, rfl, rfl, rfl, rfl, rfl, rfl, rfl, rfl, rfl, rfl, rfl, trivial⟩); (case g2 => first | exact ⟨rfl, rfl, rfl, rfl, rfl, rfl, rfl, trivial⟩ | exact ⟨rfl, rfl, rfl, rfl, rfl, rfl, rfl, rfl, trivial⟩ | exact ⟨rfl, rfl, rfl, rfl, rfl, rfl, rfl, rfl, rfl, trivial⟩); (case g3 => repeat' (first | exact rfl | refine all_cons (cV_inK rfl) ?_ | refine all_cons rfl ?_)); (case g4 => exact rfl))
  case z7 =>
    intro L hc hk hd
    have f6 : L 6 = true := hd 6 (by simp)
    have f5 : L 5 = true := hc 6 5 _ _ rfl f6 (by simp)
    have f4 : L 4 = true := hc 5 4 _ _ rfl f5 (by simp)
    have f3 : L 3 = true := hc 4 3 _ _ rfl f4 (by simp)
    have f2 : L 2 = true := hc 4 2 _ _ rfl f4 (by simp)
    have f7 : L 7 = false := hk
    have f8 : L 8 = false := by cases h : L 8 with | false => rfl | true => have := hc 8 7 _ _ rfl h (by simp); rw [f7] at this; cases this
    have f14 : L 14 = false := by cases h : L 14 with | false => rfl | true => have := hc 14 7 _ _ rfl h (by simp); rw [f7] at this; cases this
    have f15 : L 15 = false := by cases h : L 15 with | false => rfl | true => have := hc 15 8 _ _ rfl h (by simp); rw [f8] at this; cases this
    have f27 : L 27 = false := by cases h : L 27 with | false => rfl | true => have := hc 27 15 _ _ rfl h (by simp); rw [f15] at this; cases this
    have f28 : L 28 = false := by cases h : L 28 with | false => rfl | true => have := hc 28 27 _ _ rfl h (by simp); rw [f27] at this; cases this
    have f29 : L 29 = false := by cases h : L 29 with | false => rfl | true => have := hc 29 14 _ _ rfl h (by simp); rw [f14] at this; cases this
    have f30 : L 30 = false := by cases h : L 30 with | false => rfl | true => have := hc 30 7 _ _ rfl h (by simp); rw [f7] at this; cases this
    have f31 : L 31 = false := by cases h : L 31 with | false => rfl | true => have := hc 31 7 _ _ rfl h (by simp); rw [f7] at this; cases this
    show WL _ _ [] (fun _ s' => Weak s' (zS pl st i s ms ts (L 0) (L 1) (L 2) (L 3) (L 4) (L 5) (L 6) true (L 8) (L 9) (L 10) (L 11) (L 12) (L 13) (L 14) (L 15) (L 16) (L 17) (L 18) (L 19) (L 20) (L 21) (L 22) (L 23) (L 24) (L 25) (L 26) (L 27) (L 28) (L 29) (L 30) (L 31))) (zS pl st i s ms ts (L 0) (L 1) (L 2) (L 3) (L 4) (L 5) (L 6) (L 7) (L 8) (L 9) (L 10) (L 11) (L 12) (L 13) (L 14) (L 15) (L 16) (L 17) (L 18) (L 19) (L 20) (L 21) (L 22) (L 23) (L 24) (L 25) (L 26) (L 27) (L 28) (L 29) (L 30) (L 31))
    rw [f2]
    rw [f3]
    rw [f4]
    rw [f5]
    rw [f6]
    rw [f7]
    rw [f8]
    rw [f14]
    rw [f15]
    rw [f27]
    rw [f28]
    rw [f29]
    rw [f30]
    rw [f31]
    generalize L 0 = b0
    generalize L 1 = b1
    generalize L 9 = b9
    generalize L 10 = b10
    generalize L 11 = b11
    generalize L 12 = b12
    generalize L 13 = b13
    generalize L 16 = b16
    generalize L 17 = b17
    generalize L 18 = b18
    generalize L 19 = b19
    generalize L 20 = b20
    generalize L 21 = b21
    generalize L 22 = b22
    generalize L 23 = b23
    generalize L 24 = b24
    generalize L 25 = b25
    generalize L 26 = b26
    clear f2 f3 f4 f5 f6 f7 f8 f14 f15 f27 f28 f29 f30 f31 hd hk hc L
    cases b26 <;> (unfold zS; repeat' (first | refine R.ixK s hix rfl rfl rfl ?_ | refine R.mv rfl ?_ | refine R.fa rfl rfl ?_ | refine R.ld rfl rfl rfl ?_ | refine R.call (bor := false) rfl rfl hDw rfl rfl rfl ?_ | refine R.call (bor := false) rfl rfl hDe rfl rfl rfl ?_ | refine R.sadd (s := [108]) (t := decL s.w) rfl rfl hl1 ?_ | refine R.sadd (s := [108] ++ decL s.w) (t := decL s.e) rfl rfl hl2 ?_ | refine R.bsl (f := enI) [0, s.e, 0, s.w] rfl rfl rfl rfl rfl ?_ | refine R.bld rfl rfl ?_ | refine R.bslA (f := enTile) [tileS s] rfl rfl rfl rfl rfl rfl ?_ | refine R.appN (f := enTile) rfl rfl rfl rfl rfl hap ?_ | refine R.stoB rfl rfl rfl rfl ⟨rfl, rfl, Nat.le_of_ble_eq_true rfl⟩ rfl ?_); refine R.nil (R.zN (Weak.frame _ _ ?g1 ?g2 ?g3 ?g4)); (case g1 => exact ⟨rfl, rfl, rfl, rfl, rfl, rfl, rfl, rfl, rfl, rfl, rfl, rfl, rfl, rfl, rfl, rfl, rfl, rfl, rfl, rfl, rfl, rfl, rfl, rfl, rfl, rfl, rfl, rfl, rfl, rfl, rfl, rfl, rfl, rfl, rfl, rfl, rfl, rfl, trivial⟩); (case g2 => first | exact ⟨rfl, rfl, rfl, rfl, rfl, rfl, rfl, trivial⟩ | exact ⟨rfl, rfl, rfl, rfl, rfl, rfl, rfl, rfl, trivial⟩ | exact ⟨rfl, rfl, rfl, rfl, rfl, rfl, rfl, rfl, rfl, trivial⟩); (case g3 => repeat' (first | exact rfl | refine all_cons (cV_inK rfl) ?_ | refine all_cons rfl ?_)); (case g4 => exact rfl))
  case z8 =>
    intro L hc hk hd
    have f7 : L 7 = true := hd 7 (by simp)
    have f6 : L 6 = true := hc 7 6 _ _ rfl f7 (by simp)
    have f5 : L 5 = true := hc 6 5 _ _ rfl f6 (by simp)
    have f4 : L 4 = true := hc 5 4 _ _ rfl f5 (by simp)
    have f3 : L 3 = true := hc 4 3 _ _ rfl f4 (by simp)
    have f2 : L 2 = true := hc 4 2 _ _ rfl f4 (by simp)
    have f8 : L 8 = false := hk
    have f15 : L 15 = false := by cases h : L 15 with | false => rfl | true => have := hc 15 8 _ _ rfl h (by simp); rw [f8] at this; cases this
    have f27 : L 27 = false := by cases h : L 27 with | false => rfl | true => have := hc 27 15 _ _ rfl h (by simp); rw [f15] at this; cases this
    have f28 : L 28 = false := by cases h : L 28 with | false => rfl | true => have := hc 28 27 _ _ rfl h (by simp); rw [f27] at this; cases this
    have f29 : L 29 = false := by cases h : L 29 with | false => rfl | true => have := hc 29 28 _ _ rfl h (by simp); rw [f28] at this; cases this
    have f30 : L 30 = false := by cases h : L 30 with | false => rfl | true => have := hc 30 8 _ _ rfl h (by simp); rw [f8] at this; cases this
    have f31 : L 31 = false := by cases h : L 31 with | false => rfl | true => have := hc 31 8 _ _ rfl h (by simp); rw [f8] at this; cases this
    show WL _ _ [] (fun _ s' => Weak s' (zS pl st i s ms ts (L 0) (L 1) (L 2) (L 3) (L 4) (L 5) (L 6) (L 7) true (L 9) (L 10) (L 11) (L 12) (L 13) (L 14) (L 15) (L 16) (L 17) (L 18) (L 19) (L 20) (L 21) (L 22) (L 23) (L 24) (L 25) (L 26) (L 27) (L 28) (L 29) (L 30) (L 31))) (zS pl st i s ms ts (L 0) (L 1) (L 2) (L 3) (L 4) (L 5) (L 6) (L 7) (L 8) (L 9) (L 10) (L 11) (L 12) (L 13) (L 14) (L 15) (L 16) (L 17) (L 18) (L 19) (L 20) (L 21) (L 22) (L 23) (L 24) (L 25) (L 26) (L 27) (L 28) (L 29) (L 30) (L 31))
    rw [f2]
    rw [f3]
    rw [f4]
    rw [f5]
    rw [f6]
    rw [f7]
    rw [f8]
    rw [f15]
    rw [f27]
    rw [f28]
    rw [f29]
    rw [f30]
    rw [f31]
    generalize L 0 = b0
    generalize L 1 = b1
    generalize L 9 = b9
    generalize L 10 = b10
    generalize L 11 = b11
    generalize L 12 = b12
    generalize L 13 = b13
    generalize L 14 = b14
    generalize L 16 = b16
    generalize L 17 = b17
    generalize L 18 = b18
    generalize L 19 = b19
    generalize L 20 = b20
    generalize L 21 = b21
    generalize L 22 = b22
    generalize L 23 = b23
    generalize L 24 = b24
    generalize L 25 = b25
    generalize L 26 = b26
    clear f2 f3 f4 f5 f6 f7 f8 f15 f27 f28 f29 f30 f31 hd hk hc L
    cases b26 <;> (unfold zS; repeat' (first | refine R.ixK s hix rfl rfl rfl ?_ | refine R.mv rfl ?_ | refine R.fa rfl rfl ?_ | refine R.ld rfl rfl rfl ?_ | refine R.call (bor := false) rfl rfl hDw rfl rfl rfl ?_ | refine R.call (bor := false) rfl rfl hDe rfl rfl rfl ?_ | refine R.sadd (s := [108]) (t := decL s.w) rfl rfl hl1 ?_ | refine R.sadd (s := [108] ++ decL s.w) (t := decL s.e) rfl rfl hl2 ?_ | refine R.bsl (f := enI) [0, s.e, 0, s.w] rfl rfl rfl rfl rfl ?_ | refine R.bld rfl rfl ?_ | refine R.bslA (f := enTile) [tileS s] rfl rfl rfl rfl rfl rfl ?_ | refine R.appN (f := enTile) rfl rfl rfl rfl rfl hap ?_ | refine R.stoB rfl rfl rfl rfl ⟨rfl, rfl, Nat.le_of_ble_eq_true rfl⟩ rfl ?_); refine R.nil (R.zN (Weak.frame _ _ ?g1 ?g2 ?g3 ?g4)); (case g1 => exact ⟨rfl, rfl, rfl, rfl, rfl, rfl, rfl, rfl, rfl, rfl, rfl, rfl, rfl, rfl, rfl, rfl, rfl, rfl, rfl, rfl, rfl, rfl, rfl, rfl, rfl, rfl, rfl, rfl, rfl, rfl, rfl, rfl, rfl, rfl, rfl, rfl, rfl, rfl, trivial⟩); (case g2 => first | exact ⟨rfl, rfl, rfl, rfl, rfl, rfl, rfl, trivial⟩ | exact ⟨rfl, rfl, rfl, rfl, rfl, rfl, rfl, rfl, trivial⟩ | exact ⟨rfl, rfl, rfl, rfl, rfl, rfl, rfl, rfl, rfl, trivial⟩); (case g3 => repeat' (first | exact rfl | refine all_cons (cV_inK rfl) ?_ | refine all_cons rfl ?_)); (case g4 => exact rfl))
  case z9 =>
    intro L hc hk hd
    have f9 : L 9 = false := hk
    have f11 : L 11 = false := by cases h : L 11 with | false => rfl | true => have := hc 11 9 _ _ rfl h (by simp); rw [f9] at this; cases this
    have f12 : L 12 = false := by cases h : L 12 with | false => rfl | true => have := hc 12 11 _ _ rfl h (by simp); rw [f11] at this; cases this
    have f13 : L 13 = false := by cases h : L 13 with | false => rfl | true => have := hc 13 12 _ _ rfl h (by simp); rw [f12] at this; cases this
    have f14 : L 14 = false := by cases h : L 14 with | false => rfl | true => have := hc 14 13 _ _ rfl h (by simp); rw [f13] at this; cases this
    have f15 : L 15 = false := by cases h : L 15 with | false => rfl | true => have := hc 15 14 _ _ rfl h (by simp); rw [f14] at this; cases this
    have f27 : L 27 = false := by cases h : L 27 with | false => rfl | true => have := hc 27 15 _ _ rfl h (by simp); rw [f15] at this; cases this
    have f28 : L 28 = false := by cases h : L 28 with | false => rfl | true => have := hc 28 27 _ _ rfl h (by simp); rw [f27] at this; cases this
    have f29 : L 29 = false := by cases h : L 29 with | false => rfl | true => have := hc 29 14 _ _ rfl h (by simp); rw [f14] at this; cases this
    have f30 : L 30 = false := by cases h : L 30 with | false => rfl | true => have := hc 30 9 _ _ rfl h (by simp); rw [f9] at this; cases this
    have f31 : L 31 = false := by cases h : L 31 with | false => rfl | true => have := hc 31 9 _ _ rfl h (by simp); rw [f9] at this; cases this
    show WL _ _ [] (fun _ s' => Weak s' (zS pl st i s ms ts (L 0) (L 1) (L 2) (L 3) (L 4) (L 5) (L 6) (L 7) (L 8) true (L 10) (L 11) (L 12) (L 13) (L 14) (L 15) (L 16) (L 17) (L 18) (L 19) (L 20) (L 21) (L 22) (L 23) (L 24) (L 25) (L 26) (L 27) (L 28) (L 29) (L 30) (L 31))) (zS pl st i s ms ts (L 0) (L 1) (L 2) (L 3) (L 4) (L 5) (L 6) (L 7) (L 8) (L 9) (L 10) (L 11) (L 12) (L 13) (L 14) (L 15) (L 16) (L 17) (L 18) (L 19) (L 20) (L 21) (L 22) (L 23) (L 24) (L 25) (L 26) (L 27) (L 28) (L 29) (L 30) (L 31))
    rw [f9]
    rw [f11]
    rw [f12]
    rw [f13]
    rw [f14]
    rw [f15]
    rw [f27]
    rw [f28]
    rw [f29]
    rw [f30]
    rw [f31]
    generalize L 0 = b0
    generalize L 1 = b1
    generalize L 2 = b2
    generalize L 3 = b3
    generalize L 4 = b4
    generalize L 5 = b5
    generalize L 6 = b6
    generalize L 7 = b7
    generalize L 8 = b8
    generalize L 10 = b10
    generalize L 16 = b16
    generalize L 17 = b17
    generalize L 18 = b18
    generalize L 19 = b19
    generalize L 20 = b20
    generalize L 21 = b21
    generalize L 22 = b22
    generalize L 23 = b23
    generalize L 24 = b24
    generalize L 25 = b25
    generalize L 26 = b26
    clear f9 f11 f12 f13 f14 f15 f27 f28 f29 f30 f31 hd hk hc L
    cases b26 <;> (unfold zS; repeat' (first | refine R.ixK s hix rfl rfl rfl ?_ | refine R.mv rfl ?_ | refine R.fa rfl rfl ?_ | refine R.ld rfl rfl rfl ?_ | refine R.call (bor := false) rfl rfl hDw rfl rfl rfl ?_ | refine R.call (bor := false) rfl rfl hDe rfl rfl rfl ?_ | refine R.sadd (s := [108]) (t := decL s.w) rfl rfl hl1 ?_ | refine R.sadd (s := [108] ++ decL s.w) (t := decL s.e) rfl rfl hl2 ?_ | refine R.bsl (f := enI) [0, s.e, 0, s.w] rfl rfl rfl rfl rfl ?_ | refine R.bld rfl rfl ?_ | refine R.bslA (f := enTile) [tileS s] rfl rfl rfl rfl rfl rfl ?_ | refine R.appN (f := enTile) rfl rfl rfl rfl rfl hap ?_ | refine R.stoB rfl rfl rfl rfl ⟨rfl, rfl, Nat.le_of_ble_eq_true rfl⟩ rfl ?_); refine R.nil (R.zN (Weak.frame _ _ ?g1 ?g2 ?g3 ?g4)); (case g1 => exact ⟨rfl, rfl, rfl, rfl, rfl, rfl, rfl, rfl, rfl, rfl, rfl, rfl, rfl, rfl, rfl, rfl, rfl, rfl, rfl, rfl, rfl, rfl, rfl, rfl, rfl, rfl, rfl, rfl, rfl, rfl, rfl, rfl, rfl, rfl, rfl, rfl, rfl, rfl, trivial⟩); (case g2 => first | exact ⟨rfl, rfl, rfl, rfl, rfl, rfl, rfl, trivial⟩ | exact ⟨rfl, rfl, rfl, rfl, rfl, rfl, rfl, rfl, trivial⟩ | exact ⟨rfl, rfl, rfl, rfl, rfl, rfl, rfl, rfl, rfl, trivial⟩); (case g3 => repeat' (first | exact rfl | refine all_cons (cV_inK rfl) ?_ | refine all_cons rfl ?_)); (case g4 => exact rfl))
  case z10 =>
    intro L hc hk hd
    have f10 : L 10 = false := hk
    have f11 : L 11 = false := by cases h : L 11 with | false => rfl | true => have := hc 11 10 _ _ rfl h (by simp); rw [f10] at this; cases this
    have f12 : L 12 = false := by cases h : L 12 with | false => rfl | true => have := hc 12 11 _ _ rfl h (by simp); rw [f11] at this; cases this
    have f13 : L 13 = false := by cases h : L 13 with | false => rfl | true => have := hc 13 12 _ _ rfl h (by simp); rw [f12] at this; cases this
    have f14 : L 14 = false := by cases h : L 14 with | false => rfl | true => have := hc 14 13 _ _ rfl h (by simp); rw [f13] at this; cases this
    have f15 : L 15 = false := by cases h : L 15 with | false => rfl | true => have := hc 15 14 _ _ rfl h (by simp); rw [f14] at this; cases this
    have f27 : L 27 = false := by cases h : L 27 with | false => rfl | true => have := hc 27 15 _ _ rfl h (by simp); rw [f15] at this; cases this
    have f28 : L 28 = false := by cases h : L 28 with | false => rfl | true => have := hc 28 27 _ _ rfl h (by simp); rw [f27] at this; cases this
    have f29 : L 29 = false := by cases h : L 29 with | false => rfl | true => have := hc 29 14 _ _ rfl h (by simp); rw [f14] at this; cases this
    have f30 : L 30 = false := by cases h : L 30 with | false => rfl | true => have := hc 30 10 _ _ rfl h (by simp); rw [f10] at this; cases this
    have f31 : L 31 = false := by cases h : L 31 with | false => rfl | true => have := hc 31 10 _ _ rfl h (by simp); rw [f10] at this; cases this
    show WL _ _ [] (fun _ s' => Weak s' (zS pl st i s ms ts (L 0) (L 1) (L 2) (L 3) (L 4) (L 5) (L 6) (L 7) (L 8) (L 9) true (L 11) (L 12) (L 13) (L 14) (L 15) (L 16) (L 17) (L 18) (L 19) (L 20) (L 21) (L 22) (L 23) (L 24) (L 25) (L 26) (L 27) (L 28) (L 29) (L 30) (L 31))) (zS pl st i s ms ts (L 0) (L 1) (L 2) (L 3) (L 4) (L 5) (L 6) (L 7) (L 8) (L 9) (L 10) (L 11) (L 12) (L 13) (L 14) (L 15) (L 16) (L 17) (L 18) (L 19) (L 20) (L 21) (L 22) (L 23) (L 24) (L 25) (L 26) (L 27) (L 28) (L 29) (L 30) (L 31))
    rw [f10]
    rw [f11]
    rw [f12]
    rw [f13]
    rw [f14]
    rw [f15]
    rw [f27]
    rw [f28]
    rw [f29]
    rw [f30]
    rw [f31]
    generalize L 0 = b0
    generalize L 1 = b1
    generalize L 2 = b2
    generalize L 3 = b3
    generalize L 4 = b4
    generalize L 5 = b5
    generalize L 6 = b6
    generalize L 7 = b7
    generalize L 8 = b8
    generalize L 9 = b9
    generalize L 16 = b16
    generalize L 17 = b17
    generalize L 18 = b18
    generalize L 19 = b19
    generalize L 20 = b20
    generalize L 21 = b21
    generalize L 22 = b22
    generalize L 23 = b23
    generalize L 24 = b24
    generalize L 25 = b25
    generalize L 26 = b26
    clear f10 f11 f12 f13 f14 f15 f27 f28 f29 f30 f31 hd hk hc L
    cases b26 <;> (unfold zS; repeat' (first | refine R.ixK s hix rfl rfl rfl ?_ | refine R.mv rfl ?_ | refine R.fa rfl rfl ?_ | refine R.ld rfl rfl rfl ?_ | refine R.call (bor := false) rfl rfl hDw rfl rfl rfl ?_ | refine R.call (bor := false) rfl rfl hDe rfl rfl rfl ?_ | refine R.sadd (s := [108]) (t := decL s.w) rfl rfl hl1 ?_ | refine R.sadd (s := [108] ++ decL s.w) (t := decL s.e) rfl rfl hl2 ?_ | refine R.bsl (f := enI) [0, s.e, 0, s.w] rfl rfl rfl rfl rfl ?_ | refine R.bld rfl rfl ?_ | refine R.bslA (f := enTile) [tileS s] rfl rfl rfl rfl rfl rfl ?_ | refine R.appN (f := enTile) rfl rfl rfl rfl rfl hap ?_ | refine R.stoB rfl rfl rfl rfl ⟨rfl, rfl, Nat.le_of_ble_eq_true rfl⟩ rfl ?_); refine R.nil (R.zN (Weak.frame _ _ ?g1 ?g2 ?g3 ?g4)); (case g1 => exact ⟨rfl, rfl, rfl, rfl, rfl, rfl, rfl, rfl, rfl, rfl, rfl, rfl, rfl, rfl, rfl, rfl, rfl, rfl, rfl, rfl, rfl, rfl, rfl, rfl, rfl, rfl, rfl, rfl, rfl, rfl, rfl, rfl, rfl, rfl, rfl, rfl, rfl, rfl, trivial⟩); (case g2 => first | exact ⟨rfl, rfl, rfl, rfl, rfl, rfl, rfl, trivial⟩ | exact ⟨rfl, rfl, rfl, rfl, rfl, rfl, rfl, rfl, trivial⟩ | exact ⟨rfl, rfl, rfl, rfl, rfl, rfl, rfl, rfl, rfl, trivial⟩); (case g3 => repeat' (first | exact rfl | refine all_cons (cV_inK rfl) ?_ | refine all_cons rfl ?_)); (case g4 => exact rfl))
  case z11 =>
    intro L hc hk hd
    have f9 : L 9 = true := hd 9 (by simp)
    have f10 : L 10 = true := hd 10 (by simp)
    have f11 : L 11 = false := hk
    have f12 : L 12 = false := by cases h : L 12 with | false => rfl | true => have := hc 12 11 _ _ rfl h (by simp); rw [f11] at this; cases this
    have f13 : L 13 = false := by cases h : L 13 with | false => rfl | true => have := hc 13 12 _ _ rfl h (by simp); rw [f12] at this; cases this
    have f14 : L 14 = false := by cases h : L 14 with | false => rfl | true => have := hc 14 13 _ _ rfl h (by simp); rw [f13] at this; cases this
    have f15 : L 15 = false := by cases h : L 15 with | false => rfl | true => have := hc 15 14 _ _ rfl h (by simp); rw [f14] at this; cases this
    have f27 : L 27 = false := by cases h : L 27 with | false => rfl | true => have := hc 27 15 _ _ rfl h (by simp); rw [f15] at this; cases this
    have f28 : L 28 = false := by cases h : L 28 with | false => rfl | true => have := hc 28 27 _ _ rfl h (by simp); rw [f27] at this; cases this
    have f29 : L 29 = false := by cases h : L 29 with | false => rfl | true => have := hc 29 14 _ _ rfl h (by simp); rw [f14] at this; cases this
    have f30 : L 30 = false := by cases h : L 30 with | false => rfl | true => have := hc 30 11 _ _ rfl h (by simp); rw [f11] at this; cases this
    have f31 : L 31 = false := by cases h : L 31 with | false => rfl | true => have := hc 31 11 _ _ rfl h (by simp); rw [f11] at this; cases this
    show WL _ _ [] (fun _ s' => Weak s' (zS pl st i s ms ts (L 0) (L 1) (L 2) (L 3) (L 4) (L 5) (L 6) (L 7) (L 8) (L 9) (L 10) true (L 12) (L 13) (L 14) (L 15) (L 16) (L 17) (L 18) (L 19) (L 20) (L 21) (L 22) (L 23) (L 24) (L 25) (L 26) (L 27) (L 28) (L 29) (L 30) (L 31))) (zS pl st i s ms ts (L 0) (L 1) (L 2) (L 3) (L 4) (L 5) (L 6) (L 7) (L 8) (L 9) (L 10) (L 11) (L 12) (L 13) (L 14) (L 15) (L 16) (L 17) (L 18) (L 19) (L 20) (L 21) (L 22) (L 23) (L 24) (L 25) (L 26) (L 27) (L 28) (L 29) (L 30) (L 31))
    rw [f9]
    rw [f10]
    rw [f11]
    rw [f12]
    rw [f13]
    rw [f14]
    rw [f15]
    rw [f27]
    rw [f28]
    rw [f29]
    rw [f30]
    rw [f31]
    generalize L 0 = b0
    generalize L 1 = b1
    generalize L 2 = b2
    generalize L 3 = b3
    generalize L 4 = b4
    generalize L 5 = b5
    generalize L 6 = b6
    generalize L 7 = b7
    generalize L 8 = b8
    generalize L 16 = b16
    generalize L 17 = b17
    generalize L 18 = b18
    generalize L 19 = b19
    generalize L 20 = b20
    generalize L 21 = b21
    generalize L 22 = b22
    generalize L 23 = b23
    generalize L 24 = b24
    generalize L 25 = b25
    generalize L 26 = b26
    clear f9 f10 f11 f12 f13 f14 f15 f27 f28 f29 f30 f31 hd hk hc L
    cases b26 <;> (unfold zS; repeat' (first | refine R.ixK s hix rfl rfl rfl ?_ | refine R.mv rfl ?_ | refine R.fa rfl rfl ?_ | refine R.ld rfl rfl rfl ?_ | refine R.call (bor := false) rfl rfl hDw rfl rfl rfl ?_ | refine R.call (bor := false) rfl rfl hDe rfl rfl rfl ?_ | refine R.sadd (s := [108]) (t := decL s.w) rfl rfl hl1 ?_ | refine R.sadd (s := [108] ++ decL s.w) (t := decL s.e) rfl rfl hl2 ?_ | refine R.bsl (f := enI) [0, s.e, 0, s.w] rfl rfl rfl rfl rfl ?_ | refine R.bld rfl rfl ?_ | refine R.bslA (f := enTile) [tileS s] rfl rfl rfl rfl rfl rfl ?_ | refine R.appN (f := enTile) rfl rfl rfl rfl rfl hap ?_ | refine R.stoB rfl rfl rfl rfl ⟨rfl, rfl, Nat.le_of_ble_eq_true rfl⟩ rfl ?_); refine R.nil (R.zN (Weak.frame _ _ ?g1 ?g2 ?g3 ?g4)); (case g1 => exact ⟨rfl, rfl, rfl, rfl, rfl, rfl, rfl, rfl, rfl, rfl, rfl, rfl, rfl, rfl, rfl, rfl, rfl, rfl, rfl, rfl, rfl, rfl, rfl, rfl, rfl, rfl, rfl, rfl, rfl, rfl, rfl, rfl, rfl, rfl, rfl, rfl, rfl, rfl, trivial⟩); (case g2 => first | exact ⟨rfl, rfl, rfl, rfl, rfl, rfl, rfl, trivial⟩ | exact ⟨rfl, rfl, rfl, rfl, rfl, rfl, rfl, rfl, trivial⟩ | exact ⟨rfl, rfl, rfl, rfl, rfl, rfl, rfl, rfl, rfl, trivial⟩); (case g3 => repeat' (first | exact rfl | refine all_cons (cV_inK rfl) ?_ | refine all_cons rfl ?_)); (case g4 => exact rfl))
  case z12 =>
    intro L hc hk hd
    have f11 : L 11 = true := hd 11 (by simp)
    have f10 : L 10 = true := hc 11 10 _ _ rfl f11 (by simp)
    have f9 : L 9 = true := hc 11 9 _ _ rfl f11 (by simp)
    have f12 : L 12 = false := hk
    have f13 : L 13 = false := by cases h : L 13 with | false => rfl | true => have := hc 13 12 _ _ rfl h (by simp); rw [f12] at this; cases this
    have f14 : L 14 = false := by cases h : L 14 with | false => rfl | true => have := hc 14 13 _ _ rfl h (by simp); rw [f13] at this; cases this
    have f15 : L 15 = false := by cases h : L 15 with | false => rfl | true => have := hc 15 14 _ _ rfl h (by simp); rw [f14] at this; cases this
    have f27 : L 27 = false := by cases h : L 27 with | false => rfl | true => have := hc 27 15 _ _ rfl h (by simp); rw [f15] at this; cases this
    have f28 : L 28 = false := by cases h : L 28 with | false => rfl | true => have := hc 28 27 _ _ rfl h (by simp); rw [f27] at this; cases this
    have f29 : L 29 = false := by cases h : L 29 with | false => rfl | true => have := hc 29 14 _ _ rfl h (by simp); rw [f14] at this; cases this
    have f30 : L 30 = false := by cases h : L 30 with | false => rfl | true => have := hc 30 12 _ _ rfl h (by simp); rw [f12] at this; cases this
    have f31 : L 31 = false := by cases h : L 31 with | false => rfl | true => have := hc 31 12 _ _ rfl h (by simp); rw [f12] at this; cases this
    show WL _ _ [] (fun _ s' => Weak s' (zS pl st i s ms ts (L 0) (L 1) (L 2) (L 3) (L 4) (L 5) (L 6) (L 7) (L 8) (L 9) (L 10) (L 11) true (L 13) (L 14) (L 15) (L 16) (L 17) (L 18) (L 19) (L 20) (L 21) (L 22) (L 23) (L 24) (L 25) (L 26) (L 27) (L 28) (L 29) (L 30) (L 31))) (zS pl st i s ms ts (L 0) (L 1) (L 2) (L 3) (L 4) (L 5) (L 6) (L 7) (L 8) (L 9) (L 10) (L 11) (L 12) (L 13) (L 14) (L 15) (L 16) (L 17) (L 18) (L 19) (L 20) (L 21) (L 22) (L 23) (L 24) (L 25) (L 26) (L 27) (L 28) (L 29) (L 30) (L 31))
    rw [f9]
    rw [f10]
    rw [f11]
    rw [f12]
    rw [f13]
    rw [f14]
    rw [f15]
    rw [f27]
    rw [f28]
    rw [f29]
    rw [f30]
    rw [f31]
    generalize L 0 = b0
    generalize L 1 = b1
    generalize L 2 = b2
    generalize L 3 = b3
    generalize L 4 = b4
    generalize L 5 = b5
    generalize L 6 = b6
    generalize L 7 = b7
    generalize L 8 = b8
    generalize L 16 = b16
    generalize L 17 = b17
    generalize L 18 = b18
    generalize L 19 = b19
    generalize L 20 = b20
    generalize L 21 = b21
    generalize L 22 = b22
    generalize L 23 = b23
    generalize L 24 = b24
    generalize L 25 = b25
    generalize L 26 = b26
    clear f9 f10 f11 f12 f13 f14 f15 f27 f28 f29 f30 f31 hd hk hc L
    cases b26 <;> (unfold zS; repeat' (first | refine R.ixK s hix rfl rfl rfl ?_ | refine R.mv rfl ?_ | refine R.fa rfl rfl ?_ | refine R.ld rfl rfl rfl ?_ | refine R.call (bor := false) rfl rfl hDw rfl rfl rfl ?_ | refine R.call (bor := false) rfl rfl hDe rfl rfl rfl ?_ | refine R.sadd (s := [108]) (t := decL s.w) rfl rfl hl1 ?_ | refine R.sadd (s := [108] ++ decL s.w) (t := decL s.e) rfl rfl hl2 ?_ | refine R.bsl (f := enI) [0, s.e, 0, s.w] rfl rfl rfl rfl rfl ?_ | refine R.bld rfl rfl ?_ | refine R.bslA (f := enTile) [tileS s] rfl rfl rfl rfl rfl rfl ?_ | refine R.appN (f := enTile) rfl rfl rfl rfl rfl hap ?_ | refine R.stoB rfl rfl rfl rfl ⟨rfl, rfl, Nat.le_of_ble_eq_true rfl⟩ rfl ?_); refine R.nil (R.zN (Weak.frame _ _ ?g1 ?g2 ?g3 ?g4)); (case g1 => exact ⟨rfl, rfl, rfl, rfl, rfl, rfl, rfl, rfl, rfl, rfl, rfl, rfl, rfl, rfl, rfl, rfl, rfl, rfl, rfl, rfl, rfl, rfl, rfl, rfl, rfl, rfl, rfl, rfl, rfl, rfl, rfl, rfl, rfl, rfl, rfl, rfl, rfl, rfl, trivial⟩); (case g2 => first | exact ⟨rfl, rfl, rfl, rfl, rfl, rfl, rfl, trivial⟩ | exact ⟨rfl, rfl, rfl, rfl, rfl, rfl, rfl, rfl, trivial⟩ | exact ⟨rfl, rfl, rfl, rfl, rfl, rfl, rfl, rfl, rfl, trivial⟩); (case g3 => repeat' (first | exact rfl | refine all_cons (cV_inK rfl) ?_ | refine all_cons rfl ?_)); (case g4 => exact rfl))
  case z13 =>
    intro L hc hk hd
    have f12 : L 12 = true := hd 12 (by simp)
    have f11 : L 11 = true := hc 12 11 _ _ rfl f12 (by simp)
    have f10 : L 10 = true := hc 11 10 _ _ rfl f11 (by simp)
    have f9 : L 9 = true := hc 11 9 _ _ rfl f11 (by simp)
    have f13 : L 13 = false := hk
    have f14 : L 14 = false := by cases h : L 14 with | false => rfl | true => have := hc 14 13 _ _ rfl h (by simp); rw [f13] at this; cases this
    have f15 : L 15 = false := by cases h : L 15 with | false => rfl | true => have := hc 15 14 _ _ rfl h (by simp); rw [f14] at this; cases this
    have f27 : L 27 = false := by cases h : L 27 with | false => rfl | true => have := hc 27 15 _ _ rfl h (by simp); rw [f15] at this; cases this
    have f28 : L 28 = false := by cases h : L 28 with | false => rfl | true => have := hc 28 27 _ _ rfl h (by simp); rw [f27] at this; cases this
    have f29 : L 29 = false := by cases h : L 29 with | false => rfl | true => have := hc 29 14 _ _ rfl h (by simp); rw [f14] at this; cases this
    have f30 : L 30 = false := by cases h : L 30 with | false => rfl | true => have := hc 30 13 _ _ rfl h (by simp); rw [f13] at this; cases this
    have f31 : L 31 = false := by cases h : L 31 with | false => rfl | true => have := hc 31 13 _ _ rfl h (by simp); rw [f13] at this; cases this
    show WL _ _ [] (fun _ s' => Weak s' (zS pl st i s ms ts (L 0) (L 1) (L 2) (L 3) (L 4) (L 5) (L 6) (L 7) (L 8) (L 9) (L 10) (L 11) (L 12) true (L 14) (L 15) (L 16) (L 17) (L 18) (L 19) (L 20) (L 21) (L 22) (L 23) (L 24) (L 25) (L 26) (L 27) (L 28) (L 29) (L 30) (L 31))) (zS pl st i s ms ts (L 0) (L 1) (L 2) (L 3) (L 4) (L 5) (L 6) (L 7) (L 8) (L 9) (L 10) (L 11) (L 12) (L 13) (L 14) (L 15) (L 16) (L 17) (L 18) (L 19) (L 20) (L 21) (L 22) (L 23) (L 24) (L 25) (L 26) (L 27) (L 28) (L 29) (L 30) (L 31))
    rw [f9]
    rw [f10]
    rw [f11]
    rw [f12]
    rw [f13]
    rw [f14]
    rw [f15]
    rw [f27]
    rw [f28]
    rw [f29]
    rw [f30]
    rw [f31]
    generalize L 0 = b0
    generalize L 1 = b1
    generalize L 2 = b2
    generalize L 3 = b3
    generalize L 4 = b4
    generalize L 5 = b5
    generalize L 6 = b6
    generalize L 7 = b7
    generalize L 8 = b8
    generalize L 16 = b16
    generalize L 17 = b17
    generalize L 18 = b18
    generalize L 19 = b19
    generalize L 20 = b20
    generalize L 21 = b21
    generalize L 22 = b22
    generalize L 23 = b23
    generalize L 24 = b24
    generalize L 25 = b25
    generalize L 26 = b26
    clear f9 f10 f11 f12 f13 f14 f15 f27 f28 f29 f30 f31 hd hk hc L
    cases b26 <;> (unfold zS; repeat' (first | refine R.ixK s hix rfl rfl rfl ?_ | refine R.mv rfl ?_ | refine R.fa rfl rfl ?_ | refine R.ld rfl rfl rfl ?_ | refine R.call (bor := false) rfl rfl hDw rfl rfl rfl ?_ | refine R.call (bor := false) rfl rfl hDe rfl rfl rfl ?_ | refine R.sadd (s := [108]) (t := decL s.w) rfl rfl hl1 ?_ | refine R.sadd (s := [108] ++ decL s.w) (t := decL s.e) rfl rfl hl2 ?_ | refine R.bsl (f := enI) [0, s.e, 0, s.w] rfl rfl rfl rfl rfl ?_ | refine R.bld rfl rfl ?_ | refine R.bslA (f := enTile) [tileS s] rfl rfl rfl rfl rfl rfl ?_ | refine R.appN (f := enTile) rfl rfl rfl rfl rfl hap ?_ | refine R.stoB rfl rfl rfl rfl ⟨rfl, rfl, Nat.le_of_ble_eq_true rfl⟩ rfl ?_); refine R.nil (R.zN (Weak.frame _ _ ?g1 ?g2 ?g3 ?g4)); (case g1 => exact ⟨rfl, rfl, rfl, rfl, rfl, rfl, rfl, rfl, rfl, rfl, rfl, rfl, rfl, rfl, rfl, rfl, rfl, rfl, rfl, rfl, rfl, rfl, rfl, rfl, rfl, rfl, rfl, rfl, rfl, rfl, rfl, rfl, rfl, rfl, rfl, rfl, rfl, rfl, trivial⟩); (case g2 => first | exact ⟨rfl, rfl, rfl, rfl, rfl, rfl, rfl, trivial⟩ | exact ⟨rfl, rfl, rfl, rfl, rfl, rfl, rfl, rfl, trivial⟩ | exact ⟨rfl, rfl, rfl, rfl, rfl, rfl, rfl, rfl, rfl, trivial⟩); (case g3 => repeat' (first | exact rfl | refine all_cons (cV_inK rfl) ?_ | refine all_cons rfl ?_)); (case g4 => exact rfl))
  case z14 =>
    intro L hc hk hd
    have f7 : L 7 = true := hd 7 (by simp)
    have f13 : L 13 = true := hd 13 (by simp)
    have f12 : L 12 = true := hc 13 12 _ _ rfl f13 (by simp)
    have f11 : L 11 = true := hc 12 11 _ _ rfl f12 (by simp)
    have f10 : L 10 = true := hc 11 10 _ _ rfl f11 (by simp)
    have f9 : L 9 = true := hc 11 9 _ _ rfl f11 (by simp)
    have f6 : L 6 = true := hc 7 6 _ _ rfl f7 (by simp)
    have f5 : L 5 = true := hc 6 5 _ _ rfl f6 (by simp)
    have f4 : L 4 = true := hc 5 4 _ _ rfl f5 (by simp)
    have f3 : L 3 = true := hc 4 3 _ _ rfl f4 (by simp)
    have f2 : L 2 = true := hc 4 2 _ _ rfl f4 (by simp)
    have f14 : L 14 = false := hk
    have f15 : L 15 = false := by cases h : L 15 with | false => rfl | true => have := hc 15 14 _ _ rfl h (by simp); rw [f14] at this; cases this
    have f27 : L 27 = false := by cases h : L 27 with | false => rfl | true => have := hc 27 15 _ _ rfl h (by simp); rw [f15] at this; cases this
    have f28 : L 28 = false := by cases h : L 28 with | false => rfl | true => have := hc 28 27 _ _ rfl h (by simp); rw [f27] at this; cases this
    have f29 : L 29 = false := by cases h : L 29 with | false => rfl | true => have := hc 29 14 _ _ rfl h (by simp); rw [f14] at this; cases this
    have f30 : L 30 = false := by cases h : L 30 with | false => rfl | true => have := hc 30 14 _ _ rfl h (by simp); rw [f14] at this; cases this
    have f31 : L 31 = false := by cases h : L 31 with | false => rfl | true => have := hc 31 14 _ _ rfl h (by simp); rw [f14] at this; cases this
    show WL _ _ [] (fun _ s' => Weak s' (zS pl st i s ms ts (L 0) (L 1) (L 2) (L 3) (L 4) (L 5) (L 6) (L 7) (L 8) (L 9) (L 10) (L 11) (L 12) (L 13) true (L 15) (L 16) (L 17) (L 18) (L 19) (L 20) (L 21) (L 22) (L 23) (L 24) (L 25) (L 26) (L 27) (L 28) (L 29) (L 30) (L 31))) (zS pl st i s ms ts (L 0) (L 1) (L 2) (L 3) (L 4) (L 5) (L 6) (L 7) (L 8) (L 9) (L 10) (L 11) (L 12) (L 13) (L 14) (L 15) (L 16) (L 17) (L 18) (L 19) (L 20) (L 21) (L 22) (L 23) (L 24) (L 25) (L 26) (L 27) (L 28) (L 29) (L 30) (L 31))
    rw [f2]
    rw [f3]
    rw [f4]
    rw [f5]
    rw [f6]
    rw [f7]
    rw [f9]
    rw [f10]
    rw [f11]
    rw [f12]
    rw [f13]
    rw [f14]
    rw [f15]
    rw [f27]
    rw [f28]
    rw [f29]
    rw [f30]
    rw [f31]
    generalize L 0 = b0
    generalize L 1 = b1
    generalize L 8 = b8
    generalize L 16 = b16
    generalize L 17 = b17
    generalize L 18 = b18
    generalize L 19 = b19
    generalize L 20 = b20
    generalize L 21 = b21
    generalize L 22 = b22
    generalize L 23 = b23
    generalize L 24 = b24
    generalize L 25 = b25
    generalize L 26 = b26
    clear f2 f3 f4 f5 f6 f7 f9 f10 f11 f12 f13 f14 f15 f27 f28 f29 f30 f31 hd hk hc L
    cases b26 <;> (unfold zS; repeat' (first | refine R.ixK s hix rfl rfl rfl ?_ | refine R.mv rfl ?_ | refine R.fa rfl rfl ?_ | refine R.ld rfl rfl rfl ?_ | refine R.call (bor := false) rfl rfl hDw rfl rfl rfl ?_ | refine R.call (bor := false) rfl rfl hDe rfl rfl rfl ?_ | refine R.sadd (s := [108]) (t := decL s.w) rfl rfl hl1 ?_ | refine R.sadd (s := [108] ++ decL s.w) (t := decL s.e) rfl rfl hl2 ?_ | refine R.bsl (f := enI) [0, s.e, 0, s.w] rfl rfl rfl rfl rfl ?_ | refine R.bld rfl rfl ?_ | refine R.bslA (f := enTile) [tileS s] rfl rfl rfl rfl rfl rfl ?_ | refine R.appN (f := enTile) rfl rfl rfl rfl rfl hap ?_ | refine R.stoB rfl rfl rfl rfl ⟨rfl, rfl, Nat.le_of_ble_eq_true rfl⟩ rfl ?_); refine R.nil (R.zN (Weak.frame _ _ ?g1 ?g2 ?g3 ?g4)); (case g1 => exact ⟨rfl, rfl, rfl, rfl, rfl, rfl, rfl, rfl, rfl, rfl, rfl, rfl, rfl, rfl, rfl, rfl, rfl, rfl, rfl, rfl, rfl, rfl, rfl, rfl, rfl, rfl, rfl, rfl, rfl, rfl, rfl, rfl, rfl, rfl, rfl, rfl, rfl, rfl, trivial⟩); (case g2 => first | exact ⟨rfl, rfl, rfl, rfl, rfl, rfl, rfl, trivial⟩ | exact ⟨rfl, rfl, rfl, rfl, rfl, rfl, rfl, rfl, trivial⟩ | exact ⟨rfl, rfl, rfl, rfl, rfl, rfl, rfl, rfl, rfl, trivial⟩); (case g3 => repeat' (first | exact rfl | refine all_cons (cV_inK rfl) ?_ | refine all_cons rfl ?_)); (case g4 => exact rfl))
  case z15 =>
    intro L hc hk hd
    have f8 : L 8 = true := hd 8 (by simp)
    have f14 : L 14 = true := hd 14 (by simp)
    have f13 : L 13 = true := hc 14 13 _ _ rfl f14 (by simp)
    have f12 : L 12 = true := hc 13 12 _ _ rfl f13 (by simp)
    have f11 : L 11 = true := hc 12 11 _ _ rfl f12 (by simp)
    have f10 : L 10 = true := hc 11 10 _ _ rfl f11 (by simp)
    have f9 : L 9 = true := hc 11 9 _ _ rfl f11 (by simp)
    have f7 : L 7 = true := hc 14 7 _ _ rfl f14 (by simp)
    have f6 : L 6 = true := hc 7 6 _ _ rfl f7 (by simp)
    have f5 : L 5 = true := hc 6 5 _ _ rfl f6 (by simp)
    have f4 : L 4 = true := hc 5 4 _ _ rfl f5 (by simp)
    have f3 : L 3 = true := hc 4 3 _ _ rfl f4 (by simp)
    have f2 : L 2 = true := hc 4 2 _ _ rfl f4 (by simp)
    have f15 : L 15 = false := hk
    have f27 : L 27 = false := by cases h : L 27 with | false => rfl | true => have := hc 27 15 _ _ rfl h (by simp); rw [f15] at this; cases this
    have f28 : L 28 = false := by cases h : L 28 with | false => rfl | true => have := hc 28 27 _ _ rfl h (by simp); rw [f27] at this; cases this
    have f29 : L 29 = false := by cases h : L 29 with | false => rfl | true => have := hc 29 28 _ _ rfl h (by simp); rw [f28] at this; cases this
    have f30 : L 30 = false := by cases h : L 30 with | false => rfl | true => have := hc 30 15 _ _ rfl h (by simp); rw [f15] at this; cases this
    have f31 : L 31 = false := by cases h : L 31 with | false => rfl | true => have := hc 31 15 _ _ rfl h (by simp); rw [f15] at this; cases this
    show WL _ _ [] (fun _ s' => Weak s' (zS pl st i s ms ts (L 0) (L 1) (L 2) (L 3) (L 4) (L 5) (L 6) (L 7) (L 8) (L 9) (L 10) (L 11) (L 12) (L 13) (L 14) true (L 16) (L 17) (L 18) (L 19) (L 20) (L 21) (L 22) (L 23) (L 24) (L 25) (L 26) (L 27) (L 28) (L 29) (L 30) (L 31))) (zS pl st i s ms ts (L 0) (L 1) (L 2) (L 3) (L 4) (L 5) (L 6) (L 7) (L 8) (L 9) (L 10) (L 11) (L 12) (L 13) (L 14) (L 15) (L 16) (L 17) (L 18) (L 19) (L 20) (L 21) (L 22) (L 23) (L 24) (L 25) (L 26) (L 27) (L 28) (L 29) (L 30) (L 31))
    rw [f2]
    rw [f3]
    rw [f4]
    rw [f5]
    rw [f6]
    rw [f7]
    rw [f8]
    rw [f9]
    rw [f10]
    rw [f11]
    rw [f12]
    rw [f13]
    rw [f14]
    rw [f15]
    rw [f27]
    rw [f28]
    rw [f29]
    rw [f30]
    rw [f31]
    generalize L 0 = b0
    generalize L 1 = b1
    generalize L 16 = b16
    generalize L 17 = b17
    generalize L 18 = b18
    generalize L 19 = b19
    generalize L 20 = b20
    generalize L 21 = b21
    generalize L 22 = b22
    generalize L 23 = b23
    generalize L 24 = b24
    generalize L 25 = b25
    generalize L 26 = b26
    clear f2 f3 f4 f5 f6 f7 f8 f9 f10 f11 f12 f13 f14 f15 f27 f28 f29 f30 f31 hd hk hc L
    cases b26 <;> (unfold zS; repeat' (first | refine R.ixK s hix rfl rfl rfl ?_ | refine R.mv rfl ?_ | refine R.fa rfl rfl ?_ | refine R.ld rfl rfl rfl ?_ | refine R.call (bor := false) rfl rfl hDw rfl rfl rfl ?_ | refine R.call (bor := false) rfl rfl hDe rfl rfl rfl ?_ | refine R.sadd (s := [108]) (t := decL s.w) rfl rfl hl1 ?_ | refine R.sadd (s := [108] ++ decL s.w) (t := decL s.e) rfl rfl hl2 ?_ | refine R.bsl (f := enI) [0, s.e, 0, s.w] rfl rfl rfl rfl rfl ?_ | refine R.bld rfl rfl ?_ | refine R.bslA (f := enTile) [tileS s] rfl rfl rfl rfl rfl rfl ?_ | refine R.appN (f := enTile) rfl rfl rfl rfl rfl hap ?_ | refine R.stoB rfl rfl rfl rfl ⟨rfl, rfl, Nat.le_of_ble_eq_true rfl⟩ rfl ?_); refine R.nil (R.zN (Weak.frame _ _ ?g1 ?g2 ?g3 ?g4)); (case g1 => exact ⟨rfl, rfl, rfl, rfl, rfl, rfl, rfl, rfl, rfl, rfl, rfl, rfl, rfl, rfl, rfl, rfl, rfl, rfl, rfl, rfl, rfl, rfl, rfl, rfl, rfl, rfl, rfl, rfl, rfl, rfl, rfl, rfl, rfl, rfl, rfl, rfl, rfl, rfl, trivial⟩); (case g2 => first | exact ⟨rfl, rfl, rfl, rfl, rfl, rfl, rfl, trivial⟩ | exact ⟨rfl, rfl, rfl, rfl, rfl, rfl, rfl, rfl, trivial⟩ | exact ⟨rfl, rfl, rfl, rfl, rfl, rfl, rfl, rfl, rfl, trivial⟩); (case g3 => repeat' (first | exact rfl | refine all_cons (cV_inK rfl) ?_ | refine all_cons rfl ?_)); (case g4 => exact rfl))
  case z16 =>
    intro L hc hk hd
    have f16 : L 16 = false := hk
    have f18 : L 18 = false := by cases h : L 18 with | false => rfl | true => have := hc 18 16 _ _ rfl h (by simp); rw [f16] at this; cases this
    have f19 : L 19 = false := by cases h : L 19 with | false => rfl | true => have := hc 19 18 _ _ rfl h (by simp); rw [f18] at this; cases this
    have f20 : L 20 = false := by cases h : L 20 with | false => rfl | true => have := hc 20 19 _ _ rfl h (by simp); rw [f19] at this; cases this
    have f26 : L 26 = false := by cases h : L 26 with | false => rfl | true => have := hc 26 20 _ _ rfl h (by simp); rw [f20] at this; cases this
    have f27 : L 27 = false := by cases h : L 27 with | false => rfl | true => have := hc 27 26 _ _ rfl h (by simp); rw [f26] at this; cases this
    have f28 : L 28 = false := by cases h : L 28 with | false => rfl | true => have := hc 28 27 _ _ rfl h (by simp); rw [f27] at this; cases this
    have f29 : L 29 = false := by cases h : L 29 with | false => rfl | true => have := hc 29 28 _ _ rfl h (by simp); rw [f28] at this; cases this
    have f30 : L 30 = false := by cases h : L 30 with | false => rfl | true => have := hc 30 16 _ _ rfl h (by simp); rw [f16] at this; cases this
    have f31 : L 31 = false := by cases h : L 31 with | false => rfl | true => have := hc 31 16 _ _ rfl h (by simp); rw [f16] at this; cases this
    show WL _ _ [] (fun _ s' => Weak s' (zS pl st i s ms ts (L 0) (L 1) (L 2) (L 3) (L 4) (L 5) (L 6) (L 7) (L 8) (L 9) (L 10) (L 11) (L 12) (L 13) (L 14) (L 15) true (L 17) (L 18) (L 19) (L 20) (L 21) (L 22) (L 23) (L 24) (L 25) (L 26) (L 27) (L 28) (L 29) (L 30) (L 31))) (zS pl st i s ms ts (L 0) (L 1) (L 2) (L 3) (L 4) (L 5) (L 6) (L 7) (L 8) (L 9) (L 10) (L 11) (L 12) (L 13) (L 14) (L 15) (L 16) (L 17) (L 18) (L 19) (L 20) (L 21) (L 22) (L 23) (L 24) (L 25) (L 26) (L 27) (L 28) (L 29) (L 30) (L 31))
    rw [f16]
    rw [f18]
    rw [f19]
    rw [f20]
    rw [f26]
    rw [f27]
    rw [f28]
    rw [f29]
    rw [f30]
    rw [f31]
    generalize L 0 = b0
    generalize L 1 = b1
    generalize L 2 = b2
    generalize L 3 = b3
    generalize L 4 = b4
    generalize L 5 = b5
    generalize L 6 = b6
    generalize L 7 = b7
    generalize L 8 = b8
    generalize L 9 = b9
    generalize L 10 = b10
    generalize L 11 = b11
    generalize L 12 = b12
    generalize L 13 = b13
    generalize L 14 = b14
    generalize L 15 = b15
    generalize L 17 = b17
    generalize L 21 = b21
    generalize L 22 = b22
    generalize L 23 = b23
    generalize L 24 = b24
    generalize L 25 = b25
    clear f16 f18 f19 f20 f26 f27 f28 f29 f30 f31 hd hk hc L
    (unfold zS; repeat' (first | refine R.ixK s hix rfl rfl rfl ?_ | refine R.mv rfl ?_ | refine R.fa rfl rfl ?_ | refine R.ld rfl rfl rfl ?_ | refine R.call (bor := false) rfl rfl hDw rfl rfl rfl ?_ | refine R.call (bor := false) rfl rfl hDe rfl rfl rfl ?_ | refine R.sadd (s := [108]) (t := decL s.w) rfl rfl hl1 ?_ | refine R.sadd (s := [108] ++ decL s.w) (t := decL s.e) rfl rfl hl2 ?_ | refine R.bsl (f := enI) [0, s.e, 0, s.w] rfl rfl rfl rfl rfl ?_ | refine R.bld rfl rfl ?_ | refine R.bslA (f := enTile) [tileS s] rfl rfl rfl rfl rfl rfl ?_ | refine R.appN (f := enTile) rfl rfl rfl rfl rfl hap ?_ | refine R.stoB rfl rfl rfl rfl ⟨rfl, rfl, Nat.le_of_ble_eq_true rfl⟩ rfl ?_); refine R.nil (R.zN (Weak.frame _ _ ?g1 ?g2 ?g3 ?g4)); (case g1 => exact ⟨rfl, rfl, rfl, rfl, rfl, rfl, rfl, rfl, rfl, rfl, rfl, rfl, rfl, rfl, rfl, rfl, rfl, rfl, rfl, rfl, rfl, rfl, rfl, rfl, rfl, rfl, rfl, rfl, rfl, rfl, rfl, rfl, rfl, rfl, rfl, rfl, rfl, rfl, trivial⟩); (case g2 => first | exact ⟨rfl, rfl, rfl, rfl, rfl, rfl, rfl, trivial⟩ | exact ⟨rfl, rfl, rfl, rfl, rfl, rfl, rfl, rfl, trivial⟩ | exact ⟨rfl, rfl, rfl, rfl, rfl, rfl, rfl, rfl, rfl, trivial⟩); (case g3 => repeat' (first | exact rfl | refine all_cons (cV_inK rfl) ?_ | refine all_cons rfl ?_)); (case g4 => exact rfl))
  case z17 =>
    intro L hc hk hd
    have f17 : L 17 = false := hk
    have f18 : L 18 = false := by cases h : L 18 with | false => rfl | true => have := hc 18 17 _ _ rfl h (by simp); rw [f17] at this; cases this
    have f19 : L 19 = false := by cases h : L 19 with | false => rfl | true => have := hc 19 18 _ _ rfl h (by simp); rw [f18] at this; cases this
    have f20 : L 20 = false := by cases h : L 20 with | false => rfl | true => have := hc 20 19 _ _ rfl h (by simp); rw [f19] at this; cases this
    have f26 : L 26 = false := by cases h : L 26 with | false => rfl | true => have := hc 26 20 _ _ rfl h (by simp); rw [f20] at this; cases this
    have f27 : L 27 = false := by cases h : L 27 with | false => rfl | true => have := hc 27 26 _ _ rfl h (by simp); rw [f26] at this; cases this
    have f28 : L 28 = false := by cases h : L 28 with | false => rfl | true => have := hc 28 27 _ _ rfl h (by simp); rw [f27] at this; cases this
    have f29 : L 29 = false := by cases h : L 29 with | false => rfl | true => have := hc 29 28 _ _ rfl h (by simp); rw [f28] at this; cases this
    have f30 : L 30 = false := by cases h : L 30 with | false => rfl | true => have := hc 30 17 _ _ rfl h (by simp); rw [f17] at this; cases this
    have f31 : L 31 = false := by cases h : L 31 with | false => rfl | true => have := hc 31 17 _ _ rfl h (by simp); rw [f17] at this; cases this
    show WL _ _ [] (fun _ s' => Weak s' (zS pl st i s ms ts (L 0) (L 1) (L 2) (L 3) (L 4) (L 5) (L 6) (L 7) (L 8) (L 9) (L 10) (L 11) (L 12) (L 13) (L 14) (L 15) (L 16) true (L 18) (L 19) (L 20) (L 21) (L 22) (L 23) (L 24) (L 25) (L 26) (L 27) (L 28) (L 29) (L 30) (L 31))) (zS pl st i s ms ts (L 0) (L 1) (L 2) (L 3) (L 4) (L 5) (L 6) (L 7) (L 8) (L 9) (L 10) (L 11) (L 12) (L 13) (L 14) (L 15) (L 16) (L 17) (L 18) (L 19) (L 20) (L 21) (L 22) (L 23) (L 24) (L 25) (L 26) (L 27) (L 28) (L 29) (L 30) (L 31))
    rw [f17]
    rw [f18]
    rw [f19]
    rw [f20]
    rw [f26]
    rw [f27]
    rw [f28]
    rw [f29]
    rw [f30]
    rw [f31]
    generalize L 0 = b0
    generalize L 1 = b1
    generalize L 2 = b2
    generalize L 3 = b3
    generalize L 4 = b4
    generalize L 5 = b5
    generalize L 6 = b6
    generalize L 7 = b7
    generalize L 8 = b8
    generalize L 9 = b9
    generalize L 10 = b10
    generalize L 11 = b11
    generalize L 12 = b12
    generalize L 13 = b13
    generalize L 14 = b14
    generalize L 15 = b15
    generalize L 16 = b16
    generalize L 21 = b21
    generalize L 22 = b22
    generalize L 23 = b23
    generalize L 24 = b24
    generalize L 25 = b25
    clear f17 f18 f19 f20 f26 f27 f28 f29 f30 f31 hd hk hc L
    (unfold zS; repeat' (first | refine R.ixK s hix rfl rfl rfl ?_ | refine R.mv rfl ?_ | refine R.fa rfl rfl ?_ | refine R.ld rfl rfl rfl ?_ | refine R.call (bor := false) rfl rfl hDw rfl rfl rfl ?_ | refine R.call (bor := false) rfl rfl hDe rfl rfl rfl ?_ | refine R.sadd (s := [108]) (t := decL s.w) rfl rfl hl1 ?_ | refine R.sadd (s := [108] ++ decL s.w) (t := decL s.e) rfl rfl hl2 ?_ | refine R.bsl (f := enI) [0, s.e, 0, s.w] rfl rfl rfl rfl rfl ?_ | refine R.bld rfl rfl ?_ | refine R.bslA (f := enTile) [tileS s] rfl rfl rfl rfl rfl rfl ?_ | refine R.appN (f := enTile) rfl rfl rfl rfl rfl hap ?_ | refine R.stoB rfl rfl rfl rfl ⟨rfl, rfl, Nat.le_of_ble_eq_true rfl⟩ rfl ?_); refine R.nil (R.zN (Weak.frame _ _ ?g1 ?g2 ?g3 ?g4)); (case g1 => exact ⟨rfl, rfl, rfl, rfl, rfl, rfl, rfl, rfl, rfl, rfl, rfl, rfl, rfl, rfl, rfl, rfl, rfl, rfl, rfl, rfl, rfl, rfl, rfl, rfl, rfl, rfl, rfl, rfl, rfl, rfl, rfl, rfl, rfl, rfl, rfl, rfl, rfl, rfl, trivial⟩); (case g2 => first | exact ⟨rfl, rfl, rfl, rfl, rfl, rfl, rfl, trivial⟩ | exact ⟨rfl, rfl, rfl, rfl, rfl, rfl, rfl, rfl, trivial⟩ | exact ⟨rfl, rfl, rfl, rfl, rfl, rfl, rfl, rfl, rfl, trivial⟩); (case g3 => repeat' (first | exact rfl | refine all_cons (cV_inK rfl) ?_ | refine all_cons rfl ?_)); (case g4 => exact rfl))
  case z18 =>
    intro L hc hk hd
    have f16 : L 16 = true := hd 16 (by simp)
    have f17 : L 17 = true := hd 17 (by simp)
    have f18 : L 18 = false := hk
    have f19 : L 19 = false := by cases h : L 19 with | false => rfl | true => have := hc 19 18 _ _ rfl h (by simp); rw [f18] at this; cases this
    have f20 : L 20 = false := by cases h : L 20 with | false => rfl | true => have := hc 20 19 _ _ rfl h (by simp); rw [f19] at this; cases this
    have f26 : L 26 = false := by cases h : L 26 with | false => rfl | true => have := hc 26 20 _ _ rfl h (by simp); rw [f20] at this; cases this
    have f27 : L 27 = false := by cases h : L 27 with | false => rfl | true => have := hc 27 26 _ _ rfl h (by simp); rw [f26] at this; cases this
    have f28 : L 28 = false := by cases h : L 28 with | false => rfl | true => have := hc 28 27 _ _ rfl h (by simp); rw [f27] at this; cases this
    have f29 : L 29 = false := by cases h : L 29 with | false => rfl | true => have := hc 29 28 _ _ rfl h (by simp); rw [f28] at this; cases this
    have f30 : L 30 = false := by cases h : L 30 with | false => rfl | true => have := hc 30 18 _ _ rfl h (by simp); rw [f18] at this; cases this
    have f31 : L 31 = false := by cases h : L 31 with | false => rfl | true => have := hc 31 18 _ _ rfl h (by simp); rw [f18] at this; cases this
    show WL _ _ [] (fun _ s' => Weak s' (zS pl st i s ms ts (L 0) (L 1) (L 2) (L 3) (L 4) (L 5) (L 6) (L 7) (L 8) (L 9) (L 10) (L 11) (L 12) (L 13) (L 14) (L 15) (L 16) (L 17) true (L 19) (L 20) (L 21) (L 22) (L 23) (L 24) (L 25) (L 26) (L 27) (L 28) (L 29) (L 30) (L 31))) (zS pl st i s ms ts (L 0) (L 1) (L 2) (L 3) (L 4) (L 5) (L 6) (L 7) (L 8) (L 9) (L 10) (L 11) (L 12) (L 13) (L 14) (L 15) (L 16) (L 17) (L 18) (L 19) (L 20) (L 21) (L 22) (L 23) (L 24) (L 25) (L 26) (L 27) (L 28) (L 29) (L 30) (L 31))
    rw [f16]
    rw [f17]
    rw [f18]
    rw [f19]
    rw [f20]
    rw [f26]
    rw [f27]
    rw [f28]
    rw [f29]
    rw [f30]
    rw [f31]
    generalize L 0 = b0
    generalize L 1 = b1
    generalize L 2 = b2
    generalize L 3 = b3
    generalize L 4 = b4
    generalize L 5 = b5
    generalize L 6 = b6
    generalize L 7 = b7
    generalize L 8 = b8
    generalize L 9 = b9
    generalize L 10 = b10
    generalize L 11 = b11
    generalize L 12 = b12
    generalize L 13 = b13
    generalize L 14 = b14
    generalize L 15 = b15
    generalize L 21 = b21
    generalize L 22 = b22
    generalize L 23 = b23
    generalize L 24 = b24
    generalize L 25 = b25
    clear f16 f17 f18 f19 f20 f26 f27 f28 f29 f30 f31 hd hk hc L
    (unfold zS; repeat' (first | refine R.ixK s hix rfl rfl rfl ?_ | refine R.mv rfl ?_ | refine R.fa rfl rfl ?_ | refine R.ld rfl rfl rfl ?_ | refine R.call (bor := false) rfl rfl hDw rfl rfl rfl ?_ | refine R.call (bor := false) rfl rfl hDe rfl rfl rfl ?_ | refine R.sadd (s := [108]) (t := decL s.w) rfl rfl hl1 ?_ | refine R.sadd (s := [108] ++ decL s.w) (t := decL s.e) rfl rfl hl2 ?_ | refine R.bsl (f := enI) [0, s.e, 0, s.w] rfl rfl rfl rfl rfl ?_ | refine R.bld rfl rfl ?_ | refine R.bslA (f := enTile) [tileS s] rfl rfl rfl rfl rfl rfl ?_ | refine R.appN (f := enTile) rfl rfl rfl rfl rfl hap ?_ | refine R.stoB rfl rfl rfl rfl ⟨rfl, rfl, Nat.le_of_ble_eq_true rfl⟩ rfl ?_); refine R.nil (R.zN (Weak.frame _ _ ?g1 ?g2 ?g3 ?g4)); (case g1 => exact ⟨rfl, rfl, rfl, rfl, rfl, rfl, rfl, rfl, rfl, rfl, rfl, rfl, rfl, rfl, rfl, rfl, rfl, rfl, rfl, rfl, rfl, rfl, rfl, rfl, rfl, rfl, rfl, rfl, rfl, rfl, rfl, rfl, rfl, rfl, rfl, rfl, rfl, rfl, trivial⟩); (case g2 => first | exact ⟨rfl, rfl, rfl, rfl, rfl, rfl, rfl, trivial⟩ | exact ⟨rfl, rfl, rfl, rfl, rfl, rfl, rfl, rfl, trivial⟩ | exact ⟨rfl, rfl, rfl, rfl, rfl, rfl, rfl, rfl, rfl, trivial⟩); (case g3 => repeat' (first | exact rfl | refine all_cons (cV_inK rfl) ?_ | refine all_cons rfl ?_)); (case g4 => exact rfl))
  case z19 =>
    intro L hc hk hd
    have f18 : L 18 = true := hd 18 (by simp)
    have f17 : L 17 = true := hc 18 17 _ _ rfl f18 (by simp)
    have f16 : L 16 = true := hc 18 16 _ _ rfl f18 (by simp)
    have f19 : L 19 = false := hk
    have f20 : L 20 = false := by cases h : L 20 with | false => rfl | true => have := hc 20 19 _ _ rfl h (by simp); rw [f19] at this; cases this
    have f26 : L 26 = false := by cases h : L 26 with | false => rfl | true => have := hc 26 20 _ _ rfl h (by simp); rw [f20] at this; cases this
    have f27 : L 27 = false := by cases h : L 27 with | false => rfl | true => have := hc 27 26 _ _ rfl h (by simp); rw [f26] at this; cases this
    have f28 : L 28 = false := by cases h : L 28 with | false => rfl | true => have := hc 28 27 _ _ rfl h (by simp); rw [f27] at this; cases this
    have f29 : L 29 = false := by cases h : L 29 with | false => rfl | true => have := hc 29 28 _ _ rfl h (by simp); rw [f28] at this; cases this
    have f30 : L 30 = false := by cases h : L 30 with | false => rfl | true => have := hc 30 19 _ _ rfl h (by simp); rw [f19] at this; cases this
    have f31 : L 31 = false := by cases h : L 31 with | false => rfl | true => have := hc 31 19 _ _ rfl h (by simp); rw [f19] at this; cases this
    show WL _ _ [] (fun _ s' => Weak s' (zS pl st i s ms ts (L 0) (L 1) (L 2) (L 3) (L 4) (L 5) (L 6) (L 7) (L 8) (L 9) (L 10) (L 11) (L 12) (L 13) (L 14) (L 15) (L 16) (L 17) (L 18) true (L 20) (L 21) (L 22) (L 23) (L 24) (L 25) (L 26) (L 27) (L 28) (L 29) (L 30) (L 31))) (zS pl st i s ms ts (L 0) (L 1) (L 2) (L 3) (L 4) (L 5) (L 6) (L 7) (L 8) (L 9) (L 10) (L 11) (L 12) (L 13) (L 14) (L 15) (L 16) (L 17) (L 18) (L 19) (L 20) (L 21) (L 22) (L 23) (L 24) (L 25) (L 26) (L 27) (L 28) (L 29) (L 30) (L 31))
    rw [f16]
    rw [f17]
    rw [f18]
    rw [f19]
    rw [f20]
    rw [f26]
    rw [f27]
    rw [f28]
    rw [f29]
    rw [f30]
    rw [f31]
    generalize L 0 = b0
    generalize L 1 = b1
    generalize L 2 = b2
    generalize L 3 = b3
    generalize L 4 = b4
    generalize L 5 = b5
    generalize L 6 = b6
    generalize L 7 = b7
    generalize L 8 = b8
    generalize L 9 = b9
    generalize L 10 = b10
    generalize L 11 = b11
    generalize L 12 = b12
    generalize L 13 = b13
    generalize L 14 = b14
    generalize L 15 = b15
    generalize L 21 = b21
    generalize L 22 = b22
    generalize L 23 = b23
    generalize L 24 = b24
    generalize L 25 = b25
    clear f16 f17 f18 f19 f20 f26 f27 f28 f29 f30 f31 hd hk hc L
    (unfold zS; repeat' (first | refine R.ixK s hix rfl rfl rfl ?_ | refine R.mv rfl ?_ | refine R.fa rfl rfl ?_ | refine R.ld rfl rfl rfl ?_ | refine R.call (bor := false) rfl rfl hDw rfl rfl rfl ?_ | refine R.call (bor := false) rfl rfl hDe rfl rfl rfl ?_ | refine R.sadd (s := [108]) (t := decL s.w) rfl rfl hl1 ?_ | refine R.sadd (s := [108] ++ decL s.w) (t := decL s.e) rfl rfl hl2 ?_ | refine R.bsl (f := enI) [0, s.e, 0, s.w] rfl rfl rfl rfl rfl ?_ | refine R.bld rfl rfl ?_ | refine R.bslA (f := enTile) [tileS s] rfl rfl rfl rfl rfl rfl ?_ | refine R.appN (f := enTile) rfl rfl rfl rfl rfl hap ?_ | refine R.stoB rfl rfl rfl rfl ⟨rfl, rfl, Nat.le_of_ble_eq_true rfl⟩ rfl ?_); refine R.nil (R.zN (Weak.frame _ _ ?g1 ?g2 ?g3 ?g4)); (case g1 => exact ⟨rfl, rfl, rfl, rfl, rfl, rfl, rfl, rfl, rfl, rfl, rfl, rfl, rfl, rfl, rfl, rfl, rfl, rfl, rfl, rfl, rfl, rfl, rfl, rfl, rfl, rfl, rfl, rfl, rfl, rfl, rfl, rfl, rfl, rfl, rfl, rfl, rfl, rfl, trivial⟩); (case g2 => first | exact ⟨rfl, rfl, rfl, rfl, rfl, rfl, rfl, trivial⟩ | exact ⟨rfl, rfl, rfl, rfl, rfl, rfl, rfl, rfl, trivial⟩ | exact ⟨rfl, rfl, rfl, rfl, rfl, rfl, rfl, rfl, rfl, trivial⟩); (case g3 => repeat' (first | exact rfl | refine all_cons (cV_inK rfl) ?_ | refine all_cons rfl ?_)); (case g4 => exact rfl))
  case z20 =>
    intro L hc hk hd
    have f19 : L 19 = true := hd 19 (by simp)
    have f18 : L 18 = true := hc 19 18 _ _ rfl f19 (by simp)
    have f17 : L 17 = true := hc 18 17 _ _ rfl f18 (by simp)
    have f16 : L 16 = true := hc 18 16 _ _ rfl f18 (by simp)
    have f20 : L 20 = false := hk
    have f26 : L 26 = false := by cases h : L 26 with | false => rfl | true => have := hc 26 20 _ _ rfl h (by simp); rw [f20] at this; cases this
    have f27 : L 27 = false := by cases h : L 27 with | false => rfl | true => have := hc 27 26 _ _ rfl h (by simp); rw [f26] at this; cases this
    have f28 : L 28 = false := by cases h : L 28 with | false => rfl | true => have := hc 28 27 _ _ rfl h (by simp); rw [f27] at this; cases this
    have f29 : L 29 = false := by cases h : L 29 with | false => rfl | true => have := hc 29 28 _ _ rfl h (by simp); rw [f28] at this; cases this
    have f30 : L 30 = false := by cases h : L 30 with | false => rfl | true => have := hc 30 20 _ _ rfl h (by simp); rw [f20] at this; cases this
    have f31 : L 31 = false := by cases h : L 31 with | false => rfl | true => have := hc 31 20 _ _ rfl h (by simp); rw [f20] at this; cases this
    show WL _ _ [] (fun _ s' => Weak s' (zS pl st i s ms ts (L 0) (L 1) (L 2) (L 3) (L 4) (L 5) (L 6) (L 7) (L 8) (L 9) (L 10) (L 11) (L 12) (L 13) (L 14) (L 15) (L 16) (L 17) (L 18) (L 19) true (L 21) (L 22) (L 23) (L 24) (L 25) (L 26) (L 27) (L 28) (L 29) (L 30) (L 31))) (zS pl st i s ms ts (L 0) (L 1) (L 2) (L 3) (L 4) (L 5) (L 6) (L 7) (L 8) (L 9) (L 10) (L 11) (L 12) (L 13) (L 14) (L 15) (L 16) (L 17) (L 18) (L 19) (L 20) (L 21) (L 22) (L 23) (L 24) (L 25) (L 26) (L 27) (L 28) (L 29) (L 30) (L 31))
    rw [f16]
    rw [f17]
    rw [f18]
    rw [f19]
    rw [f20]
    rw [f26]
    rw [f27]
    rw [f28]
    rw [f29]
    rw [f30]
    rw [f31]
    generalize L 0 = b0
    generalize L 1 = b1
    generalize L 2 = b2
    generalize L 3 = b3
    generalize L 4 = b4
    generalize L 5 = b5
    generalize L 6 = b6
    generalize L 7 = b7
    generalize L 8 = b8
    generalize L 9 = b9
    generalize L 10 = b10
    generalize L 11 = b11
    generalize L 12 = b12
    generalize L 13 = b13
    generalize L 14 = b14
    generalize L 15 = b15
    generalize L 21 = b21
    generalize L 22 = b22
    generalize L 23 = b23
    generalize L 24 = b24
    generalize L 25 = b25
    clear f16 f17 f18 f19 f20 f26 f27 f28 f29 f30 f31 hd hk hc L
    (unfold zS; repeat' (first | refine R.ixK s hix rfl rfl rfl ?_ | refine R.mv rfl ?_ | refine R.fa rfl rfl ?_ | refine R.ld rfl rfl rfl ?_ | refine R.call (bor := false) rfl rfl hDw rfl rfl rfl ?_ | refine R.call (bor := false) rfl rfl hDe rfl rfl rfl ?_ | refine R.sadd (s := [108]) (t := decL s.w) rfl rfl hl1 ?_ | refine R.sadd (s := [108] ++ decL s.w) (t := decL s.e) rfl rfl hl2 ?_ | refine R.bsl (f := enI) [0, s.e, 0, s.w] rfl rfl rfl rfl rfl ?_ | refine R.bld rfl rfl ?_ | refine R.bslA (f := enTile) [tileS s] rfl rfl rfl rfl rfl rfl ?_ | refine R.appN (f := enTile) rfl rfl rfl rfl rfl hap ?_ | refine R.stoB rfl rfl rfl rfl ⟨rfl, rfl, Nat.le_of_ble_eq_true rfl⟩ rfl ?_); refine R.nil (R.zN (Weak.frame _ _ ?g1 ?g2 ?g3 ?g4)); (case g1 => exact ⟨rfl, rfl, rfl, rfl, rfl, rfl, rfl, rfl, rfl, rfl, rfl, rfl, rfl, rfl, rfl, rfl, rfl, rfl, rfl, rfl, rfl, rfl, rfl, rfl, rfl, rfl, rfl, rfl, rfl, rfl, rfl, rfl, rfl, rfl, rfl, rfl, rfl, rfl, trivial⟩); (case g2 => first | exact ⟨rfl, rfl, rfl, rfl, rfl, rfl, rfl, trivial⟩ | exact ⟨rfl, rfl, rfl, rfl, rfl, rfl, rfl, rfl, trivial⟩ | exact ⟨rfl, rfl, rfl, rfl, rfl, rfl, rfl, rfl, rfl, trivial⟩); (case g3 => repeat' (first | exact rfl | refine all_cons (cV_inK rfl) ?_ | refine all_cons rfl ?_)); (case g4 => exact rfl))
  case z21 =>
    intro L hc hk hd
    have f21 : L 21 = false := hk
    have f23 : L 23 = false := by cases h : L 23 with | false => rfl | true => have := hc 23 21 _ _ rfl h (by simp); rw [f21] at this; cases this
    have f24 : L 24 = false := by cases h : L 24 with | false => rfl | true => have := hc 24 23 _ _ rfl h (by simp); rw [f23] at this; cases this
    have f25 : L 25 = false := by cases h : L 25 with | false => rfl | true => have := hc 25 24 _ _ rfl h (by simp); rw [f24] at this; cases this
    have f26 : L 26 = false := by cases h : L 26 with | false => rfl | true => have := hc 26 25 _ _ rfl h (by simp); rw [f25] at this; cases this
    have f27 : L 27 = false := by cases h : L 27 with | false => rfl | true => have := hc 27 26 _ _ rfl h (by simp); rw [f26] at this; cases this
    have f28 : L 28 = false := by cases h : L 28 with | false => rfl | true => have := hc 28 27 _ _ rfl h (by simp); rw [f27] at this; cases this
    have f29 : L 29 = false := by cases h : L 29 with | false => rfl | true => have := hc 29 28 _ _ rfl h (by simp); rw [f28] at this; cases this
    have f30 : L 30 = false := by cases h : L 30 with | false => rfl | true => have := hc 30 21 _ _ rfl h (by simp); rw [f21] at this; cases this
    have f31 : L 31 = false := by cases h : L 31 with | false => rfl | true => have := hc 31 21 _ _ rfl h (by simp); rw [f21] at this; cases this
    show WL _ _ [] (fun _ s' => Weak s' (zS pl st i s ms ts (L 0) (L 1) (L 2) (L 3) (L 4) (L 5) (L 6) (L 7) (L 8) (L 9) (L 10) (L 11) (L 12) (L 13) (L 14) (L 15) (L 16) (L 17) (L 18) (L 19) (L 20) true (L 22) (L 23) (L 24) (L 25) (L 26) (L 27) (L 28) (L 29) (L 30) (L 31))) (zS pl st i s ms ts (L 0) (L 1) (L 2) (L 3) (L 4) (L 5) (L 6) (L 7) (L 8) (L 9) (L 10) (L 11) (L 12) (L 13) (L 14) (L 15) (L 16) (L 17) (L 18) (L 19) (L 20) (L 21) (L 22) (L 23) (L 24) (L 25) (L 26) (L 27) (L 28) (L 29) (L 30) (L 31))
    rw [f21]
    rw [f23]
    rw [f24]
    rw [f25]
    rw [f26]
    rw [f27]
    rw [f28]
    rw [f29]
    rw [f30]
    rw [f31]
    generalize L 0 = b0
    generalize L 1 = b1
    generalize L 2 = b2
    generalize L 3 = b3
    generalize L 4 = b4
    generalize L 5 = b5
    generalize L 6 = b6
    generalize L 7 = b7
    generalize L 8 = b8
    generalize L 9 = b9
    generalize L 10 = b10
    generalize L 11 = b11
    generalize L 12 = b12
    generalize L 13 = b13
    generalize L 14 = b14
    generalize L 15 = b15
    generalize L 16 = b16
    generalize L 17 = b17
    generalize L 18 = b18
    generalize L 19 = b19
    generalize L 20 = b20
    generalize L 22 = b22
    clear f21 f23 f24 f25 f26 f27 f28 f29 f30 f31 hd hk hc L
    (unfold zS; repeat' (first | refine R.ixK s hix rfl rfl rfl ?_ | refine R.mv rfl ?_ | refine R.fa rfl rfl ?_ | refine R.ld rfl rfl rfl ?_ | refine R.call (bor := false) rfl rfl hDw rfl rfl rfl ?_ | refine R.call (bor := false) rfl rfl hDe rfl rfl rfl ?_ | refine R.sadd (s := [108]) (t := decL s.w) rfl rfl hl1 ?_ | refine R.sadd (s := [108] ++ decL s.w) (t := decL s.e) rfl rfl hl2 ?_ | refine R.bsl (f := enI) [0, s.e, 0, s.w] rfl rfl rfl rfl rfl ?_ | refine R.bld rfl rfl ?_ | refine R.bslA (f := enTile) [tileS s] rfl rfl rfl rfl rfl rfl ?_ | refine R.appN (f := enTile) rfl rfl rfl rfl rfl hap ?_ | refine R.stoB rfl rfl rfl rfl ⟨rfl, rfl, Nat.le_of_ble_eq_true rfl⟩ rfl ?_); refine R.nil (R.zN (Weak.frame _ _ ?g1 ?g2 ?g3 ?g4)); (case g1 => exact ⟨rfl, rfl, rfl, rfl, rfl, rfl, rfl, rfl, rfl, rfl, rfl, rfl, rfl, rfl, rfl, rfl, rfl, rfl, rfl, rfl, rfl, rfl, rfl, rfl, rfl, rfl, rfl, rfl, rfl, rfl, rfl, rfl, rfl, rfl, rfl, rfl, rfl, rfl, trivial⟩); (case g2 => first | exact ⟨rfl, rfl, rfl, rfl, rfl, rfl, rfl, trivial⟩ | exact ⟨rfl, rfl, rfl, rfl, rfl, rfl, rfl, rfl, trivial⟩ | exact ⟨rfl, rfl, rfl, rfl, rfl, rfl, rfl, rfl, rfl, trivial⟩); (case g3 => repeat' (first | exact rfl | refine all_cons (cV_inK rfl) ?_ | refine all_cons rfl ?_)); (case g4 => exact rfl))
  case z22 =>
    intro L hc hk hd
    have f22 : L 22 = false := hk
    have f23 : L 23 = false := by cases h : L 23 with | false => rfl | true => have := hc 23 22 _ _ rfl h (by simp); rw [f22] at this; cases this
    have f24 : L 24 = false := by cases h : L 24 with | false => rfl | true => have := hc 24 23 _ _ rfl h (by simp); rw [f23] at this; cases this
    have f25 : L 25 = false := by cases h : L 25 with | false => rfl | true => have := hc 25 24 _ _ rfl h (by simp); rw [f24] at this; cases this
    have f26 : L 26 = false := by cases h : L 26 with | false => rfl | true => have := hc 26 25 _ _ rfl h (by simp); rw [f25] at this; cases this
    have f27 : L 27 = false := by cases h : L 27 with | false => rfl | true => have := hc 27 26 _ _ rfl h (by simp); rw [f26] at this; cases this
    have f28 : L 28 = false := by cases h : L 28 with | false => rfl | true => have := hc 28 27 _ _ rfl h (by simp); rw [f27] at this; cases this
    have f29 : L 29 = false := by cases h : L 29 with | false => rfl | true => have := hc 29 28 _ _ rfl h (by simp); rw [f28] at this; cases this
    have f30 : L 30 = false := by cases h : L 30 with | false => rfl | true => have := hc 30 22 _ _ rfl h (by simp); rw [f22] at this; cases this
    have f31 : L 31 = false := by cases h : L 31 with | false => rfl | true => have := hc 31 22 _ _ rfl h (by simp); rw [f22] at this; cases this
    show WL _ _ [] (fun _ s' => Weak s' (zS pl st i s ms ts (L 0) (L 1) (L 2) (L 3) (L 4) (L 5) (L 6) (L 7) (L 8) (L 9) (L 10) (L 11) (L 12) (L 13) (L 14) (L 15) (L 16) (L 17) (L 18) (L 19) (L 20) (L 21) true (L 23) (L 24) (L 25) (L 26) (L 27) (L 28) (L 29) (L 30) (L 31))) (zS pl st i s ms ts (L 0) (L 1) (L 2) (L 3) (L 4) (L 5) (L 6) (L 7) (L 8) (L 9) (L 10) (L 11) (L 12) (L 13) (L 14) (L 15) (L 16) (L 17) (L 18) (L 19) (L 20) (L 21) (L 22) (L 23) (L 24) (L 25) (L 26) (L 27) (L 28) (L 29) (L 30) (L 31))
    rw [f22]
    rw [f23]
    rw [f24]
    rw [f25]
    rw [f26]
    rw [f27]
    rw [f28]
    rw [f29]
    rw [f30]
    rw [f31]
    generalize L 0 = b0
    generalize L 1 = b1
    generalize L 2 = b2
    generalize L 3 = b3
    generalize L 4 = b4
    generalize L 5 = b5
    generalize L 6 = b6
    generalize L 7 = b7
    generalize L 8 = b8
    generalize L 9 = b9
    generalize L 10 = b10
    generalize L 11 = b11
    generalize L 12 = b12
    generalize L 13 = b13
    generalize L 14 = b14
    generalize L 15 = b15
    generalize L 16 = b16
    generalize L 17 = b17
    generalize L 18 = b18
    generalize L 19 = b19
    generalize L 20 = b20
    generalize L 21 = b21
    clear f22 f23 f24 f25 f26 f27 f28 f29 f30 f31 hd hk hc L
    (unfold zS; repeat' (first | refine R.ixK s hix rfl rfl rfl ?_ | refine R.mv rfl ?_ | refine R.fa rfl rfl ?_ | refine R.ld rfl rfl rfl ?_ | refine R.call (bor := false) rfl rfl hDw rfl rfl rfl ?_ | refine R.call (bor := false) rfl rfl hDe rfl rfl rfl ?_ | refine R.sadd (s := [108]) (t := decL s.w) rfl rfl hl1 ?_ | refine R.sadd (s := [108] ++ decL s.w) (t := decL s.e) rfl rfl hl2 ?_ | refine R.bsl (f := enI) [0, s.e, 0, s.w] rfl rfl rfl rfl rfl ?_ | refine R.bld rfl rfl ?_ | refine R.bslA (f := enTile) [tileS s] rfl rfl rfl rfl rfl rfl ?_ | refine R.appN (f := enTile) rfl rfl rfl rfl rfl hap ?_ | refine R.stoB rfl rfl rfl rfl ⟨rfl, rfl, Nat.le_of_ble_eq_true rfl⟩ rfl ?_); refine R.nil (R.zN (Weak.frame _ _ ?g1 ?g2 ?g3 ?g4)); (case g1 => exact ⟨rfl, rfl, rfl, rfl, rfl, rfl, rfl, rfl, rfl, rfl, rfl, rfl, rfl, rfl, rfl, rfl, rfl, rfl, rfl, rfl, rfl, rfl, rfl, rfl, rfl, rfl, rfl, rfl, rfl, rfl, rfl, rfl, rfl, rfl, rfl, rfl, rfl, rfl, trivial⟩); (case g2 => first | exact ⟨rfl, rfl, rfl, rfl, rfl, rfl, rfl, trivial⟩ | exact ⟨rfl, rfl, rfl, rfl, rfl, rfl, rfl, rfl, trivial⟩ | exact ⟨rfl, rfl, rfl, rfl, rfl, rfl, rfl, rfl, rfl, trivial⟩); (case g3 => repeat' (first | exact rfl | refine all_cons (cV_inK rfl) ?_ | refine all_cons rfl ?_)); (case g4 => exact rfl))
  case z23 =>
    intro L hc hk hd
    have f21 : L 21 = true := hd 21 (by simp)
    have f22 : L 22 = true := hd 22 (by simp)
    have f23 : L 23 = false := hk
    have f24 : L 24 = false := by cases h : L 24 with | false => rfl | true => have := hc 24 23 _ _ rfl h (by simp); rw [f23] at this; cases this
    have f25 : L 25 = false := by cases h : L 25 with | false => rfl | true => have := hc 25 24 _ _ rfl h (by simp); rw [f24] at this; cases this
    have f26 : L 26 = false := by cases h : L 26 with | false => rfl | true => have := hc 26 25 _ _ rfl h (by simp); rw [f25] at this; cases this
    have f27 : L 27 = false := by cases h : L 27 with | false => rfl | true => have := hc 27 26 _ _ rfl h (by simp); rw [f26] at this; cases this
    have f28 : L 28 = false := by cases h : L 28 with | false => rfl | true => have := hc 28 27 _ _ rfl h (by simp); rw [f27] at this; cases this
    have f29 : L 29 = false := by cases h : L 29 with | false => rfl | true => have := hc 29 28 _ _ rfl h (by simp); rw [f28] at this; cases this
    have f30 : L 30 = false := by cases h : L 30 with | false => rfl | true => have := hc 30 23 _ _ rfl h (by simp); rw [f23] at this; cases this
    have f31 : L 31 = false := by cases h : L 31 with | false => rfl | true => have := hc 31 23 _ _ rfl h (by simp); rw [f23] at this; cases this
    show WL _ _ [] (fun _ s' => Weak s' (zS pl st i s ms ts (L 0) (L 1) (L 2) (L 3) (L 4) (L 5) (L 6) (L 7) (L 8) (L 9) (L 10) (L 11) (L 12) (L 13) (L 14) (L 15) (L 16) (L 17) (L 18) (L 19) (L 20) (L 21) (L 22) true (L 24) (L 25) (L 26) (L 27) (L 28) (L 29) (L 30) (L 31))) (zS pl st i s ms ts (L 0) (L 1) (L 2) (L 3) (L 4) (L 5) (L 6) (L 7) (L 8) (L 9) (L 10) (L 11) (L 12) (L 13) (L 14) (L 15) (L 16) (L 17) (L 18) (L 19) (L 20) (L 21) (L 22) (L 23) (L 24) (L 25) (L 26) (L 27) (L 28) (L 29) (L 30) (L 31))
    rw [f21]
    rw [f22]
    rw [f23]
    rw [f24]
    rw [f25]
    rw [f26]
    rw [f27]
    rw [f28]
    rw [f29]
    rw [f30]
    rw [f31]
    generalize L 0 = b0
    generalize L 1 = b1
    generalize L 2 = b2
    generalize L 3 = b3
    generalize L 4 = b4
    generalize L 5 = b5
    generalize L 6 = b6
    generalize L 7 = b7
    generalize L 8 = b8
    generalize L 9 = b9
    generalize L 10 = b10
    generalize L 11 = b11
    generalize L 12 = b12
    generalize L 13 = b13
    generalize L 14 = b14
    generalize L 15 = b15
    generalize L 16 = b16
    generalize L 17 = b17
    generalize L 18 = b18
    generalize L 19 = b19
    generalize L 20 = b20
    clear f21 f22 f23 f24 f25 f26 f27 f28 f29 f30 f31 hd hk hc L
    (unfold zS; repeat' (first | refine R.ixK s hix rfl rfl rfl ?_ | refine R.mv rfl ?_ | refine R.fa rfl rfl ?_ | refine R.ld rfl rfl rfl ?_ | refine R.call (bor := false) rfl rfl hDw rfl rfl rfl ?_ | refine R.call (bor := false) rfl rfl hDe rfl rfl rfl ?_ | refine R.sadd (s := [108]) (t := decL s.w) rfl rfl hl1 ?_ | refine R.sadd (s := [108] ++ decL s.w) (t := decL s.e) rfl rfl hl2 ?_ | refine R.bsl (f := enI) [0, s.e, 0, s.w] rfl rfl rfl rfl rfl ?_ | refine R.bld rfl rfl ?_ | refine R.bslA (f := enTile) [tileS s] rfl rfl rfl rfl rfl rfl ?_ | refine R.appN (f := enTile) rfl rfl rfl rfl rfl hap ?_ | refine R.stoB rfl rfl rfl rfl ⟨rfl, rfl, Nat.le_of_ble_eq_true rfl⟩ rfl ?_); refine R.nil (R.zN (Weak.frame _ _ ?g1 ?g2 ?g3 ?g4)); (case g1 => exact ⟨rfl, rfl, rfl, rfl, rfl, rfl, rfl, rfl, rfl, rfl, rfl, rfl, rfl, rfl, rfl, rfl, rfl, rfl, rfl, rfl, rfl, rfl, rfl, rfl, rfl, rfl, rfl, rfl, rfl, rfl, rfl, rfl, rfl, rfl, rfl, rfl, rfl, rfl, trivial⟩); (case g2 => first | exact ⟨rfl, rfl, rfl, rfl, rfl, rfl, rfl, trivial⟩ | exact ⟨rfl, rfl, rfl, rfl, rfl, rfl, rfl, rfl, trivial⟩ | exact ⟨rfl, rfl, rfl, rfl, rfl, rfl, rfl, rfl, rfl, trivial⟩); (case g3 => repeat' (first | exact rfl | refine all_cons (cV_inK rfl) ?_ | refine all_cons rfl ?_)); (case g4 => exact rfl))
  case z24 =>
    intro L hc hk hd
    have f23 : L 23 = true := hd 23 (by simp)
    have f22 : L 22 = true := hc 23 22 _ _ rfl f23 (by simp)
    have f21 : L 21 = true := hc 23 21 _ _ rfl f23 (by simp)
    have f24 : L 24 = false := hk
    have f25 : L 25 = false := by cases h : L 25 with | false => rfl | true => have := hc 25 24 _ _ rfl h (by simp); rw [f24] at this; cases this
    have f26 : L 26 = false := by cases h : L 26 with | false => rfl | true => have := hc 26 25 _ _ rfl h (by simp); rw [f25] at this; cases this
    have f27 : L 27 = false := by cases h : L 27 with | false => rfl | true => have := hc 27 26 _ _ rfl h (by simp); rw [f26] at this; cases this
    have f28 : L 28 = false := by cases h : L 28 with | false => rfl | true => have := hc 28 27 _ _ rfl h (by simp); rw [f27] at this; cases this
    have f29 : L 29 = false := by cases h : L 29 with | false => rfl | true => have := hc 29 28 _ _ rfl h (by simp); rw [f28] at this; cases this
    have f30 : L 30 = false := by cases h : L 30 with | false => rfl | true => have := hc 30 24 _ _ rfl h (by simp); rw [f24] at this; cases this
    have f31 : L 31 = false := by cases h : L 31 with | false => rfl | true => have := hc 31 24 _ _ rfl h (by simp); rw [f24] at this; cases this
    show WL _ _ [] (fun _ s' => Weak s' (zS pl st i s ms ts (L 0) (L 1) (L 2) (L 3) (L 4) (L 5) (L 6) (L 7) (L 8) (L 9) (L 10) (L 11) (L 12) (L 13) (L 14) (L 15) (L 16) (L 17) (L 18) (L 19) (L 20) (L 21) (L 22) (L 23) true (L 25) (L 26) (L 27) (L 28) (L 29) (L 30) (L 31))) (zS pl st i s ms ts (L 0) (L 1) (L 2) (L 3) (L 4) (L 5) (L 6) (L 7) (L 8) (L 9) (L 10) (L 11) (L 12) (L 13) (L 14) (L 15) (L 16) (L 17) (L 18) (L 19) (L 20) (L 21) (L 22) (L 23) (L 24) (L 25) (L 26) (L 27) (L 28) (L 29) (L 30) (L 31))
    rw [f21]
    rw [f22]
    rw [f23]
    rw [f24]
    rw [f25]
    rw [f26]
    rw [f27]
    rw [f28]
    rw [f29]
    rw [f30]
    rw [f31]
    generalize L 0 = b0
    generalize L 1 = b1
    generalize L 2 = b2
    generalize L 3 = b3
    generalize L 4 = b4
    generalize L 5 = b5
    generalize L 6 = b6
    generalize L 7 = b7
    generalize L 8 = b8
    generalize L 9 = b9
    generalize L 10 = b10
    generalize L 11 = b11
    generalize L 12 = b12
    generalize L 13 = b13
    generalize L 14 = b14
    generalize L 15 = b15
    generalize L 16 = b16
    generalize L 17 = b17
    generalize L 18 = b18
    generalize L 19 = b19
    generalize L 20 = b20
    clear f21 f22 f23 f24 f25 f26 f27 f28 f29 f30 f31 hd hk hc L
    (unfold zS; repeat' (first | refine R.ixK s hix rfl rfl rfl ?_ | refine R.mv rfl ?_ | refine R.fa rfl rfl ?_ | refine R.ld rfl rfl rfl ?_ | refine R.call (bor := false) rfl rfl hDw rfl rfl rfl ?_ | refine R.call (bor := false) rfl rfl hDe rfl rfl rfl ?_ | refine R.sadd (s := [108]) (t := decL s.w) rfl rfl hl1 ?_ | refine R.sadd (s := [108] ++ decL s.w) (t := decL s.e) rfl rfl hl2 ?_ | refine R.bsl (f := enI) [0, s.e, 0, s.w] rfl rfl rfl rfl rfl ?_ | refine R.bld rfl rfl ?_ | refine R.bslA (f := enTile) [tileS s] rfl rfl rfl rfl rfl rfl ?_ | refine R.appN (f := enTile) rfl rfl rfl rfl rfl hap ?_ | refine R.stoB rfl rfl rfl rfl ⟨rfl, rfl, Nat.le_of_ble_eq_true rfl⟩ rfl ?_); refine R.nil (R.zN (Weak.frame _ _ ?g1 ?g2 ?g3 ?g4)); (case g1 => exact ⟨rfl, rfl, rfl, rfl, rfl, rfl, rfl, rfl, rfl, rfl, rfl, rfl, rfl, rfl, rfl, rfl, rfl, rfl, rfl, rfl, rfl, rfl, rfl, rfl, rfl, rfl, rfl, rfl, rfl, rfl, rfl, rfl, rfl, rfl, rfl, rfl, rfl, rfl, trivial⟩); (case g2 => first | exact ⟨rfl, rfl, rfl, rfl, rfl, rfl, rfl, trivial⟩ | exact ⟨rfl, rfl, rfl, rfl, rfl, rfl, rfl, rfl, trivial⟩ | exact ⟨rfl, rfl, rfl, rfl, rfl, rfl, rfl, rfl, rfl, trivial⟩); (case g3 => repeat' (first | exact rfl | refine all_cons (cV_inK rfl) ?_ | refine all_cons rfl ?_)); (case g4 => exact rfl))
  case z25 =>
    intro L hc hk hd
    have f24 : L 24 = true := hd 24 (by simp)
    have f23 : L 23 = true := hc 24 23 _ _ rfl f24 (by simp)
    have f22 : L 22 = true := hc 23 22 _ _ rfl f23 (by simp)
    have f21 : L 21 = true := hc 23 21 _ _ rfl f23 (by simp)
    have f25 : L 25 = false := hk
    have f26 : L 26 = false := by cases h : L 26 with | false => rfl | true => have := hc 26 25 _ _ rfl h (by simp); rw [f25] at this; cases this
    have f27 : L 27 = false := by cases h : L 27 with | false => rfl | true => have := hc 27 26 _ _ rfl h (by simp); rw [f26] at this; cases this
    have f28 : L 28 = false := by cases h : L 28 with | false => rfl | true => have := hc 28 27 _ _ rfl h (by simp); rw [f27] at this; cases this
    have f29 : L 29 = false := by cases h : L 29 with | false => rfl | true => have := hc 29 28 _ _ rfl h (by simp); rw [f28] at this; cases this
    have f30 : L 30 = false := by cases h : L 30 with | false => rfl | true => have := hc 30 25 _ _ rfl h (by simp); rw [f25] at this; cases this
    have f31 : L 31 = false := by cases h : L 31 with | false => rfl | true => have := hc 31 25 _ _ rfl h (by simp); rw [f25] at this; cases this
    show WL _ _ [] (fun _ s' => Weak s' (zS pl st i s ms ts (L 0) (L 1) (L 2) (L 3) (L 4) (L 5) (L 6) (L 7) (L 8) (L 9) (L 10) (L 11) (L 12) (L 13) (L 14) (L 15) (L 16) (L 17) (L 18) (L 19) (L 20) (L 21) (L 22) (L 23) (L 24) true (L 26) (L 27) (L 28) (L 29) (L 30) (L 31))) (zS pl st i s ms ts (L 0) (L 1) (L 2) (L 3) (L 4) (L 5) (L 6) (L 7) (L 8) (L 9) (L 10) (L 11) (L 12) (L 13) (L 14) (L 15) (L 16) (L 17) (L 18) (L 19) (L 20) (L 21) (L 22) (L 23) (L 24) (L 25) (L 26) (L 27) (L 28) (L 29) (L 30) (L 31))
    rw [f21]
    rw [f22]
    rw [f23]
    rw [f24]
    rw [f25]
    rw [f26]
    rw [f27]
    rw [f28]
    rw [f29]
    rw [f30]
    rw [f31]
    generalize L 0 = b0
    generalize L 1 = b1
    generalize L 2 = b2
    generalize L 3 = b3
    generalize L 4 = b4
    generalize L 5 = b5
    generalize L 6 = b6
    generalize L 7 = b7
    generalize L 8 = b8
    generalize L 9 = b9
    generalize L 10 = b10
    generalize L 11 = b11
    generalize L 12 = b12
    generalize L 13 = b13
    generalize L 14 = b14
    generalize L 15 = b15
    generalize L 16 = b16
    generalize L 17 = b17
    generalize L 18 = b18
    generalize L 19 = b19
    generalize L 20 = b20
    clear f21 f22 f23 f24 f25 f26 f27 f28 f29 f30 f31 hd hk hc L
    (unfold zS; repeat' (first | refine R.ixK s hix rfl rfl rfl ?_ | refine R.mv rfl ?_ | refine R.fa rfl rfl ?_ | refine R.ld rfl rfl rfl ?_ | refine R.call (bor := false) rfl rfl hDw rfl rfl rfl ?_ | refine R.call (bor := false) rfl rfl hDe rfl rfl rfl ?_ | refine R.sadd (s := [108]) (t := decL s.w) rfl rfl hl1 ?_ | refine R.sadd (s := [108] ++ decL s.w) (t := decL s.e) rfl rfl hl2 ?_ | refine R.bsl (f := enI) [0, s.e, 0, s.w] rfl rfl rfl rfl rfl ?_ | refine R.bld rfl rfl ?_ | refine R.bslA (f := enTile) [tileS s] rfl rfl rfl rfl rfl rfl ?_ | refine R.appN (f := enTile) rfl rfl rfl rfl rfl hap ?_ | refine R.stoB rfl rfl rfl rfl ⟨rfl, rfl, Nat.le_of_ble_eq_true rfl⟩ rfl ?_); refine R.nil (R.zN (Weak.frame _ _ ?g1 ?g2 ?g3 ?g4)); (case g1 => exact ⟨rfl, rfl, rfl, rfl, rfl, rfl, rfl, rfl, rfl, rfl, rfl, rfl, rfl, rfl, rfl, rfl, rfl, rfl, rfl, rfl, rfl, rfl, rfl, rfl, rfl, rfl, rfl, rfl, rfl, rfl, rfl, rfl, rfl, rfl, rfl, rfl, rfl, rfl, trivial⟩); (case g2 => first | exact ⟨rfl, rfl, rfl, rfl, rfl, rfl, rfl, trivial⟩ | exact ⟨rfl, rfl, rfl, rfl, rfl, rfl, rfl, rfl, trivial⟩ | exact ⟨rfl, rfl, rfl, rfl, rfl, rfl, rfl, rfl, rfl, trivial⟩); (case g3 => repeat' (first | exact rfl | refine all_cons (cV_inK rfl) ?_ | refine all_cons rfl ?_)); (case g4 => exact rfl))
  case z26 =>
    intro L hc hk hd
    have f20 : L 20 = true := hd 20 (by simp)
    have f25 : L 25 = true := hd 25 (by simp)
    have f24 : L 24 = true := hc 25 24 _ _ rfl f25 (by simp)
    have f23 : L 23 = true := hc 24 23 _ _ rfl f24 (by simp)
    have f22 : L 22 = true := hc 23 22 _ _ rfl f23 (by simp)
    have f21 : L 21 = true := hc 23 21 _ _ rfl f23 (by simp)
    have f19 : L 19 = true := hc 20 19 _ _ rfl f20 (by simp)
    have f18 : L 18 = true := hc 19 18 _ _ rfl f19 (by simp)
    have f17 : L 17 = true := hc 18 17 _ _ rfl f18 (by simp)
    have f16 : L 16 = true := hc 18 16 _ _ rfl f18 (by simp)
    have f26 : L 26 = false := hk
    have f27 : L 27 = false := by cases h : L 27 with | false => rfl | true => have := hc 27 26 _ _ rfl h (by simp); rw [f26] at this; cases this
    have f28 : L 28 = false := by cases h : L 28 with | false => rfl | true => have := hc 28 27 _ _ rfl h (by simp); rw [f27] at this; cases this
    have f29 : L 29 = false := by cases h : L 29 with | false => rfl | true => have := hc 29 28 _ _ rfl h (by simp); rw [f28] at this; cases this
    have f30 : L 30 = false := by cases h : L 30 with | false => rfl | true => have := hc 30 26 _ _ rfl h (by simp); rw [f26] at this; cases this
    have f31 : L 31 = false := by cases h : L 31 with | false => rfl | true => have := hc 31 26 _ _ rfl h (by simp); rw [f26] at this; cases this
    show WL _ _ [] (fun _ s' => Weak s' (zS pl st i s ms ts (L 0) (L 1) (L 2) (L 3) (L 4) (L 5) (L 6) (L 7) (L 8) (L 9) (L 10) (L 11) (L 12) (L 13) (L 14) (L 15) (L 16) (L 17) (L 18) (L 19) (L 20) (L 21) (L 22) (L 23) (L 24) (L 25) true (L 27) (L 28) (L 29) (L 30) (L 31))) (zS pl st i s ms ts (L 0) (L 1) (L 2) (L 3) (L 4) (L 5) (L 6) (L 7) (L 8) (L 9) (L 10) (L 11) (L 12) (L 13) (L 14) (L 15) (L 16) (L 17) (L 18) (L 19) (L 20) (L 21) (L 22) (L 23) (L 24) (L 25) (L 26) (L 27) (L 28) (L 29) (L 30) (L 31))
    rw [f16]
    rw [f17]
    rw [f18]
    rw [f19]
    rw [f20]
    rw [f21]
    rw [f22]
    rw [f23]
    rw [f24]
    rw [f25]
    rw [f26]
    rw [f27]
    rw [f28]
    rw [f29]
    rw [f30]
    rw [f31]
    generalize L 0 = b0
    generalize L 1 = b1
    generalize L 2 = b2
    generalize L 3 = b3
    generalize L 4 = b4
    generalize L 5 = b5
    generalize L 6 = b6
    generalize L 7 = b7
    generalize L 8 = b8
    generalize L 9 = b9
    generalize L 10 = b10
    generalize L 11 = b11
    generalize L 12 = b12
    generalize L 13 = b13
    generalize L 14 = b14
    generalize L 15 = b15
    clear f16 f17 f18 f19 f20 f21 f22 f23 f24 f25 f26 f27 f28 f29 f30 f31 hd hk hc L
    (unfold zS; repeat' (first | refine R.ixK s hix rfl rfl rfl ?_ | refine R.mv rfl ?_ | refine R.fa rfl rfl ?_ | refine R.ld rfl rfl rfl ?_ | refine R.call (bor := false) rfl rfl hDw rfl rfl rfl ?_ | refine R.call (bor := false) rfl rfl hDe rfl rfl rfl ?_ | refine R.sadd (s := [108]) (t := decL s.w) rfl rfl hl1 ?_ | refine R.sadd (s := [108] ++ decL s.w) (t := decL s.e) rfl rfl hl2 ?_ | refine R.bsl (f := enI) [0, s.e, 0, s.w] rfl rfl rfl rfl rfl ?_ | refine R.bld rfl rfl ?_ | refine R.bslA (f := enTile) [tileS s] rfl rfl rfl rfl rfl rfl ?_ | refine R.appN (f := enTile) rfl rfl rfl rfl rfl hap ?_ | refine R.stoB rfl rfl rfl rfl ⟨rfl, rfl, Nat.le_of_ble_eq_true rfl⟩ rfl ?_); refine R.nil (R.zN (Weak.frame _ _ ?g1 ?g2 ?g3 ?g4)); (case g1 => exact ⟨rfl, rfl, rfl, rfl, rfl, rfl, rfl, rfl, rfl, rfl, rfl, rfl, rfl, rfl, rfl, rfl, rfl, rfl, rfl, rfl, rfl, rfl, rfl, rfl, rfl, rfl, rfl, rfl, rfl, rfl, rfl, rfl, rfl, rfl, rfl, rfl, rfl, rfl, trivial⟩); (case g2 => first | exact ⟨rfl, rfl, rfl, rfl, rfl, rfl, rfl, trivial⟩ | exact ⟨rfl, rfl, rfl, rfl, rfl, rfl, rfl, rfl, trivial⟩ | exact ⟨rfl, rfl, rfl, rfl, rfl, rfl, rfl, rfl, rfl, trivial⟩); (case g3 => repeat' (first | exact rfl | refine all_cons (cV_inK rfl) ?_ | refine all_cons rfl ?_)); (case g4 => exact rfl))
  case z27 =>
    intro L hc hk hd
    have f15 : L 15 = true := hd 15 (by simp)
    have f26 : L 26 = true := hd 26 (by simp)
    have f25 : L 25 = true := hc 26 25 _ _ rfl f26 (by simp)
    have f24 : L 24 = true := hc 25 24 _ _ rfl f25 (by simp)
    have f23 : L 23 = true := hc 24 23 _ _ rfl f24 (by simp)
    have f22 : L 22 = true := hc 23 22 _ _ rfl f23 (by simp)
    have f21 : L 21 = true := hc 23 21 _ _ rfl f23 (by simp)
    have f20 : L 20 = true := hc 26 20 _ _ rfl f26 (by simp)
    have f19 : L 19 = true := hc 20 19 _ _ rfl f20 (by simp)
    have f18 : L 18 = true := hc 19 18 _ _ rfl f19 (by simp)
    have f17 : L 17 = true := hc 18 17 _ _ rfl f18 (by simp)
    have f16 : L 16 = true := hc 18 16 _ _ rfl f18 (by simp)
    have f14 : L 14 = true := hc 15 14 _ _ rfl f15 (by simp)
    have f13 : L 13 = true := hc 14 13 _ _ rfl f14 (by simp)
    have f12 : L 12 = true := hc 13 12 _ _ rfl f13 (by simp)
    have f11 : L 11 = true := hc 12 11 _ _ rfl f12 (by simp)
    have f10 : L 10 = true := hc 11 10 _ _ rfl f11 (by simp)
    have f9 : L 9 = true := hc 11 9 _ _ rfl f11 (by simp)
    have f8 : L 8 = true := hc 15 8 _ _ rfl f15 (by simp)
    have f7 : L 7 = true := hc 14 7 _ _ rfl f14 (by simp)
    have f6 : L 6 = true := hc 7 6 _ _ rfl f7 (by simp)
    have f5 : L 5 = true := hc 6 5 _ _ rfl f6 (by simp)
    have f4 : L 4 = true := hc 5 4 _ _ rfl f5 (by simp)
    have f3 : L 3 = true := hc 4 3 _ _ rfl f4 (by simp)
    have f2 : L 2 = true := hc 4 2 _ _ rfl f4 (by simp)
    have f27 : L 27 = false := hk
    have f28 : L 28 = false := by cases h : L 28 with | false => rfl | true => have := hc 28 27 _ _ rfl h (by simp); rw [f27] at this; cases this
    have f29 : L 29 = false := by cases h : L 29 with | false => rfl | true => have := hc 29 28 _ _ rfl h (by simp); rw [f28] at this; cases this
    have f30 : L 30 = false := by cases h : L 30 with | false => rfl | true => have := hc 30 27 _ _ rfl h (by simp); rw [f27] at this; cases this
    have f31 : L 31 = false := by cases h : L 31 with | false => rfl | true => have := hc 31 27 _ _ rfl h (by simp); rw [f27] at this; cases this
    show WL _ _ [] (fun _ s' => Weak s' (zS pl st i s ms ts (L 0) (L 1) (L 2) (L 3) (L 4) (L 5) (L 6) (L 7) (L 8) (L 9) (L 10) (L 11) (L 12) (L 13) (L 14) (L 15) (L 16) (L 17) (L 18) (L 19) (L 20) (L 21) (L 22) (L 23) (L 24) (L 25) (L 26) true (L 28) (L 29) (L 30) (L 31))) (zS pl st i s ms ts (L 0) (L 1) (L 2) (L 3) (L 4) (L 5) (L 6) (L 7) (L 8) (L 9) (L 10) (L 11) (L 12) (L 13) (L 14) (L 15) (L 16) (L 17) (L 18) (L 19) (L 20) (L 21) (L 22) (L 23) (L 24) (L 25) (L 26) (L 27) (L 28) (L 29) (L 30) (L 31))
    rw [f2]
    rw [f3]
    rw [f4]
    rw [f5]
    rw [f6]
    rw [f7]
    rw [f8]
    rw [f9]
    rw [f10]
    rw [f11]
    rw [f12]
    rw [f13]
    rw [f14]
    rw [f15]
    rw [f16]
    rw [f17]
    rw [f18]
    rw [f19]
    rw [f20]
    rw [f21]
    rw [f22]
    rw [f23]
    rw [f24]
    rw [f25]
    rw [f26]
    rw [f27]
    rw [f28]
    rw [f29]
    rw [f30]
    rw [f31]
    generalize L 0 = b0
    generalize L 1 = b1
    clear f2 f3 f4 f5 f6 f7 f8 f9 f10 f11 f12 f13 f14 f15 f16 f17 f18 f19 f20 f21 f22 f23 f24 f25 f26 f27 f28 f29 f30 f31 hd hk hc L
    (unfold zS; repeat' (first | refine R.ixK s hix rfl rfl rfl ?_ | refine R.mv rfl ?_ | refine R.fa rfl rfl ?_ | refine R.ld rfl rfl rfl ?_ | refine R.call (bor := false) rfl rfl hDw rfl rfl rfl ?_ | refine R.call (bor := false) rfl rfl hDe rfl rfl rfl ?_ | refine R.sadd (s := [108]) (t := decL s.w) rfl rfl hl1 ?_ | refine R.sadd (s := [108] ++ decL s.w) (t := decL s.e) rfl rfl hl2 ?_ | refine R.bsl (f := enI) [0, s.e, 0, s.w] rfl rfl rfl rfl rfl ?_ | refine R.bld rfl rfl ?_ | refine R.bslA (f := enTile) [tileS s] rfl rfl rfl rfl rfl rfl ?_ | refine R.appN (f := enTile) rfl rfl rfl rfl rfl hap ?_ | refine R.stoB rfl rfl rfl rfl ⟨rfl, rfl, Nat.le_of_ble_eq_true rfl⟩ rfl ?_); refine R.nil (R.zN (Weak.frame _ _ ?g1 ?g2 ?g3 ?g4)); (case g1 => exact ⟨rfl, rfl, rfl, rfl, rfl, rfl, rfl, rfl, rfl, rfl, rfl, rfl, rfl, rfl, rfl, rfl, rfl, rfl, rfl, rfl, rfl, rfl, rfl, rfl, rfl, rfl, rfl, rfl, rfl, rfl, rfl, rfl, rfl, rfl, rfl, rfl, rfl, rfl, trivial⟩); (case g2 => first | exact ⟨rfl, rfl, rfl, rfl, rfl, rfl, rfl, trivial⟩ | exact ⟨rfl, rfl, rfl, rfl, rfl, rfl, rfl, rfl, trivial⟩ | exact ⟨rfl, rfl, rfl, rfl, rfl, rfl, rfl, rfl, rfl, trivial⟩); (case g3 => repeat' (first | exact rfl | refine all_cons (cV_inK rfl) ?_ | refine all_cons rfl ?_)); (case g4 => exact rfl))
  case z28 =>
    intro L hc hk hd
    have f27 : L 27 = true := hd 27 (by simp)
    have f26 : L 26 = true := hc 27 26 _ _ rfl f27 (by simp)
    have f25 : L 25 = true := hc 26 25 _ _ rfl f26 (by simp)
    have f24 : L 24 = true := hc 25 24 _ _ rfl f25 (by simp)
    have f23 : L 23 = true := hc 24 23 _ _ rfl f24 (by simp)
    have f22 : L 22 = true := hc 23 22 _ _ rfl f23 (by simp)
    have f21 : L 21 = true := hc 23 21 _ _ rfl f23 (by simp)
    have f20 : L 20 = true := hc 26 20 _ _ rfl f26 (by simp)
    have f19 : L 19 = true := hc 20 19 _ _ rfl f20 (by simp)
    have f18 : L 18 = true := hc 19 18 _ _ rfl f19 (by simp)
    have f17 : L 17 = true := hc 18 17 _ _ rfl f18 (by simp)
    have f16 : L 16 = true := hc 18 16 _ _ rfl f18 (by simp)
    have f15 : L 15 = true := hc 27 15 _ _ rfl f27 (by simp)
    have f14 : L 14 = true := hc 15 14 _ _ rfl f15 (by simp)
    have f13 : L 13 = true := hc 14 13 _ _ rfl f14 (by simp)
    have f12 : L 12 = true := hc 13 12 _ _ rfl f13 (by simp)
    have f11 : L 11 = true := hc 12 11 _ _ rfl f12 (by simp)
    have f10 : L 10 = true := hc 11 10 _ _ rfl f11 (by simp)
    have f9 : L 9 = true := hc 11 9 _ _ rfl f11 (by simp)
    have f8 : L 8 = true := hc 15 8 _ _ rfl f15 (by simp)
    have f7 : L 7 = true := hc 14 7 _ _ rfl f14 (by simp)
    have f6 : L 6 = true := hc 7 6 _ _ rfl f7 (by simp)
    have f5 : L 5 = true := hc 6 5 _ _ rfl f6 (by simp)
    have f4 : L 4 = true := hc 5 4 _ _ rfl f5 (by simp)
    have f3 : L 3 = true := hc 4 3 _ _ rfl f4 (by simp)
    have f2 : L 2 = true := hc 4 2 _ _ rfl f4 (by simp)
    have f28 : L 28 = false := hk
    have f29 : L 29 = false := by cases h : L 29 with | false => rfl | true => have := hc 29 28 _ _ rfl h (by simp); rw [f28] at this; cases this
    have f30 : L 30 = false := by cases h : L 30 with | false => rfl | true => have := hc 30 28 _ _ rfl h (by simp); rw [f28] at this; cases this
    have f31 : L 31 = false := by cases h : L 31 with | false => rfl | true => have := hc 31 28 _ _ rfl h (by simp); rw [f28] at this; cases this
    show WL _ _ [] (fun _ s' => Weak s' (zS pl st i s ms ts (L 0) (L 1) (L 2) (L 3) (L 4) (L 5) (L 6) (L 7) (L 8) (L 9) (L 10) (L 11) (L 12) (L 13) (L 14) (L 15) (L 16) (L 17) (L 18) (L 19) (L 20) (L 21) (L 22) (L 23) (L 24) (L 25) (L 26) (L 27) true (L 29) (L 30) (L 31))) (zS pl st i s ms ts (L 0) (L 1) (L 2) (L 3) (L 4) (L 5) (L 6) (L 7) (L 8) (L 9) (L 10) (L 11) (L 12) (L 13) (L 14) (L 15) (L 16) (L 17) (L 18) (L 19) (L 20) (L 21) (L 22) (L 23) (L 24) (L 25) (L 26) (L 27) (L 28) (L 29) (L 30) (L 31))
    rw [f2]
    rw [f3]
    rw [f4]
    rw [f5]
    rw [f6]
    rw [f7]
    rw [f8]
    rw [f9]
    rw [f10]
    rw [f11]
    rw [f12]
    rw [f13]
    rw [f14]
    rw [f15]
    rw [f16]
    rw [f17]
    rw [f18]
    rw [f19]
    rw [f20]
    rw [f21]
    rw [f22]
    rw [f23]
    rw [f24]
    rw [f25]
    rw [f26]
    rw [f27]
    rw [f28]
    rw [f29]
    rw [f30]
    rw [f31]
    generalize L 0 = b0
    generalize L 1 = b1
    clear f2 f3 f4 f5 f6 f7 f8 f9 f10 f11 f12 f13 f14 f15 f16 f17 f18 f19 f20 f21 f22 f23 f24 f25 f26 f27 f28 f29 f30 f31 hd hk hc L
    cases b0 <;> cases b1 <;> (unfold zS; repeat' (first | refine R.ixK s hix rfl rfl rfl ?_ | refine R.mv rfl ?_ | refine R.fa rfl rfl ?_ | refine R.ld rfl rfl rfl ?_ | refine R.call (bor := false) rfl rfl hDw rfl rfl rfl ?_ | refine R.call (bor := false) rfl rfl hDe rfl rfl rfl ?_ | refine R.sadd (s := [108]) (t := decL s.w) rfl rfl hl1 ?_ | refine R.sadd (s := [108] ++ decL s.w) (t := decL s.e) rfl rfl hl2 ?_ | refine R.bsl (f := enI) [0, s.e, 0, s.w] rfl rfl rfl rfl rfl ?_ | refine R.bld rfl rfl ?_ | refine R.bslA (f := enTile) [tileS s] rfl rfl rfl rfl rfl rfl ?_ | refine R.appN (f := enTile) rfl rfl rfl rfl rfl hap ?_ | refine R.stoB rfl rfl rfl rfl ⟨rfl, rfl, Nat.le_of_ble_eq_true rfl⟩ rfl ?_); refine R.nil (R.zN (Weak.frame _ _ ?g1 ?g2 ?g3 ?g4)); (case g1 => exact ⟨rfl, rfl, rfl, rfl, rfl, rfl, rfl, rfl, rfl, rfl, rfl, rfl, rfl, rfl, rfl, rfl, rfl, rfl, rfl, rfl, rfl, rfl, rfl, rfl, rfl, rfl, rfl, rfl, rfl, rfl, rfl, rfl, rfl, rfl, rfl, rfl, rfl, rfl, trivial⟩); (case g2 => first | exact ⟨rfl, rfl, rfl, rfl, rfl, rfl, rfl, trivial⟩ | exact ⟨rfl, rfl, rfl, rfl, rfl, rfl, rfl, rfl, trivial⟩ | exact ⟨rfl, rfl, rfl, rfl, rfl, rfl, rfl, rfl, rfl, trivial⟩); (case g3 => repeat' (first | exact rfl | refine all_cons (cV_inK rfl) ?_ | refine all_cons rfl ?_)); (case g4 => exact rfl))
  case z29 =>
    intro L hc hk hd
    have f1 : L 1 = true := hd 1 (by simp)
    have f14 : L 14 = true := hd 14 (by simp)
    have f28 : L 28 = true := hd 28 (by simp)
    have f27 : L 27 = true := hc 28 27 _ _ rfl f28 (by simp)
    have f26 : L 26 = true := hc 27 26 _ _ rfl f27 (by simp)
    have f25 : L 25 = true := hc 26 25 _ _ rfl f26 (by simp)
    have f24 : L 24 = true := hc 25 24 _ _ rfl f25 (by simp)
    have f23 : L 23 = true := hc 24 23 _ _ rfl f24 (by simp)
    have f22 : L 22 = true := hc 23 22 _ _ rfl f23 (by simp)
    have f21 : L 21 = true := hc 23 21 _ _ rfl f23 (by simp)
    have f20 : L 20 = true := hc 26 20 _ _ rfl f26 (by simp)
    have f19 : L 19 = true := hc 20 19 _ _ rfl f20 (by simp)
    have f18 : L 18 = true := hc 19 18 _ _ rfl f19 (by simp)
    have f17 : L 17 = true := hc 18 17 _ _ rfl f18 (by simp)
    have f16 : L 16 = true := hc 18 16 _ _ rfl f18 (by simp)
    have f15 : L 15 = true := hc 27 15 _ _ rfl f27 (by simp)
    have f13 : L 13 = true := hc 14 13 _ _ rfl f14 (by simp)
    have f12 : L 12 = true := hc 13 12 _ _ rfl f13 (by simp)
    have f11 : L 11 = true := hc 12 11 _ _ rfl f12 (by simp)
    have f10 : L 10 = true := hc 11 10 _ _ rfl f11 (by simp)
    have f9 : L 9 = true := hc 11 9 _ _ rfl f11 (by simp)
    have f8 : L 8 = true := hc 15 8 _ _ rfl f15 (by simp)
    have f7 : L 7 = true := hc 14 7 _ _ rfl f14 (by simp)
    have f6 : L 6 = true := hc 7 6 _ _ rfl f7 (by simp)
    have f5 : L 5 = true := hc 6 5 _ _ rfl f6 (by simp)
    have f4 : L 4 = true := hc 5 4 _ _ rfl f5 (by simp)
    have f3 : L 3 = true := hc 4 3 _ _ rfl f4 (by simp)
    have f2 : L 2 = true := hc 4 2 _ _ rfl f4 (by simp)
    have f0 : L 0 = true := hc 1 0 _ _ rfl f1 (by simp)
    have f29 : L 29 = false := hk
    have f30 : L 30 = false := by cases h : L 30 with | false => rfl | true => have := hc 30 29 _ _ rfl h (by simp); rw [f29] at this; cases this
    have f31 : L 31 = false := by cases h : L 31 with | false => rfl | true => have := hc 31 29 _ _ rfl h (by simp); rw [f29] at this; cases this
    show WL _ _ [] (fun _ s' => Weak s' (zS pl st i s ms ts (L 0) (L 1) (L 2) (L 3) (L 4) (L 5) (L 6) (L 7) (L 8) (L 9) (L 10) (L 11) (L 12) (L 13) (L 14) (L 15) (L 16) (L 17) (L 18) (L 19) (L 20) (L 21) (L 22) (L 23) (L 24) (L 25) (L 26) (L 27) (L 28) true (L 30) (L 31))) (zS pl st i s ms ts (L 0) (L 1) (L 2) (L 3) (L 4) (L 5) (L 6) (L 7) (L 8) (L 9) (L 10) (L 11) (L 12) (L 13) (L 14) (L 15) (L 16) (L 17) (L 18) (L 19) (L 20) (L 21) (L 22) (L 23) (L 24) (L 25) (L 26) (L 27) (L 28) (L 29) (L 30) (L 31))
    rw [f0]
    rw [f1]
    rw [f2]
    rw [f3]
    rw [f4]
    rw [f5]
    rw [f6]
    rw [f7]
    rw [f8]
    rw [f9]
    rw [f10]
    rw [f11]
    rw [f12]
    rw [f13]
    rw [f14]
    rw [f15]
    rw [f16]
    rw [f17]
    rw [f18]
    rw [f19]
    rw [f20]
    rw [f21]
    rw [f22]
    rw [f23]
    rw [f24]
    rw [f25]
    rw [f26]
    rw [f27]
    rw [f28]
    rw [f29]
    rw [f30]
    rw [f31]
    clear f0 f1 f2 f3 f4 f5 f6 f7 f8 f9 f10 f11 f12 f13 f14 f15 f16 f17 f18 f19 f20 f21 f22 f23 f24 f25 f26 f27 f28 f29 f30 f31 hd hk hc L
    (unfold zS; repeat' (first | refine R.ixK s hix rfl rfl rfl ?_ | refine R.mv rfl ?_ | refine R.fa rfl rfl ?_ | refine R.ld rfl rfl rfl ?_ | refine R.call (bor := false) rfl rfl hDw rfl rfl rfl ?_ | refine R.call (bor := false) rfl rfl hDe rfl rfl rfl ?_ | refine R.sadd (s := [108]) (t := decL s.w) rfl rfl hl1 ?_ | refine R.sadd (s := [108] ++ decL s.w) (t := decL s.e) rfl rfl hl2 ?_ | refine R.bsl (f := enI) [0, s.e, 0, s.w] rfl rfl rfl rfl rfl ?_ | refine R.bld rfl rfl ?_ | refine R.bslA (f := enTile) [tileS s] rfl rfl rfl rfl rfl rfl ?_ | refine R.appN (f := enTile) rfl rfl rfl rfl rfl hap ?_ | refine R.stoB rfl rfl rfl rfl ⟨rfl, rfl, Nat.le_of_ble_eq_true rfl⟩ rfl ?_); refine R.nil (R.zN (Weak.frame _ _ ?g1 ?g2 ?g3 ?g4)); (case g1 => exact ⟨rfl, rfl, rfl, rfl, rfl, rfl, rfl, rfl, rfl, rfl, rfl, rfl, rfl, rfl, rfl, rfl, rfl, rfl, rfl, rfl, rfl, rfl, rfl, rfl, rfl, rfl, rfl, rfl, rfl, rfl, rfl, rfl, rfl, rfl, rfl, rfl, rfl, rfl, trivial⟩); (case g2 => first | exact ⟨rfl, rfl, rfl, rfl, rfl, rfl, rfl, trivial⟩ | exact ⟨rfl, rfl, rfl, rfl, rfl, rfl, rfl, rfl, trivial⟩ | exact ⟨rfl, rfl, rfl, rfl, rfl, rfl, rfl, rfl, rfl, trivial⟩); (case g3 => repeat' (first | exact rfl | refine all_cons (cV_inK rfl) ?_ | refine all_cons rfl ?_)); (case g4 => exact rfl))
  case z30 =>
    intro L hc hk hd
    have f0 : L 0 = true := hd 0 (by simp)
    have f1 : L 1 = true := hd 1 (by simp)
    have f2 : L 2 = true := hd 2 (by simp)
    have f3 : L 3 = true := hd 3 (by simp)
    have f4 : L 4 = true := hd 4 (by simp)
    have f5 : L 5 = true := hd 5 (by simp)
    have f6 : L 6 = true := hd 6 (by simp)
    have f7 : L 7 = true := hd 7 (by simp)
    have f8 : L 8 = true := hd 8 (by simp)
    have f9 : L 9 = true := hd 9 (by simp)
    have f10 : L 10 = true := hd 10 (by simp)
    have f11 : L 11 = true := hd 11 (by simp)
    have f12 : L 12 = true := hd 12 (by simp)
    have f13 : L 13 = true := hd 13 (by simp)
    have f14 : L 14 = true := hd 14 (by simp)
    have f15 : L 15 = true := hd 15 (by simp)
    have f16 : L 16 = true := hd 16 (by simp)
    have f17 : L 17 = true := hd 17 (by simp)
    have f18 : L 18 = true := hd 18 (by simp)
    have f19 : L 19 = true := hd 19 (by simp)
    have f20 : L 20 = true := hd 20 (by simp)
    have f21 : L 21 = true := hd 21 (by simp)
    have f22 : L 22 = true := hd 22 (by simp)
    have f23 : L 23 = true := hd 23 (by simp)
    have f24 : L 24 = true := hd 24 (by simp)
    have f25 : L 25 = true := hd 25 (by simp)
    have f26 : L 26 = true := hd 26 (by simp)
    have f27 : L 27 = true := hd 27 (by simp)
    have f28 : L 28 = true := hd 28 (by simp)
    have f29 : L 29 = true := hd 29 (by simp)
    have f30 : L 30 = false := hk
    have f31 : L 31 = false := by cases h : L 31 with | false => rfl | true => have := hc 31 30 _ _ rfl h (by simp); rw [f30] at this; cases this
    show WL _ _ [] (fun _ s' => Weak s' (zS pl st i s ms ts (L 0) (L 1) (L 2) (L 3) (L 4) (L 5) (L 6) (L 7) (L 8) (L 9) (L 10) (L 11) (L 12) (L 13) (L 14) (L 15) (L 16) (L 17) (L 18) (L 19) (L 20) (L 21) (L 22) (L 23) (L 24) (L 25) (L 26) (L 27) (L 28) (L 29) true (L 31))) (zS pl st i s ms ts (L 0) (L 1) (L 2) (L 3) (L 4) (L 5) (L 6) (L 7) (L 8) (L 9) (L 10) (L 11) (L 12) (L 13) (L 14) (L 15) (L 16) (L 17) (L 18) (L 19) (L 20) (L 21) (L 22) (L 23) (L 24) (L 25) (L 26) (L 27) (L 28) (L 29) (L 30) (L 31))
    rw [f0]
    rw [f1]
    rw [f2]
    rw [f3]
    rw [f4]
    rw [f5]
    rw [f6]
    rw [f7]
    rw [f8]
    rw [f9]
    rw [f10]
    rw [f11]
    rw [f12]
    rw [f13]
    rw [f14]
    rw [f15]
    rw [f16]
    rw [f17]
    rw [f18]
    rw [f19]
    rw [f20]
    rw [f21]
    rw [f22]
    rw [f23]
    rw [f24]
    rw [f25]
    rw [f26]
    rw [f27]
    rw [f28]
    rw [f29]
    rw [f30]
    rw [f31]
    clear f0 f1 f2 f3 f4 f5 f6 f7 f8 f9 f10 f11 f12 f13 f14 f15 f16 f17 f18 f19 f20 f21 f22 f23 f24 f25 f26 f27 f28 f29 f30 f31 hd hk hc L
    (unfold zS; repeat' (first | refine R.ixK s hix rfl rfl rfl ?_ | refine R.mv rfl ?_ | refine R.fa rfl rfl ?_ | refine R.ld rfl rfl rfl ?_ | refine R.call (bor := false) rfl rfl hDw rfl rfl rfl ?_ | refine R.call (bor := false) rfl rfl hDe rfl rfl rfl ?_ | refine R.sadd (s := [108]) (t := decL s.w) rfl rfl hl1 ?_ | refine R.sadd (s := [108] ++ decL s.w) (t := decL s.e) rfl rfl hl2 ?_ | refine R.bsl (f := enI) [0, s.e, 0, s.w] rfl rfl rfl rfl rfl ?_ | refine R.bld rfl rfl ?_ | refine R.bslA (f := enTile) [tileS s] rfl rfl rfl rfl rfl rfl ?_ | refine R.appN (f := enTile) rfl rfl rfl rfl rfl hap ?_ | refine R.stoB rfl rfl rfl rfl ⟨rfl, rfl, Nat.le_of_ble_eq_true rfl⟩ rfl ?_); refine R.nil (R.zN (Weak.frame _ _ ?g1 ?g2 ?g3 ?g4)); (case g1 => exact ⟨rfl, rfl, rfl, rfl, rfl, rfl, rfl, rfl, rfl, rfl, rfl, rfl, rfl, rfl, rfl, rfl, rfl, rfl, rfl, rfl, rfl, rfl, rfl, rfl, rfl, rfl, rfl, rfl, rfl, rfl, rfl, rfl, rfl, rfl, rfl, rfl, rfl, rfl, trivial⟩); (case g2 => first | exact ⟨rfl, rfl, rfl, rfl, rfl, rfl, rfl, trivial⟩ | exact ⟨rfl, rfl, rfl, rfl, rfl, rfl, rfl, rfl, trivial⟩ | exact ⟨rfl, rfl, rfl, rfl, rfl, rfl, rfl, rfl, rfl, trivial⟩); (case g3 => repeat' (first | exact rfl | refine all_cons (cV_inK rfl) ?_ | refine all_cons rfl ?_)); (case g4 => exact rfl))
  case z31 =>
    intro L hc hk hd
    have f0 : L 0 = true := hd 0 (by simp)
    have f1 : L 1 = true := hd 1 (by simp)
    have f2 : L 2 = true := hd 2 (by simp)
    have f3 : L 3 = true := hd 3 (by simp)
    have f4 : L 4 = true := hd 4 (by simp)
    have f5 : L 5 = true := hd 5 (by simp)
    have f6 : L 6 = true := hd 6 (by simp)
    have f7 : L 7 = true := hd 7 (by simp)
    have f8 : L 8 = true := hd 8 (by simp)
    have f9 : L 9 = true := hd 9 (by simp)
    have f10 : L 10 = true := hd 10 (by simp)
    have f11 : L 11 = true := hd 11 (by simp)
    have f12 : L 12 = true := hd 12 (by simp)
    have f13 : L 13 = true := hd 13 (by simp)
    have f14 : L 14 = true := hd 14 (by simp)
    have f15 : L 15 = true := hd 15 (by simp)
    have f16 : L 16 = true := hd 16 (by simp)
    have f17 : L 17 = true := hd 17 (by simp)
    have f18 : L 18 = true := hd 18 (by simp)
    have f19 : L 19 = true := hd 19 (by simp)
    have f20 : L 20 = true := hd 20 (by simp)
    have f21 : L 21 = true := hd 21 (by simp)
    have f22 : L 22 = true := hd 22 (by simp)
    have f23 : L 23 = true := hd 23 (by simp)
    have f24 : L 24 = true := hd 24 (by simp)
    have f25 : L 25 = true := hd 25 (by simp)
    have f26 : L 26 = true := hd 26 (by simp)
    have f27 : L 27 = true := hd 27 (by simp)
    have f28 : L 28 = true := hd 28 (by simp)
    have f29 : L 29 = true := hd 29 (by simp)
    have f30 : L 30 = true := hd 30 (by simp)
    have f31 : L 31 = false := hk
    show WL _ _ [] (fun _ s' => Weak s' (zS pl st i s ms ts (L 0) (L 1) (L 2) (L 3) (L 4) (L 5) (L 6) (L 7) (L 8) (L 9) (L 10) (L 11) (L 12) (L 13) (L 14) (L 15) (L 16) (L 17) (L 18) (L 19) (L 20) (L 21) (L 22) (L 23) (L 24) (L 25) (L 26) (L 27) (L 28) (L 29) (L 30) true)) (zS pl st i s ms ts (L 0) (L 1) (L 2) (L 3) (L 4) (L 5) (L 6) (L 7) (L 8) (L 9) (L 10) (L 11) (L 12) (L 13) (L 14) (L 15) (L 16) (L 17) (L 18) (L 19) (L 20) (L 21) (L 22) (L 23) (L 24) (L 25) (L 26) (L 27) (L 28) (L 29) (L 30) (L 31))
    rw [f0]
    rw [f1]
    rw [f2]
    rw [f3]
    rw [f4]
    rw [f5]
    rw [f6]
    rw [f7]
    rw [f8]
    rw [f9]
    rw [f10]
    rw [f11]
    rw [f12]
    rw [f13]
    rw [f14]
    rw [f15]
    rw [f16]
    rw [f17]
    rw [f18]
    rw [f19]
    rw [f20]
    rw [f21]
    rw [f22]
    rw [f23]
    rw [f24]
    rw [f25]
    rw [f26]
    rw [f27]
    rw [f28]
    rw [f29]
    rw [f30]
    rw [f31]
    clear f0 f1 f2 f3 f4 f5 f6 f7 f8 f9 f10 f11 f12 f13 f14 f15 f16 f17 f18 f19 f20 f21 f22 f23 f24 f25 f26 f27 f28 f29 f30 f31 hd hk hc L
    (unfold zS; repeat' (first | refine R.ixK s hix rfl rfl rfl ?_ | refine R.mv rfl ?_ | refine R.fa rfl rfl ?_ | refine R.ld rfl rfl rfl ?_ | refine R.call (bor := false) rfl rfl hDw rfl rfl rfl ?_ | refine R.call (bor := false) rfl rfl hDe rfl rfl rfl ?_ | refine R.sadd (s := [108]) (t := decL s.w) rfl rfl hl1 ?_ | refine R.sadd (s := [108] ++ decL s.w) (t := decL s.e) rfl rfl hl2 ?_ | refine R.bsl (f := enI) [0, s.e, 0, s.w] rfl rfl rfl rfl rfl ?_ | refine R.bld rfl rfl ?_ | refine R.bslA (f := enTile) [tileS s] rfl rfl rfl rfl rfl rfl ?_ | refine R.appN (f := enTile) rfl rfl rfl rfl rfl hap ?_ | refine R.stoB rfl rfl rfl rfl ⟨rfl, rfl, Nat.le_of_ble_eq_true rfl⟩ rfl ?_); refine R.nil (R.zN (Weak.frame _ _ ?g1 ?g2 ?g3 ?g4)); (case g1 => exact ⟨rfl, rfl, rfl, rfl, rfl, rfl, rfl, rfl, rfl, rfl, rfl, rfl, rfl, rfl, rfl, rfl, rfl, rfl, rfl, rfl, rfl, rfl, rfl, rfl, rfl, rfl, rfl, rfl, rfl, rfl, rfl, rfl, rfl, rfl, rfl, rfl, rfl, rfl, trivial⟩); (case g2 => first | exact ⟨rfl, rfl, rfl, rfl, rfl, rfl, rfl, trivial⟩ | exact ⟨rfl, rfl, rfl, rfl, rfl, rfl, rfl, rfl, trivial⟩ | exact ⟨rfl, rfl, rfl, rfl, rfl, rfl, rfl, rfl, rfl, trivial⟩); (case g3 => repeat' (first | exact rfl | refine all_cons (cV_inK rfl) ?_ | refine all_cons rfl ?_)); (case g4 => exact rfl))
theorem big_take {l : List TStrip} {i : Nat} {s : TStrip} (h : l[i]? = some s) : big (l.take (i + 1)) = (big (l.take i) || decide (1 < s.m)) := by
  unfold big
  rw [take_snoc h, List.any_append]
  simp
theorem stN_pos {n : Int} (hn : 1 ≤ n ∧ n ≤ 12) : decide (1 < n) = decide (0 < stN n) := by
  refine decide_eq_decide.2 ?_
  unfold stN
  constructor
  · intro h
    rw [if_neg (by omega)]
    repeat' split
    all_goals omega
  · intro h
    by_cases h1 : n ≤ 1
    · rw [if_pos h1] at h; omega
    · omega
theorem sPlan (n : Int) (hn : 1 ≤ n ∧ n ≤ 12) : Spec Tryd.prog 5 [vI n] (.tup [.agg [.nw kGlue ((lpSet n).fGlues.map enGlue), .nw kTile ((lpSet n).fTiles.map enTile)], .agg [.nw kRMixture ((lpPlan n).fStages.map enRMixture)], cI 0]) := by
  have hW := sIn n 1 12
  rw [show inB n 1 12 = true by simp [inB]; omega] at hW
  have hN4 := stN_le n
  have hpos := stN_pos hn
  refine Spec.walk T.mixed Tryd.func5 S.ok5 (by simp [Tryd.f5]) fun hk => ?_
  clear hk
  unfold S.s5
  repeat' (first | refine R.mv rfl ?_ | refine R.reg ?_ | refine R.tk ?_ | refine R.tkN ?_ | exact R.vac | refine R.both ?_ ?_ | refine R.nil ?_ | refine R.seq ?_ | refine R.nseq ?_ | refine R.nblk ?_ | refine R.skip ?_ | refine R.blk ?_ | refine R.exit rfl ?_ | refine R.gRun rfl ?_ | refine R.gSkip rfl ?_ | refine R.gSkip0 rfl ?_ | refine R.gUndef rfl ?_ | refine R.gUndef0 rfl ?_ | refine R.ldEp rfl rfl (by assumption) rfl rfl ?_ | refine R.ldaEp rfl rfl (by assumption) (Nat.le_of_ble_eq_true rfl) rfl rfl ?_ | refine R.ld rfl rfl rfl ?_ | refine R.lda rfl rfl (Nat.le_of_ble_eq_true rfl) rfl ?_ | refine R.fa rfl rfl ?_ | refine R.lenM rfl ?_ | refine R.lenO rfl rfl ?_ | refine R.len rfl rfl ?_ | refine R.lss rfl rfl ?_ | refine R.gtr rfl rfl ?_ | refine R.add rfl rfl (by omega) ?_ | refine R.ixN rfl rfl rfl (by omega) (fun a ha => ?_) | refine R.ixM rfl rfl rfl (by omega) (fun a ha => ?_) | refine R.ixON rfl rfl rfl (by first | omega | (simp; omega)) (fun a' ha' => ?_) | refine R.ixO rfl rfl rfl (by first | omega | (simp; omega)) (fun a' ha' => ?_) | refine R.pickT rfl rfl ?_ | refine R.pickF rfl rfl ?_ | refine R.not rfl ?_ | refine R.mvU rfl ?_ | refine R.ext rfl rfl ?_ | refine R.al rfl ?_ | refine R.stoB rfl rfl rfl rfl ⟨rfl, rfl, Nat.le_of_ble_eq_true rfl⟩ rfl ?_ | refine R.stoE _ rfl rfl rfl rfl rfl (by assumption) rfl ⟨rfl, rfl, Nat.le_of_ble_eq_true rfl⟩ ?_ | refine R.bld rfl rfl ?_ | refine R.condT rfl ?_ | refine R.condF rfl ?_ | refine R.call (bor := false) rfl rfl (hW) rfl rfl rfl ?_ | refine R.call (bor := true) rfl rfl (hW) rfl rfl rfl ?_ | refine R.fcal (bor := false) rfl rfl (hW) rfl rfl rfl ?_ | refine R.fcal (bor := true) rfl rfl (hW) rfl rfl rfl ?_ | refine R.bsl (f := enSt) [(⟨n, 0, 0⟩ : TStrip)] rfl rfl rfl rfl rfl ?_ | refine R.bsl (f := enRMixture) ([] : List (List TMixture)) rfl rfl rfl rfl rfl ?_ | refine R.cond rfl (fun hc => ?_) (fun hc => ?_) | refine R.condN rfl (fun hc => ?_) (fun hc => ?_) | refine R.condB rfl (fun hc => ?_) (fun hc => ?_) | refine R.gP rfl (fun hc => ?_) (fun hc => ?_) | refine R.gN rfl (fun hc => ?_) (fun hc => ?_) | refine R.gB rfl (fun hc => ?_) (fun hc => ?_))
  all_goals first | (exfalso; omega) | skip
  refine R.loop (G := Nat) (fun k => [(2, .v (.c (.ptr 2 0))), (3, .v (.c (.ptr 3 0))), (5, rdA kPc ((stg n k).map enSt)), (6, .v (.c (.own 22))), (7, pvA (.bool (decide (k < stN n))))]) (fun k => [(2, .box 25 [nilB, nilB]), (3, .box 28 [nilB]), (22, .arr kRMixture ((mixes n k).map enRMixture) [])]) (fun k => k ≤ stN n) (fun k => stN n - k) 0 (Nat.zero_le _) (Weak.trans (Weak.freeze 21 rfl rfl) (Weak.frame _ _ ⟨rfl, rfl, rfl, rfl, by rw [← hpos]; rfl, trivial⟩ ⟨rfl, rfl, rfl, trivial⟩ rfl rfl)) fun k hkN => ?_
  obtain ⟨hbig, hlen12, hlen1, hok⟩ := stg_ok hn hkN
  have hml := mixes_len n k
  by_cases hkl : k < stN n
  · have hB := sBack (stg n k) hok (by omega)
    obtain ⟨hbig1, hlen12', hlen1', hok1⟩ := stg_ok hn (k := k + 1) (by omega)
    have hap : ([mixS (bef (stg n k)) (stg n k)].length + (mixes n k).length) * 24 ≤ 140737488355328 ∧ [mixS (bef (stg n k)) (stg n k)].length + (mixes n k).length ≤ 140737488355328 := by rw [List.length_singleton]; omega
    rw [decide_eq_true hkl]
    repeat' (first | refine R.weak (Weak.freeze 30000 rfl rfl) ?_ | refine R.mv rfl ?_ | refine R.reg ?_ | refine R.tk ?_ | refine R.tkN ?_ | exact R.vac | refine R.both ?_ ?_ | refine R.nil ?_ | refine R.seq ?_ | refine R.nseq ?_ | refine R.nblk ?_ | refine R.skip ?_ | refine R.blk ?_ | refine R.exit rfl ?_ | refine R.gRun rfl ?_ | refine R.gSkip rfl ?_ | refine R.gSkip0 rfl ?_ | refine R.gUndef rfl ?_ | refine R.gUndef0 rfl ?_ | refine R.ldEp rfl rfl (by assumption) rfl rfl ?_ | refine R.ldaEp rfl rfl (by assumption) (Nat.le_of_ble_eq_true rfl) rfl rfl ?_ | refine R.ld rfl rfl rfl ?_ | refine R.lda rfl rfl (Nat.le_of_ble_eq_true rfl) rfl ?_ | refine R.fa rfl rfl ?_ | refine R.lenM rfl ?_ | refine R.lenO rfl rfl ?_ | refine R.len rfl rfl ?_ | refine R.lss rfl rfl ?_ | refine R.gtr rfl rfl ?_ | refine R.add rfl rfl (by omega) ?_ | refine R.ixN rfl rfl rfl (by omega) (fun a ha => ?_) | refine R.ixM rfl rfl rfl (by omega) (fun a ha => ?_) | refine R.ixON rfl rfl rfl (by first | omega | (simp; omega)) (fun a' ha' => ?_) | refine R.ixO rfl rfl rfl (by first | omega | (simp; omega)) (fun a' ha' => ?_) | refine R.pickT rfl rfl ?_ | refine R.pickF rfl rfl ?_ | refine R.not rfl ?_ | refine R.mvU rfl ?_ | refine R.ext rfl rfl ?_ | refine R.al rfl ?_ | refine R.stoB rfl rfl rfl rfl ⟨rfl, rfl, Nat.le_of_ble_eq_true rfl⟩ rfl ?_ | refine R.stoE _ rfl rfl rfl rfl rfl (by assumption) rfl ⟨rfl, rfl, Nat.le_of_ble_eq_true rfl⟩ ?_ | refine R.bld rfl rfl ?_ | refine R.condT rfl ?_ | refine R.condF rfl ?_ | refine R.callN1 (bor := false) rfl rfl (hB) rfl rfl ?_ | refine R.callN1 (bor := true) rfl rfl (hB) rfl rfl ?_ | refine R.callN (bor := false) rfl rfl (hB) rfl rfl rfl rfl rfl ?_ | refine R.callN (bor := true) rfl rfl (hB) rfl rfl rfl rfl rfl ?_ | refine R.bslA (f := enRMixture) [mixS (bef (stg n k)) (stg n k)] rfl rfl rfl rfl rfl rfl ?_ | refine R.appN (f := enRMixture) rfl rfl rfl rfl rfl hap ?_ | refine R.cond rfl (fun hc => ?_) (fun hc => ?_) | refine R.condN rfl (fun hc => ?_) (fun hc => ?_) | refine R.condB rfl (fun hc => ?_) (fun hc => ?_) | refine R.gP rfl (fun hc => ?_) (fun hc => ?_) | refine R.gN rfl (fun hc => ?_) (fun hc => ?_) | refine R.gB rfl (fun hc => ?_) (fun hc => ?_))
    all_goals first | (exfalso; omega) | (exfalso; simp_all; done) | skip
    refine R.loop (G := Nat) (fun i => [(2, .v (.c (.ptr 2 0))), (3, .v (.c (.ptr 3 0))), (5, rdA kPc ((stg n (k + 1)).map enSt)), (6, .v (.c (.own 32))), (7, pvA (.bool (big ((stg n (k + 1)).take i)))), (10, pvA (.int .i64 i))]) (fun _ => [(2, .box 25 [nilB, nilB]), (3, .box 28 [nilB]), (32, .arr kRMixture ((mixes n (k + 1)).map enRMixture) [])]) (fun i => i ≤ (stg n (k + 1)).length) (fun i => (stg n (k + 1)).length - i) 0 (Nat.zero_le _) (Weak.frame _ _ ⟨rfl, rfl, rfl, rfl, rfl, rfl, trivial⟩ ⟨rfl, rfl, rfl, trivial⟩ rfl rfl) fun i hi => ?_
    by_cases hil : i < (stg n (k + 1)).length
    · obtain ⟨s, hs⟩ : ∃ s, (stg n (k + 1))[i]? = some s := ⟨_, List.getElem?_eq_getElem hil⟩
      have hbt := big_take hs
      cases hb : big ((stg n (k + 1)).take i) with
      | true =>
        rw [hb, Bool.true_or] at hbt
        repeat' (first | refine R.ixK s hs rfl rfl rfl ?_ | refine R.mv rfl ?_ | refine R.reg ?_ | refine R.tk ?_ | refine R.tkN ?_ | exact R.vac | refine R.both ?_ ?_ | refine R.nil ?_ | refine R.seq ?_ | refine R.nseq ?_ | refine R.nblk ?_ | refine R.skip ?_ | refine R.blk ?_ | refine R.exit rfl ?_ | refine R.gRun rfl ?_ | refine R.gSkip rfl ?_ | refine R.gSkip0 rfl ?_ | refine R.gUndef rfl ?_ | refine R.gUndef0 rfl ?_ | refine R.ldEp rfl rfl (by assumption) rfl rfl ?_ | refine R.ldaEp rfl rfl (by assumption) (Nat.le_of_ble_eq_true rfl) rfl rfl ?_ | refine R.ld rfl rfl rfl ?_ | refine R.lda rfl rfl (Nat.le_of_ble_eq_true rfl) rfl ?_ | refine R.fa rfl rfl ?_ | refine R.lenM rfl ?_ | refine R.lenO rfl rfl ?_ | refine R.len rfl rfl ?_ | refine R.lss rfl rfl ?_ | refine R.gtr rfl rfl ?_ | refine R.add rfl rfl (by omega) ?_ | refine R.ixN rfl rfl rfl (by omega) (fun a ha => ?_) | refine R.ixM rfl rfl rfl (by omega) (fun a ha => ?_) | refine R.ixON rfl rfl rfl (by first | omega | (simp; omega)) (fun a' ha' => ?_) | refine R.ixO rfl rfl rfl (by first | omega | (simp; omega)) (fun a' ha' => ?_) | refine R.pickT rfl rfl ?_ | refine R.pickF rfl rfl ?_ | refine R.not rfl ?_ | refine R.mvU rfl ?_ | refine R.ext rfl rfl ?_ | refine R.al rfl ?_ | refine R.stoB rfl rfl rfl rfl ⟨rfl, rfl, Nat.le_of_ble_eq_true rfl⟩ rfl ?_ | refine R.stoE _ rfl rfl rfl rfl rfl (by assumption) rfl ⟨rfl, rfl, Nat.le_of_ble_eq_true rfl⟩ ?_ | refine R.bld rfl rfl ?_ | refine R.condT rfl ?_ | refine R.condF rfl ?_ | refine R.cond rfl (fun hc => ?_) (fun hc => ?_) | refine R.condN rfl (fun hc => ?_) (fun hc => ?_) | refine R.condB rfl (fun hc => ?_) (fun hc => ?_) | refine R.gP rfl (fun hc => ?_) (fun hc => ?_) | refine R.gN rfl (fun hc => ?_) (fun hc => ?_) | refine R.gB rfl (fun hc => ?_) (fun hc => ?_))
        all_goals first
          | (exfalso; omega)
          | (exfalso; simp_all; done)
          | exact R.nloop (R.again (i + 1) (by omega) (by omega) ⟨rfl, rfl, rfl, rfl, by rw [hbt]; rfl, rfl, trivial⟩ ⟨rfl, rfl, rfl, trivial⟩ rfl rfl)
          | skip
      | false =>
        rw [hb, Bool.false_or] at hbt
        repeat' (first | refine R.ixK s hs rfl rfl rfl ?_ | refine R.mv rfl ?_ | refine R.reg ?_ | refine R.tk ?_ | refine R.tkN ?_ | exact R.vac | refine R.both ?_ ?_ | refine R.nil ?_ | refine R.seq ?_ | refine R.nseq ?_ | refine R.nblk ?_ | refine R.skip ?_ | refine R.blk ?_ | refine R.exit rfl ?_ | refine R.gRun rfl ?_ | refine R.gSkip rfl ?_ | refine R.gSkip0 rfl ?_ | refine R.gUndef rfl ?_ | refine R.gUndef0 rfl ?_ | refine R.ldEp rfl rfl (by assumption) rfl rfl ?_ | refine R.ldaEp rfl rfl (by assumption) (Nat.le_of_ble_eq_true rfl) rfl rfl ?_ | refine R.ld rfl rfl rfl ?_ | refine R.lda rfl rfl (Nat.le_of_ble_eq_true rfl) rfl ?_ | refine R.fa rfl rfl ?_ | refine R.lenM rfl ?_ | refine R.lenO rfl rfl ?_ | refine R.len rfl rfl ?_ | refine R.lss rfl rfl ?_ | refine R.gtr rfl rfl ?_ | refine R.add rfl rfl (by omega) ?_ | refine R.ixN rfl rfl rfl (by omega) (fun a ha => ?_) | refine R.ixM rfl rfl rfl (by omega) (fun a ha => ?_) | refine R.ixON rfl rfl rfl (by first | omega | (simp; omega)) (fun a' ha' => ?_) | refine R.ixO rfl rfl rfl (by first | omega | (simp; omega)) (fun a' ha' => ?_) | refine R.pickT rfl rfl ?_ | refine R.pickF rfl rfl ?_ | refine R.not rfl ?_ | refine R.mvU rfl ?_ | refine R.ext rfl rfl ?_ | refine R.al rfl ?_ | refine R.stoB rfl rfl rfl rfl ⟨rfl, rfl, Nat.le_of_ble_eq_true rfl⟩ rfl ?_ | refine R.stoE _ rfl rfl rfl rfl rfl (by assumption) rfl ⟨rfl, rfl, Nat.le_of_ble_eq_true rfl⟩ ?_ | refine R.bld rfl rfl ?_ | refine R.condT rfl ?_ | refine R.condF rfl ?_ | refine R.cond rfl (fun hc => ?_) (fun hc => ?_) | refine R.condN rfl (fun hc => ?_) (fun hc => ?_) | refine R.condB rfl (fun hc => ?_) (fun hc => ?_) | refine R.gP rfl (fun hc => ?_) (fun hc => ?_) | refine R.gN rfl (fun hc => ?_) (fun hc => ?_) | refine R.gB rfl (fun hc => ?_) (fun hc => ?_))
        all_goals first
          | (exfalso; omega)
          | (exfalso; simp_all; done)
          | exact R.nloop (R.again (i + 1) (by omega) (by omega) ⟨rfl, rfl, rfl, rfl, by rw [hbt]; rfl, rfl, trivial⟩ ⟨rfl, rfl, rfl, trivial⟩ rfl rfl)
          | skip
    obtain rfl : i = (stg n (k + 1)).length := by omega
    rw [List.take_length, hbig1]
    repeat' (first | refine R.mv rfl ?_ | refine R.reg ?_ | refine R.tk ?_ | refine R.tkN ?_ | exact R.vac | refine R.both ?_ ?_ | refine R.nil ?_ | refine R.seq ?_ | refine R.nseq ?_ | refine R.nblk ?_ | refine R.skip ?_ | refine R.blk ?_ | refine R.exit rfl ?_ | refine R.gRun rfl ?_ | refine R.gSkip rfl ?_ | refine R.gSkip0 rfl ?_ | refine R.gUndef rfl ?_ | refine R.gUndef0 rfl ?_ | refine R.ldEp rfl rfl (by assumption) rfl rfl ?_ | refine R.ldaEp rfl rfl (by assumption) (Nat.le_of_ble_eq_true rfl) rfl rfl ?_ | refine R.ld rfl rfl rfl ?_ | refine R.lda rfl rfl (Nat.le_of_ble_eq_true rfl) rfl ?_ | refine R.fa rfl rfl ?_ | refine R.lenM rfl ?_ | refine R.lenO rfl rfl ?_ | refine R.len rfl rfl ?_ | refine R.lss rfl rfl ?_ | refine R.gtr rfl rfl ?_ | refine R.add rfl rfl (by omega) ?_ | refine R.ixN rfl rfl rfl (by omega) (fun a ha => ?_) | refine R.ixM rfl rfl rfl (by omega) (fun a ha => ?_) | refine R.ixON rfl rfl rfl (by first | omega | (simp; omega)) (fun a' ha' => ?_) | refine R.ixO rfl rfl rfl (by first | omega | (simp; omega)) (fun a' ha' => ?_) | refine R.pickT rfl rfl ?_ | refine R.pickF rfl rfl ?_ | refine R.not rfl ?_ | refine R.mvU rfl ?_ | refine R.ext rfl rfl ?_ | refine R.al rfl ?_ | refine R.stoB rfl rfl rfl rfl ⟨rfl, rfl, Nat.le_of_ble_eq_true rfl⟩ rfl ?_ | refine R.stoE _ rfl rfl rfl rfl rfl (by assumption) rfl ⟨rfl, rfl, Nat.le_of_ble_eq_true rfl⟩ ?_ | refine R.bld rfl rfl ?_ | refine R.condT rfl ?_ | refine R.condF rfl ?_ | refine R.cond rfl (fun hc => ?_) (fun hc => ?_) | refine R.condN rfl (fun hc => ?_) (fun hc => ?_) | refine R.condB rfl (fun hc => ?_) (fun hc => ?_) | refine R.gP rfl (fun hc => ?_) (fun hc => ?_) | refine R.gN rfl (fun hc => ?_) (fun hc => ?_) | refine R.gB rfl (fun hc => ?_) (fun hc => ?_))
    all_goals first
      | (exfalso; omega)
      | exact R.nloop ⟨k + 1, by omega, by omega, Weak.trans (Weak.swap 32 22 rfl rfl) (Weak.frame _ _ ⟨rfl, rfl, rfl, rfl, rfl, trivial⟩ ⟨rfl, rfl, rfl, trivial⟩ rfl rfl)⟩
      | skip
  obtain rfl : k = stN n := by omega
  rw [decide_eq_false hkl]
  repeat' (first | refine R.mv rfl ?_ | refine R.reg ?_ | refine R.tk ?_ | refine R.tkN ?_ | exact R.vac | refine R.both ?_ ?_ | refine R.nil ?_ | refine R.seq ?_ | refine R.nseq ?_ | refine R.nblk ?_ | refine R.skip ?_ | refine R.blk ?_ | refine R.exit rfl ?_ | refine R.gRun rfl ?_ | refine R.gSkip rfl ?_ | refine R.gSkip0 rfl ?_ | refine R.gUndef rfl ?_ | refine R.gUndef0 rfl ?_ | refine R.ldEp rfl rfl (by assumption) rfl rfl ?_ | refine R.ldaEp rfl rfl (by assumption) (Nat.le_of_ble_eq_true rfl) rfl rfl ?_ | refine R.ld rfl rfl rfl ?_ | refine R.lda rfl rfl (Nat.le_of_ble_eq_true rfl) rfl ?_ | refine R.fa rfl rfl ?_ | refine R.lenM rfl ?_ | refine R.lenO rfl rfl ?_ | refine R.len rfl rfl ?_ | refine R.lss rfl rfl ?_ | refine R.gtr rfl rfl ?_ | refine R.add rfl rfl (by omega) ?_ | refine R.ixN rfl rfl rfl (by omega) (fun a ha => ?_) | refine R.ixM rfl rfl rfl (by omega) (fun a ha => ?_) | refine R.ixON rfl rfl rfl (by first | omega | (simp; omega)) (fun a' ha' => ?_) | refine R.ixO rfl rfl rfl (by first | omega | (simp; omega)) (fun a' ha' => ?_) | refine R.pickT rfl rfl ?_ | refine R.pickF rfl rfl ?_ | refine R.not rfl ?_ | refine R.mvU rfl ?_ | refine R.ext rfl rfl ?_ | refine R.al rfl ?_ | refine R.stoB rfl rfl rfl rfl ⟨rfl, rfl, Nat.le_of_ble_eq_true rfl⟩ rfl ?_ | refine R.stoE _ rfl rfl rfl rfl rfl (by assumption) rfl ⟨rfl, rfl, Nat.le_of_ble_eq_true rfl⟩ ?_ | refine R.bld rfl rfl ?_ | refine R.condT rfl ?_ | refine R.condF rfl ?_ | refine R.bsl (f := enGlue) gl3 rfl rfl rfl rfl rfl ?_ | refine R.bsl (f := enMixture) ([] : List TMixture) rfl rfl rfl rfl rfl ?_ | refine R.cond rfl (fun hc => ?_) (fun hc => ?_) | refine R.condN rfl (fun hc => ?_) (fun hc => ?_) | refine R.condB rfl (fun hc => ?_) (fun hc => ?_) | refine R.gP rfl (fun hc => ?_) (fun hc => ?_) | refine R.gN rfl (fun hc => ?_) (fun hc => ?_) | refine R.gB rfl (fun hc => ?_) (fun hc => ?_))
  all_goals first | (exfalso; omega) | (exfalso; simp_all; done) | skip
  generalize hl1 : stg n (stN n) = l1 at *
  refine R.loop (G := Nat) (fun i => [(2, .v (.c (.ptr 2 0))), (3, .v (.c (.ptr 3 0))), (5, rdA kPc (l1.map enSt)), (6, .v (.c (.own 22))), (11, .v (.c (.ptr 11 0))), (12, .v (.c (.own 56))), (13, pvA (.int .i64 i))]) (fun i => [(2, .box 25 [nilB, nilB]), (3, .box 28 [nilB]), (11, .box 25 [.own 54, .own 901]), (22, .arr kRMixture ((mixes n (stN n)).map enRMixture) []), (54, .arr kGlue (gl3.map enGlue) []), (56, .arr kMixture ((frst i).map enMixture) []), (901, .arr kTile (((l1.take i).map tileS).map enTile) [])]) (fun i => i ≤ l1.length) (fun i => l1.length - i) 0 (Nat.zero_le _) (Weak.trans (Weak.reifyBox 11 1 901 kTile rfl rfl rfl) (Weak.frame _ _ ⟨rfl, rfl, rfl, rfl, rfl, rfl, rfl, trivial⟩ ⟨rfl, rfl, rfl, rfl, rfl, rfl, rfl, trivial⟩ rfl rfl)) fun i hi => ?_
  have hfl := frst_len i
  have htl : ((l1.take i).map tileS).length ≤ i := by rw [List.length_map, List.length_take]; omega
  by_cases hil : i < l1.length
  · obtain ⟨s, hs⟩ : ∃ s, l1[i]? = some s := ⟨_, List.getElem?_eq_getElem hil⟩
    have hoks := hok s (List.mem_of_getElem? hs)
    have hDw := sDec s.w ⟨by have := hoks.2.1.1; omega, by have := hoks.2.1.2; omega⟩
    have hDe := sDec s.e ⟨by have := hoks.2.2.1; omega, by have := hoks.2.2.2; omega⟩
    have hlw := decL_len (n := s.w) ⟨by have := hoks.2.1.1; omega, by have := hoks.2.1.2; omega⟩
    have hle := decL_len (n := s.e) ⟨by have := hoks.2.2.1; omega, by have := hoks.2.2.2; omega⟩
    have htsn : (l1.take (i + 1)).map tileS = (l1.take i).map tileS ++ [tileS s] := by rw [take_snoc hs, List.map_append]; rfl
    have hfsn := frst_snoc i
    generalize (l1.take i).map tileS = ts at *
    generalize frst i = ms at *
    have hap1 : (ts.length + [tileS s].length) * 40 ≤ 140737488355328 ∧ ts.length + [tileS s].length ≤ 140737488355328 := by rw [List.length_singleton]; omega
    have hap2 : (ms.length + [(⟨[], [(i : Int)]⟩ : TMixture)].length) * 48 ≤ 140737488355328 ∧ ms.length + [(⟨[], [(i : Int)]⟩ : TMixture)].length ≤ 140737488355328 := by rw [List.length_singleton]; omega
    have hz := zS_all (mixes n (stN n)) l1 i s ms ts hs hDw hDe (by simp only [List.length_singleton]; omega) (by simp only [List.length_append, List.length_singleton]; omega) hap1
    repeat' (first | refine R.mv rfl ?_ | refine R.reg ?_ | refine R.tk ?_ | refine R.tkN ?_ | exact R.vac | refine R.both ?_ ?_ | refine R.nil ?_ | refine R.seq ?_ | refine R.nseq ?_ | refine R.nblk ?_ | refine R.skip ?_ | refine R.blk ?_ | refine R.exit rfl ?_ | refine R.gRun rfl ?_ | refine R.gSkip rfl ?_ | refine R.gSkip0 rfl ?_ | refine R.gUndef rfl ?_ | refine R.gUndef0 rfl ?_ | refine R.ldEp rfl rfl (by assumption) rfl rfl ?_ | refine R.ldaEp rfl rfl (by assumption) (Nat.le_of_ble_eq_true rfl) rfl rfl ?_ | refine R.ld rfl rfl rfl ?_ | refine R.lda rfl rfl (Nat.le_of_ble_eq_true rfl) rfl ?_ | refine R.fa rfl rfl ?_ | refine R.lenM rfl ?_ | refine R.lenO rfl rfl ?_ | refine R.len rfl rfl ?_ | refine R.lss rfl rfl ?_ | refine R.gtr rfl rfl ?_ | refine R.add rfl rfl (by omega) ?_ | refine R.ixN rfl rfl rfl (by omega) (fun a ha => ?_) | refine R.ixM rfl rfl rfl (by omega) (fun a ha => ?_) | refine R.ixON rfl rfl rfl (by first | omega | (simp; omega)) (fun a' ha' => ?_) | refine R.ixO rfl rfl rfl (by first | omega | (simp; omega)) (fun a' ha' => ?_) | refine R.pickT rfl rfl ?_ | refine R.pickF rfl rfl ?_ | refine R.not rfl ?_ | refine R.mvU rfl ?_ | refine R.ext rfl rfl ?_ | refine R.al rfl ?_ | refine R.stoB rfl rfl rfl rfl ⟨rfl, rfl, Nat.le_of_ble_eq_true rfl⟩ rfl ?_ | refine R.stoE _ rfl rfl rfl rfl rfl (by assumption) rfl ⟨rfl, rfl, Nat.le_of_ble_eq_true rfl⟩ ?_ | refine R.bld rfl rfl ?_ | refine R.condT rfl ?_ | refine R.condF rfl ?_ | refine R.cond rfl (fun hc => ?_) (fun hc => ?_) | refine R.condN rfl (fun hc => ?_) (fun hc => ?_) | refine R.condB rfl (fun hc => ?_) (fun hc => ?_) | refine R.gP rfl (fun hc => ?_) (fun hc => ?_) | refine R.gN rfl (fun hc => ?_) (fun hc => ?_) | refine R.gB rfl (fun hc => ?_) (fun hc => ?_))
    all_goals first | (exfalso; omega) | skip
    refine R.regZM ⟨frE [(2, .v (.c (.ptr 2 0))), (3, .v (.c (.ptr 3 0))), (5, rdA kPc (l1.map enSt)), (6, .v (.c (.own 22))), (11, .v (.c (.ptr 11 0))), (12, .v (.c (.own 56))), (13, pvA (.int .i64 i))], frO [(2, .box 25 [nilB, nilB]), (3, .box 28 [nilB]), (11, .box 25 [.own 54, .own 901]), (22, .arr kRMixture ((mixes n (stN n)).map enRMixture) []), (54, .arr kGlue (gl3.map enGlue) []), (56, .arr kMixture (ms.map enMixture) []), (901, .arr kTile ((ts ++ [tileS s]).map enTile) [])]⟩ (fun L => zS (mixes n (stN n)) l1 i s ms ts (L 0) (L 1) (L 2) (L 3) (L 4) (L 5) (L 6) (L 7) (L 8) (L 9) (L 10) (L 11) (L 12) (L 13) (L 14) (L 15) (L 16) (L 17) (L 18) (L 19) (L 20) (L 21) (L 22) (L 23) (L 24) (L 25) (L 26) (L 27) (L 28) (L 29) (L 30) (L 31)) ?h0 hz ?h2 ?_
    case h0 =>
      intro L hL
      have f0 := hL 0 (by show 0 < 32; omega); have f1 := hL 1 (by show 1 < 32; omega); have f2 := hL 2 (by show 2 < 32; omega); have f3 := hL 3 (by show 3 < 32; omega); have f4 := hL 4 (by show 4 < 32; omega); have f5 := hL 5 (by show 5 < 32; omega); have f6 := hL 6 (by show 6 < 32; omega); have f7 := hL 7 (by show 7 < 32; omega); have f8 := hL 8 (by show 8 < 32; omega); have f9 := hL 9 (by show 9 < 32; omega); have f10 := hL 10 (by show 10 < 32; omega); have f11 := hL 11 (by show 11 < 32; omega); have f12 := hL 12 (by show 12 < 32; omega); have f13 := hL 13 (by show 13 < 32; omega); have f14 := hL 14 (by show 14 < 32; omega); have f15 := hL 15 (by show 15 < 32; omega); have f16 := hL 16 (by show 16 < 32; omega); have f17 := hL 17 (by show 17 < 32; omega); have f18 := hL 18 (by show 18 < 32; omega); have f19 := hL 19 (by show 19 < 32; omega); have f20 := hL 20 (by show 20 < 32; omega); have f21 := hL 21 (by show 21 < 32; omega); have f22 := hL 22 (by show 22 < 32; omega); have f23 := hL 23 (by show 23 < 32; omega); have f24 := hL 24 (by show 24 < 32; omega); have f25 := hL 25 (by show 25 < 32; omega); have f26 := hL 26 (by show 26 < 32; omega); have f27 := hL 27 (by show 27 < 32; omega); have f28 := hL 28 (by show 28 < 32; omega); have f29 := hL 29 (by show 29 < 32; omega); have f30 := hL 30 (by show 30 < 32; omega); have f31 := hL 31 (by show 31 < 32; omega)
      show Weak _ (zS (mixes n (stN n)) l1 i s ms ts (L 0) (L 1) (L 2) (L 3) (L 4) (L 5) (L 6) (L 7) (L 8) (L 9) (L 10) (L 11) (L 12) (L 13) (L 14) (L 15) (L 16) (L 17) (L 18) (L 19) (L 20) (L 21) (L 22) (L 23) (L 24) (L 25) (L 26) (L 27) (L 28) (L 29) (L 30) (L 31))
      rw [f0, f1, f2, f3, f4, f5, f6, f7, f8, f9, f10, f11, f12, f13, f14, f15, f16, f17, f18, f19, f20, f21, f22, f23, f24, f25, f26, f27, f28, f29, f30, f31]
      unfold zS
      refine Weak.frame _ _ ?g1 ?g2 ?g3 ?g4
      (case g1 => exact ⟨rfl, rfl, rfl, rfl, rfl, rfl, rfl, rfl, rfl, rfl, rfl, rfl, rfl, rfl, rfl, rfl, rfl, rfl, rfl, rfl, rfl, rfl, rfl, rfl, rfl, rfl, rfl, rfl, rfl, rfl, rfl, rfl, rfl, rfl, rfl, rfl, rfl, rfl, trivial⟩)
      (case g2 => exact ⟨rfl, rfl, rfl, rfl, rfl, rfl, rfl, trivial⟩)
      (case g3 => repeat' (first | exact rfl | refine all_cons (cV_inK rfl) ?_ | refine all_cons rfl ?_))
      (case g4 => exact rfl)
    case h2 =>
      intro L hL
      have f0 := hL 0 (by show 0 < 32; omega); have f1 := hL 1 (by show 1 < 32; omega); have f2 := hL 2 (by show 2 < 32; omega); have f3 := hL 3 (by show 3 < 32; omega); have f4 := hL 4 (by show 4 < 32; omega); have f5 := hL 5 (by show 5 < 32; omega); have f6 := hL 6 (by show 6 < 32; omega); have f7 := hL 7 (by show 7 < 32; omega); have f8 := hL 8 (by show 8 < 32; omega); have f9 := hL 9 (by show 9 < 32; omega); have f10 := hL 10 (by show 10 < 32; omega); have f11 := hL 11 (by show 11 < 32; omega); have f12 := hL 12 (by show 12 < 32; omega); have f13 := hL 13 (by show 13 < 32; omega); have f14 := hL 14 (by show 14 < 32; omega); have f15 := hL 15 (by show 15 < 32; omega); have f16 := hL 16 (by show 16 < 32; omega); have f17 := hL 17 (by show 17 < 32; omega); have f18 := hL 18 (by show 18 < 32; omega); have f19 := hL 19 (by show 19 < 32; omega); have f20 := hL 20 (by show 20 < 32; omega); have f21 := hL 21 (by show 21 < 32; omega); have f22 := hL 22 (by show 22 < 32; omega); have f23 := hL 23 (by show 23 < 32; omega); have f24 := hL 24 (by show 24 < 32; omega); have f25 := hL 25 (by show 25 < 32; omega); have f26 := hL 26 (by show 26 < 32; omega); have f27 := hL 27 (by show 27 < 32; omega); have f28 := hL 28 (by show 28 < 32; omega); have f29 := hL 29 (by show 29 < 32; omega); have f30 := hL 30 (by show 30 < 32; omega); have f31 := hL 31 (by show 31 < 32; omega)
      show Weak (zS (mixes n (stN n)) l1 i s ms ts (L 0) (L 1) (L 2) (L 3) (L 4) (L 5) (L 6) (L 7) (L 8) (L 9) (L 10) (L 11) (L 12) (L 13) (L 14) (L 15) (L 16) (L 17) (L 18) (L 19) (L 20) (L 21) (L 22) (L 23) (L 24) (L 25) (L 26) (L 27) (L 28) (L 29) (L 30) (L 31)) _
      rw [f0, f1, f2, f3, f4, f5, f6, f7, f8, f9, f10, f11, f12, f13, f14, f15, f16, f17, f18, f19, f20, f21, f22, f23, f24, f25, f26, f27, f28, f29, f30, f31]
      unfold zS
      exact Weak.frame _ _ ⟨rfl, rfl, rfl, rfl, rfl, rfl, rfl, trivial⟩ ⟨rfl, rfl, rfl, rfl, rfl, rfl, rfl, trivial⟩ rfl rfl
    repeat' (first | refine R.weak (Weak.reifyAgg 97 0 902 kI rfl rfl rfl) ?_ | refine R.mv rfl ?_ | refine R.reg ?_ | refine R.tk ?_ | refine R.tkN ?_ | exact R.vac | refine R.both ?_ ?_ | refine R.nil ?_ | refine R.seq ?_ | refine R.nseq ?_ | refine R.nblk ?_ | refine R.skip ?_ | refine R.blk ?_ | refine R.exit rfl ?_ | refine R.gRun rfl ?_ | refine R.gSkip rfl ?_ | refine R.gSkip0 rfl ?_ | refine R.gUndef rfl ?_ | refine R.gUndef0 rfl ?_ | refine R.ldEp rfl rfl (by assumption) rfl rfl ?_ | refine R.ldaEp rfl rfl (by assumption) (Nat.le_of_ble_eq_true rfl) rfl rfl ?_ | refine R.ld rfl rfl rfl ?_ | refine R.lda rfl rfl (Nat.le_of_ble_eq_true rfl) rfl ?_ | refine R.fa rfl rfl ?_ | refine R.lenM rfl ?_ | refine R.lenO rfl rfl ?_ | refine R.len rfl rfl ?_ | refine R.lss rfl rfl ?_ | refine R.gtr rfl rfl ?_ | refine R.add rfl rfl (by omega) ?_ | refine R.ixN rfl rfl rfl (by omega) (fun a ha => ?_) | refine R.ixM rfl rfl rfl (by omega) (fun a ha => ?_) | refine R.ixON rfl rfl rfl (by first | omega | (simp; omega)) (fun a' ha' => ?_) | refine R.ixO rfl rfl rfl (by first | omega | (simp; omega)) (fun a' ha' => ?_) | refine R.pickT rfl rfl ?_ | refine R.pickF rfl rfl ?_ | refine R.not rfl ?_ | refine R.mvU rfl ?_ | refine R.ext rfl rfl ?_ | refine R.al rfl ?_ | refine R.stoB rfl rfl rfl rfl ⟨rfl, rfl, Nat.le_of_ble_eq_true rfl⟩ rfl ?_ | refine R.stoE _ rfl rfl rfl rfl rfl (by assumption) rfl ⟨rfl, rfl, Nat.le_of_ble_eq_true rfl⟩ ?_ | refine R.bld rfl rfl ?_ | refine R.condT rfl ?_ | refine R.condF rfl ?_ | refine R.bsl (f := enI) [(i : Int)] rfl rfl rfl rfl rfl ?_ | refine R.bslA (f := enMixture) [(⟨[], [(i : Int)]⟩ : TMixture)] rfl rfl rfl rfl rfl rfl ?_ | refine R.appN (f := enMixture) rfl rfl rfl rfl rfl hap2 ?_ | refine R.cond rfl (fun hc => ?_) (fun hc => ?_) | refine R.condN rfl (fun hc => ?_) (fun hc => ?_) | refine R.condB rfl (fun hc => ?_) (fun hc => ?_) | refine R.gP rfl (fun hc => ?_) (fun hc => ?_) | refine R.gN rfl (fun hc => ?_) (fun hc => ?_) | refine R.gB rfl (fun hc => ?_) (fun hc => ?_))
    all_goals first
      | (exfalso; omega)
      | exact R.nloop (R.again (i + 1) (by omega) (by omega) ⟨rfl, rfl, rfl, rfl, rfl, rfl, rfl, trivial⟩ ⟨rfl, rfl, rfl, rfl, rfl, arr_eq (by rw [hfsn]), arr_eq (by rw [htsn]), trivial⟩ rfl rfl)
      | skip
  obtain rfl : i = l1.length := by omega
  rw [List.take_length]
  have hP1 : (lpPlan n).fStages = [frst l1.length] ++ mixes n (stN n) := by unfold lpPlan; rw [hl1]; rfl
  have hP2 : (lpSet n).fTiles = l1.map tileS := by unfold lpSet; rw [hl1]
  rw [hP1, hP2]
  have hap : ([frst l1.length].length + (mixes n (stN n)).length) * 24 ≤ 140737488355328 ∧ [frst l1.length].length + (mixes n (stN n)).length ≤ 140737488355328 := by rw [List.length_singleton]; omega
  repeat' (first | refine R.mv rfl ?_ | refine R.reg ?_ | refine R.tk ?_ | refine R.tkN ?_ | exact R.vac | refine R.both ?_ ?_ | refine R.nil ?_ | refine R.seq ?_ | refine R.nseq ?_ | refine R.nblk ?_ | refine R.skip ?_ | refine R.blk ?_ | refine R.exit rfl ?_ | refine R.gRun rfl ?_ | refine R.gSkip rfl ?_ | refine R.gSkip0 rfl ?_ | refine R.gUndef rfl ?_ | refine R.gUndef0 rfl ?_ | refine R.ldEp rfl rfl (by assumption) rfl rfl ?_ | refine R.ldaEp rfl rfl (by assumption) (Nat.le_of_ble_eq_true rfl) rfl rfl ?_ | refine R.ld rfl rfl rfl ?_ | refine R.lda rfl rfl (Nat.le_of_ble_eq_true rfl) rfl ?_ | refine R.fa rfl rfl ?_ | refine R.lenM rfl ?_ | refine R.lenO rfl rfl ?_ | refine R.len rfl rfl ?_ | refine R.lss rfl rfl ?_ | refine R.gtr rfl rfl ?_ | refine R.add rfl rfl (by omega) ?_ | refine R.ixN rfl rfl rfl (by omega) (fun a ha => ?_) | refine R.ixM rfl rfl rfl (by omega) (fun a ha => ?_) | refine R.ixON rfl rfl rfl (by first | omega | (simp; omega)) (fun a' ha' => ?_) | refine R.ixO rfl rfl rfl (by first | omega | (simp; omega)) (fun a' ha' => ?_) | refine R.pickT rfl rfl ?_ | refine R.pickF rfl rfl ?_ | refine R.not rfl ?_ | refine R.mvU rfl ?_ | refine R.ext rfl rfl ?_ | refine R.al rfl ?_ | refine R.stoB rfl rfl rfl rfl ⟨rfl, rfl, Nat.le_of_ble_eq_true rfl⟩ rfl ?_ | refine R.stoE _ rfl rfl rfl rfl rfl (by assumption) rfl ⟨rfl, rfl, Nat.le_of_ble_eq_true rfl⟩ ?_ | refine R.bld rfl rfl ?_ | refine R.condT rfl ?_ | refine R.condF rfl ?_ | refine R.cond rfl (fun hc => ?_) (fun hc => ?_) | refine R.condN rfl (fun hc => ?_) (fun hc => ?_) | refine R.condB rfl (fun hc => ?_) (fun hc => ?_) | refine R.gP rfl (fun hc => ?_) (fun hc => ?_) | refine R.gN rfl (fun hc => ?_) (fun hc => ?_) | refine R.gB rfl (fun hc => ?_) (fun hc => ?_))
  all_goals first | (exfalso; omega) | skip
  refine R.regO ⟨frE [(2, .v (.c (.ptr 2 0))), (3, .v (.c (.ptr 3 0))), (4, pvA (.int .i64 0))], frO [(2, .box 25 [.own 54, .own 901]), (3, .box 28 [.own 102]), (54, .arr kGlue (gl3.map enGlue) []), (102, .arr kRMixture (([frst l1.length] ++ mixes n (stN n)).map enRMixture) []), (901, .arr kTile ((l1.map tileS).map enTile) [])]⟩ ?_ ?_
  · repeat' (first | refine R.tk ?_ | refine R.tkN ?_ | refine R.both ?_ ?_ | exact R.vac | refine R.nil ?_ | refine R.mv rfl ?_ | refine R.lda rfl rfl (Nat.le_of_ble_eq_true rfl) rfl ?_ | refine R.ld rfl rfl rfl ?_ | refine R.bslA (f := enRMixture) [frst l1.length] rfl rfl rfl rfl rfl rfl ?_ | refine R.appN (f := enRMixture) rfl rfl rfl rfl rfl hap ?_ | refine R.bld rfl rfl ?_ | refine R.stoB rfl rfl rfl rfl ⟨rfl, rfl, Nat.le_of_ble_eq_true rfl⟩ rfl ?_)
    all_goals exact R.done (Weak.frame _ _ ⟨rfl, rfl, rfl, trivial⟩ ⟨rfl, rfl, rfl, rfl, rfl, trivial⟩ rfl rfl)
  exact R.ret ⟨.inr rfl, R.outR rfl (.cons (R.cell rfl rfl T.ty25 (Nat.le_of_ble_eq_true rfl) rfl) (.cons (R.cell rfl rfl T.ty28 (Nat.le_of_ble_eq_true rfl) rfl) (.cons (R.tmp rfl) .nil))) rfl rfl rfl ⟨by show ¬ (3 = 1); omega, rfl⟩⟩
theorem sLP (n : Int) : Spec Tryd.prog 5 [vI n] (oLP n) := by
  by_cases h : 1 ≤ n ∧ n ≤ 12
  · have := sPlan n h
    unfold oLP
    rw [show lpR n = ((lpSet n, lpPlan n), 0) from if_pos h]
    exact this
  unfold oLP
  rw [show lpR n = ((⟨[], []⟩, ⟨[]⟩), 2) from if_neg h]
  have hW := sIn n 1 12
  rw [show inB n 1 12 = false by simp [inB]; omega] at hW
  refine Spec.walk T.mixed Tryd.func5 S.ok5 (by simp [Tryd.f5]) fun hk => ?_
  clear hk
  unfold S.s5
  repeat' (first | refine R.mv rfl ?_ | refine R.reg ?_ | refine R.tk ?_ | refine R.tkN ?_ | exact R.vac | refine R.both ?_ ?_ | refine R.nil ?_ | refine R.seq ?_ | refine R.nseq ?_ | refine R.nblk ?_ | refine R.skip ?_ | refine R.blk ?_ | refine R.exit rfl ?_ | refine R.gRun rfl ?_ | refine R.gSkip rfl ?_ | refine R.gSkip0 rfl ?_ | refine R.gUndef rfl ?_ | refine R.gUndef0 rfl ?_ | refine R.ldEp rfl rfl (by assumption) rfl rfl ?_ | refine R.ldaEp rfl rfl (by assumption) (Nat.le_of_ble_eq_true rfl) rfl rfl ?_ | refine R.ld rfl rfl rfl ?_ | refine R.lda rfl rfl (Nat.le_of_ble_eq_true rfl) rfl ?_ | refine R.fa rfl rfl ?_ | refine R.lenM rfl ?_ | refine R.lenO rfl rfl ?_ | refine R.len rfl rfl ?_ | refine R.lss rfl rfl ?_ | refine R.gtr rfl rfl ?_ | refine R.add rfl rfl (by omega) ?_ | refine R.ixN rfl rfl rfl (by omega) (fun a ha => ?_) | refine R.ixM rfl rfl rfl (by omega) (fun a ha => ?_) | refine R.ixON rfl rfl rfl (by first | omega | (simp; omega)) (fun a' ha' => ?_) | refine R.ixO rfl rfl rfl (by first | omega | (simp; omega)) (fun a' ha' => ?_) | refine R.pickT rfl rfl ?_ | refine R.pickF rfl rfl ?_ | refine R.not rfl ?_ | refine R.mvU rfl ?_ | refine R.ext rfl rfl ?_ | refine R.al rfl ?_ | refine R.stoB rfl rfl rfl rfl ⟨rfl, rfl, Nat.le_of_ble_eq_true rfl⟩ rfl ?_ | refine R.stoE _ rfl rfl rfl rfl rfl (by assumption) rfl ⟨rfl, rfl, Nat.le_of_ble_eq_true rfl⟩ ?_ | refine R.bld rfl rfl ?_ | refine R.condT rfl ?_ | refine R.condF rfl ?_ | refine R.call (bor := false) rfl rfl (hW) rfl rfl rfl ?_ | refine R.call (bor := true) rfl rfl (hW) rfl rfl rfl ?_ | refine R.fcal (bor := false) rfl rfl (hW) rfl rfl rfl ?_ | refine R.fcal (bor := true) rfl rfl (hW) rfl rfl rfl ?_ | refine R.cond rfl (fun hc => ?_) (fun hc => ?_) | refine R.condN rfl (fun hc => ?_) (fun hc => ?_) | refine R.condB rfl (fun hc => ?_) (fun hc => ?_) | refine R.gP rfl (fun hc => ?_) (fun hc => ?_) | refine R.gN rfl (fun hc => ?_) (fun hc => ?_) | refine R.gB rfl (fun hc => ?_) (fun hc => ?_))
  all_goals first
    | (exfalso; omega)
    | exact R.ret ⟨.inr rfl, R.outW (Weak.trans (Weak.reifyBox 2 0 900000 kGlue rfl rfl rfl) (Weak.trans (Weak.reifyBox 2 1 900001 kTile rfl rfl rfl) (Weak.reifyBox 3 0 900002 kRMixture rfl rfl rfl))) (R.outR rfl (.cons (R.cell rfl rfl T.ty25 (Nat.le_of_ble_eq_true rfl) rfl) (.cons (R.cell rfl rfl T.ty28 (Nat.le_of_ble_eq_true rfl) rfl) (.cons (R.tmp rfl) .nil))) rfl rfl rfl ⟨by show ¬ (3 = 1); omega, rfl⟩)⟩
    | skip
theorem lp_cnt : ∀ n : Fin 13, 1 ≤ n.val → cnTileSet (lpSet (n.val : Nat)) ≤ 100000 ∧ cnPlan (lpPlan (n.val : Nat)) ≤ 100000 := by decide +kernel
theorem lpR_cnt (n : Int) : cnTileSet (lpR n).1.1 ≤ 100000 ∧ cnPlan (lpR n).1.2 ≤ 100000 := by
  unfold lpR
  split
  · rename_i h
    obtain ⟨m, rfl⟩ : ∃ m : Nat, n = m := ⟨n.toNat, by omega⟩
    exact lp_cnt ⟨m, by omega⟩ (by show 1 ≤ m; omega)
  · exact ⟨by decide +kernel, by decide +kernel⟩
theorem law_LinePlan (x0 : Int) : Spec Tryd.prog 3 [vI x0] (oB true) := by
  obtain ⟨hc1, hc2⟩ := lpR_cnt x0
  have hI := iLP x0
  have hS := sLP x0
  unfold oLP at hI hS
  generalize (lpR x0).1.1 = a at *
  generalize (lpR x0).1.2 = b at *
  generalize (lpR x0).2 = c at *
  refine Spec.walk T.mixed Tryd.func3 S.ok3 (by simp [Tryd.f3]) fun hk => ?_
  clear hk
  unfold S.s3
  repeat' (first | refine R.mv rfl ?_ | refine R.reg ?_ | refine R.nil ?_ | refine R.seq ?_ | refine R.nseq ?_ | refine R.nblk ?_ | refine R.skip ?_ | refine R.blk ?_ | refine R.exit rfl ?_ | refine R.gRun rfl ?_ | refine R.gSkip rfl ?_ | refine R.gSkip0 rfl ?_ | refine R.gUndef rfl ?_ | refine R.gUndef0 rfl ?_ | refine R.ldEp rfl rfl (by assumption) rfl rfl ?_ | refine R.ldaEp rfl rfl (by assumption) (Nat.le_of_ble_eq_true rfl) rfl rfl ?_ | refine R.ld rfl rfl rfl ?_ | refine R.lda rfl rfl (Nat.le_of_ble_eq_true rfl) rfl ?_ | refine R.lss rfl rfl ?_ | refine R.neq rfl rfl ?_ | refine R.pickT rfl rfl ?_ | refine R.pickF rfl rfl ?_ | refine R.not rfl ?_ | refine R.mvU rfl ?_ | refine R.ext rfl rfl ?_ | refine R.al rfl ?_ | refine R.stoB rfl rfl rfl rfl ⟨rfl, rfl, Nat.le_of_ble_eq_true rfl⟩ rfl ?_ | refine R.stoE _ rfl rfl rfl rfl rfl (by assumption) rfl ⟨rfl, rfl, Nat.le_of_ble_eq_true rfl⟩ ?_ | refine R.condT rfl ?_ | refine R.condF rfl ?_ | refine R.callN1 (bor := false) rfl rfl (hS) rfl rfl ?_ | refine R.callN1 (bor := true) rfl rfl (hS) rfl rfl ?_ | refine R.callN (bor := false) rfl rfl (hS) rfl rfl rfl rfl rfl ?_ | refine R.callN (bor := true) rfl rfl (hS) rfl rfl rfl rfl rfl ?_ | refine R.call (bor := false) rfl rfl (hS) rfl rfl rfl ?_ | refine R.call (bor := true) rfl rfl (hS) rfl rfl rfl ?_ | refine R.fcal (bor := false) rfl rfl (hS) rfl rfl rfl ?_ | refine R.fcal (bor := true) rfl rfl (hS) rfl rfl rfl ?_ | refine R.callN1 (bor := false) rfl rfl (hI) rfl rfl ?_ | refine R.callN1 (bor := true) rfl rfl (hI) rfl rfl ?_ | refine R.callN (bor := false) rfl rfl (hI) rfl rfl rfl rfl rfl ?_ | refine R.callN (bor := true) rfl rfl (hI) rfl rfl rfl rfl rfl ?_ | refine R.call (bor := false) rfl rfl (hI) rfl rfl rfl ?_ | refine R.call (bor := true) rfl rfl (hI) rfl rfl rfl ?_ | refine R.fcal (bor := false) rfl rfl (hI) rfl rfl rfl ?_ | refine R.fcal (bor := true) rfl rfl (hI) rfl rfl rfl ?_ | refine R.call (bor := false) rfl rfl (eqTileSet_ok a) rfl rfl rfl ?_ | refine R.call (bor := true) rfl rfl (eqTileSet_ok a) rfl rfl rfl ?_ | refine R.fcal (bor := false) rfl rfl (eqTileSet_ok a) rfl rfl rfl ?_ | refine R.fcal (bor := true) rfl rfl (eqTileSet_ok a) rfl rfl rfl ?_ | refine R.call (bor := false) rfl rfl (eqPlan_ok b) rfl rfl rfl ?_ | refine R.call (bor := true) rfl rfl (eqPlan_ok b) rfl rfl rfl ?_ | refine R.fcal (bor := false) rfl rfl (eqPlan_ok b) rfl rfl rfl ?_ | refine R.fcal (bor := true) rfl rfl (eqPlan_ok b) rfl rfl rfl ?_ | refine R.callM1 (bor := false) rfl rfl (markTileSet_ok a _ ⟨by omega, by omega⟩) rfl rfl rfl rfl ?_ | refine R.callM1 (bor := true) rfl rfl (markTileSet_ok a _ ⟨by omega, by omega⟩) rfl rfl rfl rfl ?_ | refine R.callM2 (bor := false) rfl rfl (markTileSet_ok a _ ⟨by omega, by omega⟩) rfl rfl rfl rfl rfl ?_ | refine R.callM2 (bor := true) rfl rfl (markTileSet_ok a _ ⟨by omega, by omega⟩) rfl rfl rfl rfl rfl ?_ | refine R.callM3 (bor := false) rfl rfl (markTileSet_ok a _ ⟨by omega, by omega⟩) rfl rfl rfl rfl rfl rfl ?_ | refine R.callM3 (bor := true) rfl rfl (markTileSet_ok a _ ⟨by omega, by omega⟩) rfl rfl rfl rfl rfl rfl ?_ | refine R.callM1 (bor := false) rfl rfl (markPlan_ok b _ ⟨by omega, by omega⟩) rfl rfl rfl rfl ?_ | refine R.callM1 (bor := true) rfl rfl (markPlan_ok b _ ⟨by omega, by omega⟩) rfl rfl rfl rfl ?_ | refine R.callM2 (bor := false) rfl rfl (markPlan_ok b _ ⟨by omega, by omega⟩) rfl rfl rfl rfl rfl ?_ | refine R.callM2 (bor := true) rfl rfl (markPlan_ok b _ ⟨by omega, by omega⟩) rfl rfl rfl rfl rfl ?_ | refine R.callM3 (bor := false) rfl rfl (markPlan_ok b _ ⟨by omega, by omega⟩) rfl rfl rfl rfl rfl rfl ?_ | refine R.callM3 (bor := true) rfl rfl (markPlan_ok b _ ⟨by omega, by omega⟩) rfl rfl rfl rfl rfl rfl ?_ | refine R.call (bor := false) rfl rfl (heldTileSet_ok a _ ⟨by omega, by omega⟩) rfl rfl rfl ?_ | refine R.call (bor := true) rfl rfl (heldTileSet_ok a _ ⟨by omega, by omega⟩) rfl rfl rfl ?_ | refine R.fcal (bor := false) rfl rfl (heldTileSet_ok a _ ⟨by omega, by omega⟩) rfl rfl rfl ?_ | refine R.fcal (bor := true) rfl rfl (heldTileSet_ok a _ ⟨by omega, by omega⟩) rfl rfl rfl ?_ | refine R.call (bor := false) rfl rfl (heldPlan_ok b _ ⟨by omega, by omega⟩) rfl rfl rfl ?_ | refine R.call (bor := true) rfl rfl (heldPlan_ok b _ ⟨by omega, by omega⟩) rfl rfl rfl ?_ | refine R.fcal (bor := false) rfl rfl (heldPlan_ok b _ ⟨by omega, by omega⟩) rfl rfl rfl ?_ | refine R.fcal (bor := true) rfl rfl (heldPlan_ok b _ ⟨by omega, by omega⟩) rfl rfl rfl ?_ | refine R.cond rfl (fun hc => ?_) (fun hc => ?_) | refine R.condN rfl (fun hc => ?_) (fun hc => ?_) | refine R.condB rfl (fun hc => ?_) (fun hc => ?_) | refine R.gP rfl (fun hc => ?_) (fun hc => ?_) | refine R.gN rfl (fun hc => ?_) (fun hc => ?_) | refine R.gB rfl (fun hc => ?_) (fun hc => ?_))
  all_goals first | exact R.ret ⟨.inr rfl, R.outB rfl rfl rfl⟩ | (exfalso; omega) | (exfalso; simp_all; done) | skip
end Go.Proofs.YtlblmofimjhbbaaDoor
