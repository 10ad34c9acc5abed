/- SpC and CovI and CovJ and CovZ and LawLC. -/
import Derived.Test.YtehkaajakapkmaaY23
import Derived.Test.YtehkaajakapkmaaSea3
import Derived.Test.YtehkaajakapkmaaCovT
import Derived.Test.YtehkaajakapkmaaCnt2
namespace Go.Proofs.Ytehkaajakapkmaa
open Go.RowKit
set_option maxRecDepth 100000 in
def S.s3 : SC := (.seq (.reg [⟨(.some 4), .none, .false, (.mv (.const (Go.Value.bool false)))⟩]) (.seq (.seq (.reg [⟨(.some 15), .none, .false, (.mv (.tmp 1))⟩, ⟨(.some 16), .none, .false, (.len (.tmp 15))⟩, ⟨(.some 17), .none, .false, (.bin .gtr (.tmp 16) (.const (Go.Value.int Go.IntKind.i64 1048576)))⟩]) (.cond (.tmp 17) (.seq (.reg [⟨(.some 4), .none, .false, (.mv (.const (Go.Value.bool true)))⟩]) .ret) .skip)) (.seq (.reg [⟨(.some 19), .none, .false, (.mv (.tmp 0))⟩, ⟨(.some 20), .none, .false, (.mv (.tmp 1))⟩, ⟨(.some 21), .none, .false, (.call (.func 5) [(.tmp 20)])⟩, ⟨(.some 22), .none, .false, (.call (.func 4) [(.tmp 19), (.tmp 21)])⟩, ⟨(.some 18), .none, .false, (.mv (.tmp 22))⟩, ⟨(.some 23), .none, .false, (.ext (.tmp 18) 0)⟩, ⟨(.some 24), .none, .false, (.ext (.tmp 18) 1)⟩, ⟨(.some 5), .none, .false, (.mv (.tmp 23))⟩, ⟨(.some 6), .none, .false, (.mv (.tmp 24))⟩]) (.seq (.reg [⟨(.some 25), .none, .false, (.mv (.tmp 1))⟩, ⟨(.some 26), .none, .false, (.call (.func 5) [(.tmp 25)])⟩, ⟨(.some 7), .none, .false, (.mv (.tmp 26))⟩]) (.seq (.reg [⟨(.some 28), .none, .false, (.mv (.tmp 0))⟩, ⟨(.some 29), .none, .false, (.mv (.tmp 7))⟩, ⟨(.some 30), .none, .false, (.call (.func 6) [(.tmp 28), (.tmp 29)])⟩, ⟨(.some 27), .none, .false, (.mv (.tmp 30))⟩, ⟨(.some 31), .none, .false, (.ext (.tmp 27) 0)⟩, ⟨(.some 32), .none, .false, (.ext (.tmp 27) 1)⟩, ⟨(.some 8), .none, .false, (.mv (.tmp 31))⟩, ⟨(.some 9), .none, .false, (.mv (.tmp 32))⟩]) (.seq (.seq (.reg [⟨(.some 33), .none, .false, (.mv (.tmp 8))⟩, ⟨(.some 34), .none, .false, (.mv (.tmp 5))⟩, ⟨(.some 35), .none, .false, (.call (.func 7) [(.tmp 33), (.tmp 34)])⟩, ⟨(.some 36), .none, .false, (.not (.tmp 35))⟩, ⟨(.some 37), .none, .false, (.mv (.tmp 36))⟩, ⟨(.some 38), (.some (37, .false)), .false, (.mv (.tmp 9))⟩, ⟨(.some 39), (.some (37, .false)), .false, (.mv (.tmp 6))⟩, ⟨(.some 40), (.some (37, .false)), .false, (.bin .neq (.tmp 38) (.tmp 39))⟩, ⟨(.some 41), .none, .false, (.pick (.tmp 37) (.const (Go.Value.bool true)) (.tmp 40))⟩]) (.cond (.tmp 41) (.seq (.reg [⟨(.some 4), .none, .false, (.mv (.const (Go.Value.bool false)))⟩]) .ret) .skip)) (.seq (.seq (.reg [⟨(.some 42), .none, .false, (.mv (.tmp 7))⟩, ⟨(.some 43), .none, .false, (.mv (.tmp 1))⟩, ⟨(.some 44), .none, .false, (.call (.func 5) [(.tmp 43)])⟩, ⟨(.some 45), .none, .false, (.call (.func 8) [(.tmp 42), (.tmp 44)])⟩, ⟨(.some 46), .none, .false, (.not (.tmp 45))⟩]) (.cond (.tmp 46) (.seq (.reg [⟨(.some 4), .none, .false, (.mv (.const (Go.Value.bool false)))⟩]) .ret) .skip)) (.seq (.reg [⟨(.some 10), .none, .false, (.mv (.const (Go.Value.int Go.IntKind.i64 1)))⟩]) (.seq (.reg [⟨(.some 47), .none, .false, (.mv (.tmp 7))⟩, ⟨(.some 48), .none, .false, (.mv (.tmp 10))⟩, ⟨(.some 49), .none, .false, (.call (.func 9) [(.tmp 47), (.tmp 48)])⟩, ⟨(.some 10), .none, .false, (.mv (.tmp 49))⟩]) (.seq (.seq (.reg [⟨(.some 50), .none, .false, (.mv (.tmp 10))⟩, ⟨(.some 51), .none, .false, (.bin .lss (.tmp 50) (.const (Go.Value.int Go.IntKind.i64 0)))⟩, ⟨(.some 52), .none, .false, (.mv (.tmp 51))⟩, ⟨(.some 53), (.some (52, .false)), .false, (.mv (.tmp 8))⟩, ⟨(.some 54), (.some (52, .false)), .false, (.mv (.tmp 5))⟩, ⟨(.some 55), (.some (52, .false)), .false, (.call (.func 7) [(.tmp 53), (.tmp 54)])⟩, ⟨(.some 56), (.some (52, .false)), .false, (.not (.tmp 55))⟩, ⟨(.some 57), .none, .false, (.pick (.tmp 52) (.const (Go.Value.bool true)) (.tmp 56))⟩, ⟨(.some 58), .none, .false, (.mv (.tmp 57))⟩, ⟨(.some 59), (.some (58, .false)), .false, (.mv (.tmp 9))⟩, ⟨(.some 60), (.some (58, .false)), .false, (.mv (.tmp 6))⟩, ⟨(.some 61), (.some (58, .false)), .false, (.bin .neq (.tmp 59) (.tmp 60))⟩, ⟨(.some 62), .none, .false, (.pick (.tmp 58) (.const (Go.Value.bool true)) (.tmp 61))⟩]) (.cond (.tmp 62) (.seq (.reg [⟨(.some 4), .none, .false, (.mv (.const (Go.Value.bool false)))⟩]) .ret) .skip)) (.seq (.reg [⟨(.some 11), .none, .false, (.mv (.const (Go.Value.int Go.IntKind.i64 1)))⟩]) (.seq (.reg [⟨(.some 63), .none, .false, (.mv (.tmp 8))⟩, ⟨(.some 64), .none, .false, (.mv (.tmp 11))⟩, ⟨(.some 65), .none, .false, (.call (.func 10) [(.tmp 63), (.tmp 64)])⟩, ⟨(.some 11), .none, .false, (.mv (.tmp 65))⟩]) (.seq (.reg [⟨(.some 12), .none, .false, (.mv (.const (Go.Value.int Go.IntKind.i64 1)))⟩]) (.seq (.reg [⟨(.some 66), .none, .false, (.mv (.tmp 8))⟩, ⟨(.some 67), .none, .false, (.mv (.tmp 12))⟩, ⟨(.some 68), .none, .false, (.call (.func 11) [(.tmp 66), (.tmp 67)])⟩, ⟨(.some 12), .none, .false, (.mv (.tmp 68))⟩]) (.seq (.seq (.reg [⟨(.some 69), .none, .false, (.mv (.tmp 12))⟩, ⟨(.some 70), .none, .false, (.bin .lss (.tmp 69) (.const (Go.Value.int Go.IntKind.i64 0)))⟩]) (.cond (.tmp 70) (.seq (.reg [⟨(.some 4), .none, .false, (.mv (.const (Go.Value.bool false)))⟩]) .ret) .skip)) (.seq (.seq (.reg [⟨(.some 71), .none, .false, (.mv (.tmp 12))⟩, ⟨(.some 72), .none, .false, (.mv (.tmp 11))⟩, ⟨(.some 73), .none, .false, (.bin .neq (.tmp 71) (.tmp 72))⟩]) (.cond (.tmp 73) (.seq (.reg [⟨(.some 4), .none, .false, (.mv (.const (Go.Value.bool false)))⟩]) .ret) .skip)) (.seq (.reg [⟨(.some 75), .none, .false, (.mv (.tmp 0))⟩, ⟨(.some 76), .none, .false, (.mv (.tmp 1))⟩, ⟨(.some 77), .none, .false, (.call (.func 5) [(.tmp 76)])⟩, ⟨(.some 78), .none, .false, (.call (.func 6) [(.tmp 75), (.tmp 77)])⟩, ⟨(.some 74), .none, .false, (.mv (.tmp 78))⟩, ⟨(.some 79), .none, .false, (.ext (.tmp 74) 0)⟩, ⟨(.some 80), .none, .false, (.ext (.tmp 74) 1)⟩, ⟨(.some 13), .none, .false, (.mv (.tmp 79))⟩, ⟨(.some 14), .none, .false, (.mv (.tmp 80))⟩]) (.seq (.seq (.reg [⟨(.some 81), .none, .false, (.mv (.tmp 13))⟩, ⟨(.some 82), .none, .false, (.mv (.tmp 5))⟩, ⟨(.some 83), .none, .false, (.call (.func 7) [(.tmp 81), (.tmp 82)])⟩, ⟨(.some 84), .none, .false, (.not (.tmp 83))⟩, ⟨(.some 85), .none, .false, (.mv (.tmp 84))⟩, ⟨(.some 86), (.some (85, .false)), .false, (.mv (.tmp 14))⟩, ⟨(.some 87), (.some (85, .false)), .false, (.mv (.tmp 6))⟩, ⟨(.some 88), (.some (85, .false)), .false, (.bin .neq (.tmp 86) (.tmp 87))⟩, ⟨(.some 89), .none, .false, (.pick (.tmp 85) (.const (Go.Value.bool true)) (.tmp 88))⟩]) (.cond (.tmp 89) (.seq (.reg [⟨(.some 4), .none, .false, (.mv (.const (Go.Value.bool false)))⟩]) .ret) .skip)) (.seq (.reg [⟨(.some 12), .none, .false, (.mv (.const (Go.Value.int Go.IntKind.i64 1)))⟩]) (.seq (.reg [⟨(.some 90), .none, .false, (.mv (.tmp 8))⟩, ⟨(.some 91), .none, .false, (.mv (.tmp 12))⟩, ⟨(.some 92), .none, .false, (.call (.func 11) [(.tmp 90), (.tmp 91)])⟩, ⟨(.some 12), .none, .false, (.mv (.tmp 92))⟩]) (.seq (.seq (.reg [⟨(.some 93), .none, .false, (.mv (.tmp 12))⟩, ⟨(.some 94), .none, .false, (.bin .lss (.tmp 93) (.const (Go.Value.int Go.IntKind.i64 0)))⟩]) (.cond (.tmp 94) (.seq (.reg [⟨(.some 4), .none, .false, (.mv (.const (Go.Value.bool false)))⟩]) .ret) .skip)) (.seq (.seq (.reg [⟨(.some 95), .none, .false, (.mv (.tmp 12))⟩, ⟨(.some 96), .none, .false, (.mv (.tmp 11))⟩, ⟨(.some 97), .none, .false, (.bin .neq (.tmp 95) (.tmp 96))⟩]) (.cond (.tmp 97) (.seq (.reg [⟨(.some 4), .none, .false, (.mv (.const (Go.Value.bool false)))⟩]) .ret) .skip)) (.seq (.reg [⟨(.some 4), .none, .false, (.mv (.const (Go.Value.bool true)))⟩]) .ret)))))))))))))))))))))))
set_option maxRecDepth 100000 in
theorem S.ok3 : stripF Try.prog Try.f3 = some S.s3 := by kernel_rfl
set_option maxRecDepth 100000 in
def S.s4 : SC := (.seq (.reg [⟨(.some 4), .none, .false, (.mv (.const (Go.Value.slice none 0 0)))⟩, ⟨(.some 5), .none, .false, (.mv (.const (Go.Value.int Go.IntKind.i64 0)))⟩]) (.seq (.seq (.reg [⟨(.some 6), .none, .false, (.mv (.tmp 0))⟩, ⟨(.some 7), .none, .false, (.mv (.tmp 1))⟩, ⟨(.some 8), .none, .false, (.call (.func 12) [(.tmp 6), (.tmp 7)])⟩, ⟨(.some 9), .none, .false, (.not (.tmp 8))⟩]) (.cond (.tmp 9) (.seq (.reg [⟨(.some 4), .none, .false, (.mv (.const (Go.Value.slice none 0 0)))⟩, ⟨(.some 5), .none, .false, (.mv (.const (Go.Value.int Go.IntKind.i64 2)))⟩]) .ret) .skip)) (.seq (.reg [⟨(.some 10), .none, .false, (.mv (.tmp 0))⟩, ⟨(.some 11), .none, .false, (.mv (.tmp 1))⟩, ⟨(.some 12), .none, .false, (.call (.func 13) [(.tmp 10), (.tmp 11)])⟩, ⟨(.some 4), .none, .false, (.mv (.tmp 12))⟩, ⟨(.some 5), .none, .false, (.mv (.const (Go.Value.int Go.IntKind.i64 0)))⟩]) .ret)))
set_option maxRecDepth 100000 in
theorem S.ok4 : stripF Try.prog Try.f4 = some S.s4 := by kernel_rfl
set_option maxRecDepth 100000 in
def S.s6 : SC := (.seq (.reg [⟨(.some 4), .none, .false, (.mv (.const (Go.Value.slice none 0 0)))⟩, ⟨(.some 5), .none, .false, (.mv (.const (Go.Value.int Go.IntKind.i64 0)))⟩]) (.seq (.seq (.reg [⟨(.some 6), .none, .false, (.mv (.tmp 0))⟩, ⟨(.some 7), .none, .false, (.mv (.tmp 1))⟩, ⟨(.some 8), .none, .false, (.call (.func 14) [(.tmp 6), (.tmp 7)])⟩, ⟨(.some 9), .none, .false, (.not (.tmp 8))⟩]) (.cond (.tmp 9) (.seq (.reg [⟨(.some 4), .none, .false, (.mv (.const (Go.Value.slice none 0 0)))⟩, ⟨(.some 5), .none, .false, (.mv (.const (Go.Value.int Go.IntKind.i64 2)))⟩]) .ret) .skip)) (.seq (.reg [⟨(.some 10), .none, .false, (.mv (.tmp 0))⟩, ⟨(.some 11), .none, .false, (.mv (.tmp 1))⟩, ⟨(.some 12), .none, .false, (.call (.func 15) [(.tmp 10), (.tmp 11)])⟩, ⟨(.some 4), .none, .false, (.mv (.tmp 12))⟩, ⟨(.some 5), .none, .false, (.mv (.const (Go.Value.int Go.IntKind.i64 0)))⟩]) .ret)))
set_option maxRecDepth 100000 in
theorem S.ok6 : stripF Try.prog Try.f6 = some S.s6 := by kernel_rfl
set_option maxRecDepth 100000 in
def S.s13 : SC := (.seq (.reg [⟨(.some 4), .none, .false, (.mv (.const (Go.Value.slice none 0 0)))⟩]) (.seq (.reg [⟨(.some 6), .none, .false, (.mv (.tmp 1))⟩, ⟨(.some 7), .none, .false, (.mv (.tmp 0))⟩, ⟨(.some 8), .none, .false, (.mv (.tmp 1))⟩, ⟨(.some 9), .none, .false, (.call (.func 19) [(.tmp 7), (.tmp 8)])⟩, ⟨(.some 10), .none, .false, (.bld [(Go.Value.slice none 0 0), (Go.Value.slice none 0 0), (Go.Value.slice none 0 0), (Go.Value.bool false)] [(0, 1), (1, 1), (2, 1), (3, 1)] [(0, (.tmp 6)), (1, (.tmp 9))])⟩, ⟨(.some 11), .none, .false, (.box 39 (.tmp 10))⟩, ⟨(.some 5), .none, .false, (.mv (.tmp 11))⟩]) (.seq (.reg [⟨(.some 12), .none, .false, (.mv (.tmp 5))⟩, ⟨(.some 13), .none, .false, (.bsl (.mk 35 2) 0 [])⟩, ⟨(.some 14), .none, .false, (.call (.func 20) [(.tmp 12), (.const (Go.Value.int Go.IntKind.i64 0)), (.tmp 13)])⟩]) (.seq (.reg [⟨(.some 15), .none, .false, (.mv (.tmp 5))⟩, ⟨(.some 16), .none, .false, (.nc (.tmp 15))⟩, ⟨(.some 17), .none, .false, (.fa 2 (.tmp 16))⟩, ⟨(.some 18), .none, .false, (.ld .false 1 (.tmp 17))⟩, ⟨(.some 4), .none, .false, (.mv (.tmp 18))⟩]) .ret))))
set_option maxRecDepth 100000 in
theorem S.ok13 : stripF Try.prog Try.f13 = some S.s13 := by kernel_rfl
set_option maxRecDepth 100000 in
def S.s15 : SC := (.seq (.reg [⟨(.some 4), .none, .false, (.mv (.const (Go.Value.slice none 0 0)))⟩]) (.seq (.reg [⟨(.some 14), .none, .false, (.mv (.tmp 0))⟩, ⟨(.some 15), .none, .false, (.mv (.tmp 1))⟩, ⟨(.some 16), .none, .false, (.call (.func 23) [(.tmp 14), (.tmp 15)])⟩, ⟨(.some 17), .none, .false, (.bld [(Go.Value.slice none 0 0), (Go.Value.slice none 0 0), (Go.Value.int Go.IntKind.u64 0), (Go.Value.slice none 0 0), (Go.Value.int Go.IntKind.i64 0)] [(0, 1), (1, 1), (2, 1), (3, 1), (4, 1)] [(0, (.tmp 16))])⟩, ⟨(.some 18), .none, .false, (.box 48 (.tmp 17))⟩, ⟨(.some 5), .none, .false, (.mv (.tmp 18))⟩]) (.seq (.seq (.reg [⟨(.some 19), .none, .false, (.mv (.tmp 1))⟩, ⟨(.some 20), .none, .false, (.len (.tmp 19))⟩, ⟨(.some 21), .none, .false, (.mv (.const (Go.Value.int Go.IntKind.i64 0)))⟩]) (.block 0 (.loop (.seq (.reg [⟨(.some 22), .none, .false, (.bin .lss (.tmp 21) (.tmp 20))⟩]) (.seq (.cond (.tmp 22) .skip (.exit 0)) (.seq (.block 1 (.seq (.reg [⟨(.some 23), .none, .false, (.mv (.tmp 21))⟩, ⟨(.some 24), .none, .false, (.ix (.mk 2 1) (.tmp 19) (.tmp 21))⟩, ⟨(.some 25), .none, .false, (.ld .false 1 (.tmp 24))⟩, ⟨(.some 6), .none, .false, (.mv (.tmp 23))⟩, ⟨(.some 7), .none, .false, (.mv (.tmp 25))⟩]) (.reg [⟨(.some 26), .none, .true, (.mv (.tmp 5))⟩, ⟨(.some 27), .none, .true, (.nc (.tmp 26))⟩, ⟨(.some 28), .none, .true, (.fa 2 (.tmp 27))⟩, ⟨(.some 29), .none, .true, (.ld .false 1 (.tmp 28))⟩, ⟨(.some 30), .none, .true, (.mv (.tmp 7))⟩, ⟨(.some 31), .none, .true, (.cv .u64 (.tmp 30))⟩, ⟨(.some 32), .none, .true, (.mv (.tmp 6))⟩, ⟨(.some 33), .none, .true, (.bin .shl (.tmp 31) (.tmp 32))⟩, ⟨(.some 34), .none, .true, (.bin .or (.tmp 29) (.tmp 33))⟩, ⟨(.some 35), .none, .true, (.nc (.tmp 26))⟩, ⟨(.some 36), .none, .true, (.fa 2 (.tmp 35))⟩, ⟨.none, .none, .false, (.sto 1 (.tmp 36) (.tmp 34))⟩]))) (.reg [⟨(.some 37), .none, .false, (.bin .add (.tmp 21) (.const (Go.Value.int Go.IntKind.i64 1)))⟩, ⟨(.some 21), .none, .false, (.mv (.tmp 37))⟩]))))))) (.seq (.seq (.reg [⟨(.some 38), .none, .false, (.mv (.tmp 5))⟩, ⟨(.some 39), .none, .false, (.nc (.tmp 38))⟩, ⟨(.some 40), .none, .false, (.fa 0 (.tmp 39))⟩, ⟨(.some 41), .none, .false, (.ld .false 1 (.tmp 40))⟩, ⟨(.some 42), .none, .false, (.len (.tmp 41))⟩, ⟨(.some 43), .none, .false, (.mv (.const (Go.Value.int Go.IntKind.i64 0)))⟩]) (.block 2 (.loop (.seq (.reg [⟨(.some 44), .none, .false, (.bin .lss (.tmp 43) (.tmp 42))⟩]) (.seq (.cond (.tmp 44) .skip (.exit 2)) (.seq (.block 3 (.seq (.reg [⟨(.some 45), .none, .false, (.ix (.mk 35 2) (.tmp 41) (.tmp 43))⟩, ⟨(.some 46), .none, .false, (.ld .true 2 (.tmp 45))⟩, ⟨(.some 9), .none, .false, (.al 35 [(Go.Value.int Go.IntKind.i64 0), (Go.Value.int Go.IntKind.i64 0)])⟩, ⟨.none, .none, .false, (.sto 2 (.tmp 9) (.tmp 46))⟩]) (.reg [⟨(.some 47), .none, .true, (.mv (.tmp 5))⟩, ⟨(.some 48), .none, .true, (.mv (.tmp 5))⟩, ⟨(.some 49), .none, .true, (.nc (.tmp 48))⟩, ⟨(.some 50), .none, .true, (.fa 1 (.tmp 49))⟩, ⟨(.some 51), .none, .true, (.ld .false 1 (.tmp 50))⟩, ⟨(.some 52), .none, .true, (.ld .true 2 (.tmp 9))⟩, ⟨(.some 53), .none, .true, (.mv (.tmp 1))⟩, ⟨(.some 54), .none, .true, (.fcal (.func 24) [(.tmp 52), (.tmp 53)])⟩, ⟨(.some 55), .none, .true, (.bsl (.mk 45 1) 1 [(0, (.tmp 54))])⟩, ⟨(.some 56), .none, .false, (.app (.mk 45 1) 8 (.tmp 51) (.tmp 55))⟩, ⟨(.some 57), .none, .false, (.nc (.tmp 47))⟩, ⟨(.some 58), .none, .false, (.fa 1 (.tmp 57))⟩, ⟨.none, .none, .false, (.sto 1 (.tmp 58) (.tmp 56))⟩]))) (.reg [⟨(.some 59), .none, .false, (.bin .add (.tmp 43) (.const (Go.Value.int Go.IntKind.i64 1)))⟩, ⟨(.some 43), .none, .false, (.mv (.tmp 59))⟩]))))))) (.seq (.seq (.reg [⟨(.some 10), .none, .false, (.mv (.const (Go.Value.int Go.IntKind.i64 0)))⟩]) (.block 4 (.loop (.seq (.seq (.reg [⟨(.some 60), .none, .false, (.mv (.tmp 5))⟩, ⟨(.some 61), .none, .false, (.nc (.tmp 60))⟩, ⟨(.some 62), .none, .false, (.fa 3 (.tmp 61))⟩, ⟨(.some 63), .none, .false, (.ld .false 1 (.tmp 62))⟩, ⟨(.some 64), .none, .false, (.isn .false (.tmp 63))⟩]) (.cond (.tmp 64) .skip (.exit 4))) (.seq (.block 5 (.reg [⟨(.some 67), .none, .false, (.mv (.tmp 5))⟩, ⟨(.some 68), .none, .false, (.mv (.tmp 10))⟩, ⟨(.some 69), .none, .false, (.call (.func 25) [(.tmp 67), (.const (Go.Value.slice none 0 0)), (.const (Go.Value.int Go.IntKind.i64 0)), (.tmp 68), (.const (Go.Value.int Go.IntKind.u64 0)), (.const (Go.Value.int Go.IntKind.i64 0))])⟩])) (.reg [⟨(.some 65), .none, .false, (.mv (.tmp 10))⟩, ⟨(.some 66), .none, .false, (.bin .add (.tmp 65) (.const (Go.Value.int Go.IntKind.i64 1)))⟩, ⟨(.some 10), .none, .false, (.mv (.tmp 66))⟩])))))) (.seq (.reg [⟨(.some 11), .none, .false, (.mv (.const (Go.Value.slice none 0 0)))⟩]) (.seq (.seq (.reg [⟨(.some 70), .none, .false, (.mv (.tmp 5))⟩, ⟨(.some 71), .none, .false, (.nc (.tmp 70))⟩, ⟨(.some 72), .none, .false, (.fa 3 (.tmp 71))⟩, ⟨(.some 73), .none, .false, (.ld .false 1 (.tmp 72))⟩, ⟨(.some 74), .none, .false, (.len (.tmp 73))⟩, ⟨(.some 75), .none, .false, (.mv (.const (Go.Value.int Go.IntKind.i64 0)))⟩]) (.block 6 (.loop (.seq (.reg [⟨(.some 76), .none, .false, (.bin .lss (.tmp 75) (.tmp 74))⟩]) (.seq (.cond (.tmp 76) .skip (.exit 6)) (.seq (.block 7 (.seq (.reg [⟨(.some 77), .none, .false, (.ix (.mk 3 1) (.tmp 73) (.tmp 75))⟩, ⟨(.some 78), .none, .false, (.ld .false 1 (.tmp 77))⟩, ⟨(.some 13), .none, .false, (.mv (.tmp 78))⟩]) (.reg [⟨(.some 79), .none, .false, (.mv (.tmp 11))⟩, ⟨(.some 80), .none, .false, (.mv (.tmp 5))⟩, ⟨(.some 81), .none, .false, (.nc (.tmp 80))⟩, ⟨(.some 82), .none, .false, (.fa 0 (.tmp 81))⟩, ⟨(.some 83), .none, .false, (.ld .false 1 (.tmp 82))⟩, ⟨(.some 84), .none, .false, (.mv (.tmp 13))⟩, ⟨(.some 85), .none, .false, (.ix (.mk 35 2) (.tmp 83) (.tmp 84))⟩, ⟨(.some 86), .none, .false, (.ld .true 2 (.tmp 85))⟩, ⟨(.some 87), .none, .false, (.bsl (.mk 35 2) 1 [(0, (.tmp 86))])⟩, ⟨(.some 88), .none, .false, (.app (.mk 35 2) 16 (.tmp 79) (.tmp 87))⟩, ⟨(.some 11), .none, .false, (.mv (.tmp 88))⟩]))) (.reg [⟨(.some 89), .none, .false, (.bin .add (.tmp 75) (.const (Go.Value.int Go.IntKind.i64 1)))⟩, ⟨(.some 75), .none, .false, (.mv (.tmp 89))⟩]))))))) (.seq (.reg [⟨(.some 90), .none, .false, (.mv (.tmp 11))⟩, ⟨(.some 4), .none, .false, (.mv (.tmp 90))⟩]) .ret))))))))
set_option maxRecDepth 100000 in
theorem S.ok15 : stripF Try.prog Try.f15 = some S.s15 := by kernel_rfl
set_option maxRecDepth 100000 in
def S.s24 : SC := (.seq (.reg [⟨(.some 2), .none, .false, (.box 35 (.tmp 0))⟩, ⟨(.some 4), .none, .false, (.mv (.const (Go.Value.int Go.IntKind.u64 0)))⟩]) (.seq (.reg [⟨(.some 5), .none, .false, (.mv (.const (Go.Value.int Go.IntKind.u64 0)))⟩]) (.seq (.seq (.reg [⟨(.some 7), .none, .false, (.mv (.tmp 1))⟩, ⟨(.some 8), .none, .false, (.len (.tmp 7))⟩, ⟨(.some 9), .none, .false, (.mv (.const (Go.Value.int Go.IntKind.i64 0)))⟩]) (.block 0 (.loop (.seq (.reg [⟨(.some 10), .none, .false, (.bin .lss (.tmp 9) (.tmp 8))⟩]) (.seq (.cond (.tmp 10) .skip (.exit 0)) (.seq (.block 1 (.seq (.reg [⟨(.some 11), .none, .false, (.mv (.tmp 9))⟩, ⟨(.some 6), .none, .false, (.mv (.tmp 11))⟩]) (.seq (.reg [⟨(.some 12), .none, .false, (.ld .true 2 (.tmp 2))⟩, ⟨(.some 13), .none, .false, (.mv (.tmp 6))⟩, ⟨(.some 14), .none, .false, (.call (.func 34) [(.tmp 12), (.tmp 13)])⟩]) (.cond (.tmp 14) (.reg [⟨(.some 15), .none, .false, (.mv (.tmp 5))⟩, ⟨(.some 16), .none, .false, (.mv (.tmp 6))⟩, ⟨(.some 17), .none, .false, (.bin .shl (.const (Go.Value.int Go.IntKind.u64 1)) (.tmp 16))⟩, ⟨(.some 18), .none, .false, (.bin .or (.tmp 15) (.tmp 17))⟩, ⟨(.some 5), .none, .false, (.mv (.tmp 18))⟩]) .skip)))) (.reg [⟨(.some 19), .none, .false, (.bin .add (.tmp 9) (.const (Go.Value.int Go.IntKind.i64 1)))⟩, ⟨(.some 9), .none, .false, (.mv (.tmp 19))⟩]))))))) (.seq (.reg [⟨(.some 20), .none, .false, (.mv (.tmp 5))⟩, ⟨(.some 4), .none, .false, (.mv (.tmp 20))⟩]) .ret))))
set_option maxRecDepth 100000 in
theorem S.ok24 : stripF Try.prog Try.f24 = some S.s24 := by kernel_rfl
set_option maxRecDepth 20000
set_option maxHeartbeats 8000000
theorem spec_args {W : World} {R : Nat → Prop} {vs : List Value} {args : List VD} (h : F2 (RVD W R) vs args) : F2 (RV1 W R (fun _ => undef) (domO (frO []))) vs (args.map VD.v1) := by
  induction h with
  | nil => exact .nil
  | cons h1 _ ih =>
    refine .cons ?_ ih
    rename_i v x _ _ _
    cases x with
    | c y => exact h1
    | agg ys => obtain ⟨us, e, h2⟩ := h1; exact ⟨us, e, F2.map_right (f := B.d) (fun _ _ h => h) h2⟩
theorem noTab (w : World) (R : Nat → Prop) : TabW w R := fun x hx => by simp [tabG] at hx
/-- A contract whose result is data, at a world. -/
theorem spec_call {P : Program} {k : FuncId} {args : List VD} {d : D} (h : Spec P k args (.v (.c (.fz d)))) {W : World} {R : Nat → Prop} {vs : List Value} (hR : ∀ b, R b → b < W.heap.size) (hF : F2 (RVD W R) vs args) :
    Calls P k vs.toArray W fun e W' => ∃ v, e = .returned v ∧ Below W.heap.size W W' ∧ ∃ R' : Nat → Prop, RD W' R' v d := by
  refine (h.2 W R (fun _ => undef) (fun _ => []) vs hR (spec_args hF) ⟨fun o x h => (by cases h), fun o x h => (by cases h), fun o p x y g h => (by cases h), noTab _ _⟩).mono fun e W' => ?_
  rintro ⟨v, rfl, R', ι', φ', hb, hs, hz, _, hra, _⟩
  exact ⟨v, rfl, hb.below (fun g ⟨o, x, h, _⟩ => by cases h), R', hra⟩
section
variable {P : Program} {Q : Exit → St → Prop} {ks : List Fr} {e : Nat → AV} {o : Nat → Option Ob} {d : Nat} {fr : Bool} {x y z : Operand} {rest : List SR}
theorem R.shlU {m n : Nat} (hm : m ≤ 1) (hn : n ≤ 62) (h1 : ev e x = pvA (.int .u64 (m : Nat))) (h2 : ev e y = pvA (.int .i64 (n : Nat))) (k : WL P rest ks Q ⟨upd e d (pvA (.int .u64 ((m * 2 ^ n : Nat) : Int))), o⟩) : WL P (⟨some d, none, fr, .bin .shl x y⟩ :: rest) ks Q ⟨e, o⟩ :=
  R.bin h1 h2 (by
    have hp : 2 ^ n ≤ 2 ^ 62 := Nat.pow_le_pow_right (by omega) hn
    have h3 : m * 2 ^ n ≤ 2 ^ 62 := by
      have : m = 0 ∨ m = 1 := by omega
      rcases this with rfl | rfl
      · simp
      · simpa using hp
    have h4 : ((m : Int) * 2 ^ n) = ((m * 2 ^ n : Nat) : Int) := by simp
    simp only [binI, shV]
    rw [if_neg (by omega), show Min.min ((n : Int)).toNat (IntKind.u64.bits) = n from by simp [IntKind.bits]; omega, h4, wrapU ⟨by omega, by omega⟩]) k
theorem or_nat {a b : Nat} (ha : a < 2 ^ 63) (hb : b < 2 ^ 63) : (IntKind.u64.wrap ((BitVec.ofInt IntKind.u64.bits (a : Int) ||| BitVec.ofInt IntKind.u64.bits (b : Int)).toNat : Int)) = ((a ||| b : Nat) : Int) := bits_or ha hb
theorem R.orU {a b : Nat} (ha : a < 2 ^ 63) (hb : b < 2 ^ 63) (h1 : ev e x = pvA (.int .u64 (a : Nat))) (h2 : ev e y = pvA (.int .u64 (b : Nat))) (k : WL P rest ks Q ⟨upd e d (pvA (.int .u64 ((a ||| b : Nat) : Int))), o⟩) : WL P (⟨some d, none, fr, .bin .or x y⟩ :: rest) ks Q ⟨e, o⟩ := R.bin h1 h2 (by simp only [binI, numV, if_true, or_nat ha hb]) k
end
theorem bits_small {n : Nat} {p : Nat → Bool} (h : n ≤ 16) : bitsF n p < 2 ^ 63 := Nat.lt_of_lt_of_le (bitsF_lt p n) (Nat.pow_le_pow_right (by omega) (by omega))
theorem pow_small {n : Nat} (h : n ≤ 16) : 2 ^ n < 2 ^ 63 := Nat.pow_lt_pow_right (by omega) (by omega)
theorem bits_T {n : Nat} {p : Nat → Bool} (h : p n = true) : bitsF (n + 1) p = bitsF n p ||| 1 * 2 ^ n := by rw [bitsF, if_pos h, Nat.one_mul]
theorem bits_F {n : Nat} {p : Nat → Bool} (h : p n = false) : bitsF (n + 1) p = bitsF n p := by rw [bitsF, h, if_neg (by decide), Nat.or_zero]
def stF (tb : List Int) (ps : List TCube) (k : Nat) : Nat := bitsF tb.length (ctx ps k)
theorem iCovers (q : TCube) (tb : List Int) (htb : tb.length ≤ 16) : Spec Try.prog 24 [.agg (enCube q), vL kI (ints tb)] (.v (.c (.fz (.pv (.int .u64 (bitsF tb.length (fun i => hasQ q i) : Nat)))))) := by
  refine Spec.walk T.mixed Try.func24 S.ok24 (by simp [Try.f24]) fun hk => ?_
  clear hk
  unfold S.s24
  repeat' (first | refine R.mv rfl ?_ | refine R.reg ?_ | refine R.nil ?_ | refine R.seq ?_ | refine R.nseq ?_ | refine R.nblk ?_ | refine R.skip ?_ | refine R.blk ?_ | refine R.exit rfl ?_ | refine R.ldEp rfl rfl (by assumption) rfl rfl ?_ | refine R.ldaEp rfl rfl (by assumption) (Nat.le_of_ble_eq_true rfl) rfl rfl ?_ | refine R.ld rfl rfl rfl ?_ | refine R.lda rfl rfl (Nat.le_of_ble_eq_true rfl) rfl ?_ | refine R.lenM rfl ?_ | refine R.lenO rfl rfl ?_ | refine R.len rfl rfl ?_ | refine R.lss rfl rfl ?_ | refine R.add rfl rfl (by omega) ?_ | refine R.box rfl rfl rfl ?_ | refine R.or rfl rfl ?_ | refine R.shl1 rfl rfl (by omega) (fun hp => ?_) | refine R.condT rfl ?_ | refine R.condF rfl ?_ | refine R.cond rfl (fun hc => ?_) (fun hc => ?_) | refine R.condN rfl (fun hc => ?_) (fun hc => ?_) | refine R.condB rfl (fun hc => ?_) (fun hc => ?_))
  refine R.loop (G := Nat) (fun i => [(2, .v (.c (.ptr 2 0))), (5, pvA (.int .u64 (bitsF i (fun i => hasQ q i) : Nat))), (8, pvA (.int .i64 tb.length)), (9, pvA (.int .i64 i))]) (fun _ => [(2, .box 35 ((enCube q).map B.d))]) (fun i => i ≤ tb.length) (fun i => tb.length - i) 0 (by omega) (Weak.frame _ _ ⟨rfl, rfl, rfl, rfl, trivial⟩ ⟨rfl, trivial⟩ rfl rfl) fun i hi => ?_
  have hs := bits_small (n := i) (p := fun i => hasQ q i) (by omega)
  by_cases hil : i < tb.length
  · have hp := pow_small (n := i) (by omega)
    have hh := iHas q i
    cases hq : hasQ q i with
    | true =>
      rw [hq] at hh
      have hb := bits_T (p := fun i : Nat => hasQ q i) hq
      repeat' (first | refine R.mv rfl ?_ | refine R.reg ?_ | refine R.nil ?_ | refine R.seq ?_ | refine R.nseq ?_ | refine R.nblk ?_ | refine R.skip ?_ | refine R.blk ?_ | refine R.exit rfl ?_ | refine R.ldEp rfl rfl (by assumption) rfl rfl ?_ | refine R.ldaEp rfl rfl (by assumption) (Nat.le_of_ble_eq_true rfl) rfl rfl ?_ | refine R.ld rfl rfl rfl ?_ | refine R.lda rfl rfl (Nat.le_of_ble_eq_true rfl) rfl ?_ | refine R.lenM rfl ?_ | refine R.lenO rfl rfl ?_ | refine R.len rfl rfl ?_ | refine R.lss rfl rfl ?_ | refine R.add rfl rfl (by omega) ?_ | refine R.box rfl rfl rfl ?_ | refine R.or rfl rfl ?_ | refine R.shl1 rfl rfl (by omega) (fun hp => ?_) | refine R.condT rfl ?_ | refine R.condF rfl ?_ | refine R.call (bor := false) rfl rfl (hh) rfl rfl rfl ?_ | refine R.call (bor := true) rfl rfl (hh) rfl rfl rfl ?_ | refine R.fcal (bor := false) rfl rfl (hh) rfl rfl rfl ?_ | refine R.fcal (bor := true) rfl rfl (hh) rfl rfl rfl ?_ | refine R.shlU (m := 1) (n := i) (by omega) (by omega) rfl rfl ?_ | refine R.orU hs (by omega) rfl rfl ?_ | refine R.cond rfl (fun hc => ?_) (fun hc => ?_) | refine R.condN rfl (fun hc => ?_) (fun hc => ?_) | refine R.condB rfl (fun hc => ?_) (fun hc => ?_))
      all_goals first
        | (exfalso; omega)
        | exact R.nloop (R.again (i + 1) (by omega) (by omega) ⟨rfl, by rw [hb]; rfl, rfl, rfl, trivial⟩ ⟨rfl, trivial⟩ rfl rfl)
        | skip
    | false =>
      rw [hq] at hh
      have hb := bits_F (p := fun i : Nat => hasQ q i) hq
      repeat' (first | refine R.mv rfl ?_ | refine R.reg ?_ | refine R.nil ?_ | refine R.seq ?_ | refine R.nseq ?_ | refine R.nblk ?_ | refine R.skip ?_ | refine R.blk ?_ | refine R.exit rfl ?_ | refine R.ldEp rfl rfl (by assumption) rfl rfl ?_ | refine R.ldaEp rfl rfl (by assumption) (Nat.le_of_ble_eq_true rfl) rfl rfl ?_ | refine R.ld rfl rfl rfl ?_ | refine R.lda rfl rfl (Nat.le_of_ble_eq_true rfl) rfl ?_ | refine R.lenM rfl ?_ | refine R.lenO rfl rfl ?_ | refine R.len rfl rfl ?_ | refine R.lss rfl rfl ?_ | refine R.add rfl rfl (by omega) ?_ | refine R.box rfl rfl rfl ?_ | refine R.or rfl rfl ?_ | refine R.shl1 rfl rfl (by omega) (fun hp => ?_) | refine R.condT rfl ?_ | refine R.condF rfl ?_ | refine R.call (bor := false) rfl rfl (hh) rfl rfl rfl ?_ | refine R.call (bor := true) rfl rfl (hh) rfl rfl rfl ?_ | refine R.fcal (bor := false) rfl rfl (hh) rfl rfl rfl ?_ | refine R.fcal (bor := true) rfl rfl (hh) rfl rfl rfl ?_ | refine R.cond rfl (fun hc => ?_) (fun hc => ?_) | refine R.condN rfl (fun hc => ?_) (fun hc => ?_) | refine R.condB rfl (fun hc => ?_) (fun hc => ?_))
      all_goals first
        | (exfalso; omega)
        | exact R.nloop (R.again (i + 1) (by omega) (by omega) ⟨rfl, by rw [hb]; rfl, rfl, rfl, trivial⟩ ⟨rfl, trivial⟩ rfl rfl)
        | skip
  obtain rfl : i = tb.length := by omega
  repeat' (first | refine R.mv rfl ?_ | refine R.reg ?_ | refine R.nil ?_ | refine R.seq ?_ | refine R.nseq ?_ | refine R.nblk ?_ | refine R.skip ?_ | refine R.blk ?_ | refine R.exit rfl ?_ | refine R.ldEp rfl rfl (by assumption) rfl rfl ?_ | refine R.ldaEp rfl rfl (by assumption) (Nat.le_of_ble_eq_true rfl) rfl rfl ?_ | refine R.ld rfl rfl rfl ?_ | refine R.lda rfl rfl (Nat.le_of_ble_eq_true rfl) rfl ?_ | refine R.lenM rfl ?_ | refine R.lenO rfl rfl ?_ | refine R.len rfl rfl ?_ | refine R.lss rfl rfl ?_ | refine R.add rfl rfl (by omega) ?_ | refine R.box rfl rfl rfl ?_ | refine R.or rfl rfl ?_ | refine R.shl1 rfl rfl (by omega) (fun hp => ?_) | refine R.condT rfl ?_ | refine R.condF rfl ?_ | refine R.cond rfl (fun hc => ?_) (fun hc => ?_) | refine R.condN rfl (fun hc => ?_) (fun hc => ?_) | refine R.condB rfl (fun hc => ?_) (fun hc => ?_))
  all_goals first
    | (exfalso; omega)
    | exact R.ret ⟨.inr rfl, R.outP rfl rfl⟩
    | skip
theorem setL_bits (tb : List Int) (ps : List TCube) : ∀ x : List Nat, setL (stF tb ps) x = bitsF tb.length (anyQ ps x)
  | [] => (bitsF_false tb.length).symm
  | k :: x => by
    rw [setL, setL_bits tb ps x, stF, bitsF_or]
    rfl
theorem updI_congr {cv cv' : List Nat → Prop} [DecidablePred cv] [DecidablePred cv'] {cs : List Nat → Int} (h : ∀ l, cv l ↔ cv' l) (b : Option (List Nat)) (l : List Nat) : updI cv cs b l = updI cv' cs b l := by
  unfold updI
  by_cases hc : cv l ∧ ∀ x, b = some x → cs l < cs x
  · rw [if_pos hc, if_pos ⟨(h l).1 hc.1, hc.2⟩]
  · rw [if_neg hc, if_neg fun h' => hc ⟨(h l).2 h'.1, h'.2⟩]
theorem srch_congr {cv cv' : List Nat → Prop} [DecidablePred cv] [DecidablePred cv'] {cs : List Nat → Int} (h : ∀ l, cv l ↔ cv' l) (f m a : Nat) (pre : List Nat) (b : Option (List Nat)) : srch cv cs f m a pre b = srch cv' cs f m a pre b := by
  unfold srch
  congr 1
  funext b l
  exact updI_congr h b _
def objL (tb : List Int) (ps : List TCube) (x : List Nat) : Bool → List (Nat × Ob)
  | false => [(18, .box 48 (covB ps (stF tb ps) (bitsF tb.length (oneQ tb)) nilB 0))]
  | true => [(18, .box 48 (covB ps (stF tb ps) (bitsF tb.length (oneQ tb)) (.own 71000) (cstL (careF ps) x))), (71000, .arr kInt (ints (x.map fun k : Nat => (k : Int))) [])]
theorem iLeast (n : Nat) (tb : List Int) (hn : 1 ≤ n ∧ n ≤ 4) (htb : tb.length ≤ 16) (h01 : ∀ (i : Nat) (v : Int), tb[i]? = some v → v = 0 ∨ v = 1) (hps : (tabQ n tb (2 ^ n)).length ≤ 400) (hcare : careOk (tabQ n tb (2 ^ n))) (m : Nat) (k0 : Nat) (x0 : List Nat) (x : List Nat) (hx0 : x = k0 :: x0) (hm : m ≤ (tabQ n tb (2 ^ n)).length) (hx : rise 0 (tabQ n tb (2 ^ n)).length x)
    (hno : ∀ m', m' < m → srch (cvQ tb (tabQ n tb (2 ^ n))) (costQ (tabQ n tb (2 ^ n))) (tabQ n tb (2 ^ n)).length m' 0 [] none = none) (hyes : srch (cvQ tb (tabQ n tb (2 ^ n))) (costQ (tabQ n tb (2 ^ n))) (tabQ n tb (2 ^ n)).length m 0 [] none = some x) : Spec Try.prog 15 [vI n, vL kI (ints tb)] (oN kCube ((cubs (tabQ n tb (2 ^ n)) x).map enCube)) := by
  have hpr := iPrimes1 n tb hn
  have hcg : ∀ y, cvN (stF tb (tabQ n tb (2 ^ n))) (bitsF tb.length (oneQ tb)) y ↔ cvQ tb (tabQ n tb (2 ^ n)) y := fun y => by
    show setL (stF tb (tabQ n tb (2 ^ n))) y = _ ↔ _
    rw [setL_bits]
    exact bits_cover h01
  generalize tabQ n tb (2 ^ n) = ps at *
  have hst : ∀ k, stF tb ps k < 2 ^ 63 := fun k => bits_small htb
  have hno2 : ∀ m', m' < m → srch (cvN (stF tb ps) (bitsF tb.length (oneQ tb))) (cstL (careF ps)) ps.length m' 0 [] none = none := fun m' h => (srch_congr hcg _ _ _ _ _).trans (hno m' h)
  have hyes2 : srch (cvN (stF tb ps) (bitsF tb.length (oneQ tb))) (cstL (careF ps)) ps.length m 0 [] none = some x := (srch_congr hcg _ _ _ _ _).trans hyes
  have hxl := rise_len hx
  have hxk := rise_lt hx
  have hcl := cubs_len ps x
  have hrl : (List.range ps.length).length = ps.length := List.length_range
  refine Spec.walk T.mixed Try.func15 S.ok15 (by simp [Try.f15]) fun hk => ?_
  clear hk hcg hno hyes
  unfold S.s15
  repeat' (first | refine R.mv rfl ?_ | refine R.reg ?_ | refine R.nil ?_ | refine R.seq ?_ | refine R.nseq ?_ | refine R.nblk ?_ | refine R.skip ?_ | refine R.blk ?_ | refine R.exit rfl ?_ | refine R.ldEp rfl rfl (by assumption) rfl rfl ?_ | refine R.ldaEp rfl rfl (by assumption) (Nat.le_of_ble_eq_true rfl) rfl rfl ?_ | refine R.ld rfl rfl rfl ?_ | refine R.lda rfl rfl (Nat.le_of_ble_eq_true rfl) rfl ?_ | refine R.fa rfl rfl ?_ | refine R.lenM rfl ?_ | refine R.lenO rfl rfl ?_ | refine R.len rfl rfl ?_ | refine R.lss rfl rfl ?_ | refine R.add rfl rfl (by omega) ?_ | refine R.ixN rfl rfl rfl (by omega) (fun a ha => ?_) | refine R.ixM rfl rfl rfl (by omega) (fun a ha => ?_) | refine R.ixON rfl rfl rfl (by first | omega | (simp; omega)) (fun a' ha' => ?_) | refine R.ixO rfl rfl rfl (by first | omega | (simp; omega)) (fun a' ha' => ?_) | refine R.cv64 rfl (by omega) ?_ | refine R.nc rfl rfl ?_ | refine R.nc0 rfl rfl ?_ | refine R.al rfl ?_ | refine R.box rfl rfl rfl ?_ | refine R.stoB rfl rfl rfl rfl ⟨rfl, rfl, Nat.le_of_ble_eq_true rfl⟩ rfl ?_ | refine R.stoE _ rfl rfl rfl rfl rfl (by assumption) rfl ⟨rfl, rfl, Nat.le_of_ble_eq_true rfl⟩ ?_ | refine R.bld rfl rfl ?_ | refine R.or rfl rfl ?_ | refine R.shl1 rfl rfl (by omega) (fun hp => ?_) | refine R.cvU rfl (by omega) ?_ | refine R.isn rfl rfl ?_ | refine R.isnn rfl rfl ?_ | refine R.condT rfl ?_ | refine R.condF rfl ?_ | refine R.call (bor := false) rfl rfl (hpr) rfl rfl rfl ?_ | refine R.call (bor := true) rfl rfl (hpr) rfl rfl rfl ?_ | refine R.fcal (bor := false) rfl rfl (hpr) rfl rfl rfl ?_ | refine R.fcal (bor := true) rfl rfl (hpr) rfl rfl rfl ?_ | refine R.cond rfl (fun hc => ?_) (fun hc => ?_) | refine R.condN rfl (fun hc => ?_) (fun hc => ?_) | refine R.condB rfl (fun hc => ?_) (fun hc => ?_) | refine R.isn2 rfl (fun hc => ?_) ?_ | refine R.isn2O rfl rfl (fun hc => ?_) ?_)
  refine R.loop (G := Nat) (fun i => [(1, rdA kI (ints tb)), (5, .v (.c (.ptr 18 0))), (19, rdA kI (ints tb)), (20, pvA (.int .i64 tb.length)), (21, pvA (.int .i64 i))]) (fun i => [(18, .box 48 [.d (.rd kCube (ps.map enCube)), nilB, .d (.pv (.int .u64 (bitsF i (oneQ tb) : Nat))), nilB, .d (iD 0)])]) (fun i => i ≤ tb.length) (fun i => tb.length - i) 0 (by omega) (Weak.frame _ _ ⟨rfl, rfl, rfl, rfl, rfl, trivial⟩ ⟨rfl, trivial⟩ rfl rfl) fun i hi => ?_
  have hsm := bits_small (n := i) (p := oneQ tb) (by omega)
  by_cases hil : i < tb.length
  · obtain ⟨v, hv⟩ : ∃ v, tb[i]? = some v := ⟨_, List.getElem?_eq_getElem hil⟩
    have hpw := pow_small (n := i) (by omega)
    rcases h01 i v hv with rfl | rfl
    · have hb := bits_F (p := oneQ tb) (n := i) (by unfold oneQ; rw [hv]; decide)
      have hz : bitsF i (oneQ tb) ||| 0 * 2 ^ i = bitsF i (oneQ tb) := by rw [Nat.zero_mul, Nat.or_zero]
      repeat' (first | refine R.ixK 0 hv rfl rfl rfl ?_ | refine R.mv rfl ?_ | refine R.reg ?_ | refine R.nil ?_ | refine R.seq ?_ | refine R.nseq ?_ | refine R.nblk ?_ | refine R.skip ?_ | refine R.blk ?_ | refine R.exit rfl ?_ | refine R.ldEp rfl rfl (by assumption) rfl rfl ?_ | refine R.ldaEp rfl rfl (by assumption) (Nat.le_of_ble_eq_true rfl) rfl rfl ?_ | refine R.ld rfl rfl rfl ?_ | refine R.lda rfl rfl (Nat.le_of_ble_eq_true rfl) rfl ?_ | refine R.fa rfl rfl ?_ | refine R.lenM rfl ?_ | refine R.lenO rfl rfl ?_ | refine R.len rfl rfl ?_ | refine R.lss rfl rfl ?_ | refine R.add rfl rfl (by omega) ?_ | refine R.ixN rfl rfl rfl (by omega) (fun a ha => ?_) | refine R.ixM rfl rfl rfl (by omega) (fun a ha => ?_) | refine R.ixON rfl rfl rfl (by first | omega | (simp; omega)) (fun a' ha' => ?_) | refine R.ixO rfl rfl rfl (by first | omega | (simp; omega)) (fun a' ha' => ?_) | refine R.cv64 rfl (by omega) ?_ | refine R.nc rfl rfl ?_ | refine R.nc0 rfl rfl ?_ | refine R.al rfl ?_ | refine R.box rfl rfl rfl ?_ | refine R.stoB rfl rfl rfl rfl ⟨rfl, rfl, Nat.le_of_ble_eq_true rfl⟩ rfl ?_ | refine R.stoE _ rfl rfl rfl rfl rfl (by assumption) rfl ⟨rfl, rfl, Nat.le_of_ble_eq_true rfl⟩ ?_ | refine R.bld rfl rfl ?_ | refine R.or rfl rfl ?_ | refine R.shl1 rfl rfl (by omega) (fun hp => ?_) | refine R.cvU rfl (by omega) ?_ | refine R.isn rfl rfl ?_ | refine R.isnn rfl rfl ?_ | refine R.condT rfl ?_ | refine R.condF rfl ?_ | refine R.cvU rfl ⟨by omega, by omega⟩ ?_ | refine R.shlU (m := 0) (n := i) (by omega) (by omega) rfl rfl ?_ | refine R.orU (b := 0 * 2 ^ i) hsm (by omega) rfl rfl ?_ | refine R.cond rfl (fun hc => ?_) (fun hc => ?_) | refine R.condN rfl (fun hc => ?_) (fun hc => ?_) | refine R.condB rfl (fun hc => ?_) (fun hc => ?_) | refine R.isn2 rfl (fun hc => ?_) ?_ | refine R.isn2O rfl rfl (fun hc => ?_) ?_)
      all_goals first
        | (exfalso; omega)
        | exact R.nloop (R.again (i + 1) (by omega) (by omega) ⟨rfl, rfl, rfl, rfl, rfl, trivial⟩ ⟨by rw [hb.trans hz.symm]; rfl, trivial⟩ rfl rfl)
        | skip
    · have hb := bits_T (p := oneQ tb) (n := i) (by unfold oneQ; rw [hv]; decide)
      repeat' (first | refine R.ixK 1 hv rfl rfl rfl ?_ | refine R.mv rfl ?_ | refine R.reg ?_ | refine R.nil ?_ | refine R.seq ?_ | refine R.nseq ?_ | refine R.nblk ?_ | refine R.skip ?_ | refine R.blk ?_ | refine R.exit rfl ?_ | refine R.ldEp rfl rfl (by assumption) rfl rfl ?_ | refine R.ldaEp rfl rfl (by assumption) (Nat.le_of_ble_eq_true rfl) rfl rfl ?_ | refine R.ld rfl rfl rfl ?_ | refine R.lda rfl rfl (Nat.le_of_ble_eq_true rfl) rfl ?_ | refine R.fa rfl rfl ?_ | refine R.lenM rfl ?_ | refine R.lenO rfl rfl ?_ | refine R.len rfl rfl ?_ | refine R.lss rfl rfl ?_ | refine R.add rfl rfl (by omega) ?_ | refine R.ixN rfl rfl rfl (by omega) (fun a ha => ?_) | refine R.ixM rfl rfl rfl (by omega) (fun a ha => ?_) | refine R.ixON rfl rfl rfl (by first | omega | (simp; omega)) (fun a' ha' => ?_) | refine R.ixO rfl rfl rfl (by first | omega | (simp; omega)) (fun a' ha' => ?_) | refine R.cv64 rfl (by omega) ?_ | refine R.nc rfl rfl ?_ | refine R.nc0 rfl rfl ?_ | refine R.al rfl ?_ | refine R.box rfl rfl rfl ?_ | refine R.stoB rfl rfl rfl rfl ⟨rfl, rfl, Nat.le_of_ble_eq_true rfl⟩ rfl ?_ | refine R.stoE _ rfl rfl rfl rfl rfl (by assumption) rfl ⟨rfl, rfl, Nat.le_of_ble_eq_true rfl⟩ ?_ | refine R.bld rfl rfl ?_ | refine R.or rfl rfl ?_ | refine R.shl1 rfl rfl (by omega) (fun hp => ?_) | refine R.cvU rfl (by omega) ?_ | refine R.isn rfl rfl ?_ | refine R.isnn rfl rfl ?_ | refine R.condT rfl ?_ | refine R.condF rfl ?_ | refine R.cvU rfl ⟨by omega, by omega⟩ ?_ | refine R.shlU (m := 1) (n := i) (by omega) (by omega) rfl rfl ?_ | refine R.orU (b := 1 * 2 ^ i) hsm (by omega) rfl rfl ?_ | refine R.cond rfl (fun hc => ?_) (fun hc => ?_) | refine R.condN rfl (fun hc => ?_) (fun hc => ?_) | refine R.condB rfl (fun hc => ?_) (fun hc => ?_) | refine R.isn2 rfl (fun hc => ?_) ?_ | refine R.isn2O rfl rfl (fun hc => ?_) ?_)
      all_goals first
        | (exfalso; omega)
        | exact R.nloop (R.again (i + 1) (by omega) (by omega) ⟨rfl, rfl, rfl, rfl, rfl, trivial⟩ ⟨by rw [hb]; rfl, trivial⟩ rfl rfl)
        | skip
  obtain rfl : i = tb.length := by omega
  repeat' (first | refine R.mv rfl ?_ | refine R.reg ?_ | refine R.nil ?_ | refine R.seq ?_ | refine R.nseq ?_ | refine R.nblk ?_ | refine R.skip ?_ | refine R.blk ?_ | refine R.exit rfl ?_ | refine R.ldEp rfl rfl (by assumption) rfl rfl ?_ | refine R.ldaEp rfl rfl (by assumption) (Nat.le_of_ble_eq_true rfl) rfl rfl ?_ | refine R.ld rfl rfl rfl ?_ | refine R.lda rfl rfl (Nat.le_of_ble_eq_true rfl) rfl ?_ | refine R.fa rfl rfl ?_ | refine R.lenM rfl ?_ | refine R.lenO rfl rfl ?_ | refine R.len rfl rfl ?_ | refine R.lss rfl rfl ?_ | refine R.add rfl rfl (by omega) ?_ | refine R.ixN rfl rfl rfl (by omega) (fun a ha => ?_) | refine R.ixM rfl rfl rfl (by omega) (fun a ha => ?_) | refine R.ixON rfl rfl rfl (by first | omega | (simp; omega)) (fun a' ha' => ?_) | refine R.ixO rfl rfl rfl (by first | omega | (simp; omega)) (fun a' ha' => ?_) | refine R.cv64 rfl (by omega) ?_ | refine R.nc rfl rfl ?_ | refine R.nc0 rfl rfl ?_ | refine R.al rfl ?_ | refine R.box rfl rfl rfl ?_ | refine R.stoB rfl rfl rfl rfl ⟨rfl, rfl, Nat.le_of_ble_eq_true rfl⟩ rfl ?_ | refine R.stoE _ rfl rfl rfl rfl rfl (by assumption) rfl ⟨rfl, rfl, Nat.le_of_ble_eq_true rfl⟩ ?_ | refine R.bld rfl rfl ?_ | refine R.or rfl rfl ?_ | refine R.shl1 rfl rfl (by omega) (fun hp => ?_) | refine R.cvU rfl (by omega) ?_ | refine R.isn rfl rfl ?_ | refine R.isnn rfl rfl ?_ | refine R.condT rfl ?_ | refine R.condF rfl ?_ | refine R.cond rfl (fun hc => ?_) (fun hc => ?_) | refine R.condN rfl (fun hc => ?_) (fun hc => ?_) | refine R.condB rfl (fun hc => ?_) (fun hc => ?_) | refine R.isn2 rfl (fun hc => ?_) ?_ | refine R.isn2O rfl rfl (fun hc => ?_) ?_)
  all_goals first | (exfalso; omega) | skip
  refine R.loop (G := Nat) (fun k => [(1, rdA kI (ints tb)), (5, .v (.c (.ptr 18 0))), (41, rdA kCube (ps.map enCube)), (42, pvA (.int .i64 ps.length)), (43, pvA (.int .i64 k))]) (fun k => [(18, .box 48 [.d (.rd kCube (ps.map enCube)), .own 900, .d (.pv (.int .u64 (bitsF tb.length (oneQ tb) : Nat))), nilB, .d (iD 0)]), (900, .arr kU ((List.range k).map (enU (stF tb ps))) [])]) (fun k => k ≤ ps.length) (fun k => ps.length - k) 0 (by omega) ?hw1 fun k hk => ?_
  case hw1 =>
    refine Weak.trans (Weak.reifyBox 18 1 900 kU rfl rfl rfl) ?_
    exact Weak.frame _ _ ⟨rfl, rfl, rfl, rfl, rfl, trivial⟩ ⟨rfl, rfl, trivial⟩ rfl rfl
  by_cases hkl : k < ps.length
  · obtain ⟨q, hq⟩ : ∃ q, ps[k]? = some q := ⟨_, List.getElem?_eq_getElem hkl⟩
    have hcv := iCovers q tb htb
    have hse : bitsF tb.length (fun i => hasQ q i) = stF tb ps k := by
      unfold stF
      exact bitsF_congr fun i _ => by unfold ctx; rw [hq]
    rw [hse] at hcv
    have hkr : (List.range k).length = k := List.length_range
    have hbd : ((List.range k).length + [k].length) * 8 ≤ 140737488355328 ∧ (List.range k).length + [k].length ≤ 140737488355328 := by rw [hkr, List.length_singleton]; omega
    repeat' (first | refine R.ixK q hq rfl rfl rfl ?_ | refine R.mv rfl ?_ | refine R.reg ?_ | refine R.nil ?_ | refine R.seq ?_ | refine R.nseq ?_ | refine R.nblk ?_ | refine R.skip ?_ | refine R.blk ?_ | refine R.exit rfl ?_ | refine R.ldEp rfl rfl (by assumption) rfl rfl ?_ | refine R.ldaEp rfl rfl (by assumption) (Nat.le_of_ble_eq_true rfl) rfl rfl ?_ | refine R.ld rfl rfl rfl ?_ | refine R.lda rfl rfl (Nat.le_of_ble_eq_true rfl) rfl ?_ | refine R.fa rfl rfl ?_ | refine R.lenM rfl ?_ | refine R.lenO rfl rfl ?_ | refine R.len rfl rfl ?_ | refine R.lss rfl rfl ?_ | refine R.add rfl rfl (by omega) ?_ | refine R.ixN rfl rfl rfl (by omega) (fun a ha => ?_) | refine R.ixM rfl rfl rfl (by omega) (fun a ha => ?_) | refine R.ixON rfl rfl rfl (by first | omega | (simp; omega)) (fun a' ha' => ?_) | refine R.ixO rfl rfl rfl (by first | omega | (simp; omega)) (fun a' ha' => ?_) | refine R.cv64 rfl (by omega) ?_ | refine R.nc rfl rfl ?_ | refine R.nc0 rfl rfl ?_ | refine R.al rfl ?_ | refine R.box rfl rfl rfl ?_ | refine R.stoB rfl rfl rfl rfl ⟨rfl, rfl, Nat.le_of_ble_eq_true rfl⟩ rfl ?_ | refine R.stoE _ rfl rfl rfl rfl rfl (by assumption) rfl ⟨rfl, rfl, Nat.le_of_ble_eq_true rfl⟩ ?_ | refine R.bld rfl rfl ?_ | refine R.or rfl rfl ?_ | refine R.shl1 rfl rfl (by omega) (fun hp => ?_) | refine R.cvU rfl (by omega) ?_ | refine R.isn rfl rfl ?_ | refine R.isnn rfl rfl ?_ | refine R.condT rfl ?_ | refine R.condF rfl ?_ | refine R.call (bor := false) rfl rfl (hcv) rfl rfl rfl ?_ | refine R.call (bor := true) rfl rfl (hcv) rfl rfl rfl ?_ | refine R.fcal (bor := false) rfl rfl (hcv) rfl rfl rfl ?_ | refine R.fcal (bor := true) rfl rfl (hcv) rfl rfl rfl ?_ | refine R.bslF (f := enU (stF tb ps)) [k] rfl rfl rfl rfl ?_ | refine R.bsl (f := enU (stF tb ps)) [k] rfl rfl rfl rfl rfl ?_ | refine R.app (f := enU (stF tb ps)) (fun _ => rfl) rfl rfl rfl rfl rfl hbd ?_ | refine R.cond rfl (fun hc => ?_) (fun hc => ?_) | refine R.condN rfl (fun hc => ?_) (fun hc => ?_) | refine R.condB rfl (fun hc => ?_) (fun hc => ?_) | refine R.isn2 rfl (fun hc => ?_) ?_ | refine R.isn2O rfl rfl (fun hc => ?_) ?_)
    all_goals first
      | (exfalso; omega)
      | exact R.nloop (R.again (k + 1) (by omega) (by omega) ⟨rfl, rfl, rfl, rfl, rfl, trivial⟩ ⟨rfl, arr_eq (by rw [List.range_succ]), trivial⟩ rfl rfl)
      | skip
  obtain rfl : k = ps.length := by omega
  repeat' (first | refine R.mv rfl ?_ | refine R.reg ?_ | refine R.nil ?_ | refine R.seq ?_ | refine R.nseq ?_ | refine R.nblk ?_ | refine R.skip ?_ | refine R.blk ?_ | refine R.exit rfl ?_ | refine R.ldEp rfl rfl (by assumption) rfl rfl ?_ | refine R.ldaEp rfl rfl (by assumption) (Nat.le_of_ble_eq_true rfl) rfl rfl ?_ | refine R.ld rfl rfl rfl ?_ | refine R.lda rfl rfl (Nat.le_of_ble_eq_true rfl) rfl ?_ | refine R.fa rfl rfl ?_ | refine R.lenM rfl ?_ | refine R.lenO rfl rfl ?_ | refine R.len rfl rfl ?_ | refine R.lss rfl rfl ?_ | refine R.add rfl rfl (by omega) ?_ | refine R.ixN rfl rfl rfl (by omega) (fun a ha => ?_) | refine R.ixM rfl rfl rfl (by omega) (fun a ha => ?_) | refine R.ixON rfl rfl rfl (by first | omega | (simp; omega)) (fun a' ha' => ?_) | refine R.ixO rfl rfl rfl (by first | omega | (simp; omega)) (fun a' ha' => ?_) | refine R.cv64 rfl (by omega) ?_ | refine R.nc rfl rfl ?_ | refine R.nc0 rfl rfl ?_ | refine R.al rfl ?_ | refine R.box rfl rfl rfl ?_ | refine R.stoB rfl rfl rfl rfl ⟨rfl, rfl, Nat.le_of_ble_eq_true rfl⟩ rfl ?_ | refine R.stoE _ rfl rfl rfl rfl rfl (by assumption) rfl ⟨rfl, rfl, Nat.le_of_ble_eq_true rfl⟩ ?_ | refine R.bld rfl rfl ?_ | refine R.or rfl rfl ?_ | refine R.shl1 rfl rfl (by omega) (fun hp => ?_) | refine R.cvU rfl (by omega) ?_ | refine R.isn rfl rfl ?_ | refine R.isnn rfl rfl ?_ | refine R.condT rfl ?_ | refine R.condF rfl ?_ | refine R.cond rfl (fun hc => ?_) (fun hc => ?_) | refine R.condN rfl (fun hc => ?_) (fun hc => ?_) | refine R.condB rfl (fun hc => ?_) (fun hc => ?_) | refine R.isn2 rfl (fun hc => ?_) ?_ | refine R.isn2O rfl rfl (fun hc => ?_) ?_)
  all_goals first | (exfalso; omega) | skip
  refine R.loop (G := Nat × Bool) (fun g => [(5, .v (.c (.ptr 18 0))), (10, pvA (.int .i64 g.1))]) (fun g => objL tb ps x g.2) (fun g => g.1 ≤ m + 1 ∧ (g.2 = false → g.1 ≤ m)) (fun g => m + 1 - g.1) (0, false) ⟨by omega, fun _ => Nat.zero_le _⟩ ?hw2 fun g hg => ?_
  case hw2 =>
    refine Weak.trans (Weak.freeze 900 rfl rfl) ?_
    exact Weak.frame _ _ ⟨rfl, rfl, trivial⟩ ⟨rfl, trivial⟩ rfl rfl
  obtain ⟨c, fd⟩ := g
  obtain ⟨hc1, hc2⟩ := hg
  dsimp only at hc1 hc2
  cases fd with
  | false =>
    change WC Try.prog _ _ _ ⟨frE [(5, .v (.c (.ptr 18 0))), (10, pvA (.int .i64 c))], frO [(18, .box 48 (covB ps (stF tb ps) (bitsF tb.length (oneQ tb)) nilB 0))]⟩
    have hcm := hc2 rfl
    by_cases hlt : c < m
    · have hS := iSearchN (many := c) (whole := bitsF tb.length (oneQ tb)) (by omega) (by omega) hcare hst (hno2 c hlt)
      repeat' (first | refine R.mv rfl ?_ | refine R.reg ?_ | refine R.nil ?_ | refine R.seq ?_ | refine R.nseq ?_ | refine R.nblk ?_ | refine R.skip ?_ | refine R.blk ?_ | refine R.exit rfl ?_ | refine R.ldEp rfl rfl (by assumption) rfl rfl ?_ | refine R.ldaEp rfl rfl (by assumption) (Nat.le_of_ble_eq_true rfl) rfl rfl ?_ | refine R.ld rfl rfl rfl ?_ | refine R.lda rfl rfl (Nat.le_of_ble_eq_true rfl) rfl ?_ | refine R.fa rfl rfl ?_ | refine R.lenM rfl ?_ | refine R.lenO rfl rfl ?_ | refine R.len rfl rfl ?_ | refine R.lss rfl rfl ?_ | refine R.add rfl rfl (by omega) ?_ | refine R.ixN rfl rfl rfl (by omega) (fun a ha => ?_) | refine R.ixM rfl rfl rfl (by omega) (fun a ha => ?_) | refine R.ixON rfl rfl rfl (by first | omega | (simp; omega)) (fun a' ha' => ?_) | refine R.ixO rfl rfl rfl (by first | omega | (simp; omega)) (fun a' ha' => ?_) | refine R.cv64 rfl (by omega) ?_ | refine R.nc rfl rfl ?_ | refine R.nc0 rfl rfl ?_ | refine R.al rfl ?_ | refine R.box rfl rfl rfl ?_ | refine R.stoB rfl rfl rfl rfl ⟨rfl, rfl, Nat.le_of_ble_eq_true rfl⟩ rfl ?_ | refine R.stoE _ rfl rfl rfl rfl rfl (by assumption) rfl ⟨rfl, rfl, Nat.le_of_ble_eq_true rfl⟩ ?_ | refine R.bld rfl rfl ?_ | refine R.or rfl rfl ?_ | refine R.shl1 rfl rfl (by omega) (fun hp => ?_) | refine R.cvU rfl (by omega) ?_ | refine R.isn rfl rfl ?_ | refine R.isnn rfl rfl ?_ | refine R.condT rfl ?_ | refine R.condF rfl ?_ | refine R.callX (bor := false) [(18, pin 0)] rfl hS rfl rfl rfl rfl rfl ?_ | refine R.cond rfl (fun hc => ?_) (fun hc => ?_) | refine R.condN rfl (fun hc => ?_) (fun hc => ?_) | refine R.condB rfl (fun hc => ?_) (fun hc => ?_) | refine R.isn2 rfl (fun hc => ?_) ?_ | refine R.isn2O rfl rfl (fun hc => ?_) ?_)
      all_goals first
        | (exfalso; omega)
        | exact R.nloop (R.again (c + 1, false) ⟨by show c + 1 ≤ m + 1; omega, fun _ => by show c + 1 ≤ m; omega⟩ (by show m + 1 - (c + 1) < m + 1 - c; omega) ⟨rfl, rfl, trivial⟩ ⟨rfl, trivial⟩ rfl rfl)
        | skip
    · obtain rfl : c = m := by omega
      have hS := iSearchS (many := c) (x := x) (whole := bitsF tb.length (oneQ tb)) (by omega) (fun k hk => by have := hxk k hk; omega) (by omega) (by omega) hcare hst hyes2
      repeat' (first | refine R.mv rfl ?_ | refine R.reg ?_ | refine R.nil ?_ | refine R.seq ?_ | refine R.nseq ?_ | refine R.nblk ?_ | refine R.skip ?_ | refine R.blk ?_ | refine R.exit rfl ?_ | refine R.ldEp rfl rfl (by assumption) rfl rfl ?_ | refine R.ldaEp rfl rfl (by assumption) (Nat.le_of_ble_eq_true rfl) rfl rfl ?_ | refine R.ld rfl rfl rfl ?_ | refine R.lda rfl rfl (Nat.le_of_ble_eq_true rfl) rfl ?_ | refine R.fa rfl rfl ?_ | refine R.lenM rfl ?_ | refine R.lenO rfl rfl ?_ | refine R.len rfl rfl ?_ | refine R.lss rfl rfl ?_ | refine R.add rfl rfl (by omega) ?_ | refine R.ixN rfl rfl rfl (by omega) (fun a ha => ?_) | refine R.ixM rfl rfl rfl (by omega) (fun a ha => ?_) | refine R.ixON rfl rfl rfl (by first | omega | (simp; omega)) (fun a' ha' => ?_) | refine R.ixO rfl rfl rfl (by first | omega | (simp; omega)) (fun a' ha' => ?_) | refine R.cv64 rfl (by omega) ?_ | refine R.nc rfl rfl ?_ | refine R.nc0 rfl rfl ?_ | refine R.al rfl ?_ | refine R.box rfl rfl rfl ?_ | refine R.stoB rfl rfl rfl rfl ⟨rfl, rfl, Nat.le_of_ble_eq_true rfl⟩ rfl ?_ | refine R.stoE _ rfl rfl rfl rfl rfl (by assumption) rfl ⟨rfl, rfl, Nat.le_of_ble_eq_true rfl⟩ ?_ | refine R.bld rfl rfl ?_ | refine R.or rfl rfl ?_ | refine R.shl1 rfl rfl (by omega) (fun hp => ?_) | refine R.cvU rfl (by omega) ?_ | refine R.isn rfl rfl ?_ | refine R.isnn rfl rfl ?_ | refine R.condT rfl ?_ | refine R.condF rfl ?_ | refine R.callX (bor := false) [(18, pin 0)] rfl hS rfl rfl rfl rfl rfl ?_ | refine R.cond rfl (fun hc => ?_) (fun hc => ?_) | refine R.condN rfl (fun hc => ?_) (fun hc => ?_) | refine R.condB rfl (fun hc => ?_) (fun hc => ?_) | refine R.isn2 rfl (fun hc => ?_) ?_ | refine R.isn2O rfl rfl (fun hc => ?_) ?_)
      all_goals first
        | (exfalso; omega)
        | exact R.nloop (R.again (c + 1, true) ⟨Nat.le_refl _, fun h => by cases h⟩ (by show c + 1 - (c + 1) < c + 1 - c; omega) ⟨rfl, rfl, trivial⟩ ⟨rfl, rfl, trivial⟩ rfl rfl)
        | skip
  | true =>
    change WC Try.prog _ _ _ ⟨frE [(5, .v (.c (.ptr 18 0))), (10, pvA (.int .i64 c))], frO [(18, .box 48 (covB ps (stF tb ps) (bitsF tb.length (oneQ tb)) (.own 71000) (cstL (careF ps) x))), (71000, .arr kInt (ints (x.map fun k : Nat => (k : Int))) [])]⟩
    have hxm : (x.map fun k : Nat => (k : Int)).length = x.length := by simp
    subst hx0
    repeat' (first | refine R.mv rfl ?_ | refine R.reg ?_ | refine R.nil ?_ | refine R.seq ?_ | refine R.nseq ?_ | refine R.nblk ?_ | refine R.skip ?_ | refine R.blk ?_ | refine R.exit rfl ?_ | refine R.ldEp rfl rfl (by assumption) rfl rfl ?_ | refine R.ldaEp rfl rfl (by assumption) (Nat.le_of_ble_eq_true rfl) rfl rfl ?_ | refine R.ld rfl rfl rfl ?_ | refine R.lda rfl rfl (Nat.le_of_ble_eq_true rfl) rfl ?_ | refine R.fa rfl rfl ?_ | refine R.lenM rfl ?_ | refine R.lenO rfl rfl ?_ | refine R.len rfl rfl ?_ | refine R.lss rfl rfl ?_ | refine R.add rfl rfl (by omega) ?_ | refine R.ixN rfl rfl rfl (by omega) (fun a ha => ?_) | refine R.ixM rfl rfl rfl (by omega) (fun a ha => ?_) | refine R.ixON rfl rfl rfl (by first | omega | (simp; omega)) (fun a' ha' => ?_) | refine R.ixO rfl rfl rfl (by first | omega | (simp; omega)) (fun a' ha' => ?_) | refine R.cv64 rfl (by omega) ?_ | refine R.nc rfl rfl ?_ | refine R.nc0 rfl rfl ?_ | refine R.al rfl ?_ | refine R.box rfl rfl rfl ?_ | refine R.stoB rfl rfl rfl rfl ⟨rfl, rfl, Nat.le_of_ble_eq_true rfl⟩ rfl ?_ | refine R.stoE _ rfl rfl rfl rfl rfl (by assumption) rfl ⟨rfl, rfl, Nat.le_of_ble_eq_true rfl⟩ ?_ | refine R.bld rfl rfl ?_ | refine R.or rfl rfl ?_ | refine R.shl1 rfl rfl (by omega) (fun hp => ?_) | refine R.cvU rfl (by omega) ?_ | refine R.isn rfl rfl ?_ | refine R.isnn rfl rfl ?_ | refine R.condT rfl ?_ | refine R.condF rfl ?_ | refine R.cond rfl (fun hc => ?_) (fun hc => ?_) | refine R.condN rfl (fun hc => ?_) (fun hc => ?_) | refine R.condB rfl (fun hc => ?_) (fun hc => ?_) | refine R.isn2 rfl (fun hc => ?_) ?_ | refine R.isn2O rfl rfl (fun hc => ?_) ?_)
    all_goals first | (exfalso; omega) | skip
    refine R.loop (G := Nat) (fun j => [(5, .v (.c (.ptr 18 0))), (11, .v (.c (.own 11))), (73, rdA kInt (ints ((k0 :: x0).map fun k : Nat => (k : Int)))), (74, pvA (.int .i64 ((k0 :: x0).map fun k : Nat => (k : Int)).length)), (75, pvA (.int .i64 j))]) (fun j => [(18, .box 48 [.d (.rd kCube (ps.map enCube)), .d (.rd kU ((List.range ps.length).map (enU (stF tb ps)))), .d (.pv (.int .u64 (bitsF tb.length (oneQ tb) : Nat))), .d (.rd kInt (ints ((k0 :: x0).map fun k : Nat => (k : Int)))), .d (iD (cstL (careF ps) (k0 :: x0)))]), (11, .arr kCube ((cubs ps ((k0 :: x0).take j)).map enCube) [])]) (fun j => j ≤ (k0 :: x0).length) (fun j => (k0 :: x0).length - j) 0 (Nat.zero_le _) ?hw3 fun j hj => ?_
    case hw3 =>
      refine Weak.trans (Weak.freeze 71000 rfl rfl) ?_
      refine Weak.trans (Weak.reify 11 11 kCube rfl rfl) ?_
      exact Weak.frame _ _ ⟨rfl, rfl, rfl, rfl, rfl, trivial⟩ ⟨rfl, rfl, trivial⟩ rfl rfl
    have htl : (cubs ps ((k0 :: x0).take j)).length ≤ j := by rw [cubs_len, List.length_take]; omega
    by_cases hjl : j < (k0 :: x0).length
    · obtain ⟨kj, hkj⟩ : ∃ kj, (k0 :: x0)[j]? = some kj := ⟨_, List.getElem?_eq_getElem hjl⟩
      have hkl := hxk kj (List.mem_of_getElem? hkj)
      have hkj2 : ((k0 :: x0).map fun k : Nat => (k : Int))[j]? = some (kj : Int) := by rw [List.getElem?_map, hkj]; rfl
      obtain ⟨q, hq⟩ : ∃ q, ps[kj]? = some q := ⟨_, List.getElem?_eq_getElem hkl⟩
      have hgd : ps.getD kj ⟨0, 0⟩ = q := by rw [List.getD_eq_getElem?_getD, hq]; rfl
      have hbd : ((cubs ps ((k0 :: x0).take j)).length + [q].length) * 16 ≤ 140737488355328 ∧ (cubs ps ((k0 :: x0).take j)).length + [q].length ≤ 140737488355328 := by rw [List.length_singleton]; omega
      repeat' (first | refine R.ixK (kj : Int) hkj2 rfl rfl rfl ?_ | refine R.ixK (i := kj) q hq rfl rfl rfl ?_ | refine R.mv rfl ?_ | refine R.reg ?_ | refine R.nil ?_ | refine R.seq ?_ | refine R.nseq ?_ | refine R.nblk ?_ | refine R.skip ?_ | refine R.blk ?_ | refine R.exit rfl ?_ | refine R.ldEp rfl rfl (by assumption) rfl rfl ?_ | refine R.ldaEp rfl rfl (by assumption) (Nat.le_of_ble_eq_true rfl) rfl rfl ?_ | refine R.ld rfl rfl rfl ?_ | refine R.lda rfl rfl (Nat.le_of_ble_eq_true rfl) rfl ?_ | refine R.fa rfl rfl ?_ | refine R.lenM rfl ?_ | refine R.lenO rfl rfl ?_ | refine R.len rfl rfl ?_ | refine R.lss rfl rfl ?_ | refine R.add rfl rfl (by omega) ?_ | refine R.ixN rfl rfl rfl (by omega) (fun a ha => ?_) | refine R.ixM rfl rfl rfl (by omega) (fun a ha => ?_) | refine R.ixON rfl rfl rfl (by first | omega | (simp; omega)) (fun a' ha' => ?_) | refine R.ixO rfl rfl rfl (by first | omega | (simp; omega)) (fun a' ha' => ?_) | refine R.cv64 rfl (by omega) ?_ | refine R.nc rfl rfl ?_ | refine R.nc0 rfl rfl ?_ | refine R.al rfl ?_ | refine R.box rfl rfl rfl ?_ | refine R.stoB rfl rfl rfl rfl ⟨rfl, rfl, Nat.le_of_ble_eq_true rfl⟩ rfl ?_ | refine R.stoE _ rfl rfl rfl rfl rfl (by assumption) rfl ⟨rfl, rfl, Nat.le_of_ble_eq_true rfl⟩ ?_ | refine R.bld rfl rfl ?_ | refine R.or rfl rfl ?_ | refine R.shl1 rfl rfl (by omega) (fun hp => ?_) | refine R.cvU rfl (by omega) ?_ | refine R.isn rfl rfl ?_ | refine R.isnn rfl rfl ?_ | refine R.condT rfl ?_ | refine R.condF rfl ?_ | refine R.bsl (f := enCube) [q] rfl rfl rfl rfl rfl ?_ | refine R.app (f := enCube) (fun _ => rfl) rfl rfl rfl rfl rfl hbd ?_ | refine R.cond rfl (fun hc => ?_) (fun hc => ?_) | refine R.condN rfl (fun hc => ?_) (fun hc => ?_) | refine R.condB rfl (fun hc => ?_) (fun hc => ?_) | refine R.isn2 rfl (fun hc => ?_) ?_ | refine R.isn2O rfl rfl (fun hc => ?_) ?_)
      all_goals first
        | (exfalso; omega)
        | exact R.nloop (R.again (j + 1) (by omega) (by omega) ⟨rfl, rfl, rfl, rfl, rfl, trivial⟩ ⟨rfl, arr_eq (by rw [take_snoc hkj, cubs_snoc, hgd]), trivial⟩ rfl rfl)
        | skip
    obtain rfl : j = (k0 :: x0).length := by omega
    rw [List.take_length]
    repeat' (first | refine R.mv rfl ?_ | refine R.reg ?_ | refine R.nil ?_ | refine R.seq ?_ | refine R.nseq ?_ | refine R.nblk ?_ | refine R.skip ?_ | refine R.blk ?_ | refine R.exit rfl ?_ | refine R.ldEp rfl rfl (by assumption) rfl rfl ?_ | refine R.ldaEp rfl rfl (by assumption) (Nat.le_of_ble_eq_true rfl) rfl rfl ?_ | refine R.ld rfl rfl rfl ?_ | refine R.lda rfl rfl (Nat.le_of_ble_eq_true rfl) rfl ?_ | refine R.fa rfl rfl ?_ | refine R.lenM rfl ?_ | refine R.lenO rfl rfl ?_ | refine R.len rfl rfl ?_ | refine R.lss rfl rfl ?_ | refine R.add rfl rfl (by omega) ?_ | refine R.ixN rfl rfl rfl (by omega) (fun a ha => ?_) | refine R.ixM rfl rfl rfl (by omega) (fun a ha => ?_) | refine R.ixON rfl rfl rfl (by first | omega | (simp; omega)) (fun a' ha' => ?_) | refine R.ixO rfl rfl rfl (by first | omega | (simp; omega)) (fun a' ha' => ?_) | refine R.cv64 rfl (by omega) ?_ | refine R.nc rfl rfl ?_ | refine R.nc0 rfl rfl ?_ | refine R.al rfl ?_ | refine R.box rfl rfl rfl ?_ | refine R.stoB rfl rfl rfl rfl ⟨rfl, rfl, Nat.le_of_ble_eq_true rfl⟩ rfl ?_ | refine R.stoE _ rfl rfl rfl rfl rfl (by assumption) rfl ⟨rfl, rfl, Nat.le_of_ble_eq_true rfl⟩ ?_ | refine R.bld rfl rfl ?_ | refine R.or rfl rfl ?_ | refine R.shl1 rfl rfl (by omega) (fun hp => ?_) | refine R.cvU rfl (by omega) ?_ | refine R.isn rfl rfl ?_ | refine R.isnn rfl rfl ?_ | refine R.condT rfl ?_ | refine R.condF rfl ?_ | refine R.cond rfl (fun hc => ?_) (fun hc => ?_) | refine R.condN rfl (fun hc => ?_) (fun hc => ?_) | refine R.condB rfl (fun hc => ?_) (fun hc => ?_) | refine R.isn2 rfl (fun hc => ?_) ?_ | refine R.isn2O rfl rfl (fun hc => ?_) ?_)
    all_goals first
      | (exfalso; omega)
      | exact R.ret ⟨.inr rfl, R.outN rfl rfl rfl⟩
      | skip
theorem tab_care {n : Nat} {tb : List Int} (hn : 1 ≤ n ∧ n ≤ 4) : careOk (tabQ n tb (2 ^ n)) := fun c hc => by
  obtain ⟨_, a, v, h1, h2, rfl⟩ := tabQ_ok hc
  have := p16 hn
  exact ⟨by show (0 : Int) ≤ (a : Int); omega, by show (a : Int) ≤ 15; omega⟩
theorem tab_len {n : Nat} {tb : List Int} (hn : 1 ≤ n ∧ n ≤ 4) : (tabQ n tb (2 ^ n)).length ≤ 256 := by
  have h := p16 hn
  have := tabQ_len (n := n) (l := tb) (2 ^ n) h.2
  omega
theorem inK_01 {tb : List Int} {m : Int} (h : inK tb m) : ∀ (i : Nat) (v : Int), tb[i]? = some v → v = 0 ∨ v = 1 := fun i v hv => by
  have := h.2 v (List.mem_of_getElem? hv)
  omega
theorem inK_len {n : Nat} {tb : List Int} (h : inK tb (2 ^ n)) : tb.length = 2 ^ n := by
  have h1 := h.1
  have h2 := p16c (n := n)
  omega
theorem lc_ex {n : Nat} {tb : List Int} (hn : 1 ≤ n ∧ n ≤ 4) (h : inK tb (2 ^ n)) : ∃ (x : List Nat) (m : Nat), m ≤ (tabQ n tb (2 ^ n)).length ∧ (∀ m', m' < m → srch (cvQ tb (tabQ n tb (2 ^ n))) (costQ (tabQ n tb (2 ^ n))) (tabQ n tb (2 ^ n)).length m' 0 [] none = none) ∧ srch (cvQ tb (tabQ n tb (2 ^ n))) (costQ (tabQ n tb (2 ^ n))) (tabQ n tb (2 ^ n)).length m 0 [] none = some x ∧ tryB (cvQ tb (tabQ n tb (2 ^ n))) (costQ (tabQ n tb (2 ^ n))) (tabQ n tb (2 ^ n)).length 0 [] none = some x ∧ rise 0 (tabQ n tb (2 ^ n)).length x ∧ x.length = m := by
  obtain ⟨m, x, hx⟩ := least_cover (l := tb) hn (inK_len h)
  exact ⟨x, m, hx⟩
open Classical in
/-- The least cover of a table, by numbers of primes. -/
noncomputable def lcX (n : Nat) (tb : List Int) : List Nat := if h : (1 ≤ n ∧ n ≤ 4) ∧ inK tb (2 ^ n) then Classical.choose (lc_ex h.1 h.2) else []
theorem lcX_ok {n : Nat} {tb : List Int} (hn : 1 ≤ n ∧ n ≤ 4) (h : inK tb (2 ^ n)) : ∃ m : Nat, m ≤ (tabQ n tb (2 ^ n)).length ∧ (∀ m', m' < m → srch (cvQ tb (tabQ n tb (2 ^ n))) (costQ (tabQ n tb (2 ^ n))) (tabQ n tb (2 ^ n)).length m' 0 [] none = none) ∧ srch (cvQ tb (tabQ n tb (2 ^ n))) (costQ (tabQ n tb (2 ^ n))) (tabQ n tb (2 ^ n)).length m 0 [] none = some (lcX n tb) ∧ tryB (cvQ tb (tabQ n tb (2 ^ n))) (costQ (tabQ n tb (2 ^ n))) (tabQ n tb (2 ^ n)).length 0 [] none = some (lcX n tb) ∧ rise 0 (tabQ n tb (2 ^ n)).length (lcX n tb) ∧ (lcX n tb).length = m := by
  have hx := Classical.choose_spec (lc_ex hn h)
  have e : lcX n tb = Classical.choose (lc_ex hn h) := dif_pos ⟨hn, h⟩
  rw [e]
  exact hx
open Classical in
noncomputable def fLC (n : Int) (l : List Int) : List TCube × Int := if okT n l then (cubs (tabQ n.toNat l (2 ^ n.toNat)) (lcX n.toNat l), 0) else ([], 2)
theorem fLC_len {n : Int} {l : List Int} : (fLC n l).1.length ≤ 256 := by
  unfold fLC
  split
  · rename_i h
    have hn : 1 ≤ n.toNat ∧ n.toNat ≤ 4 := ⟨by have := h.1; omega, by have := h.1; omega⟩
    obtain ⟨m, _, _, _, _, h5, _⟩ := lcX_ok hn h.2
    have h1 := rise_len h5
    have h2 := tab_len (tb := l) hn
    show (cubs _ _).length ≤ 256
    rw [cubs_len]
    omega
  · simp
theorem sLeast (n : Nat) (tb : List Int) (hn : 1 ≤ n ∧ n ≤ 4) (h : inK tb (2 ^ n)) (x : List Nat) (ht : tryB (cvQ tb (tabQ n tb (2 ^ n))) (costQ (tabQ n tb (2 ^ n))) (tabQ n tb (2 ^ n)).length 0 [] none = some x) : Spec Try.prog 13 [vI n, vL kI (ints tb)] (.v (.c (.fz (.rd kCube ((cubs (tabQ n tb (2 ^ n)) x).map enCube))))) := by
  have hpr := sPrimes1 n tb hn
  have hcare := tab_care (tb := tb) hn
  have hps := tab_len (tb := tb) hn
  have h01 := inK_01 h
  have hlen := inK_len h
  have hp := p16 hn
  generalize tabQ n tb (2 ^ n) = ps at *
  have hT := sTry tb ps (by omega) (by omega) h01 hcare ps.length 0 [] none (by omega) trivial (fun x hx => by cases hx)
  rw [ht] at hT
  refine Spec.walk T.mixed Try.func13 S.ok13 (by simp [Try.f13]) fun hk => ?_
  clear hk
  unfold S.s13
  repeat' (first | refine R.mv rfl ?_ | refine R.reg ?_ | refine R.nil ?_ | refine R.seq ?_ | refine R.nseq ?_ | refine R.nblk ?_ | refine R.skip ?_ | refine R.blk ?_ | refine R.exit rfl ?_ | refine R.ldEp rfl rfl (by assumption) rfl rfl ?_ | refine R.ldaEp rfl rfl (by assumption) (Nat.le_of_ble_eq_true rfl) rfl rfl ?_ | refine R.ld rfl rfl rfl ?_ | refine R.lda rfl rfl (Nat.le_of_ble_eq_true rfl) rfl ?_ | refine R.fa rfl rfl ?_ | refine R.nc rfl rfl ?_ | refine R.nc0 rfl rfl ?_ | refine R.box rfl rfl rfl ?_ | refine R.bld rfl rfl ?_ | refine R.condT rfl ?_ | refine R.condF rfl ?_ | refine R.call (bor := false) rfl rfl (hpr) rfl rfl rfl ?_ | refine R.call (bor := true) rfl rfl (hpr) rfl rfl rfl ?_ | refine R.fcal (bor := false) rfl rfl (hpr) rfl rfl rfl ?_ | refine R.fcal (bor := true) rfl rfl (hpr) rfl rfl rfl ?_ | refine R.bsl (f := enCube) ([] : List TCube) rfl rfl rfl rfl rfl ?_ | refine R.weak (Weak.reifyBox 11 2 900 kCube rfl rfl rfl) (R.weak (Weak.freeze 900 rfl rfl) (R.weak (Weak.freeze 13 rfl rfl) (R.callX (bor := false) [(11, pin 0)] rfl hT rfl rfl rfl rfl rfl ?_))) | refine R.cond rfl (fun hc => ?_) (fun hc => ?_) | refine R.condN rfl (fun hc => ?_) (fun hc => ?_) | refine R.condB rfl (fun hc => ?_) (fun hc => ?_))
  all_goals first
    | (exfalso; omega)
    | exact R.ret ⟨.inr rfl, R.outR rfl (.cons (R.tmp rfl) .nil) rfl rfl rfl rfl⟩
    | skip
theorem sLeastCover (n : Int) (l : List Int) : Spec Try.prog 4 [vI n, vL kI (ints l)] (.tup [.c (.fz (.rd kCube ((fLC n l).1.map enCube))), cI (fLC n l).2]) := by
  by_cases h : okT n l
  · rw [show fLC n l = (cubs (tabQ n.toNat l (2 ^ n.toNat)) (lcX n.toNat l), 0) from if_pos h]
    obtain ⟨k, rfl⟩ : ∃ k : Nat, n = k := ⟨n.toNat, by have := h.1; omega⟩
    have hk4 : 1 ≤ k ∧ k ≤ 4 := ⟨by have := h.1; omega, by have := h.1; omega⟩
    have hK : inK l (2 ^ k) := h.2
    obtain ⟨m, h1, h2, h3, h4, h5, h6⟩ := lcX_ok hk4 hK
    have hS := sLeast k l hk4 hK _ h4
    refine Spec.walk T.mixed Try.func4 S.ok4 (by simp [Try.f4]) fun hk => ?_
    clear hk
    unfold S.s4
    repeat' (first | refine R.mv rfl ?_ | refine R.reg ?_ | refine R.nil ?_ | refine R.seq ?_ | refine R.nseq ?_ | refine R.nblk ?_ | refine R.skip ?_ | refine R.blk ?_ | refine R.exit rfl ?_ | refine R.not rfl ?_ | refine R.condT rfl ?_ | refine R.condF rfl ?_ | refine R.call (bor := false) rfl rfl (sTabT hk4 hK) rfl rfl rfl ?_ | refine R.call (bor := true) rfl rfl (sTabT hk4 hK) rfl rfl rfl ?_ | refine R.fcal (bor := false) rfl rfl (sTabT hk4 hK) rfl rfl rfl ?_ | refine R.fcal (bor := true) rfl rfl (sTabT hk4 hK) rfl rfl rfl ?_ | refine R.call (bor := false) rfl rfl (hS) rfl rfl rfl ?_ | refine R.call (bor := true) rfl rfl (hS) rfl rfl rfl ?_ | refine R.fcal (bor := false) rfl rfl (hS) rfl rfl rfl ?_ | refine R.fcal (bor := true) rfl rfl (hS) rfl rfl rfl ?_ | refine R.cond rfl (fun hc => ?_) (fun hc => ?_) | refine R.condN rfl (fun hc => ?_) (fun hc => ?_) | refine R.condB rfl (fun hc => ?_) (fun hc => ?_))
    all_goals first
      | (exfalso; omega)
      | exact R.ret ⟨.inr rfl, R.outR rfl (.cons (R.tmp rfl) (.cons (R.tmp rfl) .nil)) rfl rfl rfl ⟨by show ¬ (2 = 1); omega, rfl⟩⟩
      | skip
  · rw [show fLC n l = ([], 2) from if_neg h]
    refine Spec.walk T.mixed Try.func4 S.ok4 (by simp [Try.f4]) fun hk => ?_
    clear hk
    unfold S.s4
    repeat' (first | refine R.mv rfl ?_ | refine R.reg ?_ | refine R.nil ?_ | refine R.seq ?_ | refine R.nseq ?_ | refine R.nblk ?_ | refine R.skip ?_ | refine R.blk ?_ | refine R.exit rfl ?_ | refine R.not rfl ?_ | refine R.condT rfl ?_ | refine R.condF rfl ?_ | refine R.call (bor := false) rfl rfl (sTabF h) rfl rfl rfl ?_ | refine R.call (bor := true) rfl rfl (sTabF h) rfl rfl rfl ?_ | refine R.fcal (bor := false) rfl rfl (sTabF h) rfl rfl rfl ?_ | refine R.fcal (bor := true) rfl rfl (sTabF h) rfl rfl rfl ?_ | refine R.cond rfl (fun hc => ?_) (fun hc => ?_) | refine R.condN rfl (fun hc => ?_) (fun hc => ?_) | refine R.condB rfl (fun hc => ?_) (fun hc => ?_))
    all_goals first
      | (exfalso; omega)
      | exact R.ret ⟨.inr rfl, R.outW (Weak.trans (Weak.reify 4 900 kCube rfl rfl) (Weak.freeze 900 rfl rfl)) (R.outR rfl (.cons (R.tmp rfl) (.cons (R.tmp rfl) .nil)) rfl rfl rfl ⟨by show ¬ (2 = 1); omega, rfl⟩)⟩
      | skip
open Go.RowKit Go.Lib
theorem tabQ_zero {n : Nat} {tb : List Int} (hlen : tb.length = 2 ^ n) (hz : ∀ (i : Nat) (v : Int), tb[i]? = some v → v = 0) : tabQ n tb (2 ^ n) = [] := by
  refine List.eq_nil_iff_forall_not_mem.2 fun q hq => ?_
  obtain ⟨hok, a, v, h1, h2, rfl⟩ := tabQ_ok hq
  have hv : tb[v]? = some tb[v] := List.getElem?_eq_getElem (by omega)
  have h3 := hok.2.1 v _ (by omega) hv (hz v _ hv)
  have h4 : hasQ (⟨(a : Int), (v : Int)⟩ : TCube) v = true := decide_eq_true hok.1
  rw [h3] at h4
  cases h4
/-- The value is a slice with these numbers, in a block below n0, or an empty one. -/
def RowI (w : World) (n0 : Nat) (v : Value) (l : List Int) : Prop := ∃ (a : Option Addr) (cap : Nat), v = .slice a l.length cap ∧ ∀ (k : Nat) (n : Int), l[k]? = some n → ∃ b off, a = some ⟨b, off, none⟩ ∧ b < n0 ∧ w.cell? ⟨b, off + k, none⟩ = some (.int .i64 n)
theorem RowI.keep {w w' : World} {n0 n1 : Nat} {v : Value} {l : List Int} (h : RowI w n0 v l) (hb : Below n0 w w') (hn : n0 ≤ n1) : RowI w' n1 v l := by
  obtain ⟨a, cap, e, h⟩ := h
  refine ⟨a, cap, e, fun k n hk => ?_⟩
  obtain ⟨b, off, h1, h2, h3⟩ := h k n hk
  exact ⟨b, off, h1, by omega, (hb.cell (p := ⟨b, _, none⟩) h2).trans h3⟩
theorem rowI_of {w : World} {R : Nat → Prop} {n0 : Nat} (hR : ∀ b, R b → b < n0) {v : Value} {l : List Int} (h : RD w R v (.rd kI (ints l))) : RowI w n0 v l := by
  generalize hxs : ints l = xs at h
  cases h with
  | nil =>
    obtain rfl : l = [] := List.map_eq_nil_iff.1 hxs
    exact ⟨_, _, rfl, fun k p hp => by cases hp⟩
  | rd cc g0 g1 g2 gR gk gc gr =>
    rename_i b0 off0 cap0
    have hln : xs.length = l.length := by rw [← hxs]; simp
    refine ⟨some ⟨b0, off0, none⟩, cap0, by rw [hln], fun k n hk => ⟨b0, off0, rfl, hR _ gR, ?_⟩⟩
    have hx : xs[k]? = some (enI n) := by rw [← hxs, List.getElem?_map, hk]; rfl
    have e1 := gc k _ 0 hx (by decide)
    have r1 := gr k _ 0 _ hx rfl
    generalize cc k 0 = u1 at e1 r1
    cases r1
    have e3 : ∀ o : Nat, o + k * kI.k + 0 = o + k := fun o => by show o + k * 1 + 0 = o + k; omega
    rw [e3] at e1
    exact e1
theorem spec_callE {P : Program} {k : FuncId} {args : List VD} (h : Spec P k args (oN kCube [])) {W : World} {R : Nat → Prop} {vs : List Value} (hR : ∀ b, R b → b < W.heap.size) (hF : F2 (RVD W R) vs args) :
    Calls P k vs.toArray W fun e W' => ∃ a c, e = .returned (.slice a 0 c) ∧ Below W.heap.size W W' := by
  refine (h.2 W R (fun _ => undef) (fun _ => []) vs hR (spec_args hF) ⟨fun o x h => (by cases h), fun o x h => (by cases h), fun o p x y g h => (by cases h), noTab _ _⟩).mono fun e W' => ?_
  rintro ⟨v, rfl, R', ι', φ', hb, hs, hz, _, hra, hO, hfp, _⟩
  have hX : frO (oN kCube []).outs 0 = some (.arr kCube [] []) := rfl
  obtain ⟨_, hv⟩ := hra
  obtain ⟨_, xs, S1, how, heh, hS, _⟩ := hO.1 _ _ hX
  rw [← hv] at how
  have hB := hb.below (fun g ⟨o, x, h, _⟩ => by cases h)
  rcases how.2 with ⟨rfl, _⟩ | ⟨g, cap, cur, rfl, _⟩
  · exact ⟨_, _, rfl, hB⟩
  · exact ⟨_, _, rfl, hB⟩
theorem below_kept {B B' : Nat} {a b c : World} {M : Nat → Prop} (h : Below B a b) (k : Kept M B' b c) (hB : B ≤ B') (hM : ∀ x, x < B → ¬ M x) : Below B a c := ⟨k.os.trans h.os, k.tape.trans h.tape, k.output.trans h.output, Nat.le_trans h.size k.size, fun x hx => (k.block x (by omega) (hM x hx)).trans (h.block x hx)⟩
theorem least0 (n : Nat) (tb : List Int) (hn : 1 ≤ n ∧ n ≤ 4) (hlen : tb.length = 2 ^ n) (hz : ∀ (i : Nat) (v : Int), tb[i]? = some v → v = 0) (w : World) (R : Nat → Prop) (hR : ∀ b, R b → b < w.heap.size) (tv : Value) (q : RD w R tv (.rd kI (ints tb))) :
    Calls Try.prog 15 #[.int .i64 n, tv] w fun e w' => e = .returned (.slice none 0 0) ∧ Below w.heap.size w w' := by
  have hp := p16 hn
  have hpr := iPrimes1 n tb hn
  rw [tabQ_zero hlen hz] at hpr
  have hP := spec_callE hpr hR (vs := [.int .i64 n, tv]) (.cons (.pv rfl (okI_lit ⟨by omega, by omega⟩)) (.cons q .nil))
  obtain ⟨ta, tc, rfl, hct⟩ := rowI_of hR q
  have ht16 : tb.length ≤ 16 := by omega
  have HX := Lib.hid (And.intro hn (And.intro hlen (And.intro hp (And.intro hz (And.intro hR q)))))
  clear hn hlen hp hpr hz hR q
  go_enter Try.func15, Try.ntmps15
  go_wp2_with fail
  refine hP.mono ?_
  clear hP
  rintro e w1 ⟨a, c, rfl, hb1⟩
  have hz1 := hb1.size
  have hbx : (w1.alloc (.cells #[.slice a 0 c, .slice none 0 0, .int .u64 0, .slice none 0 0, .int .i64 0] 48)).heap[w1.heap.size]? = some (.cells #[.slice a 0 c, .slice none 0 0, .int .u64 0, .slice none 0 0, .int .i64 0] 48 (0, 0)) := alloc_new_at _ _
  have hb2 : Below w.heap.size w (w1.alloc (.cells #[.slice a 0 c, .slice none 0 0, .int .u64 0, .slice none 0 0, .int .i64 0] 48)) := hb1.alloc hz1 _
  go_wp2_with fail
  go_loopw [21] (fun v21 wr => ∃ i : Nat, i ≤ tb.length ∧ v21 = .int .i64 ((i : Nat) : Int) ∧ wr.heap[w1.heap.size]? = some (.cells #[.slice a 0 c, .slice none 0 0, .int .u64 0, .slice none 0 0, .int .i64 0] 48 (0, 0)) ∧ Below w.heap.size w wr) (fun v21 _ => (tb.length - intOf v21).toNat)
  case atStart => exact ⟨0, Nat.zero_le _, rfl, hbx, hb2⟩
  case round =>
    obtain ⟨i, hi, rfl, hbr, hBr⟩ := hrel
    clear hbx hb2
    by_cases hil : i < tb.length
    · have hx := Lib.hid HX.out
      have hv : tb[i]? = some tb[i] := List.getElem?_eq_getElem hil
      have hv0 : tb[i] = 0 := HX.out.2.2.2.1 i _ hv
      obtain ⟨gb, off, rfl, hgb, hcell⟩ := hct i _ hv
      rw [hv0] at hcell
      have cT := (hBr.cell (p := ⟨gb, off + i, none⟩) hgb).trans hcell
      have k2 : wr.cell? ⟨w1.heap.size, 2, none⟩ = some (.int .u64 0) := by simp [World.cell?, hbr]
      have kf : wr.frozen? ⟨w1.heap.size, 2, none⟩ = false := by simp [World.frozen?, hbr]
      have hbl : w1.heap.size < wr.heap.size := heap_lt hbr
      have hw3 := Lib.hid (wrap_nat (i + 1) (by omega) (x := (i : Int) + 1) (by omega))
      have HV := Lib.hid (And.intro hv hv0)
      have HC := Lib.hid hct
      clear hv hv0 hcell hct
      go_wp2_with fail
      refine RgX.wp_region_rgx 11 99 (fun _ => False) (fun w w' => Below w.heap.size w w') (fun _ _ h => RgX.Kept.of h) (fun _ => True) trivial (fun _ _ _ _ => trivial) (fun _ _ _ _ => trivial) [(fun (v : Value) (_ : World) => v = .pointer (some ⟨w1.heap.size, 0, none⟩)), (fun (v : Value) (_ : World) => v = .pointer (some ⟨w1.heap.size, 0, none⟩)), (fun (v : Value) (_ : World) => v = .pointer (some ⟨w1.heap.size, 2, none⟩)), (fun (v : Value) (_ : World) => v = .int .u64 0), (fun (v : Value) (_ : World) => v = .int .i64 0), (fun (v : Value) (_ : World) => v = .int .u64 0), (fun (v : Value) (_ : World) => v = .int .i64 ((i : Nat) : Int)), (fun (v : Value) (_ : World) => v = .int .u64 0), (fun (v : Value) (_ : World) => v = .int .u64 0), (fun (v : Value) (_ : World) => v = .pointer (some ⟨w1.heap.size, 0, none⟩)), (fun (v : Value) (_ : World) => v = .pointer (some ⟨w1.heap.size, 2, none⟩))] (by kernel_rfl) (by rintro ⟨_, _, h⟩; simp +zetaDelta [Exit.then, Exit.inBlock, bodyPost] at h) (fun _ _ _ _ _ h => h) (by kernel_rfl) (by kernel_rfl) ⟨fun _ _ _ _ _ h => h, fun _ _ _ _ _ h => h, fun _ _ _ _ _ h => h, fun _ _ _ _ _ h => h, fun _ _ _ _ _ h => h, fun _ _ _ _ _ h => h, fun _ _ _ _ _ h => h, fun _ _ _ _ _ h => h, fun _ _ _ _ _ h => h, fun _ _ _ _ _ h => h, fun _ _ _ _ _ h => h, trivial⟩ ⟨?_, ?_, ?_, ?_, ?_, ?_, ?_, ?_, ?_, ?_, ?_, ?_, trivial⟩ ?_
      · intro _ v wq G hb hG hd
        clear hd
        simp only [rgPut, rgDst, Act.put, List.getElem?_cons_zero, List.getElem?_cons_succ, Option.bind_some, List.setIfInBounds_toArray, List.set_cons_zero, List.set_cons_succ]
        obtain ⟨hb, _⟩ := hb
        go_wp2
        exact ⟨rfl, relX_ne (by decide) (Below.refl _ _), rfl, fun g hg => (by cases hg)⟩
      · intro _ v wq G hb hG hd
        have d0 : v 0 = .pointer (some ⟨w1.heap.size, 0, none⟩) := hd 0 (by kernel_rfl)
        clear hd
        simp only [rgPut, rgDst, Act.put, List.getElem?_cons_zero, List.getElem?_cons_succ, Option.bind_some, List.setIfInBounds_toArray, List.set_cons_zero, List.set_cons_succ, d0]
        obtain ⟨hb, _⟩ := hb
        go_wp2
        exact ⟨rfl, relX_ne (by decide) (Below.refl _ _), rfl, fun g hg => (by cases hg)⟩
      · intro _ v wq G hb hG hd
        have d1 : v 1 = .pointer (some ⟨w1.heap.size, 0, none⟩) := hd 1 (by kernel_rfl)
        clear hd
        simp only [rgPut, rgDst, Act.put, List.getElem?_cons_zero, List.getElem?_cons_succ, Option.bind_some, List.setIfInBounds_toArray, List.set_cons_zero, List.set_cons_succ, d1]
        obtain ⟨hb, _⟩ := hb
        go_wp2
        exact ⟨rfl, relX_ne (by decide) (Below.refl _ _), rfl, fun g hg => (by cases hg)⟩
      · intro _ v wq G hb hG hd
        have d2 : v 2 = .pointer (some ⟨w1.heap.size, 2, none⟩) := hd 2 (by kernel_rfl)
        clear hd
        simp only [rgPut, rgDst, Act.put, List.getElem?_cons_zero, List.getElem?_cons_succ, Option.bind_some, List.setIfInBounds_toArray, List.set_cons_zero, List.set_cons_succ, d2]
        obtain ⟨hb, _⟩ := hb
        have e2 := (RgX.Kept.cell hb (p := ⟨w1.heap.size, 2, none⟩) hbl (fun h => h)).trans k2
        go_wp2
        exact ⟨rfl, relX_ne (by decide) (Below.refl _ _), rfl, fun g hg => (by cases hg)⟩
      · intro _ v wq G hb hG hd
        clear hd
        simp only [rgPut, rgDst, Act.put, List.getElem?_cons_zero, List.getElem?_cons_succ, Option.bind_some, List.setIfInBounds_toArray, List.set_cons_zero, List.set_cons_succ]
        obtain ⟨hb, _⟩ := hb
        go_wp2
        exact ⟨rfl, relX_ne (by decide) (Below.refl _ _), rfl, fun g hg => (by cases hg)⟩
      · intro _ v wq G hb hG hd
        have d4 : v 4 = .int .i64 0 := hd 4 (by kernel_rfl)
        clear hd
        simp only [rgPut, rgDst, Act.put, List.getElem?_cons_zero, List.getElem?_cons_succ, Option.bind_some, List.setIfInBounds_toArray, List.set_cons_zero, List.set_cons_succ, d4]
        obtain ⟨hb, _⟩ := hb
        go_wp2
        exact ⟨rfl, relX_ne (by decide) (Below.refl _ _), (by rfl), fun g hg => (by cases hg)⟩
      · intro _ v wq G hb hG hd
        clear hd
        simp only [rgPut, rgDst, Act.put, List.getElem?_cons_zero, List.getElem?_cons_succ, Option.bind_some, List.setIfInBounds_toArray, List.set_cons_zero, List.set_cons_succ]
        obtain ⟨hb, _⟩ := hb
        go_wp2
        exact ⟨rfl, relX_ne (by decide) (Below.refl _ _), rfl, fun g hg => (by cases hg)⟩
      · intro _ v wq G hb hG hd
        have d5 : v 5 = .int .u64 0 := hd 5 (by kernel_rfl)
        have d6 : v 6 = .int .i64 ((i : Nat) : Int) := hd 6 (by kernel_rfl)
        clear hd
        simp only [rgPut, rgDst, Act.put, List.getElem?_cons_zero, List.getElem?_cons_succ, Option.bind_some, List.setIfInBounds_toArray, List.set_cons_zero, List.set_cons_succ, d5, d6]
        obtain ⟨hb, _⟩ := hb
        go_wp2
        exact ⟨rfl, relX_ne (by decide) (Below.refl _ _), (by rfl), fun g hg => (by cases hg)⟩
      · intro _ v wq G hb hG hd
        have d3 : v 3 = .int .u64 0 := hd 3 (by kernel_rfl)
        have d7 : v 7 = .int .u64 0 := hd 7 (by kernel_rfl)
        clear hd
        simp only [rgPut, rgDst, Act.put, List.getElem?_cons_zero, List.getElem?_cons_succ, Option.bind_some, List.setIfInBounds_toArray, List.set_cons_zero, List.set_cons_succ, d3, d7]
        obtain ⟨hb, _⟩ := hb
        go_wp2
        exact ⟨rfl, relX_ne (by decide) (Below.refl _ _), (by rfl), fun g hg => (by cases hg)⟩
      · intro _ v wq G hb hG hd
        have d0 : v 0 = .pointer (some ⟨w1.heap.size, 0, none⟩) := hd 0 (by kernel_rfl)
        clear hd
        simp only [rgPut, rgDst, Act.put, List.getElem?_cons_zero, List.getElem?_cons_succ, Option.bind_some, List.setIfInBounds_toArray, List.set_cons_zero, List.set_cons_succ, d0]
        obtain ⟨hb, _⟩ := hb
        go_wp2
        exact ⟨rfl, relX_ne (by decide) (Below.refl _ _), rfl, fun g hg => (by cases hg)⟩
      · intro _ v wq G hb hG hd
        have d9 : v 9 = .pointer (some ⟨w1.heap.size, 0, none⟩) := hd 9 (by kernel_rfl)
        clear hd
        simp only [rgPut, rgDst, Act.put, List.getElem?_cons_zero, List.getElem?_cons_succ, Option.bind_some, List.setIfInBounds_toArray, List.set_cons_zero, List.set_cons_succ, d9]
        obtain ⟨hb, _⟩ := hb
        go_wp2
        exact ⟨rfl, relX_ne (by decide) (Below.refl _ _), rfl, fun g hg => (by cases hg)⟩
      · intro h; exact absurd h (by decide)
      · intro v wq hb hA
        have d8 : v 8 = .int .u64 0 := hA 8 (by decide)
        have d10 : v 10 = .pointer (some ⟨w1.heap.size, 2, none⟩) := hA 10 (by decide)
        simp only [rgPut, rgDst, Act.put, List.getElem?_cons_zero, List.getElem?_cons_succ, Option.bind_some, List.setIfInBounds_toArray, List.set_cons_zero, List.set_cons_succ, d8, d10]
        obtain ⟨hb, _⟩ := hb
        have hbq := (hb.block _ hbl fun h => h).trans hbr
        have k2 : wq.cell? ⟨w1.heap.size, 2, none⟩ = some (.int .u64 0) := by simp [World.cell?, hbq]
        have kf : wq.frozen? ⟨w1.heap.size, 2, none⟩ = false := by simp [World.frozen?, hbq]
        refine RgX.wpList_tl (by kernel_rfl) ?_
        go_wp2_with fail
        obtain ⟨g1, g2, g3⟩ := box_set hbq 2 (.int .u64 0)
        have hsz := hBr.size
        refine ⟨⟨i + 1, hil, congrArg (Value.int .i64) (by omega), g1, below_kept (below_kept hBr hb (by omega) (fun _ _ h => h)) g2 (by have := hb.size; omega) (fun x hx h => by omega)⟩, ?_⟩
        show ((tb.length : Int) - ((i : Int) + 1)).toNat < ((tb.length : Int) - (i : Int)).toNat
        omega
    · obtain rfl : i = tb.length := by omega
      have k0 : wr.cell? ⟨w1.heap.size, 0, none⟩ = some (.slice a 0 c) := by simp [World.cell?, hbr]
      go_wp2_with fail
      go_loopw [43] (fun v43 wr2 => v43 = .int .i64 0 ∧ wr2 = wr) (fun _ _ => 0)
      case atStart => exact ⟨rfl, rfl⟩
      case round =>
        obtain ⟨rfl, rfl⟩ := hrel
        go_wp2_with fail
        go_loopw [10] (fun v10 W => (v10 = .int .i64 0 ∧ W = wr) ∨ (v10 = .int .i64 1 ∧ ∃ ad k cst, W.heap[w1.heap.size]? = some (.cells #[.slice a 0 c, .slice none 0 0, .int .u64 0, .slice (some ad) 0 k, .int .i64 cst] 48 (0, 0)) ∧ Below w.heap.size w W)) (fun v10 _ => (1 - intOf v10).toNat)
        case atStart => exact .inl ⟨rfl, rfl⟩
        case round =>
          rcases hrel with ⟨rfl, rfl⟩ | ⟨rfl, ad, k, cst, hbW, hBW⟩
          · have hD : CovD wr w1.heap.size (.slice a 0 c) (.slice none 0 0) 0 (fun _ => 0) (fun _ => 0) := ⟨heap_lt hbr, fun k hk => absurd hk (Nat.not_lt_zero _), fun k hk => absurd hk (Nat.not_lt_zero _), ⟨a, c, rfl⟩, fun _ => ⟨0, by omega, rfl⟩, fun _ => by decide, by omega⟩
            have hS : Calls Try.prog 25 #[.pointer (some ⟨w1.heap.size, 0, none⟩), .slice none 0 0, .int .i64 0, .int .i64 0, .int .u64 0, .int .i64 0] wr fun e w' => e = .returned (.tuple #[]) ∧ After1 wr w1.heap.size (.slice a 0 c) (.slice none 0 0) (fun _ => 0) 0 wr (.slice none 0 0) [] (.slice none 0 0) (srch (cvN (fun _ => 0) 0) (cstL fun _ => 0) 0 0 0 [] none) w' := search0 hD 0 0 [] none wr (.slice none 0 0) (.slice none 0 0) 0 (by simp) ⟨RgX.Kept.refl _ _ _, hbr, rfl, rfl⟩ (World.ownsRow_nil _ _ _ _) (fun g hg => by cases hg)
            rw [srch_zero, show updI (cvN (fun _ => 0) 0) (cstL fun _ => 0) none [] = some [] from if_pos ⟨rfl, fun x hx => by cases hx⟩] at hS
            have k3 : wr.cell? ⟨w1.heap.size, 3, none⟩ = some (.slice none 0 0) := by simp [World.cell?, hbr]
            have hnil := run_eqnil0 wr
            have hbl := heap_lt hbr
            have HB := Lib.hid (And.intro hBr hbl)
            clear hD k0 hBr hbl
            go_wp2_with fail
            refine hS.mono ?_
            clear hS
            rintro e w3 ⟨rfl, bv, cst, hI, hk, -, -⟩
            obtain ⟨⟨ad, nn, kk, rfl⟩, hown, rfl⟩ := hI.best
            have hnn : nn = 0 := by
              rcases hown.2 with ⟨e1, _⟩ | ⟨g, cap, cur, e1, _⟩
              · cases e1
              · cases e1; rfl
            subst hnn
            go_wp2_with fail
            have hws := HB.out.1.size
            refine ⟨.inr ⟨rfl, ad, kk, _, hI.box, below_kept HB.out.1 hk (by omega) fun x hx h => ?_⟩, ?_⟩
            · rcases h with h | h
              · omega
              · cases h
            · show ((1 : Int) - 1).toNat < ((1 : Int) - 0).toNat
              decide
          · have k3 : wr.cell? ⟨w1.heap.size, 3, none⟩ = some (.slice (some ad) 0 k) := by simp [World.cell?, hbW]
            have hnil := run_eqnil wr ad 0 k
            go_wp2_with fail
            go_loopw [11, 75] (fun v11 v75 W2 => v11 = .slice none 0 0 ∧ v75 = .int .i64 0 ∧ W2 = wr) (fun _ _ _ => 0)
            case atStart => exact ⟨rfl, rfl, rfl⟩
            case round =>
              obtain ⟨rfl, rfl, rfl⟩ := hrel
              go_wp2
              go_ret
              exact ⟨rfl, hBW⟩
theorem iLeast0 (n : Nat) (tb : List Int) (hn : 1 ≤ n ∧ n ≤ 4) (hlen : tb.length = 2 ^ n) (hz : ∀ (i : Nat) (v : Int), tb[i]? = some v → v = 0) : Spec Try.prog 15 [vI n, vL kI (ints tb)] (oN kCube []) := by
  refine ⟨callFunc_enter Try.func15 rfl (by simp [Try.f15]), fun w R ι φ vs hR hF ho => ?_⟩
  cases hF with | cons q1 hF => cases hF with | cons q2 hF =>
  cases hF
  rename_i u1 u2
  have q1 : RD w R u1 (.pv (.int .i64 n)) := q1
  have q2 : RD w R u2 (.rd kI (ints tb)) := q2
  cases q1
  refine (least0 n tb hn hlen hz w R hR u2 q2).mono ?_
  rintro e w' ⟨rfl, hb⟩
  have hO : ∀ {o : Nat} {X : Ob}, frO (oN kCube []).outs o = some X → o = 0 ∧ X = .arr kCube [] [] := fun {o X} h => frOp h
  have hnone : (fun _ : Nat => (none : Option Ob)) = frO [] := rfl
  refine ⟨_, rfl, R, upd ι 0 (.slice none 0 0), fun _ => [], BelowM.of_below hb, fun b h => h, fun b h => Nat.lt_of_lt_of_le (hR b h) hb.size, fun b h _ => .inl h, ⟨⟨_, rfl⟩, (upd_same _ _ _).symm⟩, ⟨fun o x hf => ?_, fun o x hf g hg => (by cases hg), fun o p x y g hf hf' hg _ => (by cases hg), noTab _ _⟩, fun g hf => ?_, fun o hf => ?_⟩
  · obtain ⟨rfl, rfl⟩ := hO hf
    rw [upd_same]
    exact RArr.nil _ _ _ _
  · obtain ⟨o, x, hf, hg⟩ := hf
    cases hg
  · exact upd_ne _ _ (fun e => by subst e; exact absurd hf (by decide))
theorem iLeastAll (n : Nat) (tb : List Int) (hn : 1 ≤ n ∧ n ≤ 4) (h : inK tb (2 ^ n)) : Spec Try.prog 15 [vI n, vL kI (ints tb)] (oN kCube ((cubs (tabQ n tb (2 ^ n)) (lcX n tb)).map enCube)) := by
  obtain ⟨m, h1, h2, h3, h4, h5, h6⟩ := lcX_ok hn h
  have hlen := inK_len h
  have hp := p16 hn
  have h01 := inK_01 h
  have hps := tab_len (tb := tb) hn
  cases hx : lcX n tb with
  | nil =>
    rw [hx] at h3
    have hcv : cvQ tb (tabQ n tb (2 ^ n)) [] := by
      rcases foldI_mem (cvQ tb (tabQ n tb (2 ^ n))) (costQ (tabQ n tb (2 ^ n))) h3 with e | ⟨l, _, e, e2⟩
      · cases e
      · exact e2
    refine iLeast0 n tb hn hlen fun i v hv => ?_
    rcases h01 i v hv with h0 | h1'
    · exact h0
    · subst h1'
      have := hcv i (List.getElem?_eq_some_iff.1 hv).1 (decide_eq_true hv)
      cases this
  | cons k0 x0 =>
    rw [hx] at h3 h5
    exact iLeast n tb hn (by omega) h01 (by omega) (tab_care hn) m k0 x0 _ rfl h1 h5 h2 h3
theorem iLeastCover (n : Int) (l : List Int) : Spec Try.prog 6 [vI n, vL kI (ints l)] (.tup [cN kCube ((fLC n l).1.map enCube), cI (fLC n l).2]) := by
  by_cases h : okT n l
  · rw [show fLC n l = (cubs (tabQ n.toNat l (2 ^ n.toNat)) (lcX n.toNat l), 0) from if_pos h]
    obtain ⟨k, rfl⟩ : ∃ k : Nat, n = k := ⟨n.toNat, by have := h.1; omega⟩
    have hk4 : 1 ≤ k ∧ k ≤ 4 := ⟨by have := h.1; omega, by have := h.1; omega⟩
    have hK : inK l (2 ^ k) := h.2
    have hS := iLeastAll k l hk4 hK
    refine Spec.walk T.mixed Try.func6 S.ok6 (by simp [Try.f6]) fun hk => ?_
    clear hk
    unfold S.s6
    repeat' (first | refine R.mv rfl ?_ | refine R.reg ?_ | refine R.nil ?_ | refine R.seq ?_ | refine R.nseq ?_ | refine R.nblk ?_ | refine R.skip ?_ | refine R.blk ?_ | refine R.exit rfl ?_ | refine R.not rfl ?_ | refine R.condT rfl ?_ | refine R.condF rfl ?_ | refine R.call (bor := false) rfl rfl (iTabT hk4 hK) rfl rfl rfl ?_ | refine R.call (bor := true) rfl rfl (iTabT hk4 hK) rfl rfl rfl ?_ | refine R.fcal (bor := false) rfl rfl (iTabT hk4 hK) rfl rfl rfl ?_ | refine R.fcal (bor := true) rfl rfl (iTabT hk4 hK) rfl rfl rfl ?_ | refine R.callN1 (bor := false) rfl rfl (hS) rfl rfl ?_ | refine R.callN1 (bor := true) rfl rfl (hS) rfl rfl ?_ | refine R.callN (bor := false) rfl rfl (hS) rfl rfl rfl rfl rfl ?_ | refine R.callN (bor := true) rfl rfl (hS) rfl rfl rfl rfl rfl ?_ | refine R.cond rfl (fun hc => ?_) (fun hc => ?_) | refine R.condN rfl (fun hc => ?_) (fun hc => ?_) | refine R.condB rfl (fun hc => ?_) (fun hc => ?_))
    all_goals first
      | (exfalso; omega)
      | exact R.ret ⟨.inr rfl, R.outNI rfl rfl rfl rfl rfl⟩
      | (exfalso; simp_all; done)
  · rw [show fLC n l = ([], 2) from if_neg h]
    refine Spec.walk T.mixed Try.func6 S.ok6 (by simp [Try.f6]) fun hk => ?_
    clear hk
    unfold S.s6
    repeat' (first | refine R.mv rfl ?_ | refine R.reg ?_ | refine R.nil ?_ | refine R.seq ?_ | refine R.nseq ?_ | refine R.nblk ?_ | refine R.skip ?_ | refine R.blk ?_ | refine R.exit rfl ?_ | refine R.not rfl ?_ | refine R.condT rfl ?_ | refine R.condF rfl ?_ | refine R.call (bor := false) rfl rfl (iTabF h) rfl rfl rfl ?_ | refine R.call (bor := true) rfl rfl (iTabF h) rfl rfl rfl ?_ | refine R.fcal (bor := false) rfl rfl (iTabF h) rfl rfl rfl ?_ | refine R.fcal (bor := true) rfl rfl (iTabF h) rfl rfl rfl ?_ | refine R.cond rfl (fun hc => ?_) (fun hc => ?_) | refine R.condN rfl (fun hc => ?_) (fun hc => ?_) | refine R.condB rfl (fun hc => ?_) (fun hc => ?_))
    all_goals first
      | (exfalso; omega)
      | exact R.ret ⟨.inr rfl, R.outNilI rfl rfl rfl rfl rfl rfl⟩
      | (exfalso; simp_all; done)
theorem law_LeastCover (x0 : Int) (x1 : List Int) : Spec Try.prog 3 [vI x0, vL kI (x1.map enI)] (oB true) := by
  refine Spec.walk T.mixed Try.func3 S.ok3 (by simp [Try.f3]) fun hk => ?_
  have hr0 : rng 1048576 := ⟨by omega, by omega⟩
  have hk1 := (K.c hk 1 rfl).lenM
  unfold S.s3
  repeat' (first | refine R.mv rfl ?_ | refine R.reg ?_ | refine R.nil ?_ | refine R.seq ?_ | refine R.nseq ?_ | refine R.nblk ?_ | refine R.skip ?_ | refine R.blk ?_ | refine R.exit rfl ?_ | refine R.gRun rfl ?_ | refine R.gSkip rfl ?_ | refine R.gSkip0 rfl ?_ | refine R.gUndef rfl ?_ | refine R.gUndef0 rfl ?_ | refine R.lenM rfl ?_ | refine R.lenO rfl rfl ?_ | refine R.len rfl rfl ?_ | refine R.lss rfl rfl ?_ | refine R.gtr rfl rfl ?_ | refine R.neq rfl rfl ?_ | refine R.pickT rfl rfl ?_ | refine R.pickF rfl rfl ?_ | refine R.not rfl ?_ | refine R.mvU rfl ?_ | refine R.ext rfl rfl ?_ | refine R.condT rfl ?_ | refine R.condF rfl ?_ | refine R.cond rfl (fun hc => ?_) (fun hc => ?_) | refine R.condN rfl (fun hc => ?_) (fun hc => ?_) | refine R.condB rfl (fun hc => ?_) (fun hc => ?_) | refine R.gP rfl (fun hc => ?_) (fun hc => ?_) | refine R.gN rfl (fun hc => ?_) (fun hc => ?_) | refine R.gB rfl (fun hc => ?_) (fun hc => ?_))
  · exact R.ret ⟨.inr rfl, R.outB rfl rfl rfl⟩
  have hlx10 : x1.length ≤ 1048576 := by omega
  have hcx10 : cnt c1 x1 ≤ 100000000 := by rw [cnt_const (c := c1) (K := 1) fun _ => rfl]; omega
  have hrl0 : (fLC x0 x1).1.length ≤ 1048576 := (Nat.le_trans fLC_len (by omega))
  have hrc0 : cnt cCube (fLC x0 x1).1 ≤ 100000000 := by rw [cnt_const (c := cCube) (K := 2) fun _ => rfl]; omega
  repeat' (first | refine R.mv rfl ?_ | refine R.reg ?_ | refine R.nil ?_ | refine R.seq ?_ | refine R.nseq ?_ | refine R.nblk ?_ | refine R.skip ?_ | refine R.blk ?_ | refine R.exit rfl ?_ | refine R.gRun rfl ?_ | refine R.gSkip rfl ?_ | refine R.gSkip0 rfl ?_ | refine R.gUndef rfl ?_ | refine R.gUndef0 rfl ?_ | refine R.lenM rfl ?_ | refine R.lenO rfl rfl ?_ | refine R.len rfl rfl ?_ | refine R.lss rfl rfl ?_ | refine R.gtr rfl rfl ?_ | refine R.neq rfl rfl ?_ | refine R.pickT rfl rfl ?_ | refine R.pickF rfl rfl ?_ | refine R.not rfl ?_ | refine R.mvU rfl ?_ | refine R.ext rfl rfl ?_ | refine R.condT rfl ?_ | refine R.condF rfl ?_ | refine R.callN1 (bor := false) rfl rfl (toI_ok _ (by omega)) rfl rfl ?_ | refine R.callN1 (bor := true) rfl rfl (toI_ok _ (by omega)) rfl rfl ?_ | refine R.callN (bor := false) rfl rfl (toI_ok _ (by omega)) rfl rfl rfl rfl rfl ?_ | refine R.callN (bor := true) rfl rfl (toI_ok _ (by omega)) rfl rfl rfl rfl rfl ?_ | refine R.call (bor := false) rfl rfl (toI_ok _ (by omega)) rfl rfl rfl ?_ | refine R.call (bor := true) rfl rfl (toI_ok _ (by omega)) rfl rfl rfl ?_ | refine R.fcal (bor := false) rfl rfl (toI_ok _ (by omega)) rfl rfl rfl ?_ | refine R.fcal (bor := true) rfl rfl (toI_ok _ (by omega)) rfl rfl rfl ?_ | refine R.weak (Weak.freeze 23000 rfl rfl) (R.call (bor := false) rfl rfl (sLeastCover _ _) rfl rfl rfl ?_) | refine R.callN1 (bor := false) rfl rfl (iLeastCover _ _) rfl rfl ?_ | refine R.callN1 (bor := true) rfl rfl (iLeastCover _ _) rfl rfl ?_ | refine R.callN (bor := false) rfl rfl (iLeastCover _ _) rfl rfl rfl rfl rfl ?_ | refine R.callN (bor := true) rfl rfl (iLeastCover _ _) rfl rfl rfl rfl rfl ?_ | refine R.call (bor := false) rfl rfl (iLeastCover _ _) rfl rfl rfl ?_ | refine R.call (bor := true) rfl rfl (iLeastCover _ _) rfl rfl rfl ?_ | refine R.fcal (bor := false) rfl rfl (iLeastCover _ _) rfl rfl rfl ?_ | refine R.fcal (bor := true) rfl rfl (iLeastCover _ _) rfl rfl rfl ?_ | refine R.call (bor := false) rfl rfl (eqCubeS_ok _) rfl rfl rfl ?_ | refine R.call (bor := true) rfl rfl (eqCubeS_ok _) rfl rfl rfl ?_ | refine R.fcal (bor := false) rfl rfl (eqCubeS_ok _) rfl rfl rfl ?_ | refine R.fcal (bor := true) rfl rfl (eqCubeS_ok _) rfl rfl rfl ?_ | refine R.call (bor := false) rfl rfl (eqI_ok _) rfl rfl rfl ?_ | refine R.call (bor := true) rfl rfl (eqI_ok _) rfl rfl rfl ?_ | refine R.fcal (bor := false) rfl rfl (eqI_ok _) rfl rfl rfl ?_ | refine R.fcal (bor := true) rfl rfl (eqI_ok _) rfl rfl rfl ?_ | refine R.callM1 (bor := false) rfl rfl (markI_ok _ _ ⟨by omega, by omega⟩) rfl rfl rfl rfl ?_ | refine R.callM1 (bor := true) rfl rfl (markI_ok _ _ ⟨by omega, by omega⟩) rfl rfl rfl rfl ?_ | refine R.callM2 (bor := false) rfl rfl (markI_ok _ _ ⟨by omega, by omega⟩) rfl rfl rfl rfl rfl ?_ | refine R.callM2 (bor := true) rfl rfl (markI_ok _ _ ⟨by omega, by omega⟩) rfl rfl rfl rfl rfl ?_ | refine R.callM3 (bor := false) rfl rfl (markI_ok _ _ ⟨by omega, by omega⟩) rfl rfl rfl rfl rfl rfl ?_ | refine R.callM3 (bor := true) rfl rfl (markI_ok _ _ ⟨by omega, by omega⟩) rfl rfl rfl rfl rfl rfl ?_ | refine R.callM1 (bor := false) rfl rfl (markCubeS_ok _ _ ⟨by omega, by omega⟩) rfl rfl rfl rfl ?_ | refine R.callM1 (bor := true) rfl rfl (markCubeS_ok _ _ ⟨by omega, by omega⟩) rfl rfl rfl rfl ?_ | refine R.callM2 (bor := false) rfl rfl (markCubeS_ok _ _ ⟨by omega, by omega⟩) rfl rfl rfl rfl rfl ?_ | refine R.callM2 (bor := true) rfl rfl (markCubeS_ok _ _ ⟨by omega, by omega⟩) rfl rfl rfl rfl rfl ?_ | refine R.callM3 (bor := false) rfl rfl (markCubeS_ok _ _ ⟨by omega, by omega⟩) rfl rfl rfl rfl rfl rfl ?_ | refine R.callM3 (bor := true) rfl rfl (markCubeS_ok _ _ ⟨by omega, by omega⟩) rfl rfl rfl rfl rfl rfl ?_ | refine R.call (bor := false) rfl rfl (heldCubeS_ok _ _ ⟨by omega, by omega⟩) rfl rfl rfl ?_ | refine R.call (bor := true) rfl rfl (heldCubeS_ok _ _ ⟨by omega, by omega⟩) rfl rfl rfl ?_ | refine R.fcal (bor := false) rfl rfl (heldCubeS_ok _ _ ⟨by omega, by omega⟩) rfl rfl rfl ?_ | refine R.fcal (bor := true) rfl rfl (heldCubeS_ok _ _ ⟨by omega, by omega⟩) rfl rfl rfl ?_ | refine R.cond rfl (fun hc => ?_) (fun hc => ?_) | refine R.condN rfl (fun hc => ?_) (fun hc => ?_) | refine R.condB rfl (fun hc => ?_) (fun hc => ?_) | refine R.gP rfl (fun hc => ?_) (fun hc => ?_) | refine R.gN rfl (fun hc => ?_) (fun hc => ?_) | refine R.gB rfl (fun hc => ?_) (fun hc => ?_))
  all_goals first | exact R.ret ⟨.inr rfl, R.outB rfl rfl rfl⟩ | (exfalso; simp_all; done)
end Go.Proofs.Ytehkaajakapkmaa
