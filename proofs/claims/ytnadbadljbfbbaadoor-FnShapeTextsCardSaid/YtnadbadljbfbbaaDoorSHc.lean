/- ShDp and ShDw and ShDx and Opn8 and LawSh. -/
import Derived.Test.YtnadbadljbfbbaaDoorSHa
import Derived.Test.YtnadbadljbfbbaaDoorSHb
import Derived.Test.YtnadbadljbfbbaaDoorY20
import Derived.ProofKit
namespace Go.Proofs.YtnadbadljbfbbaaDoor
open Go.RowKit
set_option maxRecDepth 100000 in
def S.s4 : SC := (.seq (.reg [⟨(.some 2), .none, .false, (.mv (.const (Go.Value.bool false)))⟩]) (.seq (.seq (.reg [⟨(.some 11), .none, .false, (.mv (.tmp 0))⟩, ⟨(.some 12), .none, .false, (.call (.func 10) [(.tmp 11)])⟩]) (.cond (.tmp 12) (.seq (.reg [⟨(.some 2), .none, .false, (.mv (.const (Go.Value.bool true)))⟩]) .ret) .skip)) (.seq (.reg [⟨(.some 13), .none, .false, (.mv (.tmp 0))⟩, ⟨(.some 14), .none, .false, (.call (.func 11) [(.tmp 13)])⟩, ⟨(.some 3), .none, .false, (.mv (.tmp 14))⟩]) (.seq (.reg [⟨(.some 15), .none, .false, (.mv (.tmp 3))⟩, ⟨(.some 16), .none, .false, (.call (.func 12) [(.tmp 15)])⟩, ⟨(.some 4), .none, .false, (.mv (.tmp 16))⟩]) (.seq (.reg [⟨(.some 18), .none, .false, (.mv (.tmp 3))⟩, ⟨(.some 19), .none, .false, (.call (.func 13) [(.tmp 18)])⟩, ⟨(.some 17), .none, .false, (.mv (.tmp 19))⟩, ⟨(.some 20), .none, .false, (.ext (.tmp 17) 0)⟩, ⟨(.some 21), .none, .false, (.ext (.tmp 17) 1)⟩, ⟨(.some 5), .none, .false, (.mv (.tmp 20))⟩, ⟨(.some 6), .none, .false, (.mv (.tmp 21))⟩]) (.seq (.reg [⟨(.some 23), .none, .false, (.mv (.tmp 3))⟩, ⟨(.some 24), .none, .false, (.call (.func 14) [(.tmp 23)])⟩, ⟨(.some 22), .none, .false, (.mv (.tmp 24))⟩, ⟨(.some 25), .none, .false, (.ext (.tmp 22) 0)⟩, ⟨(.some 26), .none, .false, (.ext (.tmp 22) 1)⟩, ⟨(.some 7), .none, .false, (.mv (.tmp 25))⟩, ⟨(.some 8), .none, .false, (.mv (.tmp 26))⟩]) (.seq (.seq (.reg [⟨(.some 27), .none, .false, (.mv (.tmp 4))⟩, ⟨(.some 28), .none, .false, (.mv (.tmp 3))⟩, ⟨(.some 29), .none, .false, (.call (.func 15) [(.tmp 28)])⟩, ⟨(.some 30), .none, .false, (.bin .neq (.tmp 27) (.tmp 29))⟩, ⟨(.some 31), .none, .false, (.mv (.tmp 30))⟩, ⟨(.some 32), (.some (31, .false)), .false, (.mv (.tmp 4))⟩, ⟨(.some 33), (.some (31, .false)), .false, (.bin .eql (.tmp 32) (.const (Go.Value.string { data := #[] })))⟩, ⟨(.some 34), .none, .false, (.pick (.tmp 31) (.const (Go.Value.bool true)) (.tmp 33))⟩, ⟨(.some 35), .none, .false, (.mv (.tmp 34))⟩, ⟨(.some 36), (.some (35, .false)), .false, (.mv (.tmp 6))⟩, ⟨(.some 37), (.some (35, .false)), .false, (.mv (.tmp 8))⟩, ⟨(.some 38), (.some (35, .false)), .false, (.bin .neq (.tmp 36) (.tmp 37))⟩, ⟨(.some 39), .none, .false, (.pick (.tmp 35) (.const (Go.Value.bool true)) (.tmp 38))⟩, ⟨(.some 40), .none, .false, (.mv (.tmp 39))⟩, ⟨(.some 41), (.some (40, .false)), .false, (.mv (.tmp 5))⟩, ⟨(.some 42), (.some (40, .false)), .false, (.mv (.tmp 7))⟩, ⟨(.some 43), (.some (40, .false)), .false, (.call (.func 16) [(.tmp 41), (.tmp 42)])⟩, ⟨(.some 44), (.some (40, .false)), .false, (.not (.tmp 43))⟩, ⟨(.some 45), .none, .false, (.pick (.tmp 40) (.const (Go.Value.bool true)) (.tmp 44))⟩, ⟨(.some 46), .none, .false, (.mv (.tmp 45))⟩, ⟨(.some 47), (.some (46, .false)), .false, (.mv (.tmp 6))⟩, ⟨(.some 48), (.some (46, .false)), .false, (.bin .neq (.tmp 47) (.const (Go.Value.int Go.IntKind.i64 0)))⟩, ⟨(.some 49), .none, .false, (.pick (.tmp 46) (.const (Go.Value.bool true)) (.tmp 48))⟩]) (.cond (.tmp 49) (.seq (.reg [⟨(.some 2), .none, .false, (.mv (.const (Go.Value.bool false)))⟩]) .ret) .skip)) (.seq (.reg [⟨(.some 51), .none, .false, (.mv (.tmp 4))⟩, ⟨(.some 52), .none, .false, (.call (.func 17) [(.tmp 51)])⟩, ⟨(.some 50), .none, .false, (.mv (.tmp 52))⟩, ⟨(.some 53), .none, .false, (.ext (.tmp 50) 0)⟩, ⟨(.some 54), .none, .false, (.ext (.tmp 50) 1)⟩, ⟨(.some 9), .none, .false, (.mv (.tmp 53))⟩, ⟨(.some 10), .none, .false, (.mv (.tmp 54))⟩]) (.seq (.reg [⟨(.some 55), .none, .false, (.mv (.tmp 10))⟩, ⟨(.some 56), .none, .false, (.bin .eql (.tmp 55) (.const (Go.Value.int Go.IntKind.i64 0)))⟩, ⟨(.some 57), .none, .false, (.mv (.tmp 56))⟩, ⟨(.some 58), (.some (57, .true)), .false, (.mv (.tmp 9))⟩, ⟨(.some 59), (.some (57, .true)), .false, (.mv (.tmp 7))⟩, ⟨(.some 60), (.some (57, .true)), .false, (.call (.func 16) [(.tmp 58), (.tmp 59)])⟩, ⟨(.some 61), .none, .false, (.pick (.tmp 57) (.tmp 60) (.const (Go.Value.bool false)))⟩, ⟨(.some 62), .none, .false, (.mv (.tmp 61))⟩, ⟨(.some 63), (.some (62, .true)), .false, (.mv (.tmp 7))⟩, ⟨(.some 64), (.some (62, .true)), .false, (.call (.func 12) [(.tmp 63)])⟩, ⟨(.some 65), (.some (62, .true)), .false, (.mv (.tmp 4))⟩, ⟨(.some 66), (.some (62, .true)), .false, (.bin .eql (.tmp 64) (.tmp 65))⟩, ⟨(.some 67), .none, .false, (.pick (.tmp 62) (.tmp 66) (.const (Go.Value.bool false)))⟩, ⟨(.some 2), .none, .false, (.mv (.tmp 67))⟩]) .ret)))))))))
set_option maxRecDepth 100000 in
theorem S.ok4 : stripF Tryd.prog Tryd.f4 = some S.s4 := by kernel_rfl
set_option maxRecDepth 100000 in
def S.s10 : SC := (.seq (.reg [⟨(.some 2), .none, .false, (.mv (.const (Go.Value.bool false)))⟩]) (.seq (.reg [⟨(.some 3), .none, .false, (.mv (.tmp 0))⟩, ⟨(.some 4), .none, .false, (.len (.tmp 3))⟩, ⟨(.some 5), .none, .false, (.bin .gtr (.tmp 4) (.const (Go.Value.int Go.IntKind.i64 4096)))⟩, ⟨(.some 2), .none, .false, (.mv (.tmp 5))⟩]) .ret))
set_option maxRecDepth 100000 in
theorem S.ok10 : stripF Tryd.prog Tryd.f10 = some S.s10 := by kernel_rfl
set_option maxRecDepth 100000 in
def S.s11 : SC := (.seq (.reg [⟨(.some 2), .none, .false, (.mv (.const (Go.Value.slice none 0 0)))⟩]) (.seq (.reg [⟨(.some 3), .none, .false, (.mv (.tmp 0))⟩, ⟨(.some 4), .none, .false, (.call (.func 28) [(.tmp 3)])⟩, ⟨(.some 5), .none, .false, (.call (.func 27) [(.tmp 4)])⟩, ⟨(.some 2), .none, .false, (.mv (.tmp 5))⟩]) .ret))
set_option maxRecDepth 100000 in
theorem S.ok11 : stripF Tryd.prog Tryd.f11 = some S.s11 := by kernel_rfl
set_option maxRecDepth 100000 in
def S.s27 : SC := (.seq (.reg [⟨(.some 2), .none, .false, (.mv (.const (Go.Value.slice none 0 0)))⟩]) (.seq (.reg [⟨(.some 10), .none, .false, (.bsl (.mk 58 2) 0 [])⟩, ⟨(.some 3), .none, .false, (.mv (.tmp 10))⟩]) (.seq (.reg [⟨(.some 11), .none, .false, (.mv (.tmp 0))⟩, ⟨(.some 12), .none, .false, (.call (.func 49) [(.tmp 11), (.const (Go.Value.int Go.IntKind.i64 5))])⟩, ⟨(.some 13), .none, .false, (.bin .sub (.tmp 12) (.const (Go.Value.int Go.IntKind.i64 2)))⟩, ⟨(.some 14), .none, .false, (.mv (.tmp 0))⟩, ⟨(.some 15), .none, .false, (.call (.func 49) [(.tmp 14), (.const (Go.Value.int Go.IntKind.i64 5))])⟩, ⟨(.some 16), .none, .false, (.bin .sub (.tmp 15) (.const (Go.Value.int Go.IntKind.i64 2)))⟩, ⟨(.some 17), .none, .false, (.bld [(Go.Value.int Go.IntKind.i64 0), (Go.Value.int Go.IntKind.i64 0)] [(0, 1), (1, 1)] [(0, (.tmp 13)), (1, (.tmp 16))])⟩, ⟨(.some 4), .none, .false, (.al 58 [(Go.Value.int Go.IntKind.i64 0), (Go.Value.int Go.IntKind.i64 0)])⟩, ⟨.none, .none, .false, (.sto 2 (.tmp 4) (.tmp 17))⟩]) (.seq (.seq (.reg [⟨(.some 18), .none, .false, (.mv (.tmp 0))⟩, ⟨(.some 19), .none, .false, (.call (.func 49) [(.tmp 18), (.const (Go.Value.int Go.IntKind.i64 4))])⟩]) (.block 0 (.seq (.reg [⟨(.some 35), .none, .false, (.bin .eql (.tmp 19) (.const (Go.Value.int Go.IntKind.i64 0)))⟩, ⟨(.some 34), .none, .false, (.mv (.tmp 35))⟩]) (.cond (.tmp 34) (.seq (.reg [⟨(.some 36), .none, .false, (.mv (.tmp 0))⟩, ⟨(.some 37), .none, .false, (.call (.func 49) [(.tmp 36), (.const (Go.Value.int Go.IntKind.i64 5))])⟩, ⟨(.some 38), .none, .false, (.bin .add (.const (Go.Value.int Go.IntKind.i64 1)) (.tmp 37))⟩, ⟨(.some 5), .none, .false, (.mv (.tmp 38))⟩]) (.seq (.reg [⟨(.some 6), .none, .false, (.mv (.const (Go.Value.int Go.IntKind.i64 0)))⟩]) (.block 3 (.loop (.seq (.seq (.reg [⟨(.some 39), .none, .false, (.mv (.tmp 6))⟩, ⟨(.some 40), .none, .false, (.mv (.tmp 5))⟩, ⟨(.some 41), .none, .false, (.mv (.tmp 0))⟩, ⟨(.some 42), .none, .false, (.call (.func 49) [(.tmp 41), (.const (Go.Value.int Go.IntKind.i64 5))])⟩, ⟨(.some 43), .none, .false, (.bin .add (.const (Go.Value.int Go.IntKind.i64 1)) (.tmp 42))⟩, ⟨(.some 44), .none, .false, (.bin .mul (.tmp 40) (.tmp 43))⟩, ⟨(.some 45), .none, .false, (.bin .lss (.tmp 39) (.tmp 44))⟩]) (.cond (.tmp 45) .skip (.exit 3))) (.seq (.block 4 (.seq (.reg [⟨(.some 48), .none, .false, (.mv (.tmp 0))⟩, ⟨(.some 49), .none, .false, (.call (.func 50) [(.tmp 48), (.const (Go.Value.int Go.IntKind.i64 5))])⟩, ⟨(.some 50), .none, .false, (.not (.tmp 49))⟩]) (.cond (.tmp 50) (.reg [⟨(.some 51), .none, .true, (.mv (.tmp 3))⟩, ⟨(.some 52), .none, .true, (.fa 0 (.tmp 4))⟩, ⟨(.some 53), .none, .true, (.ld .false 1 (.tmp 52))⟩, ⟨(.some 54), .none, .true, (.mv (.tmp 6))⟩, ⟨(.some 55), .none, .true, (.mv (.tmp 5))⟩, ⟨(.some 56), .none, .true, (.bin .rem (.tmp 54) (.tmp 55))⟩, ⟨(.some 57), .none, .true, (.bin .add (.tmp 53) (.tmp 56))⟩, ⟨(.some 58), .none, .true, (.fa 1 (.tmp 4))⟩, ⟨(.some 59), .none, .true, (.ld .false 1 (.tmp 58))⟩, ⟨(.some 60), .none, .true, (.mv (.tmp 6))⟩, ⟨(.some 61), .none, .true, (.mv (.tmp 5))⟩, ⟨(.some 62), .none, .true, (.bin .quo (.tmp 60) (.tmp 61))⟩, ⟨(.some 63), .none, .true, (.bin .add (.tmp 59) (.tmp 62))⟩, ⟨(.some 64), .none, .true, (.bld [(Go.Value.int Go.IntKind.i64 0), (Go.Value.int Go.IntKind.i64 0)] [(0, 1), (1, 1)] [(0, (.tmp 57)), (1, (.tmp 63))])⟩, ⟨(.some 65), .none, .false, (.bsl (.mk 58 2) 1 [(0, (.tmp 64))])⟩, ⟨(.some 66), .none, .false, (.app (.mk 58 2) 16 (.tmp 51) (.tmp 65))⟩, ⟨(.some 3), .none, .false, (.mv (.tmp 66))⟩]) .skip))) (.reg [⟨(.some 46), .none, .false, (.mv (.tmp 6))⟩, ⟨(.some 47), .none, .false, (.bin .add (.tmp 46) (.const (Go.Value.int Go.IntKind.i64 1)))⟩, ⟨(.some 6), .none, .false, (.mv (.tmp 47))⟩]))))))) (.seq (.reg [⟨(.some 68), .none, .false, (.bin .eql (.tmp 19) (.const (Go.Value.int Go.IntKind.i64 1)))⟩, ⟨(.some 67), .none, .false, (.mv (.tmp 68))⟩]) (.cond (.tmp 67) (.seq (.reg [⟨(.some 69), .none, .false, (.mv (.tmp 0))⟩, ⟨(.some 70), .none, .false, (.call (.func 49) [(.tmp 69), (.const (Go.Value.int Go.IntKind.i64 8))])⟩, ⟨(.some 71), .none, .false, (.bin .add (.const (Go.Value.int Go.IntKind.i64 1)) (.tmp 70))⟩, ⟨(.some 7), .none, .false, (.mv (.tmp 71))⟩]) (.block 5 (.loop (.seq (.seq (.reg [⟨(.some 72), .none, .false, (.mv (.tmp 7))⟩, ⟨(.some 73), .none, .false, (.bin .gtr (.tmp 72) (.const (Go.Value.int Go.IntKind.i64 0)))⟩]) (.cond (.tmp 73) .skip (.exit 5))) (.seq (.block 6 (.seq (.reg [⟨(.some 76), .none, .false, (.mv (.tmp 0))⟩, ⟨(.some 77), .none, .false, (.call (.func 49) [(.tmp 76), (.const (Go.Value.int Go.IntKind.i64 7))])⟩, ⟨(.some 8), .none, .false, (.mv (.tmp 77))⟩]) (.reg [⟨(.some 78), .none, .false, (.mv (.tmp 3))⟩, ⟨(.some 79), .none, .false, (.mv (.tmp 8))⟩, ⟨(.some 80), .none, .false, (.mv (.tmp 0))⟩, ⟨(.some 81), .none, .false, (.call (.func 49) [(.tmp 80), (.const (Go.Value.int Go.IntKind.i64 5))])⟩, ⟨(.some 82), .none, .false, (.bld [(Go.Value.int Go.IntKind.i64 0), (Go.Value.int Go.IntKind.i64 0)] [(0, 1), (1, 1)] [(0, (.tmp 79)), (1, (.tmp 81))])⟩, ⟨(.some 83), .none, .false, (.call (.func 51) [(.tmp 78), (.tmp 82)])⟩, ⟨(.some 3), .none, .false, (.mv (.tmp 83))⟩]))) (.reg [⟨(.some 74), .none, .false, (.mv (.tmp 7))⟩, ⟨(.some 75), .none, .false, (.bin .sub (.tmp 74) (.const (Go.Value.int Go.IntKind.i64 1)))⟩, ⟨(.some 7), .none, .false, (.mv (.tmp 75))⟩])))))) (.seq (.reg [⟨(.some 20), .none, .false, (.mv (.tmp 0))⟩, ⟨(.some 21), .none, .false, (.call (.func 49) [(.tmp 20), (.const (Go.Value.int Go.IntKind.i64 14))])⟩, ⟨(.some 22), .none, .false, (.bin .add (.const (Go.Value.int Go.IntKind.i64 1)) (.tmp 21))⟩, ⟨(.some 9), .none, .false, (.mv (.tmp 22))⟩]) (.block 1 (.loop (.seq (.seq (.reg [⟨(.some 23), .none, .false, (.mv (.tmp 9))⟩, ⟨(.some 24), .none, .false, (.bin .gtr (.tmp 23) (.const (Go.Value.int Go.IntKind.i64 0)))⟩]) (.cond (.tmp 24) .skip (.exit 1))) (.seq (.block 2 (.seq (.reg [⟨(.some 27), .none, .false, (.mv (.tmp 3))⟩, ⟨(.some 28), .none, .false, (.ld .true 2 (.tmp 4))⟩, ⟨(.some 29), .none, .false, (.call (.func 51) [(.tmp 27), (.tmp 28)])⟩, ⟨(.some 3), .none, .false, (.mv (.tmp 29))⟩]) (.regO (.take ⟨(.some 31), .none, .false, (.mv (.tmp 0))⟩ (.both (.take ⟨(.some 30), .none, .false, (.ld .true 2 (.tmp 4))⟩ (.take ⟨(.some 32), .none, .false, (.call (.func 49) [(.tmp 31), (.const (Go.Value.int Go.IntKind.i64 4))])⟩ (.take ⟨(.some 33), .none, .false, (.call (.func 52) [(.tmp 30), (.tmp 32)])⟩ (.take ⟨.none, .none, .false, (.sto 2 (.tmp 4) (.tmp 33))⟩ .done)))) (.take ⟨(.some 32), .none, .false, (.call (.func 49) [(.tmp 31), (.const (Go.Value.int Go.IntKind.i64 4))])⟩ (.take ⟨(.some 30), .none, .false, (.ld .true 2 (.tmp 4))⟩ (.take ⟨(.some 33), .none, .false, (.call (.func 52) [(.tmp 30), (.tmp 32)])⟩ (.take ⟨.none, .none, .false, (.sto 2 (.tmp 4) (.tmp 33))⟩ .done))))))))) (.reg [⟨(.some 25), .none, .false, (.mv (.tmp 9))⟩, ⟨(.some 26), .none, .false, (.bin .sub (.tmp 25) (.const (Go.Value.int Go.IntKind.i64 1)))⟩, ⟨(.some 9), .none, .false, (.mv (.tmp 26))⟩])))))))))))) (.seq (.seq (.reg [⟨(.some 84), .none, .false, (.mv (.tmp 3))⟩, ⟨(.some 85), .none, .false, (.len (.tmp 84))⟩, ⟨(.some 86), .none, .false, (.bin .eql (.tmp 85) (.const (Go.Value.int Go.IntKind.i64 0)))⟩]) (.cond (.tmp 86) (.reg [⟨(.some 87), .none, .false, (.mv (.tmp 3))⟩, ⟨(.some 88), .none, .false, (.ld .true 2 (.tmp 4))⟩, ⟨(.some 89), .none, .false, (.bsl (.mk 58 2) 1 [(0, (.tmp 88))])⟩, ⟨(.some 90), .none, .false, (.app (.mk 58 2) 16 (.tmp 87) (.tmp 89))⟩, ⟨(.some 3), .none, .false, (.mv (.tmp 90))⟩]) .skip)) (.seq (.reg [⟨(.some 91), .none, .false, (.mv (.tmp 3))⟩, ⟨(.some 2), .none, .false, (.mv (.tmp 91))⟩]) .ret))))))
set_option maxRecDepth 100000 in
theorem S.ok27 : stripF Tryd.prog Tryd.f27 = some S.s27 := by kernel_rfl
set_option maxRecDepth 100000 in
def S.s52 : SC := (.seq (.reg [⟨(.some 2), .none, .false, (.box 58 (.tmp 0))⟩, ⟨(.some 4), .none, .false, (.al 58 [(Go.Value.int Go.IntKind.i64 0), (Go.Value.int Go.IntKind.i64 0)])⟩]) (.seq (.seq (.reg [⟨(.some 5), .none, .false, (.mv (.tmp 1))⟩]) (.block 0 (.seq (.reg [⟨(.some 7), .none, .false, (.bin .eql (.tmp 5) (.const (Go.Value.int Go.IntKind.i64 0)))⟩, ⟨(.some 6), .none, .false, (.mv (.tmp 7))⟩]) (.cond (.tmp 6) (.reg [⟨(.some 8), .none, .false, (.fa 1 (.tmp 2))⟩, ⟨(.some 9), .none, .false, (.ld .false 1 (.tmp 8))⟩, ⟨(.some 10), .none, .false, (.bin .add (.tmp 9) (.const (Go.Value.int Go.IntKind.i64 1)))⟩, ⟨(.some 11), .none, .false, (.fa 1 (.tmp 2))⟩, ⟨.none, .none, .false, (.sto 1 (.tmp 11) (.tmp 10))⟩]) (.seq (.reg [⟨(.some 13), .none, .false, (.bin .eql (.tmp 5) (.const (Go.Value.int Go.IntKind.i64 1)))⟩, ⟨(.some 12), .none, .false, (.mv (.tmp 13))⟩]) (.cond (.tmp 12) (.reg [⟨(.some 14), .none, .false, (.fa 0 (.tmp 2))⟩, ⟨(.some 15), .none, .false, (.ld .false 1 (.tmp 14))⟩, ⟨(.some 16), .none, .false, (.bin .add (.tmp 15) (.const (Go.Value.int Go.IntKind.i64 1)))⟩, ⟨(.some 17), .none, .false, (.fa 0 (.tmp 2))⟩, ⟨.none, .none, .false, (.sto 1 (.tmp 17) (.tmp 16))⟩]) (.seq (.reg [⟨(.some 19), .none, .false, (.bin .eql (.tmp 5) (.const (Go.Value.int Go.IntKind.i64 2)))⟩, ⟨(.some 18), .none, .false, (.mv (.tmp 19))⟩]) (.cond (.tmp 18) (.reg [⟨(.some 20), .none, .false, (.fa 1 (.tmp 2))⟩, ⟨(.some 21), .none, .false, (.ld .false 1 (.tmp 20))⟩, ⟨(.some 22), .none, .false, (.bin .sub (.tmp 21) (.const (Go.Value.int Go.IntKind.i64 1)))⟩, ⟨(.some 23), .none, .false, (.fa 1 (.tmp 2))⟩, ⟨.none, .none, .false, (.sto 1 (.tmp 23) (.tmp 22))⟩]) (.seq (.reg [⟨(.some 25), .none, .false, (.bin .eql (.tmp 5) (.const (Go.Value.int Go.IntKind.i64 3)))⟩, ⟨(.some 24), .none, .false, (.mv (.tmp 25))⟩]) (.cond (.tmp 24) (.reg [⟨(.some 26), .none, .false, (.fa 0 (.tmp 2))⟩, ⟨(.some 27), .none, .false, (.ld .false 1 (.tmp 26))⟩, ⟨(.some 28), .none, .false, (.bin .sub (.tmp 27) (.const (Go.Value.int Go.IntKind.i64 1)))⟩, ⟨(.some 29), .none, .false, (.fa 0 (.tmp 2))⟩, ⟨.none, .none, .false, (.sto 1 (.tmp 29) (.tmp 28))⟩]) .skip)))))))))) (.seq (.reg [⟨(.some 30), .none, .false, (.ld .true 2 (.tmp 2))⟩, ⟨.none, .none, .false, (.sto 2 (.tmp 4) (.tmp 30))⟩]) .ret)))
set_option maxRecDepth 100000 in
theorem S.ok52 : stripF Tryd.prog Tryd.f52 = some S.s52 := by kernel_rfl
set_option maxRecDepth 20000
set_option maxHeartbeats 8000000
section
variable {P : Program} {Q : Exit → St → Prop} {ks : List Fr} {e : Nat → AV} {o : Nat → Option Ob} {d : Nat} {fr : Bool} {x y z : Operand} {rest : List SR}
theorem R.addW {m n : Int} (h1 : ev e x = pvA (.int .i64 m)) (h2 : ev e y = pvA (.int .i64 n)) (k : WL P rest ks Q ⟨upd e d (pvA (.int .i64 (IntKind.wrap .i64 (m + n)))), o⟩) : WL P (⟨some d, none, fr, .bin .add x y⟩ :: rest) ks Q ⟨e, o⟩ := R.bin h1 h2 (by simp [binI, numV]) k
theorem R.subW {m n : Int} (h1 : ev e x = pvA (.int .i64 m)) (h2 : ev e y = pvA (.int .i64 n)) (k : WL P rest ks Q ⟨upd e d (pvA (.int .i64 (IntKind.wrap .i64 (m - n)))), o⟩) : WL P (⟨some d, none, fr, .bin .sub x y⟩ :: rest) ks Q ⟨e, o⟩ := R.bin h1 h2 (by simp [binI, numV]) k
end
abbrev oPt (q : TPoint) : RT := .v (.agg [.fz (iD q.fX), .fz (iD q.fY)])
theorem wrap_in {n : Int} (h : -1000 ≤ n ∧ n ≤ 1000) : IntKind.wrap .i64 n = n := by
  simp [IntKind.wrap, IntKind.bits, IntKind.signed]
  omega
def inP (K : Int) (q : TPoint) : Prop := (-K ≤ q.fX ∧ q.fX ≤ K) ∧ (-K ≤ q.fY ∧ q.fY ≤ K)
theorem sStep (p : TPoint) (d : Int) : ∃ q : TPoint, (∀ K : Int, K ≤ 500 → inP K p → inP (K + 1) q) ∧ Spec Tryd.prog 52 [.agg (enPoint p), vI d] (oPt q) := by
  obtain ⟨x, y⟩ := p
  by_cases h0 : d = 0
  · subst h0
    refine ⟨⟨x, IntKind.wrap .i64 (y + 1)⟩, fun K hK h => ?_, ?_⟩
    · obtain ⟨⟨a1, a2⟩, a3, a4⟩ := h
      dsimp only at a1 a2 a3 a4
      unfold inP
      dsimp only
      rw [wrap_in ⟨by omega, by omega⟩]
      omega
    · refine Spec.walk T.mixed Tryd.func52 S.ok52 (by simp [Tryd.f52]) fun hk => ?_
      unfold S.s52
      repeat' (first | refine R.addW rfl rfl ?_ | refine R.subW rfl rfl ?_ | refine R.mv rfl ?_ | refine R.reg ?_ | refine R.nil ?_ | refine R.seq ?_ | refine R.nseq ?_ | refine R.nblk ?_ | refine R.skip ?_ | refine R.blk ?_ | refine R.exit rfl ?_ | refine R.ldEp rfl rfl (by assumption) rfl rfl ?_ | refine R.ldaEp rfl rfl (by assumption) (Nat.le_of_ble_eq_true rfl) rfl rfl ?_ | refine R.ld rfl rfl rfl ?_ | refine R.lda rfl rfl (Nat.le_of_ble_eq_true rfl) rfl ?_ | refine R.fa rfl rfl ?_ | refine R.eql rfl rfl ?_ | refine R.add rfl rfl (by omega) ?_ | refine R.sub rfl rfl (by omega) ?_ | refine R.al rfl ?_ | refine R.box rfl rfl rfl ?_ | refine R.stoB rfl rfl rfl rfl ⟨rfl, rfl, Nat.le_of_ble_eq_true rfl⟩ rfl ?_ | refine R.stoE _ rfl rfl rfl rfl rfl (by assumption) rfl ⟨rfl, rfl, Nat.le_of_ble_eq_true rfl⟩ ?_ | refine R.condT rfl ?_ | refine R.condF rfl ?_ | refine R.cond rfl (fun hc => ?_) (fun hc => ?_) | refine R.condN rfl (fun hc => ?_) (fun hc => ?_) | refine R.condB rfl (fun hc => ?_) (fun hc => ?_))
      all_goals first | (exfalso; omega) | exact R.ret ⟨.inr rfl, R.outR rfl (.cons (R.cell rfl rfl T.ty58 (Nat.le_of_ble_eq_true rfl) rfl) .nil) rfl rfl rfl rfl⟩ | skip
  by_cases h1 : d = 1
  · subst h1
    refine ⟨⟨IntKind.wrap .i64 (x + 1), y⟩, fun K hK h => ?_, ?_⟩
    · obtain ⟨⟨a1, a2⟩, a3, a4⟩ := h
      dsimp only at a1 a2 a3 a4
      unfold inP
      dsimp only
      rw [wrap_in ⟨by omega, by omega⟩]
      omega
    · refine Spec.walk T.mixed Tryd.func52 S.ok52 (by simp [Tryd.f52]) fun hk => ?_
      unfold S.s52
      repeat' (first | refine R.addW rfl rfl ?_ | refine R.subW rfl rfl ?_ | refine R.mv rfl ?_ | refine R.reg ?_ | refine R.nil ?_ | refine R.seq ?_ | refine R.nseq ?_ | refine R.nblk ?_ | refine R.skip ?_ | refine R.blk ?_ | refine R.exit rfl ?_ | refine R.ldEp rfl rfl (by assumption) rfl rfl ?_ | refine R.ldaEp rfl rfl (by assumption) (Nat.le_of_ble_eq_true rfl) rfl rfl ?_ | refine R.ld rfl rfl rfl ?_ | refine R.lda rfl rfl (Nat.le_of_ble_eq_true rfl) rfl ?_ | refine R.fa rfl rfl ?_ | refine R.eql rfl rfl ?_ | refine R.add rfl rfl (by omega) ?_ | refine R.sub rfl rfl (by omega) ?_ | refine R.al rfl ?_ | refine R.box rfl rfl rfl ?_ | refine R.stoB rfl rfl rfl rfl ⟨rfl, rfl, Nat.le_of_ble_eq_true rfl⟩ rfl ?_ | refine R.stoE _ rfl rfl rfl rfl rfl (by assumption) rfl ⟨rfl, rfl, Nat.le_of_ble_eq_true rfl⟩ ?_ | refine R.condT rfl ?_ | refine R.condF rfl ?_ | refine R.cond rfl (fun hc => ?_) (fun hc => ?_) | refine R.condN rfl (fun hc => ?_) (fun hc => ?_) | refine R.condB rfl (fun hc => ?_) (fun hc => ?_))
      all_goals first | (exfalso; omega) | exact R.ret ⟨.inr rfl, R.outR rfl (.cons (R.cell rfl rfl T.ty58 (Nat.le_of_ble_eq_true rfl) rfl) .nil) rfl rfl rfl rfl⟩ | skip
  by_cases h2 : d = 2
  · subst h2
    refine ⟨⟨x, IntKind.wrap .i64 (y - 1)⟩, fun K hK h => ?_, ?_⟩
    · obtain ⟨⟨a1, a2⟩, a3, a4⟩ := h
      dsimp only at a1 a2 a3 a4
      unfold inP
      dsimp only
      rw [wrap_in ⟨by omega, by omega⟩]
      omega
    · refine Spec.walk T.mixed Tryd.func52 S.ok52 (by simp [Tryd.f52]) fun hk => ?_
      unfold S.s52
      repeat' (first | refine R.addW rfl rfl ?_ | refine R.subW rfl rfl ?_ | refine R.mv rfl ?_ | refine R.reg ?_ | refine R.nil ?_ | refine R.seq ?_ | refine R.nseq ?_ | refine R.nblk ?_ | refine R.skip ?_ | refine R.blk ?_ | refine R.exit rfl ?_ | refine R.ldEp rfl rfl (by assumption) rfl rfl ?_ | refine R.ldaEp rfl rfl (by assumption) (Nat.le_of_ble_eq_true rfl) rfl rfl ?_ | refine R.ld rfl rfl rfl ?_ | refine R.lda rfl rfl (Nat.le_of_ble_eq_true rfl) rfl ?_ | refine R.fa rfl rfl ?_ | refine R.eql rfl rfl ?_ | refine R.add rfl rfl (by omega) ?_ | refine R.sub rfl rfl (by omega) ?_ | refine R.al rfl ?_ | refine R.box rfl rfl rfl ?_ | refine R.stoB rfl rfl rfl rfl ⟨rfl, rfl, Nat.le_of_ble_eq_true rfl⟩ rfl ?_ | refine R.stoE _ rfl rfl rfl rfl rfl (by assumption) rfl ⟨rfl, rfl, Nat.le_of_ble_eq_true rfl⟩ ?_ | refine R.condT rfl ?_ | refine R.condF rfl ?_ | refine R.cond rfl (fun hc => ?_) (fun hc => ?_) | refine R.condN rfl (fun hc => ?_) (fun hc => ?_) | refine R.condB rfl (fun hc => ?_) (fun hc => ?_))
      all_goals first | (exfalso; omega) | exact R.ret ⟨.inr rfl, R.outR rfl (.cons (R.cell rfl rfl T.ty58 (Nat.le_of_ble_eq_true rfl) rfl) .nil) rfl rfl rfl rfl⟩ | skip
  by_cases h3 : d = 3
  · subst h3
    refine ⟨⟨IntKind.wrap .i64 (x - 1), y⟩, fun K hK h => ?_, ?_⟩
    · obtain ⟨⟨a1, a2⟩, a3, a4⟩ := h
      dsimp only at a1 a2 a3 a4
      unfold inP
      dsimp only
      rw [wrap_in ⟨by omega, by omega⟩]
      omega
    · refine Spec.walk T.mixed Tryd.func52 S.ok52 (by simp [Tryd.f52]) fun hk => ?_
      unfold S.s52
      repeat' (first | refine R.addW rfl rfl ?_ | refine R.subW rfl rfl ?_ | refine R.mv rfl ?_ | refine R.reg ?_ | refine R.nil ?_ | refine R.seq ?_ | refine R.nseq ?_ | refine R.nblk ?_ | refine R.skip ?_ | refine R.blk ?_ | refine R.exit rfl ?_ | refine R.ldEp rfl rfl (by assumption) rfl rfl ?_ | refine R.ldaEp rfl rfl (by assumption) (Nat.le_of_ble_eq_true rfl) rfl rfl ?_ | refine R.ld rfl rfl rfl ?_ | refine R.lda rfl rfl (Nat.le_of_ble_eq_true rfl) rfl ?_ | refine R.fa rfl rfl ?_ | refine R.eql rfl rfl ?_ | refine R.add rfl rfl (by omega) ?_ | refine R.sub rfl rfl (by omega) ?_ | refine R.al rfl ?_ | refine R.box rfl rfl rfl ?_ | refine R.stoB rfl rfl rfl rfl ⟨rfl, rfl, Nat.le_of_ble_eq_true rfl⟩ rfl ?_ | refine R.stoE _ rfl rfl rfl rfl rfl (by assumption) rfl ⟨rfl, rfl, Nat.le_of_ble_eq_true rfl⟩ ?_ | refine R.condT rfl ?_ | refine R.condF rfl ?_ | refine R.cond rfl (fun hc => ?_) (fun hc => ?_) | refine R.condN rfl (fun hc => ?_) (fun hc => ?_) | refine R.condB rfl (fun hc => ?_) (fun hc => ?_))
      all_goals first | (exfalso; omega) | exact R.ret ⟨.inr rfl, R.outR rfl (.cons (R.cell rfl rfl T.ty58 (Nat.le_of_ble_eq_true rfl) rfl) .nil) rfl rfl rfl rfl⟩ | skip
  refine ⟨⟨x, y⟩, fun K hK h => ?_, ?_⟩
  · unfold inP at h ⊢
    omega
  · refine Spec.walk T.mixed Tryd.func52 S.ok52 (by simp [Tryd.f52]) fun hk => ?_
    unfold S.s52
    repeat' (first | refine R.addW rfl rfl ?_ | refine R.subW rfl rfl ?_ | refine R.mv rfl ?_ | refine R.reg ?_ | refine R.nil ?_ | refine R.seq ?_ | refine R.nseq ?_ | refine R.nblk ?_ | refine R.skip ?_ | refine R.blk ?_ | refine R.exit rfl ?_ | refine R.ldEp rfl rfl (by assumption) rfl rfl ?_ | refine R.ldaEp rfl rfl (by assumption) (Nat.le_of_ble_eq_true rfl) rfl rfl ?_ | refine R.ld rfl rfl rfl ?_ | refine R.lda rfl rfl (Nat.le_of_ble_eq_true rfl) rfl ?_ | refine R.fa rfl rfl ?_ | refine R.eql rfl rfl ?_ | refine R.add rfl rfl (by omega) ?_ | refine R.sub rfl rfl (by omega) ?_ | refine R.al rfl ?_ | refine R.box rfl rfl rfl ?_ | refine R.stoB rfl rfl rfl rfl ⟨rfl, rfl, Nat.le_of_ble_eq_true rfl⟩ rfl ?_ | refine R.stoE _ rfl rfl rfl rfl rfl (by assumption) rfl ⟨rfl, rfl, Nat.le_of_ble_eq_true rfl⟩ ?_ | refine R.condT rfl ?_ | refine R.condF rfl ?_ | refine R.cond rfl (fun hc => ?_) (fun hc => ?_) | refine R.condN rfl (fun hc => ?_) (fun hc => ?_) | refine R.condB rfl (fun hc => ?_) (fun hc => ?_))
    all_goals first | (exfalso; omega) | exact R.ret ⟨.inr rfl, R.outR rfl (.cons (R.cell rfl rfl T.ty58 (Nat.le_of_ble_eq_true rfl) rfl) .nil) rfl rfl rfl rfl⟩ | skip
/-- What a pick gives, and the source behind it. -/
theorem pk_ex (s : Src) (n m : Int) (h : okSrc n s ∧ n ≤ 900000000) : ∃ p : Int × Src, (0 ≤ p.1 ∧ (p.1 < m ∨ p.1 = 0)) ∧ okSrc (n + 2) p.2 ∧ SpecM Tryd.prog 49 [srcV, .c (.d (iD m))] (srcOb s) (oI p.1).av (srcOb p.2) := by
  obtain ⟨v, s', h1, h2, h3⟩ := sPick s n h.1 h.2 m
  exact ⟨(v, s'), h1, h2, h3⟩
open Classical in
noncomputable def pk (s : Src) (n m : Int) : Int × Src := if h : okSrc n s ∧ n ≤ 900000000 then Classical.choose (pk_ex s n m h) else (0, s)
theorem pk_ok {s : Src} {n : Int} (m : Int) (h : okSrc n s) (hn : n ≤ 900000000) : (0 ≤ (pk s n m).1 ∧ ((pk s n m).1 < m ∨ (pk s n m).1 = 0)) ∧ okSrc (n + 2) (pk s n m).2 ∧ SpecM Tryd.prog 49 [srcV, .c (.d (iD m))] (srcOb s) (oI (pk s n m).1).av (srcOb (pk s n m).2) := by
  have hs := Classical.choose_spec (pk_ex s n m ⟨h, hn⟩)
  have e : pk s n m = Classical.choose (pk_ex s n m ⟨h, hn⟩) := dif_pos ⟨h, hn⟩
  rw [e]
  exact hs
theorem cut_cutN {l : List TPoint} {p : TPoint} (hs : ordTo l l.length) : cut l p (cutN l p) := by
  have hc : ∀ (m : Nat), m ≤ l.length → (∀ (i : Nat) t, i < m → l[i]? = some t → ltP t p) → cut l p (cutN l p) := fun m hm h => by
    induction hk : l.length - m generalizing m with
    | zero =>
      have hc : cut l p m := ⟨hm, h, fun i t hi ht => by have := (List.getElem?_eq_some_iff.1 ht).1; omega⟩
      rw [cut_eq hc]; exact hc
    | succ k ih =>
      by_cases hlt : ltP (l[m]'(by omega)) p
      · exact ih (m + 1) (by omega) (cut_up hs (List.getElem?_eq_getElem (by omega)) hlt) (by omega)
      · have hc : cut l p m := ⟨hm, h, cut_down hs (List.getElem?_eq_getElem (by omega)) hlt⟩
        rw [cut_eq hc]; exact hc
  exact hc 0 (by omega) fun i t h => by omega
/-- A chain of states, each from the one before. -/
theorem iter_ex {σ : Type} (K : Nat) (R : Nat → σ → Prop) (S : Nat → σ → σ → Prop) (s0 : σ) (h0 : R 0 s0) (hst : ∀ i s, R i s → i < K → ∃ s', S i s s' ∧ R (i + 1) s') :
    ∃ f : Nat → σ, f 0 = s0 ∧ (∀ i, i ≤ K → R i (f i)) ∧ ∀ i, i < K → S i (f i) (f (i + 1)) := by
  have hch : ∀ (i : Nat) (s : σ), ∃ s', R i s → i < K → S i s s' ∧ R (i + 1) s' := fun i s => by
    by_cases h : R i s ∧ i < K
    · obtain ⟨s', h1⟩ := hst i s h.1 h.2
      exact ⟨s', fun _ _ => h1⟩
    · exact ⟨s, fun h1 h2 => absurd ⟨h1, h2⟩ h⟩
  let g : Nat → σ → σ := fun i s => Classical.choose (hch i s)
  have hg : ∀ i s, R i s → i < K → S i s (g i s) ∧ R (i + 1) (g i s) := fun i s => Classical.choose_spec (hch i s)
  let f : Nat → σ := fun n => Nat.rec s0 (fun i s => g i s) n
  have hR : ∀ i, i ≤ K → R i (f i) := fun i => by
    induction i with
    | zero => intro _; exact h0
    | succ i ih => intro hi; exact (hg i (f i) (ih (by omega)) (by omega)).2
  exact ⟨f, rfl, hR, fun i hi => (hg i (f i) (hR i (by omega)) hi).1⟩
theorem first_fail (p : Nat → Prop) (n : Nat) (h : ¬ p n) : ∃ N, N ≤ n ∧ (∀ i, i < N → p i) ∧ ¬ p N := by
  induction n using Nat.strongRecOn with
  | _ n ih =>
    by_cases hp : ∃ i, i < n ∧ ¬ p i
    · obtain ⟨i, hi, hpi⟩ := hp
      obtain ⟨N, h1, h2, h3⟩ := ih i hi hpi
      exact ⟨N, by omega, h2, h3⟩
    · exact ⟨n, Nat.le_refl _, fun i hi => Classical.byContradiction fun hpi => hp ⟨i, hi, hpi⟩, h⟩
/-- A list in order, its coordinates and its length within bounds. -/
structure Gd (b : Int) (m : Nat) (l : List TPoint) : Prop where
  pw : l.Pairwise ltP
  in_ : ∀ q ∈ l, inP b q
  len : l.length ≤ m
theorem Gd.nil (b : Int) : Gd b 0 [] := ⟨.nil, fun q h => (by cases h), Nat.le_refl _⟩
theorem Gd.ord {b : Int} {m : Nat} {l : List TPoint} (h : Gd b m l) (hb : b ≤ 60) : ordTo l l.length := fun i t hi ht => by
  refine ⟨?_, fun s h0 hs => ?_⟩
  · have := h.in_ t (List.mem_of_getElem? ht)
    unfold inP at this
    unfold okP
    omega
  · obtain ⟨h1, rfl⟩ := List.getElem?_eq_some_iff.1 ht
    obtain ⟨h2, rfl⟩ := List.getElem?_eq_some_iff.1 hs
    exact (List.pairwise_iff_getElem.1 h.pw) _ _ h2 h1 (by omega)
theorem Gd.ok {b : Int} {m : Nat} {l : List TPoint} (h : Gd b m l) (hb : b ≤ 30) (hm : m ≤ 500) (hne : l ≠ []) : okSh l ∧ ∀ p ∈ l, (-30 ≤ p.fX ∧ p.fX ≤ 30) ∧ (-30 ≤ p.fY ∧ p.fY ≤ 30) := by
  have hl : 1 ≤ l.length := List.length_pos_iff.2 hne
  refine ⟨⟨⟨hl, Nat.le_trans h.len hm⟩, h.ord (by omega)⟩, fun p hp => ?_⟩
  have := h.in_ p hp
  unfold inP at this
  omega
theorem Gd.ins {b : Int} {m : Nat} {l : List TPoint} {p : TPoint} (h : Gd b m l) (hp : inP b p) (hb : b ≤ 60) : Gd b (m + 1) (insP l p) ∧ insP l p ≠ [] := by
  have hs := h.ord hb
  unfold insP
  by_cases hin : p ∈ l
  · rw [if_pos hin]
    exact ⟨⟨h.pw, h.in_, Nat.le_succ_of_le h.len⟩, fun e => by rw [e] at hin; cases hin⟩
  · rw [if_neg hin]
    have hc := cut_cutN (p := p) hs
    generalize cutN l p = n at *
    obtain ⟨hn, h1, h2⟩ := hc
    have htd : l.take n ++ l.drop n = l := List.take_append_drop n l
    have hpw := h.pw
    rw [← htd, List.pairwise_append] at hpw
    refine ⟨⟨?_, fun q hq => ?_, ?_⟩, by simp⟩
    · rw [List.pairwise_append]
      refine ⟨hpw.1, List.pairwise_cons.2 ⟨fun q hq => ?_, hpw.2.1⟩, fun a ha c hc => ?_⟩
      · obtain ⟨i, hi⟩ := List.getElem?_of_mem hq
        rw [List.getElem?_drop] at hi
        have hno := h2 (n + i) q (by omega) hi
        exact ltP_tri hno fun e => hin (e ▸ List.mem_of_getElem? hi)
      · rcases List.mem_cons.1 hc with rfl | hc
        · obtain ⟨i, hi, he⟩ := List.mem_take_iff_getElem.1 ha
          exact h1 i a (by omega) (by rw [← he]; exact List.getElem?_eq_getElem _)
        · exact hpw.2.2 a ha c hc
    · rcases List.mem_append.1 hq with hq | hq
      · exact h.in_ q (List.mem_of_mem_take hq)
      · rcases List.mem_cons.1 hq with rfl | hq
        · exact hp
        · exact h.in_ q (List.mem_of_mem_drop hq)
    · have h3 := h.len
      rw [List.length_append, List.length_cons, List.length_take, List.length_drop]
      omega
abbrev outP (l : List TPoint) (s : Src) : List (Nat × Ob) := (0, .arr kPoint (l.map enPoint) []) :: srcOb s
abbrev pickS (s : Src) (m v : Int) (s' : Src) : Prop := SpecM Tryd.prog 49 [srcV, .c (.d (iD m))] (srcOb s) (oI v).av (srcOb s')
theorem inP_mono {a b : Int} {q : TPoint} (h : inP a q) (hab : a ≤ b) : inP b q := by unfold inP at *; omega
/-- A walk of k steps. -/
theorem drawC (s : Src) (n : Int) (h : okSrc n s) (hn : n ≤ 1000) (p0 : TPoint) (hp0 : inP 2 p0) : ∃ f : Nat → (Src × List TPoint) × TPoint, f 0 = ((s, []), p0) ∧ (∀ i : Nat, i ≤ 14 → Gd 30 i (f i).1.2 ∧ (0 < i → (f i).1.2 ≠ []) ∧ inP 30 (f i).2) ∧ ∀ i : Nat, i < 14 → ∃ v, pickS (f i).1.1 4 v (f (i + 1)).1.1 ∧ Spec Tryd.prog 52 [.agg (enPoint (f i).2), vI v] (oPt (f (i + 1)).2) ∧ (f (i + 1)).1.2 = insP (f i).1.2 (f i).2 := by
  obtain ⟨f, h0, hR, hS⟩ := iter_ex (σ := (Src × List TPoint) × TPoint) 14 (fun i s => okSrc (n + 2 * (i : Int)) s.1.1 ∧ Gd 30 i s.1.2 ∧ (0 < i → s.1.2 ≠ []) ∧ inP (2 + (i : Int)) s.2) (fun _ s s' => ∃ v, pickS s.1.1 4 v s'.1.1 ∧ Spec Tryd.prog 52 [.agg (enPoint s.2), vI v] (oPt s'.2) ∧ s'.1.2 = insP s.1.2 s.2) ((s, []), p0) ⟨h.mono (by omega), Gd.nil 30, fun h => by omega, inP_mono hp0 (by omega)⟩ (fun i st hst hi => by
    obtain ⟨a1, a2, a3, a4⟩ := hst
    obtain ⟨v, s', hv, hs', c⟩ := sPick st.1.1 _ a1 (by omega) 4
    obtain ⟨q, hq, cq⟩ := sStep st.2 v
    have hins := a2.ins (inP_mono a4 (by omega)) (by omega)
    exact ⟨((s', insP st.1.2 st.2), q), ⟨v, c, cq, rfl⟩, hs'.mono (by omega), hins.1, fun _ => hins.2, inP_mono (hq _ (by omega) a4) (by omega)⟩)
  exact ⟨f, h0, fun i hi => ⟨(hR i hi).2.1, (hR i hi).2.2.1, inP_mono (hR i hi).2.2.2 (by omega)⟩, hS⟩
/-- Some points. -/
theorem drawB (s : Src) (n : Int) (h : okSrc n s) (hn : n ≤ 1000) : ∃ f : Nat → Src × List TPoint, f 0 = (s, []) ∧ (∀ i : Nat, i ≤ 8 → Gd 30 i (f i).2 ∧ (0 < i → (f i).2 ≠ [])) ∧ ∀ i : Nat, i < 8 → ∃ x y sx, pickS (f i).1 7 x sx ∧ pickS sx 5 y (f (i + 1)).1 ∧ (f (i + 1)).2 = insP (f i).2 ⟨x, y⟩ := by
  obtain ⟨f, h0, hR, hS⟩ := iter_ex (σ := Src × List TPoint) 8 (fun i s => okSrc (n + 4 * (i : Int)) s.1 ∧ Gd 30 i s.2 ∧ (0 < i → s.2 ≠ [])) (fun _ s s' => ∃ x y sx, pickS s.1 7 x sx ∧ pickS sx 5 y s'.1 ∧ s'.2 = insP s.2 ⟨x, y⟩) (s, []) ⟨h.mono (by omega), Gd.nil 30, fun h => by omega⟩ (fun i st hst hi => by
    obtain ⟨a1, a2, a3⟩ := hst
    obtain ⟨x, sx, hx, hsx, cx⟩ := sPick st.1 _ a1 (by omega) 7
    obtain ⟨y, sy, hy, hsy, cy⟩ := sPick sx _ hsx (by omega) 5
    have hins := a2.ins (p := ⟨x, y⟩) (by unfold inP; dsimp only; omega) (by omega)
    exact ⟨(sy, insP st.2 ⟨x, y⟩), ⟨x, y, sx, cx, cy, rfl⟩, hsy.mono (by omega), hins.1, fun _ => hins.2⟩)
  exact ⟨f, h0, fun i hi => ⟨(hR i hi).2.1, (hR i hi).2.2⟩, hS⟩
/-- The place of a number in a grid. -/
def gPt (p : TPoint) (w : Int) (i : Nat) : TPoint := ⟨p.fX + (i : Int) % w, p.fY + (i : Int) / w⟩
theorem gPt_lt {p : TPoint} {w : Int} (hw : 1 ≤ w) {i j : Nat} (hij : i < j) : ltP (gPt p w i) (gPt p w j) := by
  have h1 := Int.emod_add_mul_ediv (i : Int) w
  have h2 := Int.emod_add_mul_ediv (j : Int) w
  have h3 := Int.emod_lt_of_pos (i : Int) (by omega : 0 < w)
  have h4 := Int.emod_nonneg (j : Int) (by omega : w ≠ 0)
  have hle : (i : Int) / w ≤ (j : Int) / w := Int.ediv_le_ediv (by omega) (by omega)
  unfold ltP gPt
  dsimp only
  rcases Int.lt_or_eq_of_le hle with h | h
  · left; omega
  · right
    rw [h] at h1
    exact ⟨by omega, by omega⟩
theorem gPt_in {p : TPoint} {w : Int} (hw : 1 ≤ w ∧ w ≤ 5) (hp : inP 2 p) {i : Nat} (hi : i < 25) : inP 30 (gPt p w i) := by
  have h3 := Int.emod_lt_of_pos (i : Int) (by omega : 0 < w)
  have h4 := Int.emod_nonneg (i : Int) (by omega : w ≠ 0)
  have h5 : 0 ≤ (i : Int) / w := Int.ediv_nonneg (by omega) (by omega)
  have h6 : (i : Int) / w ≤ i := Int.ediv_le_self _ (by omega)
  unfold inP gPt at *
  dsimp only
  omega
theorem mulS {w c : Int} (hw : 1 ≤ w ∧ w ≤ 5) (hc : 0 ≤ c ∧ c ≤ 4) : 0 ≤ w * (1 + c) ∧ w * (1 + c) ≤ 25 := by
  have h3 : w * (1 + c) ≤ 5 * 5 := Int.mul_le_mul hw.2 (by omega) (by omega) (by omega)
  have h4 := Int.mul_nonneg (show 0 ≤ w by omega) (show 0 ≤ 1 + c by omega)
  omega
/-- A part of a grid. -/
theorem drawA (s : Src) (n : Int) (h : okSrc n s) (hn : n ≤ 1000) (p0 : TPoint) (hp0 : inP 2 p0) (w : Int) (hw : 1 ≤ w ∧ w ≤ 5) : ∃ (f : Nat → (Src × List TPoint) × (Int × Src)) (N : Nat), (f 0).1 = (s, []) ∧ N ≤ 25 ∧ Gd 30 N (f N).1.2 ∧
    (∀ i : Nat, i ≤ N → (f i).1.2.length ≤ i) ∧ (∀ i : Nat, i ≤ N → (0 ≤ (f (i + 1)).2.1 ∧ (f (i + 1)).2.1 ≤ 4) ∧ pickS (f i).1.1 5 (f (i + 1)).2.1 (f (i + 1)).2.2) ∧ ¬ ((N : Int) < w * (1 + (f (N + 1)).2.1)) ∧
    ∀ i : Nat, i < N → (i : Int) < w * (1 + (f (i + 1)).2.1) ∧ ∃ b : Bool, SpecM Tryd.prog 50 [srcV, .c (.d (iD 5))] (srcOb (f (i + 1)).2.2) (oB b).av (srcOb (f (i + 1)).1.1) ∧ (f (i + 1)).1.2 = if b then (f i).1.2 else (f i).1.2 ++ [gPt p0 w i] := by
  obtain ⟨f, h0, hR, hS⟩ := iter_ex (σ := (Src × List TPoint) × (Int × Src)) 26 (fun i s => okSrc (n + 4 * (i : Int)) s.1.1 ∧ s.1.2.Pairwise ltP ∧ (∀ q ∈ s.1.2, ∃ j : Nat, j < i ∧ q = gPt p0 w j) ∧ s.1.2.length ≤ i) (fun i s s' => ((0 ≤ s'.2.1 ∧ s'.2.1 ≤ 4) ∧ pickS s.1.1 5 s'.2.1 s'.2.2) ∧ ∃ b : Bool, SpecM Tryd.prog 50 [srcV, .c (.d (iD 5))] (srcOb s'.2.2) (oB b).av (srcOb s'.1.1) ∧ s'.1.2 = if b then s.1.2 else s.1.2 ++ [gPt p0 w i]) ((s, []), (0, s)) ⟨h.mono (by omega), .nil, fun q hq => (by cases hq), Nat.le_refl _⟩ (fun i st hst hi => by
    obtain ⟨a1, a2, a3, a4⟩ := hst
    obtain ⟨c, s1, hc, hs1, cc⟩ := sPick st.1.1 _ a1 (by omega) 5
    obtain ⟨b, s2, hs2, cb⟩ := sOne s1 _ hs1 (by omega) 5
    refine ⟨((s2, if b then st.1.2 else st.1.2 ++ [gPt p0 w i]), (c, s1)), ⟨⟨by show 0 ≤ c ∧ c ≤ 4; omega, cc⟩, b, cb, rfl⟩, hs2.mono (by omega), ?_, ?_, ?_⟩
    · cases b with
      | true => exact a2
      | false =>
        refine List.pairwise_append.2 ⟨a2, by simp, fun x hx y hy => ?_⟩
        rw [List.mem_singleton.1 hy]
        obtain ⟨j, hj, rfl⟩ := a3 x hx
        exact gPt_lt hw.1 hj
    · intro q hq
      cases b with
      | true => obtain ⟨j, hj, e⟩ := a3 q hq; exact ⟨j, by omega, e⟩
      | false =>
        rcases List.mem_append.1 hq with hq | hq
        · obtain ⟨j, hj, e⟩ := a3 q hq; exact ⟨j, by omega, e⟩
        · exact ⟨i, by omega, List.mem_singleton.1 hq⟩
    · cases b with
      | true => show st.1.2.length ≤ i + 1; omega
      | false => show (st.1.2 ++ [gPt p0 w i]).length ≤ i + 1; rw [List.length_append, List.length_singleton]; omega)
  obtain ⟨N, hN, hlt, hge⟩ := first_fail (fun i => (i : Int) < w * (1 + (f (i + 1)).2.1)) 25 (fun hp => by
    have := mulS hw (hS 25 (by omega)).1.1
    have hp : ((25 : Nat) : Int) < w * (1 + (f (25 + 1)).2.1) := hp
    omega)
  refine ⟨f, N, by rw [h0], hN, ⟨(hR N (by omega)).2.1, fun q hq => ?_, (hR N (by omega)).2.2.2⟩, fun i hi => (hR i (by omega)).2.2.2, fun i hi => (hS i (by omega)).1, hge, fun i hi => ⟨hlt i hi, (hS i (by omega)).2⟩⟩
  obtain ⟨j, hj, rfl⟩ := (hR N (by omega)).2.2.1 q hq
  exact gPt_in hw hp0 (by omega)
theorem sDrawSh (s : Src) (n : Int) (h : okSrc n s) (hn : n ≤ 100) : ∃ (l : List TPoint) (s' : Src), (okSh l ∧ ∀ p ∈ l, (-30 ≤ p.fX ∧ p.fX ≤ 30) ∧ (-30 ≤ p.fY ∧ p.fY ≤ 30)) ∧ SpecM Tryd.prog 27 [srcV] (srcOb s) (.v (.c (.own 0))) (outP l s') := by
  obtain ⟨v1, s1, hv1, hs1, c1⟩ := sPick s n h (by omega) 5
  obtain ⟨v2, s2, hv2, hs2, c2⟩ := sPick s1 _ hs1 (by omega) 5
  obtain ⟨v3, s3, hv3, hs3, c3⟩ := sPick s2 _ hs2 (by omega) 4
  obtain ⟨p0, hp0⟩ : ∃ p : TPoint, p = ⟨v1 - 2, v2 - 2⟩ := ⟨_, rfl⟩
  have hin0 : inP 2 p0 := by subst hp0; unfold inP; dsimp only; omega
  by_cases h0 : v3 = 0
  · obtain ⟨v4, s4, hv4, hs4, c4⟩ := sPick s3 _ hs3 (by omega) 5
    obtain ⟨w, hw⟩ : ∃ w : Int, w = 1 + v4 := ⟨_, rfl⟩
    have hwb : 1 ≤ w ∧ w ≤ 5 := by omega
    obtain ⟨f, N, hf0, hN, hGN, hlen, hpk, hge, hS⟩ := drawA s4 _ hs4 (by omega) p0 hin0 w hwb
    have hf1 : (f 0).1.1 = s4 := by rw [hf0]
    have hf2 : (f 0).1.2 = [] := by rw [hf0]
    refine ⟨if (f N).1.2 = [] then [p0] else (f N).1.2, (f (N + 1)).2.2, ?_, ?_⟩
    · by_cases hne : (f N).1.2 = []
      · rw [if_pos hne]
        exact (show Gd 30 1 [p0] from ⟨List.pairwise_singleton _ _, fun q hq => by rw [List.mem_singleton.1 hq]; exact inP_mono hin0 (by omega), Nat.le_refl _⟩).ok (by omega) (by omega) (by simp)
      · rw [if_neg hne]
        exact hGN.ok (by omega) (by omega) hne
    refine SpecM.walk T.mixed Tryd.func27 S.ok27 (by simp [Tryd.f27]) fun hk' => ?_
    clear hk'
    unfold S.s27
    repeat' (first | refine R.mv rfl ?_ | refine R.reg ?_ | refine R.tk ?_ | refine R.tkN ?_ | exact R.vac | refine R.both ?_ ?_ | refine R.nil ?_ | refine R.seq ?_ | refine R.nseq ?_ | refine R.nblk ?_ | refine R.skip ?_ | refine R.blk ?_ | refine R.exit rfl ?_ | refine R.ldEp rfl rfl (by assumption) rfl rfl ?_ | refine R.ldaEp rfl rfl (by assumption) (Nat.le_of_ble_eq_true rfl) rfl rfl ?_ | refine R.ld rfl rfl rfl ?_ | refine R.lda rfl rfl (Nat.le_of_ble_eq_true rfl) rfl ?_ | refine R.fa rfl rfl ?_ | refine R.lenM rfl ?_ | refine R.lenO rfl rfl ?_ | refine R.len rfl rfl ?_ | refine R.lss rfl rfl ?_ | refine R.gtr rfl rfl ?_ | refine R.eql rfl rfl ?_ | refine R.add rfl rfl (by omega) ?_ | refine R.sub rfl rfl (by omega) ?_ | refine R.not rfl ?_ | refine R.al rfl ?_ | refine R.stoB rfl rfl rfl rfl ⟨rfl, rfl, Nat.le_of_ble_eq_true rfl⟩ rfl ?_ | refine R.stoE _ rfl rfl rfl rfl rfl (by assumption) rfl ⟨rfl, rfl, Nat.le_of_ble_eq_true rfl⟩ ?_ | refine R.bld rfl rfl ?_ | refine R.quo rfl rfl (by omega) ?_ | refine R.rem rfl rfl (by omega) ?_ | refine R.condT rfl ?_ | refine R.condF rfl ?_ | refine R.callX (bor := false) [(pin 0, pin 0)] rfl c1 rfl rfl rfl rfl rfl ?_ | refine R.callX (bor := false) [(pin 0, pin 0)] rfl c2 rfl rfl rfl rfl rfl ?_ | refine R.callX (bor := false) [(pin 0, pin 0)] rfl c3 rfl rfl rfl rfl rfl ?_ | refine R.callX (bor := false) [(pin 0, pin 0)] rfl c4 rfl rfl rfl rfl rfl ?_ | refine R.bsl (f := enPoint) ([] : List TPoint) rfl rfl rfl rfl rfl ?_ | refine R.cond rfl (fun hc => ?_) (fun hc => ?_) | refine R.condN rfl (fun hc => ?_) (fun hc => ?_) | refine R.condB rfl (fun hc => ?_) (fun hc => ?_))
    all_goals first | (exfalso; omega) | skip
    refine R.loop (G := Nat) (fun i => [(0, .v srcV), (3, .v (.c (.own 10))), (4, .v (.c (.ptr 4 0))), (5, pvA (.int .i64 w)), (6, pvA (.int .i64 (i : Int)))]) (fun i => (4, .box 58 ((enPoint p0).map B.d)) :: (10, .arr kPoint ((f i).1.2.map enPoint) []) :: srcOb (f i).1.1) (fun i => i ≤ N) (fun i => N - i) 0 (Nat.zero_le _) (Weak.frame _ _ ⟨rfl, rfl, rfl, (congrArg (fun z => pvA (.int .i64 z)) (show 1 + v4 = w by omega)), rfl, trivial⟩ ⟨by rw [hp0]; rfl, by rw [hf0]; rfl, by rw [hf0]; rfl, trivial⟩ rfl rfl) fun i hi => ?_
    obtain ⟨hcb, cc⟩ := hpk i hi
    have hmul := mulS hwb hcb
    by_cases hik : i < N
    · obtain ⟨hlt, b, cb, hout⟩ := hS i hik
      have hli := hlen i hi
      cases b with
      | true =>
        rw [if_pos rfl] at hout
        repeat' (first | refine R.mv rfl ?_ | refine R.reg ?_ | refine R.tk ?_ | refine R.tkN ?_ | exact R.vac | refine R.both ?_ ?_ | refine R.nil ?_ | refine R.seq ?_ | refine R.nseq ?_ | refine R.nblk ?_ | refine R.skip ?_ | refine R.blk ?_ | refine R.exit rfl ?_ | refine R.ldEp rfl rfl (by assumption) rfl rfl ?_ | refine R.ldaEp rfl rfl (by assumption) (Nat.le_of_ble_eq_true rfl) rfl rfl ?_ | refine R.ld rfl rfl rfl ?_ | refine R.lda rfl rfl (Nat.le_of_ble_eq_true rfl) rfl ?_ | refine R.fa rfl rfl ?_ | refine R.lenM rfl ?_ | refine R.lenO rfl rfl ?_ | refine R.len rfl rfl ?_ | refine R.lss rfl rfl ?_ | refine R.gtr rfl rfl ?_ | refine R.eql rfl rfl ?_ | refine R.add rfl rfl (by omega) ?_ | refine R.sub rfl rfl (by omega) ?_ | refine R.not rfl ?_ | refine R.al rfl ?_ | refine R.stoB rfl rfl rfl rfl ⟨rfl, rfl, Nat.le_of_ble_eq_true rfl⟩ rfl ?_ | refine R.stoE _ rfl rfl rfl rfl rfl (by assumption) rfl ⟨rfl, rfl, Nat.le_of_ble_eq_true rfl⟩ ?_ | refine R.bld rfl rfl ?_ | refine R.quo rfl rfl (by omega) ?_ | refine R.rem rfl rfl (by omega) ?_ | refine R.condT rfl ?_ | refine R.condF rfl ?_ | refine R.callX (bor := false) [(pin 0, pin 0)] rfl cc rfl rfl rfl rfl rfl ?_ | refine R.callX (bor := false) [(pin 0, pin 0)] rfl cb rfl rfl rfl rfl rfl ?_ | refine R.mul rfl rfl ⟨by omega, by omega⟩ ?_ | refine R.cond rfl (fun hc => ?_) (fun hc => ?_) | refine R.condN rfl (fun hc => ?_) (fun hc => ?_) | refine R.condB rfl (fun hc => ?_) (fun hc => ?_))
        all_goals first
          | (exfalso; omega)
          | (exfalso; simp_all; done)
          | exact R.nloop (R.again (i + 1) (by omega) (by omega) ⟨rfl, rfl, rfl, rfl, rfl, trivial⟩ ⟨rfl, by rw [hout]; rfl, rfl, trivial⟩ rfl rfl)
          | skip
      | false =>
        rw [if_neg Bool.false_ne_true] at hout
        have hg := gPt_in hwb hin0 (i := i) (by omega)
        unfold inP gPt at hg
        dsimp only at hg
        repeat' (first | refine R.mv rfl ?_ | refine R.reg ?_ | refine R.tk ?_ | refine R.tkN ?_ | exact R.vac | refine R.both ?_ ?_ | refine R.nil ?_ | refine R.seq ?_ | refine R.nseq ?_ | refine R.nblk ?_ | refine R.skip ?_ | refine R.blk ?_ | refine R.exit rfl ?_ | refine R.ldEp rfl rfl (by assumption) rfl rfl ?_ | refine R.ldaEp rfl rfl (by assumption) (Nat.le_of_ble_eq_true rfl) rfl rfl ?_ | refine R.ld rfl rfl rfl ?_ | refine R.lda rfl rfl (Nat.le_of_ble_eq_true rfl) rfl ?_ | refine R.fa rfl rfl ?_ | refine R.lenM rfl ?_ | refine R.lenO rfl rfl ?_ | refine R.len rfl rfl ?_ | refine R.lss rfl rfl ?_ | refine R.gtr rfl rfl ?_ | refine R.eql rfl rfl ?_ | refine R.add rfl rfl (by omega) ?_ | refine R.sub rfl rfl (by omega) ?_ | refine R.not rfl ?_ | refine R.al rfl ?_ | refine R.stoB rfl rfl rfl rfl ⟨rfl, rfl, Nat.le_of_ble_eq_true rfl⟩ rfl ?_ | refine R.stoE _ rfl rfl rfl rfl rfl (by assumption) rfl ⟨rfl, rfl, Nat.le_of_ble_eq_true rfl⟩ ?_ | refine R.bld rfl rfl ?_ | refine R.quo rfl rfl (by omega) ?_ | refine R.rem rfl rfl (by omega) ?_ | refine R.condT rfl ?_ | refine R.condF rfl ?_ | refine R.callX (bor := false) [(pin 0, pin 0)] rfl cc rfl rfl rfl rfl rfl ?_ | refine R.callX (bor := false) [(pin 0, pin 0)] rfl cb rfl rfl rfl rfl rfl ?_ | refine R.mul rfl rfl ⟨by omega, by omega⟩ ?_ | refine R.rem rfl rfl ⟨by omega, by omega⟩ ?_ | refine R.quo rfl rfl ⟨by omega, by omega, by omega⟩ ?_ | refine R.bsl (f := enPoint) [(⟨p0.fX + (i : Int) % w, p0.fY + (i : Int) / w⟩ : TPoint)] rfl rfl rfl rfl rfl ?_ | refine R.app (f := enPoint) (fun _ => rfl) rfl rfl rfl rfl rfl ⟨by simp only [List.length_singleton]; omega, by simp only [List.length_singleton]; omega⟩ ?_ | refine R.cond rfl (fun hc => ?_) (fun hc => ?_) | refine R.condN rfl (fun hc => ?_) (fun hc => ?_) | refine R.condB rfl (fun hc => ?_) (fun hc => ?_))
        all_goals first
          | (exfalso; omega)
          | (exfalso; simp_all; done)
          | exact R.nloop (R.again (i + 1) (by omega) (by omega) ⟨rfl, rfl, rfl, rfl, rfl, trivial⟩ ⟨rfl, by rw [hout]; rfl, rfl, trivial⟩ rfl rfl)
          | skip
    obtain rfl : i = N := by omega
    have hlN := hlen i hi
    by_cases hne : (f i).1.2 = []
    · rw [if_pos hne, show [p0] = (f i).1.2 ++ [p0] by rw [hne]; rfl]
      repeat' (first | refine R.mv rfl ?_ | refine R.reg ?_ | refine R.tk ?_ | refine R.tkN ?_ | exact R.vac | refine R.both ?_ ?_ | refine R.nil ?_ | refine R.seq ?_ | refine R.nseq ?_ | refine R.nblk ?_ | refine R.skip ?_ | refine R.blk ?_ | refine R.exit rfl ?_ | refine R.ldEp rfl rfl (by assumption) rfl rfl ?_ | refine R.ldaEp rfl rfl (by assumption) (Nat.le_of_ble_eq_true rfl) rfl rfl ?_ | refine R.ld rfl rfl rfl ?_ | refine R.lda rfl rfl (Nat.le_of_ble_eq_true rfl) rfl ?_ | refine R.fa rfl rfl ?_ | refine R.lenM rfl ?_ | refine R.lenO rfl rfl ?_ | refine R.len rfl rfl ?_ | refine R.lss rfl rfl ?_ | refine R.gtr rfl rfl ?_ | refine R.eql rfl rfl ?_ | refine R.add rfl rfl (by omega) ?_ | refine R.sub rfl rfl (by omega) ?_ | refine R.not rfl ?_ | refine R.al rfl ?_ | refine R.stoB rfl rfl rfl rfl ⟨rfl, rfl, Nat.le_of_ble_eq_true rfl⟩ rfl ?_ | refine R.stoE _ rfl rfl rfl rfl rfl (by assumption) rfl ⟨rfl, rfl, Nat.le_of_ble_eq_true rfl⟩ ?_ | refine R.bld rfl rfl ?_ | refine R.quo rfl rfl (by omega) ?_ | refine R.rem rfl rfl (by omega) ?_ | refine R.condT rfl ?_ | refine R.condF rfl ?_ | refine R.callX (bor := false) [(pin 0, pin 0)] rfl cc rfl rfl rfl rfl rfl ?_ | refine R.mul rfl rfl ⟨by omega, by omega⟩ ?_ | refine R.bsl (f := enPoint) [p0] rfl rfl rfl rfl rfl ?_ | refine R.app (f := enPoint) (fun _ => rfl) rfl rfl rfl rfl rfl ⟨by simp only [List.length_singleton]; omega, by simp only [List.length_singleton]; omega⟩ ?_ | refine R.cond rfl (fun hc => ?_) (fun hc => ?_) | refine R.condN rfl (fun hc => ?_) (fun hc => ?_) | refine R.condB rfl (fun hc => ?_) (fun hc => ?_))
      all_goals first
        | (exfalso; omega)
        | (exfalso; simp_all; done)
        | exact R.ret ⟨.inr rfl, R.outR rfl (.cons (R.tmp rfl) .nil) rfl rfl rfl rfl⟩
        | skip
    · rw [if_neg hne]
      have hlen1 := List.length_pos_iff.2 hne
      repeat' (first | refine R.mv rfl ?_ | refine R.reg ?_ | refine R.tk ?_ | refine R.tkN ?_ | exact R.vac | refine R.both ?_ ?_ | refine R.nil ?_ | refine R.seq ?_ | refine R.nseq ?_ | refine R.nblk ?_ | refine R.skip ?_ | refine R.blk ?_ | refine R.exit rfl ?_ | refine R.ldEp rfl rfl (by assumption) rfl rfl ?_ | refine R.ldaEp rfl rfl (by assumption) (Nat.le_of_ble_eq_true rfl) rfl rfl ?_ | refine R.ld rfl rfl rfl ?_ | refine R.lda rfl rfl (Nat.le_of_ble_eq_true rfl) rfl ?_ | refine R.fa rfl rfl ?_ | refine R.lenM rfl ?_ | refine R.lenO rfl rfl ?_ | refine R.len rfl rfl ?_ | refine R.lss rfl rfl ?_ | refine R.gtr rfl rfl ?_ | refine R.eql rfl rfl ?_ | refine R.add rfl rfl (by omega) ?_ | refine R.sub rfl rfl (by omega) ?_ | refine R.not rfl ?_ | refine R.al rfl ?_ | refine R.stoB rfl rfl rfl rfl ⟨rfl, rfl, Nat.le_of_ble_eq_true rfl⟩ rfl ?_ | refine R.stoE _ rfl rfl rfl rfl rfl (by assumption) rfl ⟨rfl, rfl, Nat.le_of_ble_eq_true rfl⟩ ?_ | refine R.bld rfl rfl ?_ | refine R.quo rfl rfl (by omega) ?_ | refine R.rem rfl rfl (by omega) ?_ | refine R.condT rfl ?_ | refine R.condF rfl ?_ | refine R.callX (bor := false) [(pin 0, pin 0)] rfl cc rfl rfl rfl rfl rfl ?_ | refine R.mul rfl rfl ⟨by omega, by omega⟩ ?_ | refine R.cond rfl (fun hc => ?_) (fun hc => ?_) | refine R.condN rfl (fun hc => ?_) (fun hc => ?_) | refine R.condB rfl (fun hc => ?_) (fun hc => ?_))
      all_goals first
        | (exfalso; omega)
        | exact R.ret ⟨.inr rfl, R.outR rfl (.cons (R.tmp rfl) .nil) rfl rfl rfl rfl⟩
        | skip
  by_cases h1 : v3 = 1
  · obtain ⟨v4, s4, hv4, hs4, c4⟩ := sPick s3 _ hs3 (by omega) 8
    obtain ⟨k, hk⟩ : ∃ k : Nat, (k : Int) = 1 + v4 := ⟨(1 + v4).toNat, by omega⟩
    obtain ⟨f, hf0, hG, hS⟩ := drawB s4 _ hs4 (by omega)
    have hGk := hG k (by omega)
    have hne := hGk.2 (by omega)
    refine ⟨(f k).2, (f k).1, hGk.1.ok (by omega) (by omega) hne, ?_⟩
    refine SpecM.walk T.mixed Tryd.func27 S.ok27 (by simp [Tryd.f27]) fun hk' => ?_
    clear hk'
    unfold S.s27
    repeat' (first | refine R.mv rfl ?_ | refine R.reg ?_ | refine R.tk ?_ | refine R.tkN ?_ | exact R.vac | refine R.both ?_ ?_ | refine R.nil ?_ | refine R.seq ?_ | refine R.nseq ?_ | refine R.nblk ?_ | refine R.skip ?_ | refine R.blk ?_ | refine R.exit rfl ?_ | refine R.ldEp rfl rfl (by assumption) rfl rfl ?_ | refine R.ldaEp rfl rfl (by assumption) (Nat.le_of_ble_eq_true rfl) rfl rfl ?_ | refine R.ld rfl rfl rfl ?_ | refine R.lda rfl rfl (Nat.le_of_ble_eq_true rfl) rfl ?_ | refine R.fa rfl rfl ?_ | refine R.lenM rfl ?_ | refine R.lenO rfl rfl ?_ | refine R.len rfl rfl ?_ | refine R.lss rfl rfl ?_ | refine R.gtr rfl rfl ?_ | refine R.eql rfl rfl ?_ | refine R.add rfl rfl (by omega) ?_ | refine R.sub rfl rfl (by omega) ?_ | refine R.not rfl ?_ | refine R.al rfl ?_ | refine R.stoB rfl rfl rfl rfl ⟨rfl, rfl, Nat.le_of_ble_eq_true rfl⟩ rfl ?_ | refine R.stoE _ rfl rfl rfl rfl rfl (by assumption) rfl ⟨rfl, rfl, Nat.le_of_ble_eq_true rfl⟩ ?_ | refine R.bld rfl rfl ?_ | refine R.quo rfl rfl (by omega) ?_ | refine R.rem rfl rfl (by omega) ?_ | refine R.condT rfl ?_ | refine R.condF rfl ?_ | refine R.callX (bor := false) [(pin 0, pin 0)] rfl c1 rfl rfl rfl rfl rfl ?_ | refine R.callX (bor := false) [(pin 0, pin 0)] rfl c2 rfl rfl rfl rfl rfl ?_ | refine R.callX (bor := false) [(pin 0, pin 0)] rfl c3 rfl rfl rfl rfl rfl ?_ | refine R.callX (bor := false) [(pin 0, pin 0)] rfl c4 rfl rfl rfl rfl rfl ?_ | refine R.bsl (f := enPoint) ([] : List TPoint) rfl rfl rfl rfl rfl ?_ | refine R.cond rfl (fun hc => ?_) (fun hc => ?_) | refine R.condN rfl (fun hc => ?_) (fun hc => ?_) | refine R.condB rfl (fun hc => ?_) (fun hc => ?_))
    all_goals first | (exfalso; omega) | skip
    refine R.loop (G := Nat) (fun i => [(0, .v srcV), (3, .v (.c (.own 10))), (4, .v (.c (.ptr 4 0))), (7, pvA (.int .i64 (1 + v4 - (i : Int))))]) (fun i => (4, .box 58 ((enPoint p0).map B.d)) :: (10, .arr kPoint ((f i).2.map enPoint) []) :: srcOb (f i).1) (fun i => i ≤ k) (fun i => k - i) 0 (Nat.zero_le _) (Weak.frame _ _ ⟨rfl, rfl, rfl, (congrArg (fun z => pvA (.int .i64 z)) (show 1 + v4 = 1 + v4 - ((0 : Nat) : Int) by omega)), trivial⟩ ⟨by rw [hp0]; rfl, by rw [hf0]; rfl, by rw [hf0]; rfl, trivial⟩ rfl rfl) fun i hi => ?_
    by_cases hik : i < k
    · obtain ⟨x, y, sx, cx, cy, hout⟩ := hS i (by omega)
      have hGi := hG i (by omega)
      have hput := sPutPoint (f i).2 ⟨x, y⟩ (hGi.1.ord (by omega)) (Nat.le_trans hGi.1.len (by omega))
      rw [← hout] at hput
      repeat' (first | refine R.mv rfl ?_ | refine R.reg ?_ | refine R.tk ?_ | refine R.tkN ?_ | exact R.vac | refine R.both ?_ ?_ | refine R.nil ?_ | refine R.seq ?_ | refine R.nseq ?_ | refine R.nblk ?_ | refine R.skip ?_ | refine R.blk ?_ | refine R.exit rfl ?_ | refine R.ldEp rfl rfl (by assumption) rfl rfl ?_ | refine R.ldaEp rfl rfl (by assumption) (Nat.le_of_ble_eq_true rfl) rfl rfl ?_ | refine R.ld rfl rfl rfl ?_ | refine R.lda rfl rfl (Nat.le_of_ble_eq_true rfl) rfl ?_ | refine R.fa rfl rfl ?_ | refine R.lenM rfl ?_ | refine R.lenO rfl rfl ?_ | refine R.len rfl rfl ?_ | refine R.lss rfl rfl ?_ | refine R.gtr rfl rfl ?_ | refine R.eql rfl rfl ?_ | refine R.add rfl rfl (by omega) ?_ | refine R.sub rfl rfl (by omega) ?_ | refine R.not rfl ?_ | refine R.al rfl ?_ | refine R.stoB rfl rfl rfl rfl ⟨rfl, rfl, Nat.le_of_ble_eq_true rfl⟩ rfl ?_ | refine R.stoE _ rfl rfl rfl rfl rfl (by assumption) rfl ⟨rfl, rfl, Nat.le_of_ble_eq_true rfl⟩ ?_ | refine R.bld rfl rfl ?_ | refine R.quo rfl rfl (by omega) ?_ | refine R.rem rfl rfl (by omega) ?_ | refine R.condT rfl ?_ | refine R.condF rfl ?_ | refine R.callX (bor := false) [(pin 0, pin 0)] rfl cx rfl rfl rfl rfl rfl ?_ | refine R.callX (bor := false) [(pin 0, pin 0)] rfl cy rfl rfl rfl rfl rfl ?_ | refine R.callX (bor := false) [(10, 5)] rfl hput rfl rfl rfl rfl rfl ?_ | refine R.cond rfl (fun hc => ?_) (fun hc => ?_) | refine R.condN rfl (fun hc => ?_) (fun hc => ?_) | refine R.condB rfl (fun hc => ?_) (fun hc => ?_))
      all_goals first
        | (exfalso; omega)
        | exact R.nloop ⟨i + 1, by omega, by omega, Weak.trans (Weak.swap 85000 10 rfl rfl) (Weak.frame _ _ ⟨rfl, rfl, rfl, (congrArg (fun z => pvA (.int .i64 z)) (show 1 + v4 - (i : Int) - 1 = 1 + v4 - ((i + 1 : Nat) : Int) by omega)), trivial⟩ ⟨rfl, rfl, rfl, trivial⟩ rfl rfl)⟩
        | skip
    obtain rfl : i = k := by omega
    have hlen := List.length_pos_iff.2 hne
    repeat' (first | refine R.mv rfl ?_ | refine R.reg ?_ | refine R.tk ?_ | refine R.tkN ?_ | exact R.vac | refine R.both ?_ ?_ | refine R.nil ?_ | refine R.seq ?_ | refine R.nseq ?_ | refine R.nblk ?_ | refine R.skip ?_ | refine R.blk ?_ | refine R.exit rfl ?_ | refine R.ldEp rfl rfl (by assumption) rfl rfl ?_ | refine R.ldaEp rfl rfl (by assumption) (Nat.le_of_ble_eq_true rfl) rfl rfl ?_ | refine R.ld rfl rfl rfl ?_ | refine R.lda rfl rfl (Nat.le_of_ble_eq_true rfl) rfl ?_ | refine R.fa rfl rfl ?_ | refine R.lenM rfl ?_ | refine R.lenO rfl rfl ?_ | refine R.len rfl rfl ?_ | refine R.lss rfl rfl ?_ | refine R.gtr rfl rfl ?_ | refine R.eql rfl rfl ?_ | refine R.add rfl rfl (by omega) ?_ | refine R.sub rfl rfl (by omega) ?_ | refine R.not rfl ?_ | refine R.al rfl ?_ | refine R.stoB rfl rfl rfl rfl ⟨rfl, rfl, Nat.le_of_ble_eq_true rfl⟩ rfl ?_ | refine R.stoE _ rfl rfl rfl rfl rfl (by assumption) rfl ⟨rfl, rfl, Nat.le_of_ble_eq_true rfl⟩ ?_ | refine R.bld rfl rfl ?_ | refine R.quo rfl rfl (by omega) ?_ | refine R.rem rfl rfl (by omega) ?_ | refine R.condT rfl ?_ | refine R.condF rfl ?_ | refine R.cond rfl (fun hc => ?_) (fun hc => ?_) | refine R.condN rfl (fun hc => ?_) (fun hc => ?_) | refine R.condB rfl (fun hc => ?_) (fun hc => ?_))
    all_goals first
      | (exfalso; omega)
      | exact R.ret ⟨.inr rfl, R.outR rfl (.cons (R.tmp rfl) .nil) rfl rfl rfl rfl⟩
      | skip
  obtain ⟨v4, s4, hv4, hs4, c4⟩ := sPick s3 _ hs3 (by omega) 14
  obtain ⟨k, hk⟩ : ∃ k : Nat, (k : Int) = 1 + v4 := ⟨(1 + v4).toNat, by omega⟩
  obtain ⟨f, hf0, hG, hS⟩ := drawC s4 _ hs4 (by omega) p0 hin0
  have hGk := hG k (by omega)
  have hne := hGk.2.1 (by omega)
  refine ⟨(f k).1.2, (f k).1.1, hGk.1.ok (by omega) (by omega) hne, ?_⟩
  refine SpecM.walk T.mixed Tryd.func27 S.ok27 (by simp [Tryd.f27]) fun hk' => ?_
  clear hk'
  unfold S.s27
  repeat' (first | refine R.mv rfl ?_ | refine R.reg ?_ | refine R.tk ?_ | refine R.tkN ?_ | exact R.vac | refine R.both ?_ ?_ | refine R.nil ?_ | refine R.seq ?_ | refine R.nseq ?_ | refine R.nblk ?_ | refine R.skip ?_ | refine R.blk ?_ | refine R.exit rfl ?_ | refine R.ldEp rfl rfl (by assumption) rfl rfl ?_ | refine R.ldaEp rfl rfl (by assumption) (Nat.le_of_ble_eq_true rfl) rfl rfl ?_ | refine R.ld rfl rfl rfl ?_ | refine R.lda rfl rfl (Nat.le_of_ble_eq_true rfl) rfl ?_ | refine R.fa rfl rfl ?_ | refine R.lenM rfl ?_ | refine R.lenO rfl rfl ?_ | refine R.len rfl rfl ?_ | refine R.lss rfl rfl ?_ | refine R.gtr rfl rfl ?_ | refine R.eql rfl rfl ?_ | refine R.add rfl rfl (by omega) ?_ | refine R.sub rfl rfl (by omega) ?_ | refine R.not rfl ?_ | refine R.al rfl ?_ | refine R.stoB rfl rfl rfl rfl ⟨rfl, rfl, Nat.le_of_ble_eq_true rfl⟩ rfl ?_ | refine R.stoE _ rfl rfl rfl rfl rfl (by assumption) rfl ⟨rfl, rfl, Nat.le_of_ble_eq_true rfl⟩ ?_ | refine R.bld rfl rfl ?_ | refine R.quo rfl rfl (by omega) ?_ | refine R.rem rfl rfl (by omega) ?_ | refine R.condT rfl ?_ | refine R.condF rfl ?_ | refine R.callX (bor := false) [(pin 0, pin 0)] rfl c1 rfl rfl rfl rfl rfl ?_ | refine R.callX (bor := false) [(pin 0, pin 0)] rfl c2 rfl rfl rfl rfl rfl ?_ | refine R.callX (bor := false) [(pin 0, pin 0)] rfl c3 rfl rfl rfl rfl rfl ?_ | refine R.callX (bor := false) [(pin 0, pin 0)] rfl c4 rfl rfl rfl rfl rfl ?_ | refine R.bsl (f := enPoint) ([] : List TPoint) rfl rfl rfl rfl rfl ?_ | refine R.cond rfl (fun hc => ?_) (fun hc => ?_) | refine R.condN rfl (fun hc => ?_) (fun hc => ?_) | refine R.condB rfl (fun hc => ?_) (fun hc => ?_))
  all_goals first | (exfalso; omega) | skip
  refine R.loop (G := Nat) (fun i => [(0, .v srcV), (3, .v (.c (.own 10))), (4, .v (.c (.ptr 4 0))), (9, pvA (.int .i64 (1 + v4 - (i : Int))))]) (fun i => (4, .box 58 ((enPoint (f i).2).map B.d)) :: (10, .arr kPoint ((f i).1.2.map enPoint) []) :: srcOb (f i).1.1) (fun i => i ≤ k) (fun i => k - i) 0 (Nat.zero_le _) (Weak.frame _ _ ⟨rfl, rfl, rfl, (congrArg (fun z => pvA (.int .i64 z)) (show 1 + v4 = 1 + v4 - ((0 : Nat) : Int) by omega)), trivial⟩ ⟨by rw [hf0, hp0]; rfl, by rw [hf0]; rfl, by rw [hf0]; rfl, trivial⟩ rfl rfl) fun i hi => ?_
  by_cases hik : i < k
  · obtain ⟨v, cp, cst, hout⟩ := hS i (by omega)
    have hGi := hG i (by omega)
    have hput := sPutPoint (f i).1.2 (f i).2 (hGi.1.ord (by omega)) (Nat.le_trans hGi.1.len (by omega))
    rw [← hout] at hput
    repeat' (first | refine R.mv rfl ?_ | refine R.reg ?_ | refine R.tk ?_ | refine R.tkN ?_ | exact R.vac | refine R.both ?_ ?_ | refine R.nil ?_ | refine R.seq ?_ | refine R.nseq ?_ | refine R.nblk ?_ | refine R.skip ?_ | refine R.blk ?_ | refine R.exit rfl ?_ | refine R.ldEp rfl rfl (by assumption) rfl rfl ?_ | refine R.ldaEp rfl rfl (by assumption) (Nat.le_of_ble_eq_true rfl) rfl rfl ?_ | refine R.ld rfl rfl rfl ?_ | refine R.lda rfl rfl (Nat.le_of_ble_eq_true rfl) rfl ?_ | refine R.fa rfl rfl ?_ | refine R.lenM rfl ?_ | refine R.lenO rfl rfl ?_ | refine R.len rfl rfl ?_ | refine R.lss rfl rfl ?_ | refine R.gtr rfl rfl ?_ | refine R.eql rfl rfl ?_ | refine R.add rfl rfl (by omega) ?_ | refine R.sub rfl rfl (by omega) ?_ | refine R.not rfl ?_ | refine R.al rfl ?_ | refine R.stoB rfl rfl rfl rfl ⟨rfl, rfl, Nat.le_of_ble_eq_true rfl⟩ rfl ?_ | refine R.stoE _ rfl rfl rfl rfl rfl (by assumption) rfl ⟨rfl, rfl, Nat.le_of_ble_eq_true rfl⟩ ?_ | refine R.bld rfl rfl ?_ | refine R.quo rfl rfl (by omega) ?_ | refine R.rem rfl rfl (by omega) ?_ | refine R.condT rfl ?_ | refine R.condF rfl ?_ | refine R.callX (bor := false) [(10, 5)] rfl hput rfl rfl rfl rfl rfl ?_ | refine R.cond rfl (fun hc => ?_) (fun hc => ?_) | refine R.condN rfl (fun hc => ?_) (fun hc => ?_) | refine R.condB rfl (fun hc => ?_) (fun hc => ?_))
    all_goals first | (exfalso; omega) | skip
    refine R.regOB (⟨frE [(0, .v srcV), (3, .v (.c (.own 10))), (4, .v (.c (.ptr 4 0))), (9, pvA (.int .i64 (1 + v4 - (i : Int))))], frO ((4, .box 58 ((enPoint (f (i + 1)).2).map B.d)) :: (10, .arr kPoint ((f (i + 1)).1.2.map enPoint) []) :: srcOb (f (i + 1)).1.1)⟩) ?_ ?_
    · repeat' (first | refine R.tk ?_ | refine R.tkN ?_ | refine R.both ?_ ?_ | exact R.vac | refine R.nil ?_ | refine R.mv rfl ?_ | refine R.lda rfl rfl (Nat.le_of_ble_eq_true rfl) rfl ?_ | refine R.callX (bor := false) [(pin 0, pin 0)] rfl cp rfl rfl rfl rfl rfl ?_ | refine R.call (bor := false) rfl rfl cst rfl rfl rfl ?_ | refine R.stoB rfl rfl rfl rfl ⟨rfl, rfl, Nat.le_of_ble_eq_true rfl⟩ rfl ?_)
      all_goals exact R.done (Weak.trans (Weak.swap 31000 10 rfl rfl) (Weak.frame _ _ ⟨rfl, rfl, rfl, rfl, trivial⟩ ⟨rfl, rfl, rfl, trivial⟩ rfl rfl))
    repeat' (first | refine R.mv rfl ?_ | refine R.reg ?_ | refine R.tk ?_ | refine R.tkN ?_ | exact R.vac | refine R.both ?_ ?_ | refine R.nil ?_ | refine R.seq ?_ | refine R.nseq ?_ | refine R.nblk ?_ | refine R.skip ?_ | refine R.blk ?_ | refine R.exit rfl ?_ | refine R.ldEp rfl rfl (by assumption) rfl rfl ?_ | refine R.ldaEp rfl rfl (by assumption) (Nat.le_of_ble_eq_true rfl) rfl rfl ?_ | refine R.ld rfl rfl rfl ?_ | refine R.lda rfl rfl (Nat.le_of_ble_eq_true rfl) rfl ?_ | refine R.fa rfl rfl ?_ | refine R.lenM rfl ?_ | refine R.lenO rfl rfl ?_ | refine R.len rfl rfl ?_ | refine R.lss rfl rfl ?_ | refine R.gtr rfl rfl ?_ | refine R.eql rfl rfl ?_ | refine R.add rfl rfl (by omega) ?_ | refine R.sub rfl rfl (by omega) ?_ | refine R.not rfl ?_ | refine R.al rfl ?_ | refine R.stoB rfl rfl rfl rfl ⟨rfl, rfl, Nat.le_of_ble_eq_true rfl⟩ rfl ?_ | refine R.stoE _ rfl rfl rfl rfl rfl (by assumption) rfl ⟨rfl, rfl, Nat.le_of_ble_eq_true rfl⟩ ?_ | refine R.bld rfl rfl ?_ | refine R.quo rfl rfl (by omega) ?_ | refine R.rem rfl rfl (by omega) ?_ | refine R.condT rfl ?_ | refine R.condF rfl ?_ | refine R.cond rfl (fun hc => ?_) (fun hc => ?_) | refine R.condN rfl (fun hc => ?_) (fun hc => ?_) | refine R.condB rfl (fun hc => ?_) (fun hc => ?_))
    all_goals first
      | (exfalso; omega)
      | exact R.nloop (R.again (i + 1) (by omega) (by omega) ⟨rfl, rfl, rfl, (congrArg (fun z => pvA (.int .i64 z)) (show 1 + v4 - (i : Int) - 1 = 1 + v4 - ((i + 1 : Nat) : Int) by omega)), trivial⟩ ⟨rfl, rfl, rfl, trivial⟩ rfl rfl)
      | skip
  obtain rfl : i = k := by omega
  have hlen := List.length_pos_iff.2 hne
  repeat' (first | refine R.mv rfl ?_ | refine R.reg ?_ | refine R.tk ?_ | refine R.tkN ?_ | exact R.vac | refine R.both ?_ ?_ | refine R.nil ?_ | refine R.seq ?_ | refine R.nseq ?_ | refine R.nblk ?_ | refine R.skip ?_ | refine R.blk ?_ | refine R.exit rfl ?_ | refine R.ldEp rfl rfl (by assumption) rfl rfl ?_ | refine R.ldaEp rfl rfl (by assumption) (Nat.le_of_ble_eq_true rfl) rfl rfl ?_ | refine R.ld rfl rfl rfl ?_ | refine R.lda rfl rfl (Nat.le_of_ble_eq_true rfl) rfl ?_ | refine R.fa rfl rfl ?_ | refine R.lenM rfl ?_ | refine R.lenO rfl rfl ?_ | refine R.len rfl rfl ?_ | refine R.lss rfl rfl ?_ | refine R.gtr rfl rfl ?_ | refine R.eql rfl rfl ?_ | refine R.add rfl rfl (by omega) ?_ | refine R.sub rfl rfl (by omega) ?_ | refine R.not rfl ?_ | refine R.al rfl ?_ | refine R.stoB rfl rfl rfl rfl ⟨rfl, rfl, Nat.le_of_ble_eq_true rfl⟩ rfl ?_ | refine R.stoE _ rfl rfl rfl rfl rfl (by assumption) rfl ⟨rfl, rfl, Nat.le_of_ble_eq_true rfl⟩ ?_ | refine R.bld rfl rfl ?_ | refine R.quo rfl rfl (by omega) ?_ | refine R.rem rfl rfl (by omega) ?_ | refine R.condT rfl ?_ | refine R.condF rfl ?_ | refine R.cond rfl (fun hc => ?_) (fun hc => ?_) | refine R.condN rfl (fun hc => ?_) (fun hc => ?_) | refine R.condB rfl (fun hc => ?_) (fun hc => ?_))
  all_goals first
    | (exfalso; omega)
    | exact R.ret ⟨.inr rfl, R.outR rfl (.cons (R.tmp rfl) .nil) rfl rfl rfl rfl⟩
    | skip
open Go.ChangeShapes Go.WideShapes Go.RowKit
def rU8 : Rdr Int := fun _ _ cs n => cs = [.int .u8 n] ∧ (Lit.int .u8 n).wf = true
theorem opens_u8 {H : Type} {enc : TypeId × Value → H} {P : Program} {W : World} {sp : Nat → Bool} {hd : Bool} {t : TypeId} (ht : P.underlying t = some (.int .u8)) : Opens enc P W sp hd t rU8 := fun fuel cs y h => by
  obtain ⟨n, hc, _, hw⟩ := DataW.trod_int ht h
  exact ⟨n, hc, hw⟩
theorem encU8 : Enc rU8 (fun n => [.pv (.int .u8 n)]) := fun W S cs x ⟨h, h1⟩ => by
  subst h
  exact .cons (.pv rfl h1) .nil
theorem bytes_bd {κ : Ky} {l : List Int} (h : Known (.rd κ (l.map enB8))) : ∀ c ∈ l, 0 ≤ c ∧ c ≤ 255 := fun c hc => by
  have h1 := h.elem (enB8 c) (List.mem_map_of_mem hc) (.pv (.int .u8 c)) (by simp [enB8])
  have h2 := h1.wf
  simp [IntKind.min, IntKind.max, IntKind.signed, IntKind.bits] at h2
  omega
theorem big_ok (l : List Int) : Spec Tryd.prog 10 [vL kU8s (l.map enB8)] (oB (decide (4096 < (l.length : Int)))) := by
  refine Spec.walk T.mixed Tryd.func10 S.ok10 (by simp [Tryd.f10]) fun hk => ?_
  have hlen := (K.c hk 0 rfl).lenM
  unfold S.s10
  repeat' (first | refine R.mv rfl ?_ | refine R.reg ?_ | refine R.nil ?_ | refine R.seq ?_ | refine R.nseq ?_ | refine R.nblk ?_ | refine R.skip ?_ | refine R.blk ?_ | refine R.exit rfl ?_ | refine R.lenM rfl ?_ | refine R.lenO rfl rfl ?_ | refine R.len rfl rfl ?_ | refine R.gtr rfl rfl ?_ | refine R.condT rfl ?_ | refine R.condF rfl ?_ | refine R.cond rfl (fun hc => ?_) (fun hc => ?_) | refine R.condN rfl (fun hc => ?_) (fun hc => ?_) | refine R.condB rfl (fun hc => ?_) (fun hc => ?_))
  exact R.ret ⟨.inr rfl, R.outB rfl rfl rfl⟩
theorem text_size' {l : List TPoint} (h : okSh l) : (fST l).size ≤ 1000000 := by
  show ((Lib.join ((rowsT l (hgtT l)).map (·.data.toList)) [47]).toArray).size ≤ _
  rw [List.size_toArray]
  exact Nat.le_trans (rowsT_join h) (by decide)
theorem sLawShape (l : List Int) (hl : ∀ c ∈ l, 0 ≤ c ∧ c ≤ 255) : ∃ q : List TPoint, (okSh q ∧ ∀ p ∈ q, (-30 ≤ p.fX ∧ p.fX ≤ 30) ∧ (-30 ≤ p.fY ∧ p.fY ≤ 30)) ∧ Spec Tryd.prog 11 [.c (.rd kU8s (l.map enB8))] (.v (.c (oPts q))) := by
  obtain ⟨q, s', hq, c1⟩ := sDrawSh ⟨l, 0, 0⟩ 0 ⟨⟨by show (0 : Int) ≤ 0; omega, by show (0 : Int) ≤ 0; omega⟩, hl⟩ (by omega)
  have c0 := sFrom l
  refine ⟨q, hq, ?_⟩
  refine Spec.walk T.mixed Tryd.func11 S.ok11 (by simp [Tryd.f11]) fun hk => ?_
  clear hk
  unfold S.s11
  repeat' (first | refine R.mv rfl ?_ | refine R.reg ?_ | refine R.nil ?_ | refine R.seq ?_ | refine R.nseq ?_ | refine R.nblk ?_ | refine R.skip ?_ | refine R.blk ?_ | refine R.exit rfl ?_ | refine R.condT rfl ?_ | refine R.condF rfl ?_ | refine R.callX (bor := false) [] rfl c0 rfl rfl rfl rfl rfl ?_ | refine R.callX (bor := false) [(6000, pin 0)] rfl c1 rfl rfl rfl rfl rfl ?_ | refine R.cond rfl (fun hc => ?_) (fun hc => ?_) | refine R.condN rfl (fun hc => ?_) (fun hc => ?_) | refine R.condB rfl (fun hc => ?_) (fun hc => ?_))
  all_goals first
    | (exfalso; omega)
    | exact R.ret ⟨.inr rfl, R.outW (Weak.freeze 7000 rfl rfl) (R.outR rfl (.cons (R.tmp rfl) .nil) rfl rfl rfl rfl)⟩
    | skip
theorem sh_law (l : List Int) (hbig : ¬ 4096 < (l.length : Int)) (q : List TPoint) (hq : okSh q) (hb : ∀ p ∈ q, (-30 ≤ p.fX ∧ p.fX ≤ 30) ∧ (-30 ≤ p.fY ∧ p.fY ≤ 30))
    (hD : Spec Tryd.prog 11 [.c (.rd kU8s (l.map enB8))] (.v (.c (oPts q)))) : Spec Tryd.prog 4 [vL kU8s (l.map enB8)] (oB true) := by
  have h0 := big_ok l
  rw [decide_eq_false hbig] at h0
  have hh := home_ok hq hb
  have hA := iShapeText q hq
  have hB := iHomeShape q hq hh
  have hC := sHomeShape q hq hh
  have hE := sShapeText q hq
  have hF := sSameShape (homeL q)
  have hG := iReadShape (fST q) (text_size' hq) (homeL q) (read_back hq hh) hh (text_home hq)
  have hH := iShapeText (homeL q) hh
  rw [text_home hq] at hH
  have hne := text_ne hq
  generalize fST q = t at *
  have e1 : decide (t = t) = true := decide_eq_true rfl
  have e2 : decide (t = ⟨#[]⟩) = false := decide_eq_false hne
  refine Spec.walk T.mixed Tryd.func4 S.ok4 (by simp [Tryd.f4]) fun hk => ?_
  clear hk
  unfold S.s4
  repeat' (first | refine R.neqS rfl rfl ?_ | refine R.eqlS rfl rfl ?_ | refine R.mv rfl ?_ | refine R.reg ?_ | refine R.nil ?_ | refine R.seq ?_ | refine R.nseq ?_ | refine R.nblk ?_ | refine R.skip ?_ | refine R.blk ?_ | refine R.exit rfl ?_ | refine R.gRun rfl ?_ | refine R.gSkip rfl ?_ | refine R.gSkip0 rfl ?_ | refine R.gUndef rfl ?_ | refine R.gUndef0 rfl ?_ | refine R.eql rfl rfl ?_ | refine R.neq rfl rfl ?_ | refine R.pickT rfl rfl ?_ | refine R.pickF rfl rfl ?_ | refine R.not rfl ?_ | refine R.mvU rfl ?_ | refine R.ext rfl rfl ?_ | refine R.condT rfl ?_ | refine R.condF rfl ?_ | refine R.call (bor := false) rfl rfl (h0) rfl rfl rfl ?_ | refine R.call (bor := true) rfl rfl (h0) rfl rfl rfl ?_ | refine R.fcal (bor := false) rfl rfl (h0) rfl rfl rfl ?_ | refine R.fcal (bor := true) rfl rfl (h0) rfl rfl rfl ?_ | refine R.call (bor := false) rfl rfl (hD) rfl rfl rfl ?_ | refine R.call (bor := true) rfl rfl (hD) rfl rfl rfl ?_ | refine R.fcal (bor := false) rfl rfl (hD) rfl rfl rfl ?_ | refine R.fcal (bor := true) rfl rfl (hD) rfl rfl rfl ?_ | refine R.call (bor := false) rfl rfl (hA) rfl rfl rfl ?_ | refine R.call (bor := true) rfl rfl (hA) rfl rfl rfl ?_ | refine R.fcal (bor := false) rfl rfl (hA) rfl rfl rfl ?_ | refine R.fcal (bor := true) rfl rfl (hA) rfl rfl rfl ?_ | refine R.call (bor := false) rfl rfl (hB) rfl rfl rfl ?_ | refine R.call (bor := true) rfl rfl (hB) rfl rfl rfl ?_ | refine R.fcal (bor := false) rfl rfl (hB) rfl rfl rfl ?_ | refine R.fcal (bor := true) rfl rfl (hB) rfl rfl rfl ?_ | refine R.call (bor := false) rfl rfl (hC) rfl rfl rfl ?_ | refine R.call (bor := true) rfl rfl (hC) rfl rfl rfl ?_ | refine R.fcal (bor := false) rfl rfl (hC) rfl rfl rfl ?_ | refine R.fcal (bor := true) rfl rfl (hC) rfl rfl rfl ?_ | refine R.call (bor := false) rfl rfl (hE) rfl rfl rfl ?_ | refine R.call (bor := true) rfl rfl (hE) rfl rfl rfl ?_ | refine R.fcal (bor := false) rfl rfl (hE) rfl rfl rfl ?_ | refine R.fcal (bor := true) rfl rfl (hE) rfl rfl rfl ?_ | refine R.call (bor := false) rfl rfl (hF) rfl rfl rfl ?_ | refine R.call (bor := true) rfl rfl (hF) rfl rfl rfl ?_ | refine R.fcal (bor := false) rfl rfl (hF) rfl rfl rfl ?_ | refine R.fcal (bor := true) rfl rfl (hF) rfl rfl rfl ?_ | refine R.call (bor := false) rfl rfl (hG) rfl rfl rfl ?_ | refine R.call (bor := true) rfl rfl (hG) rfl rfl rfl ?_ | refine R.fcal (bor := false) rfl rfl (hG) rfl rfl rfl ?_ | refine R.fcal (bor := true) rfl rfl (hG) rfl rfl rfl ?_ | refine R.call (bor := false) rfl rfl (hH) rfl rfl rfl ?_ | refine R.call (bor := true) rfl rfl (hH) rfl rfl rfl ?_ | refine R.fcal (bor := false) rfl rfl (hH) rfl rfl rfl ?_ | refine R.fcal (bor := true) rfl rfl (hH) rfl rfl rfl ?_ | refine R.cond rfl (fun hc => ?_) (fun hc => ?_) | refine R.condN rfl (fun hc => ?_) (fun hc => ?_) | refine R.condB rfl (fun hc => ?_) (fun hc => ?_) | refine R.gP rfl (fun hc => ?_) (fun hc => ?_) | refine R.gN rfl (fun hc => ?_) (fun hc => ?_) | refine R.gB rfl (fun hc => ?_) (fun hc => ?_))
  all_goals first
    | (exfalso; omega)
    | exact R.ret ⟨.inr rfl, R.outB rfl rfl rfl⟩
    | (refine R.ret ⟨.inr rfl, R.outB rfl rfl ?_⟩; exact decide_eq_true rfl)
    | (exfalso; simp_all; done)
    | skip
theorem law_ShapeTexts (l : List Int) : Spec Tryd.prog 4 [vL kU8s (l.map enB8)] (oB true) := by
  by_cases hb : ∀ c ∈ l, 0 ≤ c ∧ c ≤ 255
  · by_cases hbig : 4096 < (l.length : Int)
    · refine Spec.walk T.mixed Tryd.func4 S.ok4 (by simp [Tryd.f4]) fun hk => ?_
      clear hk
      unfold S.s4
      have h0 := big_ok l
      rw [decide_eq_true hbig] at h0
      repeat' (first | refine R.mv rfl ?_ | refine R.reg ?_ | refine R.nil ?_ | refine R.seq ?_ | refine R.nseq ?_ | refine R.nblk ?_ | refine R.skip ?_ | refine R.blk ?_ | refine R.exit rfl ?_ | refine R.gRun rfl ?_ | refine R.gSkip rfl ?_ | refine R.gSkip0 rfl ?_ | refine R.gUndef rfl ?_ | refine R.gUndef0 rfl ?_ | refine R.eql rfl rfl ?_ | refine R.neq rfl rfl ?_ | refine R.pickT rfl rfl ?_ | refine R.pickF rfl rfl ?_ | refine R.not rfl ?_ | refine R.mvU rfl ?_ | refine R.ext rfl rfl ?_ | refine R.condT rfl ?_ | refine R.condF rfl ?_ | refine R.call (bor := false) rfl rfl (h0) rfl rfl rfl ?_ | refine R.call (bor := true) rfl rfl (h0) rfl rfl rfl ?_ | refine R.fcal (bor := false) rfl rfl (h0) rfl rfl rfl ?_ | refine R.fcal (bor := true) rfl rfl (h0) rfl rfl rfl ?_ | refine R.cond rfl (fun hc => ?_) (fun hc => ?_) | refine R.condN rfl (fun hc => ?_) (fun hc => ?_) | refine R.condB rfl (fun hc => ?_) (fun hc => ?_) | refine R.gP rfl (fun hc => ?_) (fun hc => ?_) | refine R.gN rfl (fun hc => ?_) (fun hc => ?_) | refine R.gB rfl (fun hc => ?_) (fun hc => ?_))
      exact R.ret ⟨.inr rfl, R.outB rfl rfl rfl⟩
    · obtain ⟨q, hq, hD⟩ := sLawShape l hb
      exact sh_law l hbig q hq.1 hq.2 hD
  · refine Spec.walk T.mixed Tryd.func4 S.ok4 (by simp [Tryd.f4]) fun hk => ?_
    exact absurd (bytes_bd (K.c hk 0 rfl)) hb
end Go.Proofs.YtnadbadljbfbbaaDoor
