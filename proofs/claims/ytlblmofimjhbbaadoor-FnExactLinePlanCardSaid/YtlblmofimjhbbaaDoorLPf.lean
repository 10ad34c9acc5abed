/- LpS and LpI and LibS and LpM and LpB. -/
import Derived.Test.YtlblmofimjhbbaaDoorLPa
import Derived.Test.YtlblmofimjhbbaaDoorY23
import Derived.Test.YtlblmofimjhbbaaDoorLPb
import Derived.Test.YtlblmofimjhbbaaDoorSrt
import Derived.Test.YtlblmofimjhbbaaDoorLPt
namespace Go.Proofs.YtlblmofimjhbbaaDoor
open Go.RowKit
set_option maxRecDepth 100000 in
def S.s16 : SC := (.seq (.reg [⟨(.some 2), .none, .false, (.mv (.const (Go.Value.slice none 0 0)))⟩, ⟨(.some 3), .none, .false, (.mv (.const (Go.Value.slice none 0 0)))⟩]) (.seq (.reg [⟨(.some 12), .none, .false, (.bsl (.mk 41 3) 0 [])⟩, ⟨(.some 4), .none, .false, (.mv (.tmp 12))⟩]) (.seq (.reg [⟨(.some 13), .none, .false, (.bsl (.mk 53 2) 0 [])⟩, ⟨(.some 5), .none, .false, (.mv (.tmp 13))⟩]) (.seq (.seq (.reg [⟨(.some 6), .none, .false, (.mv (.const (Go.Value.int Go.IntKind.i64 0)))⟩]) (.block 0 (.loop (.seq (.seq (.reg [⟨(.some 14), .none, .false, (.mv (.tmp 6))⟩, ⟨(.some 15), .none, .false, (.mv (.tmp 0))⟩, ⟨(.some 16), .none, .false, (.len (.tmp 15))⟩, ⟨(.some 17), .none, .false, (.bin .lss (.tmp 14) (.tmp 16))⟩]) (.cond (.tmp 17) .skip (.exit 0))) (.seq (.block 1 (.seq (.reg [⟨(.some 20), .none, .false, (.bld [(Go.Value.slice none 0 0), (Go.Value.slice none 0 0)] [(0, 1), (1, 1)] [])⟩, ⟨(.some 7), .none, .false, (.al 53 [(Go.Value.slice none 0 0), (Go.Value.slice none 0 0)])⟩, ⟨.none, .none, .false, (.sto 2 (.tmp 7) (.tmp 20))⟩]) (.seq (.reg [⟨(.some 8), .none, .false, (.mv (.const (Go.Value.int Go.IntKind.i64 0)))⟩]) (.seq (.seq (.reg [⟨(.some 21), .none, .false, (.mv (.tmp 0))⟩, ⟨(.some 22), .none, .false, (.mv (.tmp 6))⟩, ⟨(.some 23), .none, .false, (.ix (.mk 41 3) (.tmp 21) (.tmp 22))⟩, ⟨(.some 24), .none, .false, (.fa 0 (.tmp 23))⟩, ⟨(.some 25), .none, .false, (.ld .false 1 (.tmp 24))⟩, ⟨(.some 26), .none, .false, (.bin .eql (.tmp 25) (.const (Go.Value.int Go.IntKind.i64 1)))⟩]) (.cond (.tmp 26) (.seq (.reg [⟨(.some 28), .none, .false, (.mv (.tmp 4))⟩, ⟨(.some 29), .none, .false, (.mv (.tmp 0))⟩, ⟨(.some 30), .none, .false, (.mv (.tmp 6))⟩, ⟨(.some 31), .none, .false, (.ix (.mk 41 3) (.tmp 29) (.tmp 30))⟩, ⟨(.some 32), .none, .false, (.ld .true 3 (.tmp 31))⟩, ⟨(.some 33), .none, .false, (.call (.func 38) [(.tmp 28), (.tmp 32)])⟩, ⟨(.some 27), .none, .false, (.mv (.tmp 33))⟩, ⟨(.some 34), .none, .false, (.ext (.tmp 27) 0)⟩, ⟨(.some 35), .none, .false, (.ext (.tmp 27) 1)⟩, ⟨(.some 4), .none, .false, (.mv (.tmp 34))⟩, ⟨(.some 8), .none, .false, (.mv (.tmp 35))⟩]) (.reg [⟨(.some 36), .none, .false, (.mv (.tmp 8))⟩, ⟨(.some 37), .none, .false, (.bsl (.mk 2 1) 1 [(0, (.tmp 36))])⟩, ⟨(.some 38), .none, .false, (.fa 0 (.tmp 7))⟩, ⟨.none, .none, .false, (.sto 1 (.tmp 38) (.tmp 37))⟩])) (.seq (.reg [⟨(.some 40), .none, .false, (.mv (.tmp 0))⟩, ⟨(.some 41), .none, .false, (.mv (.tmp 6))⟩, ⟨(.some 42), .none, .false, (.ix (.mk 41 3) (.tmp 40) (.tmp 41))⟩, ⟨(.some 43), .none, .false, (.ld .true 3 (.tmp 42))⟩, ⟨(.some 44), .none, .false, (.call (.func 39) [(.tmp 43)])⟩, ⟨(.some 39), .none, .false, (.mv (.tmp 44))⟩, ⟨(.some 45), .none, .false, (.ext (.tmp 39) 0)⟩, ⟨(.some 46), .none, .false, (.ext (.tmp 39) 1)⟩, ⟨(.some 9), .none, .false, (.al 41 [(Go.Value.int Go.IntKind.i64 0), (Go.Value.int Go.IntKind.i64 0), (Go.Value.int Go.IntKind.i64 0)])⟩, ⟨(.some 10), .none, .false, (.al 41 [(Go.Value.int Go.IntKind.i64 0), (Go.Value.int Go.IntKind.i64 0), (Go.Value.int Go.IntKind.i64 0)])⟩, ⟨.none, .none, .false, (.sto 3 (.tmp 9) (.tmp 45))⟩, ⟨.none, .none, .false, (.sto 3 (.tmp 10) (.tmp 46))⟩]) (.seq (.reg [⟨(.some 48), .none, .false, (.mv (.tmp 4))⟩, ⟨(.some 49), .none, .false, (.ld .true 3 (.tmp 9))⟩, ⟨(.some 50), .none, .false, (.call (.func 38) [(.tmp 48), (.tmp 49)])⟩, ⟨(.some 47), .none, .false, (.mv (.tmp 50))⟩, ⟨(.some 51), .none, .false, (.ext (.tmp 47) 0)⟩, ⟨(.some 52), .none, .false, (.ext (.tmp 47) 1)⟩, ⟨(.some 4), .none, .false, (.mv (.tmp 51))⟩, ⟨(.some 8), .none, .false, (.mv (.tmp 52))⟩]) (.seq (.reg [⟨(.some 11), .none, .false, (.mv (.const (Go.Value.int Go.IntKind.i64 0)))⟩]) (.seq (.reg [⟨(.some 54), .none, .false, (.mv (.tmp 4))⟩, ⟨(.some 55), .none, .false, (.ld .true 3 (.tmp 10))⟩, ⟨(.some 56), .none, .false, (.call (.func 38) [(.tmp 54), (.tmp 55)])⟩, ⟨(.some 53), .none, .false, (.mv (.tmp 56))⟩, ⟨(.some 57), .none, .false, (.ext (.tmp 53) 0)⟩, ⟨(.some 58), .none, .false, (.ext (.tmp 53) 1)⟩, ⟨(.some 4), .none, .false, (.mv (.tmp 57))⟩, ⟨(.some 11), .none, .false, (.mv (.tmp 58))⟩]) (.reg [⟨(.some 59), .none, .false, (.mv (.tmp 8))⟩, ⟨(.some 60), .none, .false, (.mv (.tmp 11))⟩, ⟨(.some 61), .none, .false, (.call (.func 40) [(.tmp 59), (.tmp 60)])⟩, ⟨(.some 62), .none, .false, (.mv (.tmp 8))⟩, ⟨(.some 63), .none, .false, (.mv (.tmp 11))⟩, ⟨(.some 64), .none, .false, (.call (.func 41) [(.tmp 62), (.tmp 63)])⟩, ⟨(.some 65), .none, .false, (.bsl (.mk 2 1) 2 [(0, (.tmp 61)), (1, (.tmp 64))])⟩, ⟨(.some 66), .none, .false, (.fa 0 (.tmp 7))⟩, ⟨.none, .none, .false, (.sto 1 (.tmp 66) (.tmp 65))⟩]))))))) (.reg [⟨(.some 67), .none, .false, (.mv (.tmp 5))⟩, ⟨(.some 68), .none, .false, (.ld .true 2 (.tmp 7))⟩, ⟨(.some 69), .none, .false, (.bsl (.mk 53 2) 1 [(0, (.tmp 68))])⟩, ⟨(.some 70), .none, .false, (.app (.mk 53 2) 48 (.tmp 67) (.tmp 69))⟩, ⟨(.some 5), .none, .false, (.mv (.tmp 70))⟩]))))) (.reg [⟨(.some 18), .none, .false, (.mv (.tmp 6))⟩, ⟨(.some 19), .none, .false, (.bin .add (.tmp 18) (.const (Go.Value.int Go.IntKind.i64 1)))⟩, ⟨(.some 6), .none, .false, (.mv (.tmp 19))⟩])))))) (.seq (.reg [⟨(.some 71), .none, .false, (.mv (.tmp 4))⟩, ⟨(.some 72), .none, .false, (.mv (.tmp 5))⟩, ⟨(.some 2), .none, .false, (.mv (.tmp 71))⟩, ⟨(.some 3), .none, .false, (.mv (.tmp 72))⟩]) .ret)))))
set_option maxRecDepth 100000 in
theorem S.ok16 : stripF Tryd.prog Tryd.f16 = some S.s16 := by kernel_rfl
set_option maxRecDepth 100000 in
def S.s19 : SC := (.seq (.reg [⟨(.some 4), .none, .false, (.mv (.const (Go.Value.bool false)))⟩]) (.seq (.reg [⟨(.some 5), .none, .false, (.mv (.tmp 0))⟩, ⟨(.some 6), .none, .false, (.mv (.tmp 1))⟩, ⟨(.some 7), .none, .false, (.call (.func 42) [(.tmp 5), (.tmp 6)])⟩, ⟨(.some 8), .none, .false, (.bin .geq (.tmp 7) (.const (Go.Value.int Go.IntKind.i64 0)))⟩, ⟨(.some 4), .none, .false, (.mv (.tmp 8))⟩]) .ret))
set_option maxRecDepth 100000 in
theorem S.ok19 : stripF Tryd.prog Tryd.f19 = some S.s19 := by kernel_rfl
set_option maxRecDepth 100000 in
def S.s22 : SC := (.seq (.reg [⟨(.some 2), .none, .false, (.mv (.const (Go.Value.slice none 0 0)))⟩]) (.seq (.reg [⟨(.some 3), .none, .false, (.mv (.const (Go.Value.slice none 0 0)))⟩]) (.seq (.seq (.reg [⟨(.some 8), .none, .false, (.mv (.tmp 0))⟩, ⟨(.some 9), .none, .false, (.len (.tmp 8))⟩, ⟨(.some 10), .none, .false, (.mv (.const (Go.Value.int Go.IntKind.i64 0)))⟩]) (.block 0 (.loop (.seq (.reg [⟨(.some 11), .none, .false, (.bin .lss (.tmp 10) (.tmp 9))⟩]) (.seq (.cond (.tmp 11) .skip (.exit 0)) (.seq (.block 1 (.seq (.reg [⟨(.some 12), .none, .false, (.ix (.mk 55 3) (.tmp 8) (.tmp 10))⟩, ⟨(.some 13), .none, .false, (.ld .true 3 (.tmp 12))⟩, ⟨(.some 5), .none, .false, (.al 55 [(Go.Value.int Go.IntKind.i64 0), (Go.Value.int Go.IntKind.i64 0), (Go.Value.int Go.IntKind.i64 0)])⟩, ⟨.none, .none, .false, (.sto 3 (.tmp 5) (.tmp 13))⟩]) (.seq (.reg [⟨(.some 14), .none, .false, (.ld .true 3 (.tmp 5))⟩, ⟨(.some 15), .none, .false, (.call (.func 45) [(.tmp 14)])⟩, ⟨(.some 16), .none, .false, (.len (.tmp 15))⟩, ⟨(.some 17), .none, .false, (.mv (.const (Go.Value.int Go.IntKind.i64 0)))⟩]) (.block 2 (.loop (.seq (.reg [⟨(.some 18), .none, .false, (.bin .lss (.tmp 17) (.tmp 16))⟩]) (.seq (.cond (.tmp 18) .skip (.exit 2)) (.seq (.block 3 (.seq (.reg [⟨(.some 19), .none, .false, (.ix (.mk 55 3) (.tmp 15) (.tmp 17))⟩, ⟨(.some 20), .none, .false, (.ld .true 3 (.tmp 19))⟩, ⟨(.some 7), .none, .false, (.al 55 [(Go.Value.int Go.IntKind.i64 0), (Go.Value.int Go.IntKind.i64 0), (Go.Value.int Go.IntKind.i64 0)])⟩, ⟨.none, .none, .false, (.sto 3 (.tmp 7) (.tmp 20))⟩]) (.seq (.reg [⟨(.some 21), .none, .false, (.mv (.tmp 3))⟩, ⟨(.some 22), .none, .false, (.ld .true 3 (.tmp 7))⟩, ⟨(.some 23), .none, .false, (.call (.func 46) [(.tmp 21), (.tmp 22)])⟩, ⟨(.some 24), .none, .false, (.not (.tmp 23))⟩]) (.cond (.tmp 24) (.reg [⟨(.some 25), .none, .false, (.mv (.tmp 3))⟩, ⟨(.some 26), .none, .false, (.ld .true 3 (.tmp 7))⟩, ⟨(.some 27), .none, .false, (.bsl (.mk 55 3) 1 [(0, (.tmp 26))])⟩, ⟨(.some 28), .none, .false, (.app (.mk 55 3) 24 (.tmp 25) (.tmp 27))⟩, ⟨(.some 3), .none, .false, (.mv (.tmp 28))⟩]) .skip)))) (.reg [⟨(.some 29), .none, .false, (.bin .add (.tmp 17) (.const (Go.Value.int Go.IntKind.i64 1)))⟩, ⟨(.some 17), .none, .false, (.mv (.tmp 29))⟩]))))))))) (.reg [⟨(.some 30), .none, .false, (.bin .add (.tmp 10) (.const (Go.Value.int Go.IntKind.i64 1)))⟩, ⟨(.some 10), .none, .false, (.mv (.tmp 30))⟩]))))))) (.seq (.reg [⟨(.some 31), .none, .false, (.mv (.tmp 3))⟩, ⟨(.some 2), .none, .false, (.mv (.tmp 31))⟩]) .ret))))
set_option maxRecDepth 100000 in
theorem S.ok22 : stripF Tryd.prog Tryd.f22 = some S.s22 := by kernel_rfl
set_option maxRecDepth 100000 in
def S.s24 : SC := (.seq (.reg [⟨(.some 4), .none, .false, (.mv (.const (Go.Value.slice none 0 0)))⟩]) (.seq (.reg [⟨(.some 5), .none, .false, (.mv (.const (Go.Value.slice none 0 0)))⟩]) (.seq (.seq (.reg [⟨(.some 11), .none, .false, (.mv (.tmp 0))⟩, ⟨(.some 12), .none, .false, (.len (.tmp 11))⟩, ⟨(.some 13), .none, .false, (.mv (.const (Go.Value.int Go.IntKind.i64 0)))⟩]) (.block 0 (.loop (.seq (.reg [⟨(.some 14), .none, .false, (.bin .lss (.tmp 13) (.tmp 12))⟩]) (.seq (.cond (.tmp 14) .skip (.exit 0)) (.seq (.block 1 (.seq (.reg [⟨(.some 15), .none, .false, (.ix (.mk 55 3) (.tmp 11) (.tmp 13))⟩, ⟨(.some 16), .none, .false, (.ld .true 3 (.tmp 15))⟩, ⟨(.some 7), .none, .false, (.al 55 [(Go.Value.int Go.IntKind.i64 0), (Go.Value.int Go.IntKind.i64 0), (Go.Value.int Go.IntKind.i64 0)])⟩, ⟨.none, .none, .false, (.sto 3 (.tmp 7) (.tmp 16))⟩]) (.seq (.reg [⟨(.some 8), .none, .false, (.al 53 [(Go.Value.slice none 0 0), (Go.Value.slice none 0 0)])⟩]) (.seq (.seq (.reg [⟨(.some 17), .none, .false, (.ld .true 3 (.tmp 7))⟩, ⟨(.some 18), .none, .false, (.call (.func 45) [(.tmp 17)])⟩, ⟨(.some 19), .none, .false, (.len (.tmp 18))⟩, ⟨(.some 20), .none, .false, (.mv (.const (Go.Value.int Go.IntKind.i64 0)))⟩]) (.block 2 (.loop (.seq (.reg [⟨(.some 21), .none, .false, (.bin .lss (.tmp 20) (.tmp 19))⟩]) (.seq (.cond (.tmp 21) .skip (.exit 2)) (.seq (.block 3 (.seq (.reg [⟨(.some 22), .none, .false, (.ix (.mk 55 3) (.tmp 18) (.tmp 20))⟩, ⟨(.some 23), .none, .false, (.ld .true 3 (.tmp 22))⟩, ⟨(.some 10), .none, .false, (.al 55 [(Go.Value.int Go.IntKind.i64 0), (Go.Value.int Go.IntKind.i64 0), (Go.Value.int Go.IntKind.i64 0)])⟩, ⟨.none, .none, .false, (.sto 3 (.tmp 10) (.tmp 23))⟩]) (.reg [⟨(.some 24), .none, .true, (.fa 0 (.tmp 8))⟩, ⟨(.some 25), .none, .true, (.ld .false 1 (.tmp 24))⟩, ⟨(.some 26), .none, .true, (.mv (.tmp 1))⟩, ⟨(.some 27), .none, .true, (.ld .true 3 (.tmp 10))⟩, ⟨(.some 28), .none, .true, (.fcal (.func 48) [(.tmp 26), (.tmp 27)])⟩, ⟨(.some 29), .none, .true, (.bsl (.mk 2 1) 1 [(0, (.tmp 28))])⟩, ⟨(.some 30), .none, .false, (.app (.mk 2 1) 8 (.tmp 25) (.tmp 29))⟩, ⟨(.some 31), .none, .false, (.fa 0 (.tmp 8))⟩, ⟨.none, .none, .false, (.sto 1 (.tmp 31) (.tmp 30))⟩]))) (.reg [⟨(.some 32), .none, .false, (.bin .add (.tmp 20) (.const (Go.Value.int Go.IntKind.i64 1)))⟩, ⟨(.some 20), .none, .false, (.mv (.tmp 32))⟩]))))))) (.seq (.reg [⟨(.some 33), .none, .false, (.fa 0 (.tmp 8))⟩, ⟨(.some 34), .none, .false, (.ld .false 1 (.tmp 33))⟩, ⟨(.some 35), .none, .false, (.call (.func 49) [(.tmp 34)])⟩]) (.reg [⟨(.some 36), .none, .false, (.mv (.tmp 5))⟩, ⟨(.some 37), .none, .false, (.ld .true 2 (.tmp 8))⟩, ⟨(.some 38), .none, .false, (.bsl (.mk 53 2) 1 [(0, (.tmp 37))])⟩, ⟨(.some 39), .none, .false, (.app (.mk 53 2) 48 (.tmp 36) (.tmp 38))⟩, ⟨(.some 5), .none, .false, (.mv (.tmp 39))⟩])))))) (.reg [⟨(.some 40), .none, .false, (.bin .add (.tmp 13) (.const (Go.Value.int Go.IntKind.i64 1)))⟩, ⟨(.some 13), .none, .false, (.mv (.tmp 40))⟩]))))))) (.seq (.reg [⟨(.some 41), .none, .false, (.mv (.tmp 5))⟩, ⟨(.some 4), .none, .false, (.mv (.tmp 41))⟩]) .ret))))
set_option maxRecDepth 100000 in
theorem S.ok24 : stripF Tryd.prog Tryd.f24 = some S.s24 := by kernel_rfl
set_option maxRecDepth 100000 in
def S.s38 : SC := (.seq (.reg [⟨(.some 3), .none, .false, (.box 41 (.tmp 1))⟩, ⟨(.some 4), .none, .false, (.mv (.const (Go.Value.slice none 0 0)))⟩, ⟨(.some 5), .none, .false, (.mv (.const (Go.Value.int Go.IntKind.i64 0)))⟩]) (.seq (.seq (.reg [⟨(.some 6), .none, .false, (.mv (.const (Go.Value.int Go.IntKind.i64 0)))⟩]) (.block 0 (.loop (.seq (.seq (.reg [⟨(.some 7), .none, .false, (.mv (.tmp 6))⟩, ⟨(.some 8), .none, .false, (.mv (.tmp 0))⟩, ⟨(.some 9), .none, .false, (.len (.tmp 8))⟩, ⟨(.some 10), .none, .false, (.bin .lss (.tmp 7) (.tmp 9))⟩]) (.cond (.tmp 10) .skip (.exit 0))) (.seq (.block 1 (.seq (.reg [⟨(.some 13), .none, .true, (.mv (.tmp 0))⟩, ⟨(.some 14), .none, .true, (.mv (.tmp 6))⟩, ⟨(.some 15), .none, .true, (.ix (.mk 41 3) (.tmp 13) (.tmp 14))⟩, ⟨(.some 16), .none, .true, (.ld .true 3 (.tmp 15))⟩, ⟨(.some 17), .none, .true, (.ld .true 3 (.tmp 3))⟩, ⟨(.some 18), .none, .true, (.eqs .false [(.i .i64), (.i .i64), (.i .i64)] (.tmp 16) (.tmp 17))⟩]) (.cond (.tmp 18) (.seq (.reg [⟨(.some 19), .none, .false, (.mv (.tmp 0))⟩, ⟨(.some 20), .none, .false, (.mv (.tmp 6))⟩, ⟨(.some 4), .none, .false, (.mv (.tmp 19))⟩, ⟨(.some 5), .none, .false, (.mv (.tmp 20))⟩]) .ret) .skip))) (.reg [⟨(.some 11), .none, .false, (.mv (.tmp 6))⟩, ⟨(.some 12), .none, .false, (.bin .add (.tmp 11) (.const (Go.Value.int Go.IntKind.i64 1)))⟩, ⟨(.some 6), .none, .false, (.mv (.tmp 12))⟩])))))) (.seq (.reg [⟨(.some 21), .none, .false, (.mv (.tmp 0))⟩, ⟨(.some 22), .none, .false, (.ld .true 3 (.tmp 3))⟩, ⟨(.some 23), .none, .false, (.bsl (.mk 41 3) 1 [(0, (.tmp 22))])⟩, ⟨(.some 24), .none, .false, (.app (.mk 41 3) 24 (.tmp 21) (.tmp 23))⟩, ⟨(.some 25), .none, .false, (.mv (.tmp 0))⟩, ⟨(.some 26), .none, .false, (.len (.tmp 25))⟩, ⟨(.some 4), .none, .false, (.mv (.tmp 24))⟩, ⟨(.some 5), .none, .false, (.mv (.tmp 26))⟩]) .ret)))
set_option maxRecDepth 100000 in
theorem S.ok38 : stripF Tryd.prog Tryd.f38 = some S.s38 := by kernel_rfl
set_option maxRecDepth 100000 in
def S.s42 : SC := (.seq (.reg [⟨(.some 4), .none, .false, (.mv (.const (Go.Value.int Go.IntKind.i64 0)))⟩]) (.seq (.seq (.reg [⟨(.some 6), .none, .false, (.mv (.tmp 0))⟩, ⟨(.some 7), .none, .false, (.len (.tmp 6))⟩, ⟨(.some 8), .none, .false, (.mv (.const (Go.Value.int Go.IntKind.i64 0)))⟩]) (.block 0 (.loop (.seq (.reg [⟨(.some 9), .none, .false, (.bin .lss (.tmp 8) (.tmp 7))⟩]) (.seq (.cond (.tmp 9) .skip (.exit 0)) (.seq (.block 1 (.seq (.reg [⟨(.some 10), .none, .false, (.mv (.tmp 8))⟩, ⟨(.some 5), .none, .false, (.mv (.tmp 10))⟩]) (.seq (.reg [⟨(.some 11), .none, .false, (.mv (.tmp 1))⟩, ⟨(.some 12), .none, .false, (.mv (.tmp 0))⟩, ⟨(.some 13), .none, .false, (.mv (.tmp 5))⟩, ⟨(.some 14), .none, .false, (.ix (.mk 55 3) (.tmp 12) (.tmp 13))⟩, ⟨(.some 15), .none, .false, (.ld .true 3 (.tmp 14))⟩, ⟨(.some 16), .none, .false, (.call (.tmp 11) [(.tmp 15)])⟩]) (.cond (.tmp 16) (.seq (.reg [⟨(.some 17), .none, .false, (.mv (.tmp 5))⟩, ⟨(.some 4), .none, .false, (.mv (.tmp 17))⟩]) .ret) .skip)))) (.reg [⟨(.some 18), .none, .false, (.bin .add (.tmp 8) (.const (Go.Value.int Go.IntKind.i64 1)))⟩, ⟨(.some 8), .none, .false, (.mv (.tmp 18))⟩]))))))) (.seq (.reg [⟨(.some 4), .none, .false, (.mv (.const (Go.Value.int Go.IntKind.i64 (-1))))⟩]) .ret)))
set_option maxRecDepth 100000 in
theorem S.ok42 : stripF Tryd.prog Tryd.f42 = some S.s42 := by kernel_rfl
set_option maxRecDepth 100000 in
def S.s45 : SC := (.seq (.reg [⟨(.some 1), .none, .false, (.box 55 (.tmp 0))⟩, ⟨(.some 2), .none, .false, (.mv (.const (Go.Value.slice none 0 0)))⟩]) (.seq (.seq (.reg [⟨(.some 3), .none, .false, (.fa 0 (.tmp 1))⟩, ⟨(.some 4), .none, .false, (.ld .false 1 (.tmp 3))⟩, ⟨(.some 5), .none, .false, (.bin .eql (.tmp 4) (.const (Go.Value.int Go.IntKind.i64 1)))⟩]) (.cond (.tmp 5) (.seq (.reg [⟨(.some 6), .none, .false, (.ld .true 3 (.tmp 1))⟩, ⟨(.some 7), .none, .false, (.bsl (.mk 55 3) 1 [(0, (.tmp 6))])⟩, ⟨(.some 2), .none, .false, (.mv (.tmp 7))⟩]) .ret) .skip)) (.seq (.reg [⟨(.some 8), .none, .false, (.ld .true 3 (.tmp 1))⟩, ⟨(.some 9), .none, .false, (.call (.func 67) [(.tmp 8)])⟩, ⟨(.some 2), .none, .false, (.mv (.tmp 9))⟩]) .ret)))
set_option maxRecDepth 100000 in
theorem S.ok45 : stripF Tryd.prog Tryd.f45 = some S.s45 := by kernel_rfl
set_option maxRecDepth 100000 in
def S.s46 : SC := (.seq (.reg [⟨(.some 3), .none, .false, (.box 55 (.tmp 1))⟩, ⟨(.some 4), .none, .false, (.mv (.const (Go.Value.bool false)))⟩]) (.seq (.reg [⟨(.some 5), .none, .false, (.mv (.tmp 0))⟩, ⟨(.some 6), .none, .false, (.ld .true 3 (.tmp 3))⟩, ⟨(.some 7), .none, .false, (.call (.func 48) [(.tmp 5), (.tmp 6)])⟩, ⟨(.some 8), .none, .false, (.bin .geq (.tmp 7) (.const (Go.Value.int Go.IntKind.i64 0)))⟩, ⟨(.some 4), .none, .false, (.mv (.tmp 8))⟩]) .ret))
set_option maxRecDepth 100000 in
theorem S.ok46 : stripF Tryd.prog Tryd.f46 = some S.s46 := by kernel_rfl
set_option maxRecDepth 100000 in
def S.s48 : SC := (.seq (.reg [⟨(.some 3), .none, .false, (.box 55 (.tmp 1))⟩, ⟨(.some 4), .none, .false, (.mv (.const (Go.Value.int Go.IntKind.i64 0)))⟩]) (.seq (.seq (.reg [⟨(.some 6), .none, .false, (.mv (.tmp 0))⟩, ⟨(.some 7), .none, .false, (.len (.tmp 6))⟩, ⟨(.some 8), .none, .false, (.mv (.const (Go.Value.int Go.IntKind.i64 0)))⟩]) (.block 0 (.loop (.seq (.reg [⟨(.some 9), .none, .false, (.bin .lss (.tmp 8) (.tmp 7))⟩]) (.seq (.cond (.tmp 9) .skip (.exit 0)) (.seq (.block 1 (.seq (.reg [⟨(.some 10), .none, .false, (.mv (.tmp 8))⟩, ⟨(.some 5), .none, .false, (.mv (.tmp 10))⟩]) (.seq (.reg [⟨(.some 11), .none, .true, (.ld .true 3 (.tmp 3))⟩, ⟨(.some 12), .none, .true, (.mv (.tmp 0))⟩, ⟨(.some 13), .none, .true, (.mv (.tmp 5))⟩, ⟨(.some 14), .none, .true, (.ix (.mk 55 3) (.tmp 12) (.tmp 13))⟩, ⟨(.some 15), .none, .true, (.ld .true 3 (.tmp 14))⟩, ⟨(.some 16), .none, .true, (.eqs .false [(.i .i64), (.i .i64), (.i .i64)] (.tmp 11) (.tmp 15))⟩]) (.cond (.tmp 16) (.seq (.reg [⟨(.some 17), .none, .false, (.mv (.tmp 5))⟩, ⟨(.some 4), .none, .false, (.mv (.tmp 17))⟩]) .ret) .skip)))) (.reg [⟨(.some 18), .none, .false, (.bin .add (.tmp 8) (.const (Go.Value.int Go.IntKind.i64 1)))⟩, ⟨(.some 8), .none, .false, (.mv (.tmp 18))⟩]))))))) (.seq (.reg [⟨(.some 4), .none, .false, (.mv (.const (Go.Value.int Go.IntKind.i64 (-1))))⟩]) .ret)))
set_option maxRecDepth 100000 in
theorem S.ok48 : stripF Tryd.prog Tryd.f48 = some S.s48 := by kernel_rfl
set_option maxRecDepth 100000 in
def S.s67 : SC := (.seq (.reg [⟨(.some 1), .none, .false, (.box 55 (.tmp 0))⟩, ⟨(.some 2), .none, .false, (.mv (.const (Go.Value.slice none 0 0)))⟩]) (.seq (.reg [⟨(.some 3), .none, .false, (.mv (.const (Go.Value.int Go.IntKind.i64 1)))⟩]) (.seq (.block 0 (.loop (.seq (.seq (.reg [⟨(.some 4), .none, .false, (.mv (.tmp 3))⟩, ⟨(.some 5), .none, .false, (.fa 1 (.tmp 1))⟩, ⟨(.some 6), .none, .false, (.ld .false 1 (.tmp 5))⟩, ⟨(.some 7), .none, .false, (.bin .eql (.tmp 4) (.tmp 6))⟩, ⟨(.some 8), .none, .false, (.mv (.tmp 7))⟩, ⟨(.some 9), (.some (8, .false)), .false, (.mv (.tmp 3))⟩, ⟨(.some 10), (.some (8, .false)), .false, (.fa 2 (.tmp 1))⟩, ⟨(.some 11), (.some (8, .false)), .false, (.ld .false 1 (.tmp 10))⟩, ⟨(.some 12), (.some (8, .false)), .false, (.bin .eql (.tmp 9) (.tmp 11))⟩, ⟨(.some 13), .none, .false, (.pick (.tmp 8) (.const (Go.Value.bool true)) (.tmp 12))⟩]) (.cond (.tmp 13) .skip (.exit 0))) (.block 1 (.reg [⟨(.some 14), .none, .false, (.mv (.tmp 3))⟩, ⟨(.some 15), .none, .false, (.bin .add (.tmp 14) (.const (Go.Value.int Go.IntKind.i64 1)))⟩, ⟨(.some 3), .none, .false, (.mv (.tmp 15))⟩]))))) (.seq (.reg [⟨(.some 16), .none, .false, (.fa 0 (.tmp 1))⟩, ⟨(.some 17), .none, .false, (.ld .false 1 (.tmp 16))⟩, ⟨(.some 18), .none, .false, (.fa 0 (.tmp 1))⟩, ⟨(.some 19), .none, .false, (.ld .false 1 (.tmp 18))⟩, ⟨(.some 20), .none, .false, (.bin .quo (.tmp 19) (.const (Go.Value.int Go.IntKind.i64 2)))⟩, ⟨(.some 21), .none, .false, (.bin .sub (.tmp 17) (.tmp 20))⟩, ⟨(.some 22), .none, .false, (.fa 1 (.tmp 1))⟩, ⟨(.some 23), .none, .false, (.ld .false 1 (.tmp 22))⟩, ⟨(.some 24), .none, .false, (.mv (.tmp 3))⟩, ⟨(.some 25), .none, .false, (.bld [(Go.Value.int Go.IntKind.i64 0), (Go.Value.int Go.IntKind.i64 0), (Go.Value.int Go.IntKind.i64 0)] [(0, 1), (1, 1), (2, 1)] [(0, (.tmp 21)), (1, (.tmp 23)), (2, (.tmp 24))])⟩, ⟨(.some 26), .none, .false, (.fa 0 (.tmp 1))⟩, ⟨(.some 27), .none, .false, (.ld .false 1 (.tmp 26))⟩, ⟨(.some 28), .none, .false, (.bin .quo (.tmp 27) (.const (Go.Value.int Go.IntKind.i64 2)))⟩, ⟨(.some 29), .none, .false, (.mv (.tmp 3))⟩, ⟨(.some 30), .none, .false, (.fa 2 (.tmp 1))⟩, ⟨(.some 31), .none, .false, (.ld .false 1 (.tmp 30))⟩, ⟨(.some 32), .none, .false, (.bld [(Go.Value.int Go.IntKind.i64 0), (Go.Value.int Go.IntKind.i64 0), (Go.Value.int Go.IntKind.i64 0)] [(0, 1), (1, 1), (2, 1)] [(0, (.tmp 28)), (1, (.tmp 29)), (2, (.tmp 31))])⟩, ⟨(.some 33), .none, .false, (.bsl (.mk 55 3) 2 [(0, (.tmp 25)), (1, (.tmp 32))])⟩, ⟨(.some 2), .none, .false, (.mv (.tmp 33))⟩]) .ret))))
set_option maxRecDepth 100000 in
theorem S.ok67 : stripF Tryd.prog Tryd.f67 = some S.s67 := by kernel_rfl
set_option maxRecDepth 20000
set_option maxHeartbeats 8000000
abbrev kPc : Ky := ⟨41, 3⟩
/-- The header of a row of one's own, known by its value alone. -/
theorem Wk.peek {st : St} (j p : Nat) {κ : Ky} {xs : List (List D)} {hs : List Ho} (h : st.env j = .v (.c (.own p))) (hp : st.objs p = some (.arr κ xs hs)) : Wk st (fun s => ∃ a cap, s = ⟨upd st.env j (pvA (.slice a xs.length cap)), st.objs⟩ ∧ xs.length ≤ maxLen) := fun F R ι φ ac w hst => by
  obtain ⟨a, cap, e1, e2⟩ := RArr.len (hst.objs p _ hp)
  have hj := hst.env j
  rw [h] at hj
  have hj : RB w R ι st.dom (ac.tmps.getD j undef) (.own p) := hj
  have hv : ac.tmps.getD j undef = .slice a xs.length cap := hj.2.trans e1
  refine ⟨_, ⟨a, cap, rfl, e2⟩, R, ι, φ, hst.below, hst.rlt, hst.rsub, hst.rnew, hst.size, hst.defers, fun t => ?_, hst.objs, hst.mine, hst.apart, hst.pin⟩
  by_cases ht : t = j
  · subst ht
    show RA _ _ _ _ _ (upd st.env t _ t)
    rw [upd_same, hv]
    exact RD.pv rfl trivial
  · show RA _ _ _ _ _ (upd st.env j _ t)
    rw [upd_ne _ _ ht]
    exact hst.env t
section
variable {P : Program} {Q : Exit → St → Prop} {ks : List Fr} {e : Nat → AV} {o : Nat → Option Ob} {d : Nat} {fr : Bool} {x y z : Operand} {rest : List SR}
theorem R.peekL {dst : Option Tmp} {κ' : Ky} {b : Nat} {rest : List SR} (j p : Nat) {κ : Ky} {xs : List (List D)} {hs : List Ho} (h : e j = .v (.c (.own p))) (hp : o p = some (.arr κ xs hs)) (k : ∀ a cap, xs.length ≤ maxLen → WL P (⟨dst, none, false, .app κ' b x y⟩ :: rest) ks Q ⟨upd e j (pvA (.slice a xs.length cap)), o⟩) : WL P (⟨dst, none, false, .app κ' b x y⟩ :: rest) ks Q ⟨e, o⟩ := by
  unfold WL
  intro F R ι φ a w hst
  obtain ⟨s', ⟨v, cap, rfl, hle⟩, R', ι', φ', hs'⟩ := Wk.peek (st := ⟨e, o⟩) j p h hp F R ι φ a w hst
  have := k v cap hle
  unfold WL at this
  exact this F R' ι' φ' a w hs'
theorem R.lenV {a : Option Addr} {n cap : Nat} (h : ev e x = pvA (.slice a n cap)) (hn : n ≤ maxLen) (k : WL P rest ks Q ⟨upd e d (pvA (.int .i64 n)), o⟩) : WL P (⟨some d, none, fr, .len x⟩ :: rest) ks Q ⟨e, o⟩ := R.len h (by
  have : Nat.ble n maxLen = true := Nat.ble_eq_true_of_le hn
  simp [lenOf, this]) k
end
/-- A piece is put to its place in an array of the call's own, which is handed back. -/
theorem sPlace (l : List TStrip) (p : TStrip) (hl : l.length ≤ 1000) : SpecM Tryd.prog 38 [.c (.own 5), .agg ((enSt p).map B.d)] [(5, .arr kPc (l.map enSt) [])] (.tup [.c (.own 0), .c (.d (iD (ixS l p)))]) [(0, .arr kPc ((putS l p).map enSt) [])] := by
  refine SpecM.walk T.mixed Tryd.func38 S.ok38 (by simp [Tryd.f38]) fun hk => ?_
  clear hk
  unfold S.s38
  repeat' (first | refine R.mv rfl ?_ | refine R.reg ?_ | refine R.nil ?_ | refine R.seq ?_ | refine R.nseq ?_ | refine R.nblk ?_ | refine R.skip ?_ | refine R.blk ?_ | refine R.exit rfl ?_ | refine R.ldEp rfl rfl (by assumption) rfl rfl ?_ | refine R.ldaEp rfl rfl (by assumption) (Nat.le_of_ble_eq_true rfl) rfl rfl ?_ | refine R.ld rfl rfl rfl ?_ | refine R.lda rfl rfl (Nat.le_of_ble_eq_true rfl) rfl ?_ | refine R.lenM rfl ?_ | refine R.lenO rfl rfl ?_ | refine R.len rfl rfl ?_ | refine R.lss rfl rfl ?_ | refine R.add rfl rfl (by omega) ?_ | refine R.ixN rfl rfl rfl (by omega) (fun a ha => ?_) | refine R.ixM rfl rfl rfl (by omega) (fun a ha => ?_) | refine R.ixON rfl rfl rfl (by first | omega | (simp; omega)) (fun a' ha' => ?_) | refine R.ixO rfl rfl rfl (by first | omega | (simp; omega)) (fun a' ha' => ?_) | refine R.box rfl rfl rfl ?_ | refine R.eqs rfl rfl rfl rfl rfl ?_ | refine R.neqs rfl rfl rfl rfl rfl ?_ | refine R.condT rfl ?_ | refine R.condF rfl ?_ | refine R.cond rfl (fun hc => ?_) (fun hc => ?_) | refine R.condN rfl (fun hc => ?_) (fun hc => ?_) | refine R.condB rfl (fun hc => ?_) (fun hc => ?_))
  all_goals first | (exfalso; omega) | skip
  refine R.loop (G := Nat) (fun i => [(0, .v (.c (.own 5))), (3, .v (.c (.ptr 3 0))), (6, pvA (.int .i64 i))]) (fun _ => [(3, .box 41 ((enSt p).map B.d)), (5, .arr kPc (l.map enSt) [])]) (fun i => i ≤ l.length ∧ ∀ j, j < i → l[j]? ≠ some p) (fun i => l.length - i) 0 ⟨Nat.zero_le _, fun j h => by omega⟩ (Weak.frame _ _ ⟨rfl, rfl, rfl, trivial⟩ ⟨rfl, rfl, trivial⟩ rfl rfl) fun i hi => ?_
  obtain ⟨hi, hno⟩ := hi
  by_cases hil : i < l.length
  · obtain ⟨y, hy⟩ : ∃ y, l[i]? = some y := ⟨_, List.getElem?_eq_getElem hil⟩
    by_cases hyc : y = p
    · subst hyc
      have hin : y ∈ l := List.mem_of_getElem? hy
      have hix : ixS l y = i := by
        obtain ⟨q1, q2⟩ := ixS_in hin
        rcases Nat.lt_trichotomy (ixS l y) i with h | h | h
        · exact absurd q1 (hno _ h)
        · exact h
        · exact absurd hy (q2 _ h)
      rw [show putS l y = l from if_pos hin, hix]
      have heq := eqSt (p := y) (q := y)
      rw [decide_eq_true rfl] at heq
      repeat' (first | refine R.ixOK y hy rfl rfl rfl ?_ | refine R.mv rfl ?_ | refine R.reg ?_ | refine R.nil ?_ | refine R.seq ?_ | refine R.nseq ?_ | refine R.nblk ?_ | refine R.skip ?_ | refine R.blk ?_ | refine R.exit rfl ?_ | refine R.ldEp rfl rfl (by assumption) rfl rfl ?_ | refine R.ldaEp rfl rfl (by assumption) (Nat.le_of_ble_eq_true rfl) rfl rfl ?_ | refine R.ld rfl rfl rfl ?_ | refine R.lda rfl rfl (Nat.le_of_ble_eq_true rfl) rfl ?_ | refine R.lenM rfl ?_ | refine R.lenO rfl rfl ?_ | refine R.len rfl rfl ?_ | refine R.lss rfl rfl ?_ | refine R.add rfl rfl (by omega) ?_ | refine R.ixN rfl rfl rfl (by omega) (fun a ha => ?_) | refine R.ixM rfl rfl rfl (by omega) (fun a ha => ?_) | refine R.ixON rfl rfl rfl (by first | omega | (simp; omega)) (fun a' ha' => ?_) | refine R.ixO rfl rfl rfl (by first | omega | (simp; omega)) (fun a' ha' => ?_) | refine R.box rfl rfl rfl ?_ | refine R.eqs rfl rfl rfl rfl rfl ?_ | refine R.neqs rfl rfl rfl rfl rfl ?_ | refine R.condT rfl ?_ | refine R.condF rfl ?_ | refine R.cond rfl (fun hc => ?_) (fun hc => ?_) | refine R.condN rfl (fun hc => ?_) (fun hc => ?_) | refine R.condB rfl (fun hc => ?_) (fun hc => ?_))
      all_goals first
        | (exfalso; omega)
        | (exfalso; have h2 := hc; rw [show _ = true from heq] at h2; cases h2; done)
        | exact R.ret ⟨.inr rfl, R.outR rfl (.cons (R.tmp rfl) (.cons (R.tmp rfl) .nil)) rfl rfl rfl ⟨by show ¬ (2 = 1); omega, rfl⟩⟩
        | skip
    · have heq := eqSt (p := y) (q := p)
      rw [decide_eq_false hyc] at heq
      repeat' (first | refine R.ixOK y hy rfl rfl rfl ?_ | refine R.mv rfl ?_ | refine R.reg ?_ | refine R.nil ?_ | refine R.seq ?_ | refine R.nseq ?_ | refine R.nblk ?_ | refine R.skip ?_ | refine R.blk ?_ | refine R.exit rfl ?_ | refine R.ldEp rfl rfl (by assumption) rfl rfl ?_ | refine R.ldaEp rfl rfl (by assumption) (Nat.le_of_ble_eq_true rfl) rfl rfl ?_ | refine R.ld rfl rfl rfl ?_ | refine R.lda rfl rfl (Nat.le_of_ble_eq_true rfl) rfl ?_ | refine R.lenM rfl ?_ | refine R.lenO rfl rfl ?_ | refine R.len rfl rfl ?_ | refine R.lss rfl rfl ?_ | refine R.add rfl rfl (by omega) ?_ | refine R.ixN rfl rfl rfl (by omega) (fun a ha => ?_) | refine R.ixM rfl rfl rfl (by omega) (fun a ha => ?_) | refine R.ixON rfl rfl rfl (by first | omega | (simp; omega)) (fun a' ha' => ?_) | refine R.ixO rfl rfl rfl (by first | omega | (simp; omega)) (fun a' ha' => ?_) | refine R.box rfl rfl rfl ?_ | refine R.eqs rfl rfl rfl rfl rfl ?_ | refine R.neqs rfl rfl rfl rfl rfl ?_ | refine R.condT rfl ?_ | refine R.condF rfl ?_ | refine R.cond rfl (fun hc => ?_) (fun hc => ?_) | refine R.condN rfl (fun hc => ?_) (fun hc => ?_) | refine R.condB rfl (fun hc => ?_) (fun hc => ?_))
      all_goals first
        | (exfalso; omega)
        | (exfalso; have h2 := hc; rw [show _ = false from heq] at h2; cases h2; done)
        | exact R.nloop (R.again (i + 1) ⟨by omega, fun j hj => by
            rcases Nat.lt_or_ge j i with h | h
            · exact hno j h
            · obtain rfl : j = i := by omega
              rw [hy]; exact fun e => hyc (Option.some.inj e)⟩ (by omega) ⟨rfl, rfl, rfl, trivial⟩ ⟨rfl, rfl, trivial⟩ rfl rfl)
        | skip
  obtain rfl : i = l.length := by omega
  have hout : p ∉ l := fun hin => by
    obtain ⟨j, hj⟩ := List.getElem?_of_mem hin
    exact hno j (List.getElem?_eq_some_iff.1 hj).1 hj
  have hlm : (l.map enSt).length = l.length := List.length_map ..
  rw [show putS l p = l ++ [p] from if_neg hout, ixS_out hout, ← hlm]
  repeat' (first | refine R.peekL 0 5 rfl rfl (fun a cap hle => ?_) | refine R.mv rfl ?_ | refine R.reg ?_ | refine R.nil ?_ | refine R.seq ?_ | refine R.nseq ?_ | refine R.nblk ?_ | refine R.skip ?_ | refine R.blk ?_ | refine R.exit rfl ?_ | refine R.ldEp rfl rfl (by assumption) rfl rfl ?_ | refine R.ldaEp rfl rfl (by assumption) (Nat.le_of_ble_eq_true rfl) rfl rfl ?_ | refine R.ld rfl rfl rfl ?_ | refine R.lda rfl rfl (Nat.le_of_ble_eq_true rfl) rfl ?_ | refine R.lenM rfl ?_ | refine R.lenO rfl rfl ?_ | refine R.len rfl rfl ?_ | refine R.lss rfl rfl ?_ | refine R.add rfl rfl (by omega) ?_ | refine R.ixN rfl rfl rfl (by omega) (fun a ha => ?_) | refine R.ixM rfl rfl rfl (by omega) (fun a ha => ?_) | refine R.ixON rfl rfl rfl (by first | omega | (simp; omega)) (fun a' ha' => ?_) | refine R.ixO rfl rfl rfl (by first | omega | (simp; omega)) (fun a' ha' => ?_) | refine R.box rfl rfl rfl ?_ | refine R.eqs rfl rfl rfl rfl rfl ?_ | refine R.neqs rfl rfl rfl rfl rfl ?_ | refine R.condT rfl ?_ | refine R.condF rfl ?_ | refine R.lenV rfl (by simpa using hle) ?_ | refine R.bsl (f := enSt) [p] rfl rfl rfl rfl rfl ?_ | refine R.app (f := enSt) (fun _ => rfl) rfl rfl rfl rfl rfl ⟨by simp only [List.length_singleton]; omega, by simp only [List.length_singleton]; omega⟩ ?_ | refine R.cond rfl (fun hc => ?_) (fun hc => ?_) | refine R.condN rfl (fun hc => ?_) (fun hc => ?_) | refine R.condB rfl (fun hc => ?_) (fun hc => ?_))
  all_goals first
    | (exfalso; omega)
    | exact R.ret ⟨.inr rfl, R.outR rfl (.cons (R.tmp rfl) (.cons (R.tmp rfl) .nil)) rfl rfl rfl ⟨by show ¬ (2 = 1); omega, rfl⟩⟩
    | skip
abbrev kSt : Ky := ⟨55, 3⟩
theorem iHalves (s : TStrip) (h : okSt s) : Spec Tryd.prog 67 [.agg (enSt s)] (oN kSt ((hlv s).map enSt)) := by
  refine Spec.walk T.mixed Tryd.func67 S.ok67 (by simp [Tryd.f67]) fun hk => ?_
  clear hk
  unfold S.s67
  have hx := xOf_le s.w s.e
  have hne := xOf_ne s.w s.e
  unfold okSt at h
  repeat' (first | refine R.mv rfl ?_ | refine R.reg ?_ | refine R.nil ?_ | refine R.seq ?_ | refine R.nseq ?_ | refine R.nblk ?_ | refine R.skip ?_ | refine R.blk ?_ | refine R.exit rfl ?_ | refine R.gRun rfl ?_ | refine R.gSkip rfl ?_ | refine R.gSkip0 rfl ?_ | refine R.gUndef rfl ?_ | refine R.gUndef0 rfl ?_ | refine R.ldEp rfl rfl (by assumption) rfl rfl ?_ | refine R.ldaEp rfl rfl (by assumption) (Nat.le_of_ble_eq_true rfl) rfl rfl ?_ | refine R.ld rfl rfl rfl ?_ | refine R.lda rfl rfl (Nat.le_of_ble_eq_true rfl) rfl ?_ | refine R.fa rfl rfl ?_ | refine R.eql rfl rfl ?_ | refine R.add rfl rfl (by omega) ?_ | refine R.sub rfl rfl (by omega) ?_ | refine R.pickT rfl rfl ?_ | refine R.pickF rfl rfl ?_ | refine R.box rfl rfl rfl ?_ | refine R.bld rfl rfl ?_ | refine R.quo rfl rfl (by omega) ?_ | refine R.condT rfl ?_ | refine R.condF rfl ?_ | refine R.cond rfl (fun hc => ?_) (fun hc => ?_) | refine R.condN rfl (fun hc => ?_) (fun hc => ?_) | refine R.condB rfl (fun hc => ?_) (fun hc => ?_) | refine R.gP rfl (fun hc => ?_) (fun hc => ?_) | refine R.gN rfl (fun hc => ?_) (fun hc => ?_) | refine R.gB rfl (fun hc => ?_) (fun hc => ?_))
  all_goals first | (exfalso; omega) | skip
  refine R.loop (G := Int) (fun x => [(1, .v (.c (.ptr 1 0))), (3, pvA (.int .i64 x))]) (fun _ => [(1, .box 55 ((enSt s).map B.d))]) (fun x => 1 ≤ x ∧ x ≤ xOf s.w s.e) (fun x => (xOf s.w s.e - x).toNat) 1 ⟨by omega, by omega⟩ (Weak.frame _ _ ⟨rfl, rfl, trivial⟩ ⟨rfl, trivial⟩ rfl rfl) fun x hxx => ?_
  obtain ⟨h1, h2⟩ := hxx
  by_cases hxe : x = xOf s.w s.e
  · obtain ⟨hn1, hn2⟩ := hne
    rw [← hxe] at hn1 hn2
    have hlv' : hlv s = [⟨s.m - s.m / 2, s.w, x⟩, ⟨s.m / 2, x, s.e⟩] := by unfold hlv; rw [← hxe]
    rw [hlv']
    repeat' (first | refine R.mv rfl ?_ | refine R.reg ?_ | refine R.nil ?_ | refine R.seq ?_ | refine R.nseq ?_ | refine R.nblk ?_ | refine R.skip ?_ | refine R.blk ?_ | refine R.exit rfl ?_ | refine R.gRun rfl ?_ | refine R.gSkip rfl ?_ | refine R.gSkip0 rfl ?_ | refine R.gUndef rfl ?_ | refine R.gUndef0 rfl ?_ | refine R.ldEp rfl rfl (by assumption) rfl rfl ?_ | refine R.ldaEp rfl rfl (by assumption) (Nat.le_of_ble_eq_true rfl) rfl rfl ?_ | refine R.ld rfl rfl rfl ?_ | refine R.lda rfl rfl (Nat.le_of_ble_eq_true rfl) rfl ?_ | refine R.fa rfl rfl ?_ | refine R.eql rfl rfl ?_ | refine R.add rfl rfl (by omega) ?_ | refine R.sub rfl rfl (by omega) ?_ | refine R.pickT rfl rfl ?_ | refine R.pickF rfl rfl ?_ | refine R.box rfl rfl rfl ?_ | refine R.bld rfl rfl ?_ | refine R.quo rfl rfl (by omega) ?_ | refine R.condT rfl ?_ | refine R.condF rfl ?_ | refine R.quo rfl rfl ⟨by omega, by omega, by omega⟩ ?_ | refine R.bsl (f := enSt) [(⟨s.m - s.m / 2, s.w, x⟩ : TStrip), ⟨s.m / 2, x, s.e⟩] rfl rfl rfl rfl rfl ?_ | refine R.cond rfl (fun hc => ?_) (fun hc => ?_) | refine R.condN rfl (fun hc => ?_) (fun hc => ?_) | refine R.condB rfl (fun hc => ?_) (fun hc => ?_) | refine R.gP rfl (fun hc => ?_) (fun hc => ?_) | refine R.gN rfl (fun hc => ?_) (fun hc => ?_) | refine R.gB rfl (fun hc => ?_) (fun hc => ?_))
    all_goals first | (exfalso; omega) | exact R.ret ⟨.inr rfl, R.outN rfl rfl rfl⟩ | skip
  · have hwe := xOf_lt h1 (show x < xOf s.w s.e by omega)
    repeat' (first | refine R.mv rfl ?_ | refine R.reg ?_ | refine R.nil ?_ | refine R.seq ?_ | refine R.nseq ?_ | refine R.nblk ?_ | refine R.skip ?_ | refine R.blk ?_ | refine R.exit rfl ?_ | refine R.gRun rfl ?_ | refine R.gSkip rfl ?_ | refine R.gSkip0 rfl ?_ | refine R.gUndef rfl ?_ | refine R.gUndef0 rfl ?_ | refine R.ldEp rfl rfl (by assumption) rfl rfl ?_ | refine R.ldaEp rfl rfl (by assumption) (Nat.le_of_ble_eq_true rfl) rfl rfl ?_ | refine R.ld rfl rfl rfl ?_ | refine R.lda rfl rfl (Nat.le_of_ble_eq_true rfl) rfl ?_ | refine R.fa rfl rfl ?_ | refine R.eql rfl rfl ?_ | refine R.add rfl rfl (by omega) ?_ | refine R.sub rfl rfl (by omega) ?_ | refine R.pickT rfl rfl ?_ | refine R.pickF rfl rfl ?_ | refine R.box rfl rfl rfl ?_ | refine R.bld rfl rfl ?_ | refine R.quo rfl rfl (by omega) ?_ | refine R.condT rfl ?_ | refine R.condF rfl ?_ | refine R.cond rfl (fun hc => ?_) (fun hc => ?_) | refine R.condN rfl (fun hc => ?_) (fun hc => ?_) | refine R.condB rfl (fun hc => ?_) (fun hc => ?_) | refine R.gP rfl (fun hc => ?_) (fun hc => ?_) | refine R.gN rfl (fun hc => ?_) (fun hc => ?_) | refine R.gB rfl (fun hc => ?_) (fun hc => ?_))
    all_goals first
      | (exfalso; omega)
      | exact R.nloop (R.again (x + 1) ⟨by omega, by omega⟩ (by omega) ⟨rfl, rfl, trivial⟩ ⟨rfl, trivial⟩ rfl rfl)
      | skip
theorem iParts (s : TStrip) (h : okSt s) : Spec Tryd.prog 45 [.agg (enSt s)] (oN kSt ((prt s).map enSt)) := by
  have hH := iHalves s h
  refine Spec.walk T.mixed Tryd.func45 S.ok45 (by simp [Tryd.f45]) fun hk => ?_
  clear hk
  unfold S.s45
  by_cases h1 : s.m = 1
  · rw [show prt s = [s] from if_pos h1]
    repeat' (first | refine R.mv rfl ?_ | refine R.reg ?_ | refine R.nil ?_ | refine R.seq ?_ | refine R.nseq ?_ | refine R.nblk ?_ | refine R.skip ?_ | refine R.blk ?_ | refine R.exit rfl ?_ | refine R.ldEp rfl rfl (by assumption) rfl rfl ?_ | refine R.ldaEp rfl rfl (by assumption) (Nat.le_of_ble_eq_true rfl) rfl rfl ?_ | refine R.ld rfl rfl rfl ?_ | refine R.lda rfl rfl (Nat.le_of_ble_eq_true rfl) rfl ?_ | refine R.fa rfl rfl ?_ | refine R.eql rfl rfl ?_ | refine R.box rfl rfl rfl ?_ | refine R.condT rfl ?_ | refine R.condF rfl ?_ | refine R.bsl (f := enSt) [s] rfl rfl rfl rfl rfl ?_ | refine R.cond rfl (fun hc => ?_) (fun hc => ?_) | refine R.condN rfl (fun hc => ?_) (fun hc => ?_) | refine R.condB rfl (fun hc => ?_) (fun hc => ?_))
    all_goals first | (exfalso; omega) | exact R.ret ⟨.inr rfl, R.outN rfl rfl rfl⟩ | skip
  · rw [show prt s = hlv s from if_neg h1]
    repeat' (first | refine R.mv rfl ?_ | refine R.reg ?_ | refine R.nil ?_ | refine R.seq ?_ | refine R.nseq ?_ | refine R.nblk ?_ | refine R.skip ?_ | refine R.blk ?_ | refine R.exit rfl ?_ | refine R.ldEp rfl rfl (by assumption) rfl rfl ?_ | refine R.ldaEp rfl rfl (by assumption) (Nat.le_of_ble_eq_true rfl) rfl rfl ?_ | refine R.ld rfl rfl rfl ?_ | refine R.lda rfl rfl (Nat.le_of_ble_eq_true rfl) rfl ?_ | refine R.fa rfl rfl ?_ | refine R.eql rfl rfl ?_ | refine R.box rfl rfl rfl ?_ | refine R.condT rfl ?_ | refine R.condF rfl ?_ | refine R.callN1 (bor := false) rfl rfl (hH) rfl rfl ?_ | refine R.callN1 (bor := true) rfl rfl (hH) rfl rfl ?_ | refine R.callN (bor := false) rfl rfl (hH) rfl rfl rfl rfl rfl ?_ | refine R.callN (bor := true) rfl rfl (hH) rfl rfl rfl rfl rfl ?_ | refine R.cond rfl (fun hc => ?_) (fun hc => ?_) | refine R.condN rfl (fun hc => ?_) (fun hc => ?_) | refine R.condB rfl (fun hc => ?_) (fun hc => ?_))
    all_goals first | (exfalso; omega) | exact R.ret ⟨.inr rfl, R.outN rfl rfl rfl⟩ | skip
theorem lib_indexS (l : List TStrip) (c : TStrip) (hl : l.length ≤ 1000) : Spec Tryd.prog 48 [vL kSt (l.map enSt), .agg (enSt c)] (oI (if c ∈ l then (ixS l c : Int) else -1)) := by
  refine Spec.walk T.mixed Tryd.func48 S.ok48 (by simp [Tryd.f48]) fun hk => ?_
  clear hk
  unfold S.s48
  repeat' (first | refine R.mv rfl ?_ | refine R.reg ?_ | refine R.nil ?_ | refine R.seq ?_ | refine R.nseq ?_ | refine R.nblk ?_ | refine R.skip ?_ | refine R.blk ?_ | refine R.exit rfl ?_ | refine R.ldEp rfl rfl (by assumption) rfl rfl ?_ | refine R.ldaEp rfl rfl (by assumption) (Nat.le_of_ble_eq_true rfl) rfl rfl ?_ | refine R.ld rfl rfl rfl ?_ | refine R.lda rfl rfl (Nat.le_of_ble_eq_true rfl) rfl ?_ | refine R.lenM rfl ?_ | refine R.lenO rfl rfl ?_ | refine R.len rfl rfl ?_ | refine R.lss rfl rfl ?_ | refine R.add rfl rfl (by omega) ?_ | refine R.ixN rfl rfl rfl (by omega) (fun a ha => ?_) | refine R.ixM rfl rfl rfl (by omega) (fun a ha => ?_) | refine R.ixON rfl rfl rfl (by first | omega | (simp; omega)) (fun a' ha' => ?_) | refine R.ixO rfl rfl rfl (by first | omega | (simp; omega)) (fun a' ha' => ?_) | refine R.box rfl rfl rfl ?_ | refine R.eqs rfl rfl rfl rfl rfl ?_ | refine R.neqs rfl rfl rfl rfl rfl ?_ | refine R.condT rfl ?_ | refine R.condF rfl ?_ | refine R.cond rfl (fun hc => ?_) (fun hc => ?_) | refine R.condN rfl (fun hc => ?_) (fun hc => ?_) | refine R.condB rfl (fun hc => ?_) (fun hc => ?_))
  all_goals first | (exfalso; omega) | skip
  refine R.loop (G := Nat) (fun i => [(0, rdA kSt (l.map enSt)), (3, .v (.c (.ptr 3 0))), (7, pvA (.int .i64 l.length)), (8, pvA (.int .i64 i))]) (fun _ => [(3, .box 55 ((enSt c).map B.d))]) (fun i => i ≤ l.length ∧ ∀ j, j < i → l[j]? ≠ some c) (fun i => l.length - i) 0 ⟨Nat.zero_le _, fun j h => by omega⟩ (Weak.frame _ _ ⟨rfl, rfl, rfl, rfl, trivial⟩ ⟨rfl, trivial⟩ rfl rfl) fun i hi => ?_
  obtain ⟨hi, hno⟩ := hi
  by_cases hil : i < l.length
  · obtain ⟨y, hy⟩ : ∃ y, l[i]? = some y := ⟨_, List.getElem?_eq_getElem hil⟩
    by_cases hyc : c = y
    · subst hyc
      have hin : c ∈ l := List.mem_of_getElem? hy
      have hix : ixS l c = i := by
        obtain ⟨q1, q2⟩ := ixS_in hin
        rcases Nat.lt_trichotomy (ixS l c) i with h | h | h
        · exact absurd q1 (hno _ h)
        · exact h
        · exact absurd hy (q2 _ h)
      rw [if_pos hin, hix]
      have heq := eqSt (p := c) (q := c)
      rw [decide_eq_true rfl] at heq
      repeat' (first | refine R.ixK c hy rfl rfl rfl ?_ | refine R.mv rfl ?_ | refine R.reg ?_ | refine R.nil ?_ | refine R.seq ?_ | refine R.nseq ?_ | refine R.nblk ?_ | refine R.skip ?_ | refine R.blk ?_ | refine R.exit rfl ?_ | refine R.ldEp rfl rfl (by assumption) rfl rfl ?_ | refine R.ldaEp rfl rfl (by assumption) (Nat.le_of_ble_eq_true rfl) rfl rfl ?_ | refine R.ld rfl rfl rfl ?_ | refine R.lda rfl rfl (Nat.le_of_ble_eq_true rfl) rfl ?_ | refine R.lenM rfl ?_ | refine R.lenO rfl rfl ?_ | refine R.len rfl rfl ?_ | refine R.lss rfl rfl ?_ | refine R.add rfl rfl (by omega) ?_ | refine R.ixN rfl rfl rfl (by omega) (fun a ha => ?_) | refine R.ixM rfl rfl rfl (by omega) (fun a ha => ?_) | refine R.ixON rfl rfl rfl (by first | omega | (simp; omega)) (fun a' ha' => ?_) | refine R.ixO rfl rfl rfl (by first | omega | (simp; omega)) (fun a' ha' => ?_) | refine R.box rfl rfl rfl ?_ | refine R.eqs rfl rfl rfl rfl rfl ?_ | refine R.neqs rfl rfl rfl rfl rfl ?_ | refine R.condT rfl ?_ | refine R.condF rfl ?_ | refine R.cond rfl (fun hc => ?_) (fun hc => ?_) | refine R.condN rfl (fun hc => ?_) (fun hc => ?_) | refine R.condB rfl (fun hc => ?_) (fun hc => ?_))
      all_goals first
        | (exfalso; omega)
        | (exfalso; have h2 := hc; rw [show _ = true from heq] at h2; cases h2; done)
        | exact R.ret ⟨.inr rfl, R.outI rfl rfl rfl⟩
        | skip
    · have heq := eqSt (p := c) (q := y)
      rw [decide_eq_false hyc] at heq
      repeat' (first | refine R.ixK y hy rfl rfl rfl ?_ | refine R.mv rfl ?_ | refine R.reg ?_ | refine R.nil ?_ | refine R.seq ?_ | refine R.nseq ?_ | refine R.nblk ?_ | refine R.skip ?_ | refine R.blk ?_ | refine R.exit rfl ?_ | refine R.ldEp rfl rfl (by assumption) rfl rfl ?_ | refine R.ldaEp rfl rfl (by assumption) (Nat.le_of_ble_eq_true rfl) rfl rfl ?_ | refine R.ld rfl rfl rfl ?_ | refine R.lda rfl rfl (Nat.le_of_ble_eq_true rfl) rfl ?_ | refine R.lenM rfl ?_ | refine R.lenO rfl rfl ?_ | refine R.len rfl rfl ?_ | refine R.lss rfl rfl ?_ | refine R.add rfl rfl (by omega) ?_ | refine R.ixN rfl rfl rfl (by omega) (fun a ha => ?_) | refine R.ixM rfl rfl rfl (by omega) (fun a ha => ?_) | refine R.ixON rfl rfl rfl (by first | omega | (simp; omega)) (fun a' ha' => ?_) | refine R.ixO rfl rfl rfl (by first | omega | (simp; omega)) (fun a' ha' => ?_) | refine R.box rfl rfl rfl ?_ | refine R.eqs rfl rfl rfl rfl rfl ?_ | refine R.neqs rfl rfl rfl rfl rfl ?_ | refine R.condT rfl ?_ | refine R.condF rfl ?_ | refine R.cond rfl (fun hc => ?_) (fun hc => ?_) | refine R.condN rfl (fun hc => ?_) (fun hc => ?_) | refine R.condB rfl (fun hc => ?_) (fun hc => ?_))
      all_goals first
        | (exfalso; omega)
        | (exfalso; have h2 := hc; rw [show _ = false from heq] at h2; cases h2; done)
        | exact R.nloop (R.again (i + 1) ⟨by omega, fun j hj => by
            rcases Nat.lt_or_ge j i with h | h
            · exact hno j h
            · obtain rfl : j = i := by omega
              rw [hy]; exact fun e => hyc (Option.some.inj e).symm⟩ (by omega) ⟨rfl, rfl, rfl, rfl, trivial⟩ ⟨rfl, trivial⟩ rfl rfl)
        | skip
  obtain rfl : i = l.length := by omega
  have hout : c ∉ l := fun hin => by
    obtain ⟨j, hj⟩ := List.getElem?_of_mem hin
    exact hno j (List.getElem?_eq_some_iff.1 hj).1 hj
  rw [if_neg hout]
  repeat' (first | refine R.mv rfl ?_ | refine R.reg ?_ | refine R.nil ?_ | refine R.seq ?_ | refine R.nseq ?_ | refine R.nblk ?_ | refine R.skip ?_ | refine R.blk ?_ | refine R.exit rfl ?_ | refine R.ldEp rfl rfl (by assumption) rfl rfl ?_ | refine R.ldaEp rfl rfl (by assumption) (Nat.le_of_ble_eq_true rfl) rfl rfl ?_ | refine R.ld rfl rfl rfl ?_ | refine R.lda rfl rfl (Nat.le_of_ble_eq_true rfl) rfl ?_ | refine R.lenM rfl ?_ | refine R.lenO rfl rfl ?_ | refine R.len rfl rfl ?_ | refine R.lss rfl rfl ?_ | refine R.add rfl rfl (by omega) ?_ | refine R.ixN rfl rfl rfl (by omega) (fun a ha => ?_) | refine R.ixM rfl rfl rfl (by omega) (fun a ha => ?_) | refine R.ixON rfl rfl rfl (by first | omega | (simp; omega)) (fun a' ha' => ?_) | refine R.ixO rfl rfl rfl (by first | omega | (simp; omega)) (fun a' ha' => ?_) | refine R.box rfl rfl rfl ?_ | refine R.eqs rfl rfl rfl rfl rfl ?_ | refine R.neqs rfl rfl rfl rfl rfl ?_ | refine R.condT rfl ?_ | refine R.condF rfl ?_ | refine R.cond rfl (fun hc => ?_) (fun hc => ?_) | refine R.condN rfl (fun hc => ?_) (fun hc => ?_) | refine R.condB rfl (fun hc => ?_) (fun hc => ?_))
  all_goals first | (exfalso; omega) | exact R.ret ⟨.inr rfl, R.outI rfl rfl rfl⟩ | skip
theorem lib_containsS (l : List TStrip) (c : TStrip) (hl : l.length ≤ 1000) : Spec Tryd.prog 46 [vL kSt (l.map enSt), .agg (enSt c)] (oB (decide (c ∈ l))) := by
  have hI := lib_indexS l c hl
  refine Spec.walk T.mixed Tryd.func46 S.ok46 (by simp [Tryd.f46]) fun hk => ?_
  clear hk
  unfold S.s46
  by_cases h : c ∈ l
  · rw [if_pos h] at hI
    rw [decide_eq_true h]
    repeat' (first | refine R.mv rfl ?_ | refine R.reg ?_ | refine R.nil ?_ | refine R.seq ?_ | refine R.nseq ?_ | refine R.nblk ?_ | refine R.skip ?_ | refine R.blk ?_ | refine R.exit rfl ?_ | refine R.ldEp rfl rfl (by assumption) rfl rfl ?_ | refine R.ldaEp rfl rfl (by assumption) (Nat.le_of_ble_eq_true rfl) rfl rfl ?_ | refine R.ld rfl rfl rfl ?_ | refine R.lda rfl rfl (Nat.le_of_ble_eq_true rfl) rfl ?_ | refine R.geq rfl rfl ?_ | refine R.box rfl rfl rfl ?_ | refine R.condT rfl ?_ | refine R.condF rfl ?_ | refine R.call (bor := false) rfl rfl (hI) rfl rfl rfl ?_ | refine R.call (bor := true) rfl rfl (hI) rfl rfl rfl ?_ | refine R.fcal (bor := false) rfl rfl (hI) rfl rfl rfl ?_ | refine R.fcal (bor := true) rfl rfl (hI) rfl rfl rfl ?_ | refine R.cond rfl (fun hc => ?_) (fun hc => ?_) | refine R.condN rfl (fun hc => ?_) (fun hc => ?_) | refine R.condB rfl (fun hc => ?_) (fun hc => ?_))
    refine R.ret ⟨.inr rfl, R.outB rfl rfl ?_⟩
    exact decide_eq_true (by omega)
  · rw [if_neg h] at hI
    rw [decide_eq_false h]
    repeat' (first | refine R.mv rfl ?_ | refine R.reg ?_ | refine R.nil ?_ | refine R.seq ?_ | refine R.nseq ?_ | refine R.nblk ?_ | refine R.skip ?_ | refine R.blk ?_ | refine R.exit rfl ?_ | refine R.ldEp rfl rfl (by assumption) rfl rfl ?_ | refine R.ldaEp rfl rfl (by assumption) (Nat.le_of_ble_eq_true rfl) rfl rfl ?_ | refine R.ld rfl rfl rfl ?_ | refine R.lda rfl rfl (Nat.le_of_ble_eq_true rfl) rfl ?_ | refine R.geq rfl rfl ?_ | refine R.box rfl rfl rfl ?_ | refine R.condT rfl ?_ | refine R.condF rfl ?_ | refine R.call (bor := false) rfl rfl (hI) rfl rfl rfl ?_ | refine R.call (bor := true) rfl rfl (hI) rfl rfl rfl ?_ | refine R.fcal (bor := false) rfl rfl (hI) rfl rfl rfl ?_ | refine R.fcal (bor := true) rfl rfl (hI) rfl rfl rfl ?_ | refine R.cond rfl (fun hc => ?_) (fun hc => ?_) | refine R.condN rfl (fun hc => ?_) (fun hc => ?_) | refine R.condB rfl (fun hc => ?_) (fun hc => ?_))
    refine R.ret ⟨.inr rfl, R.outB rfl rfl ?_⟩
    exact decide_eq_false (by omega)
theorem iBefore (st : List TStrip) (hst : ∀ s ∈ st, okSt s) (hl : st.length ≤ 100) : Spec Tryd.prog 22 [vL kSt (st.map enSt)] (oN kSt ((bef st).map enSt)) := by
  refine Spec.walk T.mixed Tryd.func22 S.ok22 (by simp [Tryd.f22]) fun hk => ?_
  clear hk
  unfold S.s22
  repeat' (first | refine R.mv rfl ?_ | refine R.reg ?_ | refine R.nil ?_ | refine R.seq ?_ | refine R.nseq ?_ | refine R.nblk ?_ | refine R.skip ?_ | refine R.blk ?_ | refine R.exit rfl ?_ | refine R.ldEp rfl rfl (by assumption) rfl rfl ?_ | refine R.ldaEp rfl rfl (by assumption) (Nat.le_of_ble_eq_true rfl) rfl rfl ?_ | refine R.ld rfl rfl rfl ?_ | refine R.lda rfl rfl (Nat.le_of_ble_eq_true rfl) rfl ?_ | refine R.lenM rfl ?_ | refine R.lenO rfl rfl ?_ | refine R.len rfl rfl ?_ | refine R.lss rfl rfl ?_ | refine R.add rfl rfl (by omega) ?_ | refine R.ixN rfl rfl rfl (by omega) (fun a ha => ?_) | refine R.ixM rfl rfl rfl (by omega) (fun a ha => ?_) | refine R.ixON rfl rfl rfl (by first | omega | (simp; omega)) (fun a' ha' => ?_) | refine R.ixO rfl rfl rfl (by first | omega | (simp; omega)) (fun a' ha' => ?_) | refine R.not rfl ?_ | refine R.al rfl ?_ | refine R.stoB rfl rfl rfl rfl ⟨rfl, rfl, Nat.le_of_ble_eq_true rfl⟩ rfl ?_ | refine R.stoE _ rfl rfl rfl rfl rfl (by assumption) rfl ⟨rfl, rfl, Nat.le_of_ble_eq_true rfl⟩ ?_ | refine R.condT rfl ?_ | refine R.condF rfl ?_ | refine R.cond rfl (fun hc => ?_) (fun hc => ?_) | refine R.condN rfl (fun hc => ?_) (fun hc => ?_) | refine R.condB rfl (fun hc => ?_) (fun hc => ?_))
  all_goals first | (exfalso; omega) | skip
  refine R.loop (G := Nat) (fun i => [(3, .v (.c (.own 3))), (8, rdA kSt (st.map enSt)), (9, pvA (.int .i64 st.length)), (10, pvA (.int .i64 i))]) (fun i => [(3, .arr kSt ((((st.take i).flatMap prt).foldl putS []).map enSt) [])]) (fun i => i ≤ st.length) (fun i => st.length - i) 0 (Nat.zero_le _) (Weak.trans (Weak.reify 3 3 kSt rfl rfl) (Weak.frame _ _ ⟨rfl, rfl, rfl, rfl, trivial⟩ ⟨rfl, trivial⟩ rfl rfl)) fun i hi => ?_
  by_cases hil : i < st.length
  · obtain ⟨s, hs⟩ : ∃ s, st[i]? = some s := ⟨_, List.getElem?_eq_getElem hil⟩
    have hok := hst s (List.mem_of_getElem? hs)
    have hP := iParts s hok
    have hpl := prt_len s
    have hsn := flat_snoc hs
    repeat' (first | refine R.ixK s hs rfl rfl rfl ?_ | refine R.mv rfl ?_ | refine R.reg ?_ | refine R.nil ?_ | refine R.seq ?_ | refine R.nseq ?_ | refine R.nblk ?_ | refine R.skip ?_ | refine R.blk ?_ | refine R.exit rfl ?_ | refine R.ldEp rfl rfl (by assumption) rfl rfl ?_ | refine R.ldaEp rfl rfl (by assumption) (Nat.le_of_ble_eq_true rfl) rfl rfl ?_ | refine R.ld rfl rfl rfl ?_ | refine R.lda rfl rfl (Nat.le_of_ble_eq_true rfl) rfl ?_ | refine R.lenM rfl ?_ | refine R.lenO rfl rfl ?_ | refine R.len rfl rfl ?_ | refine R.lss rfl rfl ?_ | refine R.add rfl rfl (by omega) ?_ | refine R.ixN rfl rfl rfl (by omega) (fun a ha => ?_) | refine R.ixM rfl rfl rfl (by omega) (fun a ha => ?_) | refine R.ixON rfl rfl rfl (by first | omega | (simp; omega)) (fun a' ha' => ?_) | refine R.ixO rfl rfl rfl (by first | omega | (simp; omega)) (fun a' ha' => ?_) | refine R.not rfl ?_ | refine R.al rfl ?_ | refine R.stoB rfl rfl rfl rfl ⟨rfl, rfl, Nat.le_of_ble_eq_true rfl⟩ rfl ?_ | refine R.stoE _ rfl rfl rfl rfl rfl (by assumption) rfl ⟨rfl, rfl, Nat.le_of_ble_eq_true rfl⟩ ?_ | refine R.condT rfl ?_ | refine R.condF rfl ?_ | refine R.callN1 (bor := false) rfl rfl (hP) rfl rfl ?_ | refine R.callN1 (bor := true) rfl rfl (hP) rfl rfl ?_ | refine R.callN (bor := false) rfl rfl (hP) rfl rfl rfl rfl rfl ?_ | refine R.callN (bor := true) rfl rfl (hP) rfl rfl rfl rfl rfl ?_ | refine R.cond rfl (fun hc => ?_) (fun hc => ?_) | refine R.condN rfl (fun hc => ?_) (fun hc => ?_) | refine R.condB rfl (fun hc => ?_) (fun hc => ?_))
    all_goals first | (exfalso; omega) | skip
    have hbl : (((st.take i).flatMap prt).foldl putS []).length ≤ 200 := by
      have h1 := fold_len ((st.take i).flatMap prt) []
      have h2 := flat_prt_len (st.take i)
      rw [List.length_take] at h2
      simp only [List.length_nil] at h1
      omega
    have hfo : ((st.take (i + 1)).flatMap prt).foldl putS [] = (prt s).foldl putS (((st.take i).flatMap prt).foldl putS []) := by rw [flat_snoc hs, List.foldl_append]
    generalize ((st.take i).flatMap prt).foldl putS [] = ob at *
    refine R.loop (G := Nat) (fun j => [(3, .v (.c (.own 3))), (8, rdA kSt (st.map enSt)), (9, pvA (.int .i64 st.length)), (10, pvA (.int .i64 i)), (15, rdA kSt ((prt s).map enSt)), (16, pvA (.int .i64 (prt s).length)), (17, pvA (.int .i64 j))]) (fun j => [(3, .arr kSt ((((prt s).take j).foldl putS ob).map enSt) [])]) (fun j => j ≤ (prt s).length) (fun j => (prt s).length - j) 0 (Nat.zero_le _) (Weak.trans (Weak.freeze 17000 rfl rfl) (Weak.frame _ _ ⟨rfl, rfl, rfl, rfl, rfl, rfl, rfl, trivial⟩ ⟨rfl, trivial⟩ rfl rfl)) fun j hj => ?_
    have hcl : (((prt s).take j).foldl putS ob).length ≤ 300 := by
      have h1 := fold_len ((prt s).take j) ob
      rw [List.length_take] at h1
      omega
    by_cases hjl : j < (prt s).length
    · obtain ⟨q, hq⟩ : ∃ q, (prt s)[j]? = some q := ⟨_, List.getElem?_eq_getElem hjl⟩
      have hsq := fold_snoc (l := ob) hq
      generalize ((prt s).take j).foldl putS ob = oc at *
      have hC := lib_containsS oc q (by omega)
      by_cases hin : q ∈ oc
      · rw [decide_eq_true hin] at hC
        rw [show putS oc q = oc from if_pos hin] at hsq
        repeat' (first | refine R.ixK q hq rfl rfl rfl ?_ | refine R.mv rfl ?_ | refine R.reg ?_ | refine R.nil ?_ | refine R.seq ?_ | refine R.nseq ?_ | refine R.nblk ?_ | refine R.skip ?_ | refine R.blk ?_ | refine R.exit rfl ?_ | refine R.ldEp rfl rfl (by assumption) rfl rfl ?_ | refine R.ldaEp rfl rfl (by assumption) (Nat.le_of_ble_eq_true rfl) rfl rfl ?_ | refine R.ld rfl rfl rfl ?_ | refine R.lda rfl rfl (Nat.le_of_ble_eq_true rfl) rfl ?_ | refine R.lenM rfl ?_ | refine R.lenO rfl rfl ?_ | refine R.len rfl rfl ?_ | refine R.lss rfl rfl ?_ | refine R.add rfl rfl (by omega) ?_ | refine R.ixN rfl rfl rfl (by omega) (fun a ha => ?_) | refine R.ixM rfl rfl rfl (by omega) (fun a ha => ?_) | refine R.ixON rfl rfl rfl (by first | omega | (simp; omega)) (fun a' ha' => ?_) | refine R.ixO rfl rfl rfl (by first | omega | (simp; omega)) (fun a' ha' => ?_) | refine R.not rfl ?_ | refine R.al rfl ?_ | refine R.stoB rfl rfl rfl rfl ⟨rfl, rfl, Nat.le_of_ble_eq_true rfl⟩ rfl ?_ | refine R.stoE _ rfl rfl rfl rfl rfl (by assumption) rfl ⟨rfl, rfl, Nat.le_of_ble_eq_true rfl⟩ ?_ | refine R.condT rfl ?_ | refine R.condF rfl ?_ | refine R.call (bor := false) rfl rfl (hC) rfl rfl rfl ?_ | refine R.call (bor := true) rfl rfl (hC) rfl rfl rfl ?_ | refine R.fcal (bor := false) rfl rfl (hC) rfl rfl rfl ?_ | refine R.fcal (bor := true) rfl rfl (hC) rfl rfl rfl ?_ | refine R.cond rfl (fun hc => ?_) (fun hc => ?_) | refine R.condN rfl (fun hc => ?_) (fun hc => ?_) | refine R.condB rfl (fun hc => ?_) (fun hc => ?_))
        all_goals first
          | (exfalso; omega)
          | exact R.nloop (R.again (j + 1) (by omega) (by omega) ⟨rfl, rfl, rfl, rfl, rfl, rfl, rfl, trivial⟩ ⟨arr_eq (by rw [hsq]), trivial⟩ rfl rfl)
          | skip
      · rw [decide_eq_false hin] at hC
        rw [show putS oc q = oc ++ [q] from if_neg hin] at hsq
        have hap : (oc.length + [q].length) * 24 ≤ 140737488355328 ∧ oc.length + [q].length ≤ 140737488355328 := by rw [List.length_singleton]; omega
        repeat' (first | refine R.ixK q hq rfl rfl rfl ?_ | refine R.mv rfl ?_ | refine R.reg ?_ | refine R.nil ?_ | refine R.seq ?_ | refine R.nseq ?_ | refine R.nblk ?_ | refine R.skip ?_ | refine R.blk ?_ | refine R.exit rfl ?_ | refine R.ldEp rfl rfl (by assumption) rfl rfl ?_ | refine R.ldaEp rfl rfl (by assumption) (Nat.le_of_ble_eq_true rfl) rfl rfl ?_ | refine R.ld rfl rfl rfl ?_ | refine R.lda rfl rfl (Nat.le_of_ble_eq_true rfl) rfl ?_ | refine R.lenM rfl ?_ | refine R.lenO rfl rfl ?_ | refine R.len rfl rfl ?_ | refine R.lss rfl rfl ?_ | refine R.add rfl rfl (by omega) ?_ | refine R.ixN rfl rfl rfl (by omega) (fun a ha => ?_) | refine R.ixM rfl rfl rfl (by omega) (fun a ha => ?_) | refine R.ixON rfl rfl rfl (by first | omega | (simp; omega)) (fun a' ha' => ?_) | refine R.ixO rfl rfl rfl (by first | omega | (simp; omega)) (fun a' ha' => ?_) | refine R.not rfl ?_ | refine R.al rfl ?_ | refine R.stoB rfl rfl rfl rfl ⟨rfl, rfl, Nat.le_of_ble_eq_true rfl⟩ rfl ?_ | refine R.stoE _ rfl rfl rfl rfl rfl (by assumption) rfl ⟨rfl, rfl, Nat.le_of_ble_eq_true rfl⟩ ?_ | refine R.condT rfl ?_ | refine R.condF rfl ?_ | refine R.call (bor := false) rfl rfl (hC) rfl rfl rfl ?_ | refine R.call (bor := true) rfl rfl (hC) rfl rfl rfl ?_ | refine R.fcal (bor := false) rfl rfl (hC) rfl rfl rfl ?_ | refine R.fcal (bor := true) rfl rfl (hC) rfl rfl rfl ?_ | refine R.bsl (f := enSt) [q] rfl rfl rfl rfl rfl ?_ | refine R.app (f := enSt) (fun _ => rfl) rfl rfl rfl rfl rfl hap ?_ | refine R.cond rfl (fun hc => ?_) (fun hc => ?_) | refine R.condN rfl (fun hc => ?_) (fun hc => ?_) | refine R.condB rfl (fun hc => ?_) (fun hc => ?_))
        all_goals first
          | (exfalso; omega)
          | exact R.nloop (R.again (j + 1) (by omega) (by omega) ⟨rfl, rfl, rfl, rfl, rfl, rfl, rfl, trivial⟩ ⟨arr_eq (by rw [hsq]), trivial⟩ rfl rfl)
          | skip
    obtain rfl : j = (prt s).length := by omega
    rw [List.take_length, ← hfo]
    repeat' (first | refine R.mv rfl ?_ | refine R.reg ?_ | refine R.nil ?_ | refine R.seq ?_ | refine R.nseq ?_ | refine R.nblk ?_ | refine R.skip ?_ | refine R.blk ?_ | refine R.exit rfl ?_ | refine R.ldEp rfl rfl (by assumption) rfl rfl ?_ | refine R.ldaEp rfl rfl (by assumption) (Nat.le_of_ble_eq_true rfl) rfl rfl ?_ | refine R.ld rfl rfl rfl ?_ | refine R.lda rfl rfl (Nat.le_of_ble_eq_true rfl) rfl ?_ | refine R.lenM rfl ?_ | refine R.lenO rfl rfl ?_ | refine R.len rfl rfl ?_ | refine R.lss rfl rfl ?_ | refine R.add rfl rfl (by omega) ?_ | refine R.ixN rfl rfl rfl (by omega) (fun a ha => ?_) | refine R.ixM rfl rfl rfl (by omega) (fun a ha => ?_) | refine R.ixON rfl rfl rfl (by first | omega | (simp; omega)) (fun a' ha' => ?_) | refine R.ixO rfl rfl rfl (by first | omega | (simp; omega)) (fun a' ha' => ?_) | refine R.not rfl ?_ | refine R.al rfl ?_ | refine R.stoB rfl rfl rfl rfl ⟨rfl, rfl, Nat.le_of_ble_eq_true rfl⟩ rfl ?_ | refine R.stoE _ rfl rfl rfl rfl rfl (by assumption) rfl ⟨rfl, rfl, Nat.le_of_ble_eq_true rfl⟩ ?_ | refine R.condT rfl ?_ | refine R.condF rfl ?_ | refine R.cond rfl (fun hc => ?_) (fun hc => ?_) | refine R.condN rfl (fun hc => ?_) (fun hc => ?_) | refine R.condB rfl (fun hc => ?_) (fun hc => ?_))
    all_goals first
      | (exfalso; omega)
      | exact R.nloop (R.again (i + 1) (by omega) (by omega) ⟨rfl, rfl, rfl, rfl, trivial⟩ ⟨rfl, trivial⟩ rfl rfl)
      | skip
  obtain rfl : i = st.length := by omega
  rw [List.take_length]
  repeat' (first | refine R.mv rfl ?_ | refine R.reg ?_ | refine R.nil ?_ | refine R.seq ?_ | refine R.nseq ?_ | refine R.nblk ?_ | refine R.skip ?_ | refine R.blk ?_ | refine R.exit rfl ?_ | refine R.ldEp rfl rfl (by assumption) rfl rfl ?_ | refine R.ldaEp rfl rfl (by assumption) (Nat.le_of_ble_eq_true rfl) rfl rfl ?_ | refine R.ld rfl rfl rfl ?_ | refine R.lda rfl rfl (Nat.le_of_ble_eq_true rfl) rfl ?_ | refine R.lenM rfl ?_ | refine R.lenO rfl rfl ?_ | refine R.len rfl rfl ?_ | refine R.lss rfl rfl ?_ | refine R.add rfl rfl (by omega) ?_ | refine R.ixN rfl rfl rfl (by omega) (fun a ha => ?_) | refine R.ixM rfl rfl rfl (by omega) (fun a ha => ?_) | refine R.ixON rfl rfl rfl (by first | omega | (simp; omega)) (fun a' ha' => ?_) | refine R.ixO rfl rfl rfl (by first | omega | (simp; omega)) (fun a' ha' => ?_) | refine R.not rfl ?_ | refine R.al rfl ?_ | refine R.stoB rfl rfl rfl rfl ⟨rfl, rfl, Nat.le_of_ble_eq_true rfl⟩ rfl ?_ | refine R.stoE _ rfl rfl rfl rfl rfl (by assumption) rfl ⟨rfl, rfl, Nat.le_of_ble_eq_true rfl⟩ ?_ | refine R.condT rfl ?_ | refine R.condF rfl ?_ | refine R.cond rfl (fun hc => ?_) (fun hc => ?_) | refine R.condN rfl (fun hc => ?_) (fun hc => ?_) | refine R.condB rfl (fun hc => ?_) (fun hc => ?_))
  all_goals first | (exfalso; omega) | exact R.ret ⟨.inr rfl, R.outN rfl rfl rfl⟩ | skip
theorem lib_indexStrip {l : List TStrip} {g : FuncId} {caps : List D} {p : TStrip → Bool} (h : ∀ a ∈ l, Spec Tryd.prog g ([.agg (enSt a)] ++ caps.map .c) (oB (p a))) : Spec Tryd.prog 42 [vL kSt (l.map enSt), .c (.fn g caps)] (oI (idxOf p l)) := by
  refine Spec.walk T.mixed Tryd.func42 S.ok42 (by simp [Tryd.f42]) fun hk => ?_
  have hlen := (K.c hk 0 rfl).lenM
  unfold S.s42
  repeat' (first | refine R.mv rfl ?_ | refine R.reg ?_ | refine R.nil ?_ | refine R.seq ?_ | refine R.nseq ?_ | refine R.nblk ?_ | refine R.skip ?_ | refine R.blk ?_ | refine R.exit rfl ?_ | refine R.ldEp rfl rfl (by assumption) rfl rfl ?_ | refine R.ldaEp rfl rfl (by assumption) (Nat.le_of_ble_eq_true rfl) rfl rfl ?_ | refine R.ld rfl rfl rfl ?_ | refine R.lda rfl rfl (Nat.le_of_ble_eq_true rfl) rfl ?_ | refine R.lenM rfl ?_ | refine R.lenO rfl rfl ?_ | refine R.len rfl rfl ?_ | refine R.lss rfl rfl ?_ | refine R.add rfl rfl (by omega) ?_ | refine R.ixN rfl rfl rfl (by omega) (fun a ha => ?_) | refine R.ixM rfl rfl rfl (by omega) (fun a ha => ?_) | refine R.ixON rfl rfl rfl (by first | omega | (simp; omega)) (fun a' ha' => ?_) | refine R.ixO rfl rfl rfl (by first | omega | (simp; omega)) (fun a' ha' => ?_) | refine R.condT rfl ?_ | refine R.condF rfl ?_ | refine R.cond rfl (fun hc => ?_) (fun hc => ?_) | refine R.condN rfl (fun hc => ?_) (fun hc => ?_) | refine R.condB rfl (fun hc => ?_) (fun hc => ?_))
  refine R.loop (G := Nat) (fun i => [(0, rdA kSt (l.map enSt)), (1, .v (.c (.d (.fn g caps)))), (7, pvA (.int .i64 l.length)), (8, pvA (.int .i64 i))]) (fun _ => []) (fun i => i ≤ l.length ∧ ∀ b ∈ l.take i, p b = false) (fun i => l.length - i) 0 ⟨by omega, by simp⟩ (Weak.frame _ _ ⟨rfl, rfl, rfl, rfl, trivial⟩ trivial rfl rfl) fun i hi => ?_
  repeat' (first | refine R.mv rfl ?_ | refine R.reg ?_ | refine R.nil ?_ | refine R.seq ?_ | refine R.nseq ?_ | refine R.nblk ?_ | refine R.skip ?_ | refine R.blk ?_ | refine R.exit rfl ?_ | refine R.ldEp rfl rfl (by assumption) rfl rfl ?_ | refine R.ldaEp rfl rfl (by assumption) (Nat.le_of_ble_eq_true rfl) rfl rfl ?_ | refine R.ld rfl rfl rfl ?_ | refine R.lda rfl rfl (Nat.le_of_ble_eq_true rfl) rfl ?_ | refine R.lenM rfl ?_ | refine R.lenO rfl rfl ?_ | refine R.len rfl rfl ?_ | refine R.lss rfl rfl ?_ | refine R.add rfl rfl (by omega) ?_ | refine R.ixN rfl rfl rfl (by omega) (fun a ha => ?_) | refine R.ixM rfl rfl rfl (by omega) (fun a ha => ?_) | refine R.ixON rfl rfl rfl (by first | omega | (simp; omega)) (fun a' ha' => ?_) | refine R.ixO rfl rfl rfl (by first | omega | (simp; omega)) (fun a' ha' => ?_) | refine R.condT rfl ?_ | refine R.condF rfl ?_ | refine R.cond rfl (fun hc => ?_) (fun hc => ?_) | refine R.condN rfl (fun hc => ?_) (fun hc => ?_) | refine R.condB rfl (fun hc => ?_) (fun hc => ?_))
  · refine R.call (bor := false) rfl rfl (h a (List.mem_of_getElem? ha)) (by simp [VD.v1]) rfl rfl ?_
    repeat' (first | refine R.mv rfl ?_ | refine R.reg ?_ | refine R.nil ?_ | refine R.seq ?_ | refine R.nseq ?_ | refine R.nblk ?_ | refine R.skip ?_ | refine R.blk ?_ | refine R.exit rfl ?_ | refine R.ldEp rfl rfl (by assumption) rfl rfl ?_ | refine R.ldaEp rfl rfl (by assumption) (Nat.le_of_ble_eq_true rfl) rfl rfl ?_ | refine R.ld rfl rfl rfl ?_ | refine R.lda rfl rfl (Nat.le_of_ble_eq_true rfl) rfl ?_ | refine R.lenM rfl ?_ | refine R.lenO rfl rfl ?_ | refine R.len rfl rfl ?_ | refine R.lss rfl rfl ?_ | refine R.add rfl rfl (by omega) ?_ | refine R.ixN rfl rfl rfl (by omega) (fun a ha => ?_) | refine R.ixM rfl rfl rfl (by omega) (fun a ha => ?_) | refine R.ixON rfl rfl rfl (by first | omega | (simp; omega)) (fun a' ha' => ?_) | refine R.ixO rfl rfl rfl (by first | omega | (simp; omega)) (fun a' ha' => ?_) | refine R.condT rfl ?_ | refine R.condF rfl ?_ | refine R.cond rfl (fun hc => ?_) (fun hc => ?_) | refine R.condN rfl (fun hc => ?_) (fun hc => ?_) | refine R.condB rfl (fun hc => ?_) (fun hc => ?_))
    · refine R.ret ⟨.inr rfl, R.outI rfl rfl ?_⟩
      exact (idxOf_some hi.2 ha (by assumption)).symm
    · refine R.nloop (R.again (i + 1) ⟨by omega, ?_⟩ (by omega) ⟨rfl, rfl, rfl, rfl, trivial⟩ trivial rfl rfl)
      rw [take_snoc ha]
      intro b hb
      rcases List.mem_append.1 hb with hb | hb
      · exact hi.2 b hb
      · simp at hb; subst hb; assumption
  · refine R.ret ⟨.inr rfl, R.outI rfl rfl ?_⟩
    have : i = l.length := by omega
    subst this
    exact (idxOf_none (by simpa using hi.2)).symm
theorem lib_anyStrip {l : List TStrip} {g : FuncId} {caps : List D} {p : TStrip → Bool} (h : ∀ a ∈ l, Spec Tryd.prog g ([.agg (enSt a)] ++ caps.map .c) (oB (p a))) : Spec Tryd.prog 19 [vL kSt (l.map enSt), .c (.fn g caps)] (oB (l.any p)) := by
  refine Spec.walk T.mixed Tryd.func19 S.ok19 (by simp [Tryd.f19]) fun hk => ?_
  unfold S.s19
  repeat' (first | refine R.mv rfl ?_ | refine R.reg ?_ | refine R.nil ?_ | refine R.seq ?_ | refine R.nseq ?_ | refine R.nblk ?_ | refine R.skip ?_ | refine R.blk ?_ | refine R.exit rfl ?_ | refine R.geq rfl rfl ?_ | refine R.condT rfl ?_ | refine R.condF rfl ?_ | refine R.cond rfl (fun hc => ?_) (fun hc => ?_) | refine R.condN rfl (fun hc => ?_) (fun hc => ?_) | refine R.condB rfl (fun hc => ?_) (fun hc => ?_))
  refine R.call (bor := false) rfl rfl (lib_indexStrip h) rfl rfl rfl ?_
  repeat' (first | refine R.mv rfl ?_ | refine R.reg ?_ | refine R.nil ?_ | refine R.seq ?_ | refine R.nseq ?_ | refine R.nblk ?_ | refine R.skip ?_ | refine R.blk ?_ | refine R.exit rfl ?_ | refine R.geq rfl rfl ?_ | refine R.condT rfl ?_ | refine R.condF rfl ?_ | refine R.cond rfl (fun hc => ?_) (fun hc => ?_) | refine R.condN rfl (fun hc => ?_) (fun hc => ?_) | refine R.condB rfl (fun hc => ?_) (fun hc => ?_))
  exact R.ret ⟨.inr rfl, R.outB rfl rfl idxOf_any⟩
/-- The mixtures of a stage made from the stage before. -/
def mixS (from' st : List TStrip) : List TMixture := st.map fun s => ⟨frm from' s, []⟩
theorem srt_one (a : Int) : srt [a] = [a] := by simp [srt]
theorem srt_two (a b : Int) : srt [a, b] = [min a b, max a b] := by
  unfold srt
  by_cases h : a ≤ b
  · rw [Int.min_eq_left h, Int.max_eq_right h]
    simp [List.mergeSort, List.MergeSort.Internal.splitInTwo, h]
  · rw [Int.min_eq_right (by omega), Int.max_eq_left (by omega)]
    simp [List.mergeSort, List.MergeSort.Internal.splitInTwo, h]
theorem srt_frm (l : List TStrip) (s : TStrip) : srt ((prt s).map fun p => (ixS l p : Int)) = frm l s := by
  unfold frm prt
  by_cases h : s.m = 1
  · rw [if_pos h]
    exact srt_one _
  · rw [if_neg h]
    exact srt_two _ _
theorem frm_len (l : List TStrip) (s : TStrip) : (frm l s).length ≤ 2 := by
  rw [← srt_frm]
  unfold srt
  rw [List.length_mergeSort, List.length_map]
  exact (prt_len s).2
theorem iMixtures (st fr : List TStrip) (hst : ∀ s ∈ st, okSt s) (hl : st.length ≤ 100) (hf : fr.length ≤ 1000) (hin : ∀ s ∈ st, ∀ p ∈ prt s, p ∈ fr) : Spec Tryd.prog 24 [vL kSt (st.map enSt), vL kSt (fr.map enSt)] (oN kMixture ((mixS fr st).map enMixture)) := by
  refine Spec.walk T.mixed Tryd.func24 S.ok24 (by simp [Tryd.f24]) fun hk => ?_
  clear hk
  unfold S.s24
  repeat' (first | refine R.mv rfl ?_ | refine R.reg ?_ | refine R.nil ?_ | refine R.seq ?_ | refine R.nseq ?_ | refine R.nblk ?_ | refine R.skip ?_ | refine R.blk ?_ | refine R.exit rfl ?_ | refine R.ldEp rfl rfl (by assumption) rfl rfl ?_ | refine R.ldaEp rfl rfl (by assumption) (Nat.le_of_ble_eq_true rfl) rfl rfl ?_ | refine R.ld rfl rfl rfl ?_ | refine R.lda rfl rfl (Nat.le_of_ble_eq_true rfl) rfl ?_ | refine R.fa rfl rfl ?_ | refine R.lenM rfl ?_ | refine R.lenO rfl rfl ?_ | refine R.len rfl rfl ?_ | refine R.lss rfl rfl ?_ | refine R.add rfl rfl (by omega) ?_ | refine R.ixN rfl rfl rfl (by omega) (fun a ha => ?_) | refine R.ixM rfl rfl rfl (by omega) (fun a ha => ?_) | refine R.ixON rfl rfl rfl (by first | omega | (simp; omega)) (fun a' ha' => ?_) | refine R.ixO rfl rfl rfl (by first | omega | (simp; omega)) (fun a' ha' => ?_) | refine R.al rfl ?_ | refine R.stoB rfl rfl rfl rfl ⟨rfl, rfl, Nat.le_of_ble_eq_true rfl⟩ rfl ?_ | refine R.stoE _ rfl rfl rfl rfl rfl (by assumption) rfl ⟨rfl, rfl, Nat.le_of_ble_eq_true rfl⟩ ?_ | refine R.condT rfl ?_ | refine R.condF rfl ?_ | refine R.cond rfl (fun hc => ?_) (fun hc => ?_) | refine R.condN rfl (fun hc => ?_) (fun hc => ?_) | refine R.condB rfl (fun hc => ?_) (fun hc => ?_))
  all_goals first | (exfalso; omega) | skip
  refine R.loop (G := Nat) (fun i => [(1, rdA kSt (fr.map enSt)), (5, .v (.c (.own 5))), (11, rdA kSt (st.map enSt)), (12, pvA (.int .i64 st.length)), (13, pvA (.int .i64 i))]) (fun i => [(5, .arr kMixture ((mixS fr (st.take i)).map enMixture) [])]) (fun i => i ≤ st.length) (fun i => st.length - i) 0 (Nat.zero_le _) (Weak.trans (Weak.reify 5 5 kMixture rfl rfl) (Weak.frame _ _ ⟨rfl, rfl, rfl, rfl, rfl, trivial⟩ ⟨rfl, trivial⟩ rfl rfl)) fun i hi => ?_
  have hml : (mixS fr (st.take i)).length ≤ i := by unfold mixS; rw [List.length_map, List.length_take]; omega
  by_cases hil : i < st.length
  · obtain ⟨s, hs⟩ : ∃ s, st[i]? = some s := ⟨_, List.getElem?_eq_getElem hil⟩
    have hok := hst s (List.mem_of_getElem? hs)
    have hP := iParts s hok
    have hpl := prt_len s
    have hpin := hin s (List.mem_of_getElem? hs)
    have hsn : mixS fr (st.take (i + 1)) = mixS fr (st.take i) ++ [⟨frm fr s, []⟩] := by unfold mixS; rw [take_snoc hs, List.map_append]; rfl
    generalize mixS fr (st.take i) = ms at *
    have hsf := srt_frm fr s
    repeat' (first | refine R.ixK s hs rfl rfl rfl ?_ | refine R.mv rfl ?_ | refine R.reg ?_ | refine R.nil ?_ | refine R.seq ?_ | refine R.nseq ?_ | refine R.nblk ?_ | refine R.skip ?_ | refine R.blk ?_ | refine R.exit rfl ?_ | refine R.ldEp rfl rfl (by assumption) rfl rfl ?_ | refine R.ldaEp rfl rfl (by assumption) (Nat.le_of_ble_eq_true rfl) rfl rfl ?_ | refine R.ld rfl rfl rfl ?_ | refine R.lda rfl rfl (Nat.le_of_ble_eq_true rfl) rfl ?_ | refine R.fa rfl rfl ?_ | refine R.lenM rfl ?_ | refine R.lenO rfl rfl ?_ | refine R.len rfl rfl ?_ | refine R.lss rfl rfl ?_ | refine R.add rfl rfl (by omega) ?_ | refine R.ixN rfl rfl rfl (by omega) (fun a ha => ?_) | refine R.ixM rfl rfl rfl (by omega) (fun a ha => ?_) | refine R.ixON rfl rfl rfl (by first | omega | (simp; omega)) (fun a' ha' => ?_) | refine R.ixO rfl rfl rfl (by first | omega | (simp; omega)) (fun a' ha' => ?_) | refine R.al rfl ?_ | refine R.stoB rfl rfl rfl rfl ⟨rfl, rfl, Nat.le_of_ble_eq_true rfl⟩ rfl ?_ | refine R.stoE _ rfl rfl rfl rfl rfl (by assumption) rfl ⟨rfl, rfl, Nat.le_of_ble_eq_true rfl⟩ ?_ | refine R.condT rfl ?_ | refine R.condF rfl ?_ | refine R.callN1 (bor := false) rfl rfl (hP) rfl rfl ?_ | refine R.callN1 (bor := true) rfl rfl (hP) rfl rfl ?_ | refine R.callN (bor := false) rfl rfl (hP) rfl rfl rfl rfl rfl ?_ | refine R.callN (bor := true) rfl rfl (hP) rfl rfl rfl rfl rfl ?_ | refine R.cond rfl (fun hc => ?_) (fun hc => ?_) | refine R.condN rfl (fun hc => ?_) (fun hc => ?_) | refine R.condB rfl (fun hc => ?_) (fun hc => ?_))
    all_goals first | (exfalso; omega) | skip
    refine R.loop (G := Nat) (fun j => [(1, rdA kSt (fr.map enSt)), (5, .v (.c (.own 5))), (8, .v (.c (.ptr 8 0))), (11, rdA kSt (st.map enSt)), (12, pvA (.int .i64 st.length)), (13, pvA (.int .i64 i)), (18, rdA kSt ((prt s).map enSt)), (19, pvA (.int .i64 (prt s).length)), (20, pvA (.int .i64 j))]) (fun j => [(5, .arr kMixture (ms.map enMixture) []), (8, .box 53 [.own 900, .own 901]), (900, .arr kI (ints (((prt s).take j).map fun p => (ixS fr p : Int))) []), (901, .arr kI (ints []) [])]) (fun j => j ≤ (prt s).length) (fun j => (prt s).length - j) 0 (Nat.zero_le _) (Weak.trans (Weak.freeze 20000 rfl rfl) (Weak.trans (Weak.reifyBox 8 0 900 kI rfl rfl rfl) (Weak.trans (Weak.reifyBox 8 1 901 kI rfl rfl rfl) (Weak.frame _ _ ⟨rfl, rfl, rfl, rfl, rfl, rfl, rfl, rfl, rfl, trivial⟩ ⟨rfl, rfl, rfl, rfl, trivial⟩ rfl rfl)))) fun j hj => ?_
    by_cases hjl : j < (prt s).length
    · obtain ⟨q, hq⟩ : ∃ q, (prt s)[j]? = some q := ⟨_, List.getElem?_eq_getElem hjl⟩
      have hI := lib_indexS fr q hf
      rw [if_pos (hpin q (List.mem_of_getElem? hq))] at hI
      have hsj : ((prt s).take (j + 1)).map (fun p => (ixS fr p : Int)) = ((prt s).take j).map (fun p => (ixS fr p : Int)) ++ [(ixS fr q : Int)] := by rw [take_snoc hq, List.map_append]; rfl
      have hlj : (((prt s).take j).map fun p => (ixS fr p : Int)).length ≤ j := by rw [List.length_map, List.length_take]; omega
      generalize ((prt s).take j).map (fun p => (ixS fr p : Int)) = ol at *
      have hap : (ol.length + [(ixS fr q : Int)].length) * 8 ≤ 140737488355328 ∧ ol.length + [(ixS fr q : Int)].length ≤ 140737488355328 := by rw [List.length_singleton]; omega
      repeat' (first | refine R.ixK q hq rfl rfl rfl ?_ | refine R.mv rfl ?_ | refine R.reg ?_ | refine R.nil ?_ | refine R.seq ?_ | refine R.nseq ?_ | refine R.nblk ?_ | refine R.skip ?_ | refine R.blk ?_ | refine R.exit rfl ?_ | refine R.ldEp rfl rfl (by assumption) rfl rfl ?_ | refine R.ldaEp rfl rfl (by assumption) (Nat.le_of_ble_eq_true rfl) rfl rfl ?_ | refine R.ld rfl rfl rfl ?_ | refine R.lda rfl rfl (Nat.le_of_ble_eq_true rfl) rfl ?_ | refine R.fa rfl rfl ?_ | refine R.lenM rfl ?_ | refine R.lenO rfl rfl ?_ | refine R.len rfl rfl ?_ | refine R.lss rfl rfl ?_ | refine R.add rfl rfl (by omega) ?_ | refine R.ixN rfl rfl rfl (by omega) (fun a ha => ?_) | refine R.ixM rfl rfl rfl (by omega) (fun a ha => ?_) | refine R.ixON rfl rfl rfl (by first | omega | (simp; omega)) (fun a' ha' => ?_) | refine R.ixO rfl rfl rfl (by first | omega | (simp; omega)) (fun a' ha' => ?_) | refine R.al rfl ?_ | refine R.stoB rfl rfl rfl rfl ⟨rfl, rfl, Nat.le_of_ble_eq_true rfl⟩ rfl ?_ | refine R.stoE _ rfl rfl rfl rfl rfl (by assumption) rfl ⟨rfl, rfl, Nat.le_of_ble_eq_true rfl⟩ ?_ | refine R.condT rfl ?_ | refine R.condF rfl ?_ | refine R.call (bor := false) rfl rfl (hI) rfl rfl rfl ?_ | refine R.call (bor := true) rfl rfl (hI) rfl rfl rfl ?_ | refine R.fcal (bor := false) rfl rfl (hI) rfl rfl rfl ?_ | refine R.fcal (bor := true) rfl rfl (hI) rfl rfl rfl ?_ | refine R.bslF (f := enI) [(ixS fr q : Int)] rfl rfl rfl rfl ?_ | refine R.bsl (f := enI) [(ixS fr q : Int)] rfl rfl rfl rfl rfl ?_ | refine R.app (f := enI) (fun _ => rfl) rfl rfl rfl rfl rfl hap ?_ | refine R.cond rfl (fun hc => ?_) (fun hc => ?_) | refine R.condN rfl (fun hc => ?_) (fun hc => ?_) | refine R.condB rfl (fun hc => ?_) (fun hc => ?_))
      all_goals first
        | (exfalso; omega)
        | exact R.nloop (R.again (j + 1) (by omega) (by omega) ⟨rfl, rfl, rfl, rfl, rfl, rfl, rfl, rfl, rfl, trivial⟩ ⟨rfl, rfl, arr_eq (by rw [hsj]), rfl, trivial⟩ rfl rfl)
        | skip
    obtain rfl : j = (prt s).length := by omega
    rw [List.take_length]
    have hol : ((prt s).map fun p => (ixS fr p : Int)).length = (prt s).length := List.length_map ..
    have hSt := lib_sort ((prt s).map fun p => (ixS fr p : Int)) (by omega) (by omega)
    rw [hsf] at hSt
    have hap : (ms.length + [(⟨frm fr s, []⟩ : TMixture)].length) * 48 ≤ 140737488355328 ∧ ms.length + [(⟨frm fr s, []⟩ : TMixture)].length ≤ 140737488355328 := by rw [List.length_singleton]; omega
    repeat' (first | refine R.mv rfl ?_ | refine R.reg ?_ | refine R.nil ?_ | refine R.seq ?_ | refine R.nseq ?_ | refine R.nblk ?_ | refine R.skip ?_ | refine R.blk ?_ | refine R.exit rfl ?_ | refine R.ldEp rfl rfl (by assumption) rfl rfl ?_ | refine R.ldaEp rfl rfl (by assumption) (Nat.le_of_ble_eq_true rfl) rfl rfl ?_ | refine R.ld rfl rfl rfl ?_ | refine R.lda rfl rfl (Nat.le_of_ble_eq_true rfl) rfl ?_ | refine R.fa rfl rfl ?_ | refine R.lenM rfl ?_ | refine R.lenO rfl rfl ?_ | refine R.len rfl rfl ?_ | refine R.lss rfl rfl ?_ | refine R.add rfl rfl (by omega) ?_ | refine R.ixN rfl rfl rfl (by omega) (fun a ha => ?_) | refine R.ixM rfl rfl rfl (by omega) (fun a ha => ?_) | refine R.ixON rfl rfl rfl (by first | omega | (simp; omega)) (fun a' ha' => ?_) | refine R.ixO rfl rfl rfl (by first | omega | (simp; omega)) (fun a' ha' => ?_) | refine R.al rfl ?_ | refine R.stoB rfl rfl rfl rfl ⟨rfl, rfl, Nat.le_of_ble_eq_true rfl⟩ rfl ?_ | refine R.stoE _ rfl rfl rfl rfl rfl (by assumption) rfl ⟨rfl, rfl, Nat.le_of_ble_eq_true rfl⟩ ?_ | refine R.condT rfl ?_ | refine R.condF rfl ?_ | refine R.callX (bor := false) [(900, pin 0)] rfl hSt rfl rfl rfl rfl rfl ?_ | refine R.bslA (f := enMixture) [(⟨frm fr s, []⟩ : TMixture)] rfl rfl rfl rfl rfl rfl ?_ | refine R.appN (f := enMixture) rfl rfl rfl rfl rfl hap ?_ | refine R.cond rfl (fun hc => ?_) (fun hc => ?_) | refine R.condN rfl (fun hc => ?_) (fun hc => ?_) | refine R.condB rfl (fun hc => ?_) (fun hc => ?_))
    all_goals first
      | (exfalso; omega)
      | exact R.nloop (R.again (i + 1) (by omega) (by omega) ⟨rfl, rfl, rfl, rfl, rfl, trivial⟩ ⟨arr_eq (by rw [hsn]), trivial⟩ rfl rfl)
      | skip
  obtain rfl : i = st.length := by omega
  rw [List.take_length]
  repeat' (first | refine R.mv rfl ?_ | refine R.reg ?_ | refine R.nil ?_ | refine R.seq ?_ | refine R.nseq ?_ | refine R.nblk ?_ | refine R.skip ?_ | refine R.blk ?_ | refine R.exit rfl ?_ | refine R.ldEp rfl rfl (by assumption) rfl rfl ?_ | refine R.ldaEp rfl rfl (by assumption) (Nat.le_of_ble_eq_true rfl) rfl rfl ?_ | refine R.ld rfl rfl rfl ?_ | refine R.lda rfl rfl (Nat.le_of_ble_eq_true rfl) rfl ?_ | refine R.fa rfl rfl ?_ | refine R.lenM rfl ?_ | refine R.lenO rfl rfl ?_ | refine R.len rfl rfl ?_ | refine R.lss rfl rfl ?_ | refine R.add rfl rfl (by omega) ?_ | refine R.ixN rfl rfl rfl (by omega) (fun a ha => ?_) | refine R.ixM rfl rfl rfl (by omega) (fun a ha => ?_) | refine R.ixON rfl rfl rfl (by first | omega | (simp; omega)) (fun a' ha' => ?_) | refine R.ixO rfl rfl rfl (by first | omega | (simp; omega)) (fun a' ha' => ?_) | refine R.al rfl ?_ | refine R.stoB rfl rfl rfl rfl ⟨rfl, rfl, Nat.le_of_ble_eq_true rfl⟩ rfl ?_ | refine R.stoE _ rfl rfl rfl rfl rfl (by assumption) rfl ⟨rfl, rfl, Nat.le_of_ble_eq_true rfl⟩ ?_ | refine R.condT rfl ?_ | refine R.condF rfl ?_ | refine R.cond rfl (fun hc => ?_) (fun hc => ?_) | refine R.condN rfl (fun hc => ?_) (fun hc => ?_) | refine R.condB rfl (fun hc => ?_) (fun hc => ?_))
  all_goals first | (exfalso; omega) | exact R.ret ⟨.inr rfl, R.outN rfl rfl rfl⟩ | skip
theorem putS_pre (l : List TStrip) (p : TStrip) : ∃ t, putS l p = l ++ t := by
  unfold putS
  split
  · exact ⟨[], by simp⟩
  · exact ⟨[p], rfl⟩
theorem fold_pre : ∀ (ps l : List TStrip), ∃ t, ps.foldl putS l = l ++ t
  | [], l => ⟨[], by simp⟩
  | p :: ps, l => by
    obtain ⟨t, ht⟩ := putS_pre l p
    obtain ⟨u, hu⟩ := fold_pre ps (putS l p)
    exact ⟨t ++ u, by rw [List.foldl_cons, hu, ht, List.append_assoc]⟩
theorem ixS_app : ∀ {l : List TStrip} {p : TStrip} (t : List TStrip), p ∈ l → ixS (l ++ t) p = ixS l p
  | a :: l, p, t, h => by
    rw [List.cons_append]
    unfold ixS
    by_cases e : a = p
    · rw [if_pos e, if_pos e]
    · rw [if_neg e, if_neg e, ixS_app t ((List.mem_cons.1 h).resolve_left fun h => e h.symm)]
theorem ixS_snoc : ∀ {l : List TStrip} {p : TStrip}, p ∉ l → ixS (l ++ [p]) p = l.length
  | [], p, _ => by simp [ixS]
  | a :: l, p, h => by
    rw [List.cons_append]
    unfold ixS
    rw [if_neg fun e => h (by simp [e]), ixS_snoc fun hp => h (by simp [hp])]
    rfl
theorem mem_putS (l : List TStrip) (p : TStrip) : p ∈ putS l p := by
  unfold putS
  split
  · assumption
  · simp
theorem ixS_put (l : List TStrip) (p : TStrip) : ixS (putS l p) p = ixS l p := by
  unfold putS
  split
  · rfl
  · rename_i h
    rw [ixS_snoc h, ixS_out h]
/-- Where a piece is put, there it stays. -/
theorem ixS_stay (l : List TStrip) (p : TStrip) (ps : List TStrip) : ixS (ps.foldl putS (putS l p)) p = ixS l p := by
  obtain ⟨t, ht⟩ := fold_pre ps (putS l p)
  rw [ht, ixS_app t (mem_putS l p), ixS_put]
theorem bef_split {st : List TStrip} {i : Nat} {s : TStrip} (h : st[i]? = some s) : bef st = ((st.drop (i + 1)).flatMap prt).foldl putS ((prt s).foldl putS (((st.take i).flatMap prt).foldl putS [])) := by
  have hst : st = st.take i ++ s :: st.drop (i + 1) := by
    obtain ⟨hi, rfl⟩ := List.getElem?_eq_some_iff.1 h
    simp
  unfold bef
  conv => lhs; rw [hst]
  rw [List.flatMap_append, List.flatMap_cons, List.foldl_append, List.foldl_append]
theorem sBack (st : List TStrip) (hst : ∀ s ∈ st, okSt s) (hl : st.length ≤ 100) : Spec Tryd.prog 16 [vL kPc (st.map enSt)] (.tup [.c (.nw kPc ((bef st).map enSt)), .c (.nw kMixture ((mixS (bef st) st).map enMixture))]) := by
  refine Spec.walk T.mixed Tryd.func16 S.ok16 (by simp [Tryd.f16]) fun hk => ?_
  clear hk
  unfold S.s16
  repeat' (first | refine R.mv rfl ?_ | refine R.reg ?_ | refine R.nil ?_ | refine R.seq ?_ | refine R.nseq ?_ | refine R.nblk ?_ | refine R.skip ?_ | refine R.blk ?_ | refine R.exit rfl ?_ | refine R.ldEp rfl rfl (by assumption) rfl rfl ?_ | refine R.ldaEp rfl rfl (by assumption) (Nat.le_of_ble_eq_true rfl) rfl rfl ?_ | refine R.ld rfl rfl rfl ?_ | refine R.lda rfl rfl (Nat.le_of_ble_eq_true rfl) rfl ?_ | refine R.fa rfl rfl ?_ | refine R.lenM rfl ?_ | refine R.lenO rfl rfl ?_ | refine R.len rfl rfl ?_ | refine R.lss rfl rfl ?_ | refine R.eql rfl rfl ?_ | refine R.add rfl rfl (by omega) ?_ | refine R.ixN rfl rfl rfl (by omega) (fun a ha => ?_) | refine R.ixM rfl rfl rfl (by omega) (fun a ha => ?_) | refine R.ixON rfl rfl rfl (by first | omega | (simp; omega)) (fun a' ha' => ?_) | refine R.ixO rfl rfl rfl (by first | omega | (simp; omega)) (fun a' ha' => ?_) | refine R.mvU rfl ?_ | refine R.ext rfl rfl ?_ | refine R.al rfl ?_ | refine R.stoB rfl rfl rfl rfl ⟨rfl, rfl, Nat.le_of_ble_eq_true rfl⟩ rfl ?_ | refine R.stoE _ rfl rfl rfl rfl rfl (by assumption) rfl ⟨rfl, rfl, Nat.le_of_ble_eq_true rfl⟩ ?_ | refine R.bld rfl rfl ?_ | refine R.condT rfl ?_ | refine R.condF rfl ?_ | refine R.bsl (f := enSt) ([] : List TStrip) rfl rfl rfl rfl rfl ?_ | refine R.bsl (f := enMixture) ([] : List TMixture) rfl rfl rfl rfl rfl ?_ | refine R.cond rfl (fun hc => ?_) (fun hc => ?_) | refine R.condN rfl (fun hc => ?_) (fun hc => ?_) | refine R.condB rfl (fun hc => ?_) (fun hc => ?_))
  all_goals first | (exfalso; omega) | skip
  refine R.loop (G := Nat) (fun i => [(0, rdA kPc (st.map enSt)), (4, .v (.c (.own 12))), (5, .v (.c (.own 13))), (6, pvA (.int .i64 i))]) (fun i => [(12, .arr kPc ((((st.take i).flatMap prt).foldl putS []).map enSt) []), (13, .arr kMixture ((mixS (bef st) (st.take i)).map enMixture) [])]) (fun i => i ≤ st.length) (fun i => st.length - i) 0 (Nat.zero_le _) (Weak.frame _ _ ⟨rfl, rfl, rfl, rfl, trivial⟩ ⟨rfl, rfl, trivial⟩ rfl rfl) fun i hi => ?_
  have hml : (mixS (bef st) (st.take i)).length ≤ i := by unfold mixS; rw [List.length_map, List.length_take]; omega
  have hbl : (((st.take i).flatMap prt).foldl putS []).length ≤ 200 := by
    have h1 := fold_len ((st.take i).flatMap prt) []
    have h2 := flat_prt_len (st.take i)
    rw [List.length_take] at h2
    simp only [List.length_nil] at h1
    omega
  by_cases hil : i < st.length
  · obtain ⟨s, hs⟩ : ∃ s, st[i]? = some s := ⟨_, List.getElem?_eq_getElem hil⟩
    have hok := hst s (List.mem_of_getElem? hs)
    have hsn : mixS (bef st) (st.take (i + 1)) = mixS (bef st) (st.take i) ++ [⟨frm (bef st) s, []⟩] := by unfold mixS; rw [take_snoc hs, List.map_append]; rfl
    have hfo : ((st.take (i + 1)).flatMap prt).foldl putS [] = (prt s).foldl putS (((st.take i).flatMap prt).foldl putS []) := by rw [flat_snoc hs, List.foldl_append]
    have hbs := bef_split hs
    generalize ((st.take i).flatMap prt).foldl putS [] = ob at *
    generalize mixS (bef st) (st.take i) = ms at *
    have hap : (ms.length + [(⟨frm (bef st) s, []⟩ : TMixture)].length) * 48 ≤ 140737488355328 ∧ ms.length + [(⟨frm (bef st) s, []⟩ : TMixture)].length ≤ 140737488355328 := by rw [List.length_singleton]; omega
    by_cases h1 : s.m = 1
    · have hpr : prt s = [s] := if_pos h1
      rw [hpr] at hfo hbs
      have hfr : frm (bef st) s = [(ixS ob s : Int)] := by
        unfold frm
        rw [hpr, hbs]
        show [(ixS _ s : Int)] = _
        rw [show ([s] : List TStrip).foldl putS ob = putS ob s from rfl, ixS_stay]
      rw [hfr] at hsn hap
      have hPl := sPlace ob s (by omega)
      rw [show ([s] : List TStrip).foldl putS ob = putS ob s from rfl] at hfo
      repeat' (first | refine R.weak (Weak.reifyBox 7 1 901 kI rfl rfl rfl) (R.lda rfl rfl (Nat.le_of_ble_eq_true rfl) rfl ?_) | refine R.ixK s hs rfl rfl rfl ?_ | refine R.mv rfl ?_ | refine R.reg ?_ | refine R.nil ?_ | refine R.seq ?_ | refine R.nseq ?_ | refine R.nblk ?_ | refine R.skip ?_ | refine R.blk ?_ | refine R.exit rfl ?_ | refine R.ldEp rfl rfl (by assumption) rfl rfl ?_ | refine R.ldaEp rfl rfl (by assumption) (Nat.le_of_ble_eq_true rfl) rfl rfl ?_ | refine R.ld rfl rfl rfl ?_ | refine R.lda rfl rfl (Nat.le_of_ble_eq_true rfl) rfl ?_ | refine R.fa rfl rfl ?_ | refine R.lenM rfl ?_ | refine R.lenO rfl rfl ?_ | refine R.len rfl rfl ?_ | refine R.lss rfl rfl ?_ | refine R.eql rfl rfl ?_ | refine R.add rfl rfl (by omega) ?_ | refine R.ixN rfl rfl rfl (by omega) (fun a ha => ?_) | refine R.ixM rfl rfl rfl (by omega) (fun a ha => ?_) | refine R.ixON rfl rfl rfl (by first | omega | (simp; omega)) (fun a' ha' => ?_) | refine R.ixO rfl rfl rfl (by first | omega | (simp; omega)) (fun a' ha' => ?_) | refine R.mvU rfl ?_ | refine R.ext rfl rfl ?_ | refine R.al rfl ?_ | refine R.stoB rfl rfl rfl rfl ⟨rfl, rfl, Nat.le_of_ble_eq_true rfl⟩ rfl ?_ | refine R.stoE _ rfl rfl rfl rfl rfl (by assumption) rfl ⟨rfl, rfl, Nat.le_of_ble_eq_true rfl⟩ ?_ | refine R.bld rfl rfl ?_ | refine R.condT rfl ?_ | refine R.condF rfl ?_ | refine R.callX (bor := false) [(12, 5)] rfl hPl rfl rfl rfl rfl rfl ?_ | refine R.bsl (f := enI) [(ixS ob s : Int)] rfl rfl rfl rfl rfl ?_ | refine R.bslA (f := enMixture) [(⟨[(ixS ob s : Int)], []⟩ : TMixture)] rfl rfl rfl rfl rfl rfl ?_ | refine R.appN (f := enMixture) rfl rfl rfl rfl rfl hap ?_ | refine R.cond rfl (fun hc => ?_) (fun hc => ?_) | refine R.condN rfl (fun hc => ?_) (fun hc => ?_) | refine R.condB rfl (fun hc => ?_) (fun hc => ?_))
      all_goals first
        | (exfalso; omega)
        | exact R.nloop ⟨i + 1, by omega, by omega, Weak.trans (Weak.swap 35000 12 rfl rfl) (Weak.frame _ _ ⟨rfl, rfl, rfl, rfl, trivial⟩ ⟨arr_eq (by rw [hfo]), arr_eq (by rw [hsn]), trivial⟩ rfl rfl)⟩
        | skip
    · have hpr : prt s = hlv s := if_neg h1
      rw [hpr] at hfo hbs
      have hP := sParts s hok
      have hhl : hlv s = [⟨s.m - s.m / 2, s.w, xOf s.w s.e⟩, ⟨s.m / 2, xOf s.w s.e, s.e⟩] := rfl
      generalize (⟨s.m - s.m / 2, s.w, xOf s.w s.e⟩ : TStrip) = p at *
      generalize (⟨s.m / 2, xOf s.w s.e, s.e⟩ : TStrip) = q at *
      rw [hhl] at hfo hbs hpr
      rw [show ([p, q] : List TStrip).foldl putS ob = putS (putS ob p) q from rfl] at hfo hbs
      have hfr : frm (bef st) s = [min (ixS ob p : Int) (ixS (putS ob p) q), max (ixS ob p : Int) (ixS (putS ob p) q)] := by
        unfold frm
        rw [hpr, hbs]
        show [min (ixS _ p : Int) (ixS _ q), max (ixS _ p : Int) (ixS _ q)] = _
        rw [ixS_stay (putS ob p) q, show ((st.drop (i + 1)).flatMap prt).foldl putS (putS (putS ob p) q) = (q :: (st.drop (i + 1)).flatMap prt).foldl putS (putS ob p) from rfl, ixS_stay ob p]
      rw [hfr] at hsn hap
      have hPl1 := sPlace ob p (by omega)
      have hpl := putS_len ob p
      have hPl2 := sPlace (putS ob p) q (by omega)
      repeat' (first | refine R.weak (Weak.reifyBox 7 1 901 kI rfl rfl rfl) (R.lda rfl rfl (Nat.le_of_ble_eq_true rfl) rfl ?_) | refine R.ixK s hs rfl rfl rfl ?_ | refine R.mv rfl ?_ | refine R.reg ?_ | refine R.nil ?_ | refine R.seq ?_ | refine R.nseq ?_ | refine R.nblk ?_ | refine R.skip ?_ | refine R.blk ?_ | refine R.exit rfl ?_ | refine R.ldEp rfl rfl (by assumption) rfl rfl ?_ | refine R.ldaEp rfl rfl (by assumption) (Nat.le_of_ble_eq_true rfl) rfl rfl ?_ | refine R.ld rfl rfl rfl ?_ | refine R.lda rfl rfl (Nat.le_of_ble_eq_true rfl) rfl ?_ | refine R.fa rfl rfl ?_ | refine R.lenM rfl ?_ | refine R.lenO rfl rfl ?_ | refine R.len rfl rfl ?_ | refine R.lss rfl rfl ?_ | refine R.eql rfl rfl ?_ | refine R.add rfl rfl (by omega) ?_ | refine R.ixN rfl rfl rfl (by omega) (fun a ha => ?_) | refine R.ixM rfl rfl rfl (by omega) (fun a ha => ?_) | refine R.ixON rfl rfl rfl (by first | omega | (simp; omega)) (fun a' ha' => ?_) | refine R.ixO rfl rfl rfl (by first | omega | (simp; omega)) (fun a' ha' => ?_) | refine R.mvU rfl ?_ | refine R.ext rfl rfl ?_ | refine R.al rfl ?_ | refine R.stoB rfl rfl rfl rfl ⟨rfl, rfl, Nat.le_of_ble_eq_true rfl⟩ rfl ?_ | refine R.stoE _ rfl rfl rfl rfl rfl (by assumption) rfl ⟨rfl, rfl, Nat.le_of_ble_eq_true rfl⟩ ?_ | refine R.bld rfl rfl ?_ | refine R.condT rfl ?_ | refine R.condF rfl ?_ | refine R.call (bor := false) rfl rfl (hP) rfl rfl rfl ?_ | refine R.call (bor := true) rfl rfl (hP) rfl rfl rfl ?_ | refine R.fcal (bor := false) rfl rfl (hP) rfl rfl rfl ?_ | refine R.fcal (bor := true) rfl rfl (hP) rfl rfl rfl ?_ | refine R.callX (bor := false) [(12, 5)] rfl hPl1 rfl rfl rfl rfl rfl ?_ | refine R.callX (bor := false) [(52000, 5)] rfl hPl2 rfl rfl rfl rfl rfl ?_ | refine R.call (bor := false) rfl rfl (sMin _ _) rfl rfl rfl ?_ | refine R.call (bor := true) rfl rfl (sMin _ _) rfl rfl rfl ?_ | refine R.fcal (bor := false) rfl rfl (sMin _ _) rfl rfl rfl ?_ | refine R.fcal (bor := true) rfl rfl (sMin _ _) rfl rfl rfl ?_ | refine R.call (bor := false) rfl rfl (sMax _ _) rfl rfl rfl ?_ | refine R.call (bor := true) rfl rfl (sMax _ _) rfl rfl rfl ?_ | refine R.fcal (bor := false) rfl rfl (sMax _ _) rfl rfl rfl ?_ | refine R.fcal (bor := true) rfl rfl (sMax _ _) rfl rfl rfl ?_ | refine R.bsl (f := enI) [min (ixS ob p : Int) (ixS (putS ob p) q), max (ixS ob p : Int) (ixS (putS ob p) q)] rfl rfl rfl rfl rfl ?_ | refine R.bslA (f := enMixture) [(⟨[min (ixS ob p : Int) (ixS (putS ob p) q), max (ixS ob p : Int) (ixS (putS ob p) q)], []⟩ : TMixture)] rfl rfl rfl rfl rfl rfl ?_ | refine R.appN (f := enMixture) rfl rfl rfl rfl rfl hap ?_ | refine R.cond rfl (fun hc => ?_) (fun hc => ?_) | refine R.condN rfl (fun hc => ?_) (fun hc => ?_) | refine R.condB rfl (fun hc => ?_) (fun hc => ?_))
      all_goals first
        | (exfalso; omega)
        | exact R.nloop ⟨i + 1, by omega, by omega, Weak.trans (Weak.swap 58000 12 rfl rfl) (Weak.frame _ _ ⟨rfl, rfl, rfl, rfl, trivial⟩ ⟨arr_eq (by rw [hfo]), arr_eq (by rw [hsn]), trivial⟩ rfl rfl)⟩
        | skip
  obtain rfl : i = st.length := by omega
  rw [List.take_length]
  repeat' (first | refine R.mv rfl ?_ | refine R.reg ?_ | refine R.nil ?_ | refine R.seq ?_ | refine R.nseq ?_ | refine R.nblk ?_ | refine R.skip ?_ | refine R.blk ?_ | refine R.exit rfl ?_ | refine R.ldEp rfl rfl (by assumption) rfl rfl ?_ | refine R.ldaEp rfl rfl (by assumption) (Nat.le_of_ble_eq_true rfl) rfl rfl ?_ | refine R.ld rfl rfl rfl ?_ | refine R.lda rfl rfl (Nat.le_of_ble_eq_true rfl) rfl ?_ | refine R.fa rfl rfl ?_ | refine R.lenM rfl ?_ | refine R.lenO rfl rfl ?_ | refine R.len rfl rfl ?_ | refine R.lss rfl rfl ?_ | refine R.eql rfl rfl ?_ | refine R.add rfl rfl (by omega) ?_ | refine R.ixN rfl rfl rfl (by omega) (fun a ha => ?_) | refine R.ixM rfl rfl rfl (by omega) (fun a ha => ?_) | refine R.ixON rfl rfl rfl (by first | omega | (simp; omega)) (fun a' ha' => ?_) | refine R.ixO rfl rfl rfl (by first | omega | (simp; omega)) (fun a' ha' => ?_) | refine R.mvU rfl ?_ | refine R.ext rfl rfl ?_ | refine R.al rfl ?_ | refine R.stoB rfl rfl rfl rfl ⟨rfl, rfl, Nat.le_of_ble_eq_true rfl⟩ rfl ?_ | refine R.stoE _ rfl rfl rfl rfl rfl (by assumption) rfl ⟨rfl, rfl, Nat.le_of_ble_eq_true rfl⟩ ?_ | refine R.bld rfl rfl ?_ | refine R.condT rfl ?_ | refine R.condF rfl ?_ | refine R.cond rfl (fun hc => ?_) (fun hc => ?_) | refine R.condN rfl (fun hc => ?_) (fun hc => ?_) | refine R.condB rfl (fun hc => ?_) (fun hc => ?_))
  all_goals first
    | (exfalso; omega)
    | exact R.ret ⟨.inr rfl, R.outR rfl (.cons (R.tmp rfl) (.cons (R.tmp rfl) .nil)) rfl rfl rfl ⟨by show ¬ (2 = 1); omega, rfl⟩⟩
    | skip
end Go.Proofs.YtlblmofimjhbbaaDoor
