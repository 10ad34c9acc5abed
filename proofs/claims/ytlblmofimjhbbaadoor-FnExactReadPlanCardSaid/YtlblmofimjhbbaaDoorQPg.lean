/- RdM and RdT and RdQ. -/
import Derived.Test.YtlblmofimjhbbaaDoorQPf
import Derived.Test.YtlblmofimjhbbaaDoorQPe
import Derived.Test.YtlblmofimjhbbaaDoorQPa
namespace Go.Proofs.YtlblmofimjhbbaaDoor
open Go.RowKit
set_option maxRecDepth 100000 in
def S.s13 : SC := (.seq (.reg [⟨(.some 2), .none, .false, (.al 28 [(Go.Value.slice none 0 0)])⟩, ⟨(.some 3), .none, .false, (.mv (.const (Go.Value.bool false)))⟩]) (.seq (.seq (.reg [⟨(.some 10), .none, .false, (.mv (.tmp 0))⟩, ⟨(.some 11), .none, .false, (.bin .eql (.tmp 10) (.const (Go.Value.string { data := #[] })))⟩]) (.cond (.tmp 11) (.seq (.reg [⟨(.some 12), .none, .false, (.bld [(Go.Value.slice none 0 0)] [(0, 1)] [])⟩, ⟨.none, .none, .false, (.sto 1 (.tmp 2) (.tmp 12))⟩, ⟨(.some 3), .none, .false, (.mv (.const (Go.Value.bool false)))⟩]) .ret) .skip)) (.seq (.reg [⟨(.some 13), .none, .false, (.bld [(Go.Value.slice none 0 0)] [(0, 1)] [])⟩, ⟨(.some 4), .none, .false, (.al 28 [(Go.Value.slice none 0 0)])⟩, ⟨.none, .none, .false, (.sto 1 (.tmp 4) (.tmp 13))⟩]) (.seq (.reg [⟨(.some 14), .none, .false, (.mv (.tmp 0))⟩, ⟨(.some 15), .none, .false, (.call (.func 34) [(.tmp 14), (.const (Go.Value.string { data := #[59, 32] }))])⟩, ⟨(.some 5), .none, .false, (.mv (.tmp 15))⟩]) (.seq (.seq (.reg [⟨(.some 6), .none, .false, (.mv (.const (Go.Value.int Go.IntKind.i64 0)))⟩]) (.block 0 (.loop (.seq (.seq (.reg [⟨(.some 16), .none, .false, (.mv (.tmp 6))⟩, ⟨(.some 17), .none, .false, (.mv (.tmp 5))⟩, ⟨(.some 18), .none, .false, (.len (.tmp 17))⟩, ⟨(.some 19), .none, .false, (.bin .lss (.tmp 16) (.tmp 18))⟩]) (.cond (.tmp 19) .skip (.exit 0))) (.seq (.block 1 (.seq (.reg [⟨(.some 22), .none, .false, (.bsl (.mk 53 2) 0 [])⟩, ⟨(.some 7), .none, .false, (.mv (.tmp 22))⟩]) (.seq (.reg [⟨(.some 23), .none, .false, (.mv (.tmp 5))⟩, ⟨(.some 24), .none, .false, (.mv (.tmp 6))⟩, ⟨(.some 25), .none, .false, (.ix (.mk 9 1) (.tmp 23) (.tmp 24))⟩, ⟨(.some 26), .none, .false, (.ld .false 1 (.tmp 25))⟩, ⟨(.some 27), .none, .false, (.call (.func 34) [(.tmp 26), (.const (Go.Value.string { data := #[32, 124, 32] }))])⟩, ⟨(.some 8), .none, .false, (.mv (.tmp 27))⟩]) (.seq (.seq (.reg [⟨(.some 9), .none, .false, (.mv (.const (Go.Value.int Go.IntKind.i64 0)))⟩]) (.block 2 (.loop (.seq (.seq (.reg [⟨(.some 28), .none, .false, (.mv (.tmp 9))⟩, ⟨(.some 29), .none, .false, (.mv (.tmp 8))⟩, ⟨(.some 30), .none, .false, (.len (.tmp 29))⟩, ⟨(.some 31), .none, .false, (.bin .lss (.tmp 28) (.tmp 30))⟩]) (.cond (.tmp 31) .skip (.exit 2))) (.seq (.block 3 (.reg [⟨(.some 34), .none, .false, (.mv (.tmp 7))⟩, ⟨(.some 35), .none, .false, (.mv (.tmp 8))⟩, ⟨(.some 36), .none, .false, (.mv (.tmp 9))⟩, ⟨(.some 37), .none, .false, (.ix (.mk 9 1) (.tmp 35) (.tmp 36))⟩, ⟨(.some 38), .none, .false, (.ld .false 1 (.tmp 37))⟩, ⟨(.some 39), .none, .false, (.call (.func 35) [(.tmp 38)])⟩, ⟨(.some 40), .none, .false, (.bsl (.mk 53 2) 1 [(0, (.tmp 39))])⟩, ⟨(.some 41), .none, .false, (.app (.mk 53 2) 48 (.tmp 34) (.tmp 40))⟩, ⟨(.some 7), .none, .false, (.mv (.tmp 41))⟩])) (.reg [⟨(.some 32), .none, .false, (.mv (.tmp 9))⟩, ⟨(.some 33), .none, .false, (.bin .add (.tmp 32) (.const (Go.Value.int Go.IntKind.i64 1)))⟩, ⟨(.some 9), .none, .false, (.mv (.tmp 33))⟩])))))) (.reg [⟨(.some 42), .none, .false, (.fa 0 (.tmp 4))⟩, ⟨(.some 43), .none, .false, (.ld .false 1 (.tmp 42))⟩, ⟨(.some 44), .none, .false, (.mv (.tmp 7))⟩, ⟨(.some 45), .none, .false, (.bsl (.mk 43 1) 1 [(0, (.tmp 44))])⟩, ⟨(.some 46), .none, .false, (.app (.mk 43 1) 24 (.tmp 43) (.tmp 45))⟩, ⟨(.some 47), .none, .false, (.fa 0 (.tmp 4))⟩, ⟨.none, .none, .false, (.sto 1 (.tmp 47) (.tmp 46))⟩]))))) (.reg [⟨(.some 20), .none, .false, (.mv (.tmp 6))⟩, ⟨(.some 21), .none, .false, (.bin .add (.tmp 20) (.const (Go.Value.int Go.IntKind.i64 1)))⟩, ⟨(.some 6), .none, .false, (.mv (.tmp 21))⟩])))))) (.seq (.seq (.reg [⟨(.some 48), .none, .false, (.ld .true 1 (.tmp 4))⟩, ⟨(.some 49), .none, .false, (.call (.func 36) [(.tmp 48)])⟩, ⟨(.some 50), .none, .false, (.mv (.tmp 0))⟩, ⟨(.some 51), .none, .false, (.bin .neq (.tmp 49) (.tmp 50))⟩]) (.cond (.tmp 51) (.seq (.reg [⟨(.some 52), .none, .false, (.bld [(Go.Value.slice none 0 0)] [(0, 1)] [])⟩, ⟨.none, .none, .false, (.sto 1 (.tmp 2) (.tmp 52))⟩, ⟨(.some 3), .none, .false, (.mv (.const (Go.Value.bool false)))⟩]) .ret) .skip)) (.seq (.reg [⟨(.some 53), .none, .false, (.ld .true 1 (.tmp 4))⟩, ⟨.none, .none, .false, (.sto 1 (.tmp 2) (.tmp 53))⟩, ⟨(.some 3), .none, .false, (.mv (.const (Go.Value.bool true)))⟩]) .ret)))))))
set_option maxRecDepth 100000 in
theorem S.ok13 : stripF Tryd.prog Tryd.f13 = some S.s13 := by kernel_rfl
set_option maxRecDepth 100000 in
def S.s35 : SC := (.seq (.reg [⟨(.some 2), .none, .false, (.al 53 [(Go.Value.slice none 0 0), (Go.Value.slice none 0 0)])⟩]) (.seq (.reg [⟨(.some 8), .none, .false, (.bld [(Go.Value.slice none 0 0), (Go.Value.slice none 0 0)] [(0, 1), (1, 1)] [])⟩, ⟨(.some 3), .none, .false, (.al 53 [(Go.Value.slice none 0 0), (Go.Value.slice none 0 0)])⟩, ⟨.none, .none, .false, (.sto 2 (.tmp 3) (.tmp 8))⟩]) (.seq (.reg [⟨(.some 9), .none, .false, (.mv (.tmp 0))⟩, ⟨(.some 10), .none, .false, (.call (.func 34) [(.tmp 9), (.const (Go.Value.string { data := #[32] }))])⟩, ⟨(.some 4), .none, .false, (.mv (.tmp 10))⟩]) (.seq (.seq (.reg [⟨(.some 5), .none, .false, (.mv (.const (Go.Value.int Go.IntKind.i64 0)))⟩]) (.block 0 (.loop (.seq (.seq (.reg [⟨(.some 11), .none, .false, (.mv (.tmp 5))⟩, ⟨(.some 12), .none, .false, (.mv (.tmp 4))⟩, ⟨(.some 13), .none, .false, (.len (.tmp 12))⟩, ⟨(.some 14), .none, .false, (.bin .lss (.tmp 11) (.tmp 13))⟩]) (.cond (.tmp 14) .skip (.exit 0))) (.seq (.block 1 (.seq (.seq (.reg [⟨(.some 17), .none, .false, (.mv (.tmp 4))⟩, ⟨(.some 18), .none, .false, (.mv (.tmp 5))⟩, ⟨(.some 19), .none, .false, (.ix (.mk 9 1) (.tmp 17) (.tmp 18))⟩, ⟨(.some 20), .none, .false, (.ld .false 1 (.tmp 19))⟩, ⟨(.some 21), .none, .false, (.bin .eql (.tmp 20) (.const (Go.Value.string { data := #[] })))⟩]) (.cond (.tmp 21) (.exit 1) .skip)) (.seq (.reg [⟨(.some 23), .none, .false, (.mv (.tmp 4))⟩, ⟨(.some 24), .none, .false, (.mv (.tmp 5))⟩, ⟨(.some 25), .none, .false, (.ix (.mk 9 1) (.tmp 23) (.tmp 24))⟩, ⟨(.some 26), .none, .false, (.ld .false 1 (.tmp 25))⟩, ⟨(.some 27), .none, .false, (.sslc (.tmp 26) (.some (.const (Go.Value.int Go.IntKind.i64 1))) .none)⟩, ⟨(.some 28), .none, .false, (.call (.func 58) [(.tmp 27)])⟩, ⟨(.some 22), .none, .false, (.mv (.tmp 28))⟩, ⟨(.some 29), .none, .false, (.ext (.tmp 22) 0)⟩, ⟨(.some 30), .none, .false, (.ext (.tmp 22) 1)⟩, ⟨(.some 6), .none, .false, (.mv (.tmp 29))⟩, ⟨(.some 7), .none, .false, (.mv (.tmp 30))⟩]) (.seq (.reg [⟨(.some 31), .none, .false, (.mv (.tmp 4))⟩, ⟨(.some 32), .none, .false, (.mv (.tmp 5))⟩, ⟨(.some 33), .none, .false, (.ix (.mk 9 1) (.tmp 31) (.tmp 32))⟩, ⟨(.some 34), .none, .false, (.ld .false 1 (.tmp 33))⟩, ⟨(.some 35), .none, .false, (.six (.tmp 34) (.const (Go.Value.int Go.IntKind.i64 0)))⟩, ⟨(.some 36), .none, .false, (.bin .eql (.tmp 35) (.const (Go.Value.int Go.IntKind.u8 98)))⟩]) (.cond (.tmp 36) (.reg [⟨(.some 37), .none, .false, (.fa 0 (.tmp 3))⟩, ⟨(.some 38), .none, .false, (.ld .false 1 (.tmp 37))⟩, ⟨(.some 39), .none, .false, (.mv (.tmp 6))⟩, ⟨(.some 40), .none, .false, (.bsl (.mk 2 1) 1 [(0, (.tmp 39))])⟩, ⟨(.some 41), .none, .false, (.app (.mk 2 1) 8 (.tmp 38) (.tmp 40))⟩, ⟨(.some 42), .none, .false, (.fa 0 (.tmp 3))⟩, ⟨.none, .none, .false, (.sto 1 (.tmp 42) (.tmp 41))⟩]) (.reg [⟨(.some 43), .none, .false, (.fa 1 (.tmp 3))⟩, ⟨(.some 44), .none, .false, (.ld .false 1 (.tmp 43))⟩, ⟨(.some 45), .none, .false, (.mv (.tmp 6))⟩, ⟨(.some 46), .none, .false, (.bsl (.mk 2 1) 1 [(0, (.tmp 45))])⟩, ⟨(.some 47), .none, .false, (.app (.mk 2 1) 8 (.tmp 44) (.tmp 46))⟩, ⟨(.some 48), .none, .false, (.fa 1 (.tmp 3))⟩, ⟨.none, .none, .false, (.sto 1 (.tmp 48) (.tmp 47))⟩])))))) (.reg [⟨(.some 15), .none, .false, (.mv (.tmp 5))⟩, ⟨(.some 16), .none, .false, (.bin .add (.tmp 15) (.const (Go.Value.int Go.IntKind.i64 1)))⟩, ⟨(.some 5), .none, .false, (.mv (.tmp 16))⟩])))))) (.seq (.reg [⟨(.some 49), .none, .false, (.ld .true 2 (.tmp 3))⟩, ⟨.none, .none, .false, (.sto 2 (.tmp 2) (.tmp 49))⟩]) .ret)))))
set_option maxRecDepth 100000 in
theorem S.ok35 : stripF Tryd.prog Tryd.f35 = some S.s35 := by kernel_rfl
set_option maxRecDepth 100000 in
def S.s37 : SC := (.seq (.reg [⟨(.some 2), .none, .false, (.al 28 [(Go.Value.slice none 0 0)])⟩, ⟨(.some 3), .none, .false, (.al 4 [(Go.Value.bool false)])⟩]) (.seq (.reg [⟨(.some 10), .none, .false, (.mkf 61 [(.tmp 2), (.tmp 3)])⟩, ⟨.none, .none, .false, (.raw (.defer (.mk (.value (.tmp 10)) (.mk []) (.mk []))) 0)⟩]) (.seq (.reg [⟨(.some 4), .none, .false, (.al 28 [(Go.Value.slice none 0 0)])⟩]) (.seq (.seq (.reg [⟨(.some 11), .none, .false, (.mv (.tmp 0))⟩, ⟨(.some 12), .none, .false, (.call (.func 62) [(.tmp 11), (.const (Go.Value.string { data := #[59, 32] }))])⟩, ⟨(.some 13), .none, .false, (.len (.tmp 12))⟩, ⟨(.some 14), .none, .false, (.mv (.const (Go.Value.int Go.IntKind.i64 0)))⟩]) (.block 0 (.loop (.seq (.reg [⟨(.some 15), .none, .false, (.bin .lss (.tmp 14) (.tmp 13))⟩]) (.seq (.cond (.tmp 15) .skip (.exit 0)) (.seq (.block 1 (.seq (.reg [⟨(.some 16), .none, .false, (.ix (.mk 9 1) (.tmp 12) (.tmp 14))⟩, ⟨(.some 17), .none, .false, (.ld .false 1 (.tmp 16))⟩, ⟨(.some 6), .none, .false, (.mv (.tmp 17))⟩]) (.seq (.reg [⟨(.some 7), .none, .false, (.mv (.const (Go.Value.slice none 0 0)))⟩]) (.seq (.seq (.reg [⟨(.some 18), .none, .false, (.mv (.tmp 6))⟩, ⟨(.some 19), .none, .false, (.call (.func 62) [(.tmp 18), (.const (Go.Value.string { data := #[32, 124, 32] }))])⟩, ⟨(.some 20), .none, .false, (.len (.tmp 19))⟩, ⟨(.some 21), .none, .false, (.mv (.const (Go.Value.int Go.IntKind.i64 0)))⟩]) (.block 2 (.loop (.seq (.reg [⟨(.some 22), .none, .false, (.bin .lss (.tmp 21) (.tmp 20))⟩]) (.seq (.cond (.tmp 22) .skip (.exit 2)) (.seq (.block 3 (.seq (.reg [⟨(.some 23), .none, .false, (.ix (.mk 9 1) (.tmp 19) (.tmp 21))⟩, ⟨(.some 24), .none, .false, (.ld .false 1 (.tmp 23))⟩, ⟨(.some 9), .none, .false, (.mv (.tmp 24))⟩]) (.alt 50 (.region 10 (.mk [(.mk (.some 25) (.move (.tmp 7)) 43 "l30_stages.go:237" (.mk []) .none), (.mk (.some 26) (.move (.tmp 9)) 9 "l30_stages.go:237" (.mk []) .none), (.mk (.some 27) (.call (.mk (.value (.func 63)) (.mk [(.tmp 26)]) (.mk [9]))) 53 "l30_stages.go:237" (.mk [(.mk 1 .data)]) .none), (.mk (.some 28) (.buildSlice 43 1 (.mk [(0, (.tmp 27))])) 43 "l30_stages.go:237" (.mk [(.mk 2 .data)]) .none), (.mk (.some 29) (.call (.mk (.builtin .append) (.mk [(.tmp 25), (.tmp 28)]) (.mk [43, 43]))) 43 "l30_stages.go:237" (.mk [(.mk 0 .data), (.mk 3 .data), (.mk 2 .chain)]) .none), (.mk (.some 7) (.assign (.tmp 29)) 43 "l30_stages.go:237" (.mk [(.mk 4 .data), (.mk 4 .chain), (.mk 0 .phase), (.mk 1 .phase), (.mk 2 .phase), (.mk 3 .phase), (.mk 4 .phase)]) .none)]) .false) (.reg [⟨(.some 25), .none, .false, (.mv (.tmp 7))⟩, ⟨(.some 26), .none, .false, (.mv (.tmp 9))⟩, ⟨(.some 27), .none, .false, (.call (.func 63) [(.tmp 26)])⟩, ⟨(.some 28), .none, .false, (.bsl (.mk 53 2) 1 [(0, (.tmp 27))])⟩, ⟨(.some 29), .none, .false, (.app (.mk 53 2) 48 (.tmp 25) (.tmp 28))⟩, ⟨(.some 7), .none, .false, (.mv (.tmp 29))⟩])))) (.reg [⟨(.some 30), .none, .false, (.bin .add (.tmp 21) (.const (Go.Value.int Go.IntKind.i64 1)))⟩, ⟨(.some 21), .none, .false, (.mv (.tmp 30))⟩]))))))) (.reg [⟨(.some 31), .none, .false, (.fa 0 (.tmp 4))⟩, ⟨(.some 32), .none, .false, (.ld .false 1 (.tmp 31))⟩, ⟨(.some 33), .none, .false, (.mv (.tmp 7))⟩, ⟨(.some 34), .none, .false, (.bsl (.mk 43 1) 1 [(0, (.tmp 33))])⟩, ⟨(.some 35), .none, .false, (.app (.mk 43 1) 24 (.tmp 32) (.tmp 34))⟩, ⟨(.some 36), .none, .false, (.fa 0 (.tmp 4))⟩, ⟨.none, .none, .false, (.sto 1 (.tmp 36) (.tmp 35))⟩]))))) (.reg [⟨(.some 37), .none, .false, (.bin .add (.tmp 14) (.const (Go.Value.int Go.IntKind.i64 1)))⟩, ⟨(.some 14), .none, .false, (.mv (.tmp 37))⟩]))))))) (.seq (.seq (.reg [⟨(.some 38), .none, .false, (.ld .true 1 (.tmp 4))⟩, ⟨(.some 39), .none, .false, (.call (.func 64) [(.tmp 38), (.const (Go.Value.int Go.IntKind.i64 160))])⟩, ⟨(.some 40), .none, .false, (.not (.tmp 39))⟩, ⟨(.some 41), .none, .false, (.mv (.tmp 40))⟩, ⟨(.some 42), (.some (41, .false)), .false, (.ld .true 1 (.tmp 4))⟩, ⟨(.some 43), (.some (41, .false)), .false, (.call (.func 65) [(.tmp 42)])⟩, ⟨(.some 44), (.some (41, .false)), .false, (.mv (.tmp 0))⟩, ⟨(.some 45), (.some (41, .false)), .false, (.bin .neq (.tmp 43) (.tmp 44))⟩, ⟨(.some 46), .none, .false, (.pick (.tmp 41) (.const (Go.Value.bool true)) (.tmp 45))⟩]) (.cond (.tmp 46) (.code 50 (.region 15 (.mk [(.mk (.some 47) (.build 100 (.mk [])) 100 "l30_stages.go:242" (.mk []) .none), (.mk (.some 48) (.makeInterface 100 (.tmp 47)) 20 "l30_stages.go:242" (.mk [(.mk 0 .data)]) .none), (.mk .none (.panic (.tmp 48)) 0 "l30_stages.go:242" (.mk [(.mk 1 .data)]) .none)]) .false)) .skip)) (.seq (.reg [⟨(.some 49), .none, .false, (.ld .true 1 (.tmp 4))⟩, ⟨.none, .none, .false, (.sto 1 (.tmp 2) (.tmp 49))⟩, ⟨.none, .none, .false, (.sto 1 (.tmp 3) (.const (Go.Value.bool true)))⟩]) .ret))))))
set_option maxRecDepth 100000 in
theorem S.ok37 : stripF Tryd.prog Tryd.f37 = some S.s37 := by kernel_rfl
set_option maxRecDepth 100000 in
def S.s63 : SC := (.seq (.reg [⟨(.some 2), .none, .false, (.al 53 [(Go.Value.slice none 0 0), (Go.Value.slice none 0 0)])⟩]) (.seq (.reg [⟨(.some 3), .none, .false, (.al 53 [(Go.Value.slice none 0 0), (Go.Value.slice none 0 0)])⟩]) (.seq (.seq (.reg [⟨(.some 8), .none, .false, (.mv (.tmp 0))⟩, ⟨(.some 9), .none, .false, (.call (.func 62) [(.tmp 8), (.const (Go.Value.string { data := #[32] }))])⟩, ⟨(.some 10), .none, .false, (.len (.tmp 9))⟩, ⟨(.some 11), .none, .false, (.mv (.const (Go.Value.int Go.IntKind.i64 0)))⟩]) (.block 0 (.loop (.seq (.reg [⟨(.some 12), .none, .false, (.bin .lss (.tmp 11) (.tmp 10))⟩]) (.seq (.cond (.tmp 12) .skip (.exit 0)) (.seq (.block 1 (.seq (.reg [⟨(.some 13), .none, .false, (.ix (.mk 9 1) (.tmp 9) (.tmp 11))⟩, ⟨(.some 14), .none, .false, (.ld .false 1 (.tmp 13))⟩, ⟨(.some 5), .none, .false, (.mv (.tmp 14))⟩]) (.seq (.reg [⟨(.some 6), .none, .false, (.mv (.const (Go.Value.int Go.IntKind.i64 0)))⟩, ⟨(.some 7), .none, .false, (.mv (.const (Go.Value.bool false)))⟩]) (.seq (.seq (.reg [⟨(.some 15), .none, .false, (.mv (.tmp 5))⟩, ⟨(.some 16), .none, .false, (.bin .neq (.tmp 15) (.const (Go.Value.string { data := #[] })))⟩]) (.cond (.tmp 16) (.reg [⟨(.some 18), .none, .false, (.mv (.tmp 5))⟩, ⟨(.some 19), .none, .false, (.sslc (.tmp 18) (.some (.const (Go.Value.int Go.IntKind.i64 1))) .none)⟩, ⟨(.some 20), .none, .false, (.call (.func 76) [(.tmp 19)])⟩, ⟨(.some 17), .none, .false, (.mv (.tmp 20))⟩, ⟨(.some 21), .none, .false, (.ext (.tmp 17) 0)⟩, ⟨(.some 22), .none, .false, (.ext (.tmp 17) 1)⟩, ⟨(.some 6), .none, .false, (.mv (.tmp 21))⟩, ⟨(.some 7), .none, .false, (.mv (.tmp 22))⟩]) .skip)) (.block 2 (.seq (.reg [⟨(.some 26), .none, .false, (.mv (.tmp 7))⟩, ⟨(.some 27), .none, .false, (.mv (.tmp 26))⟩, ⟨(.some 28), (.some (27, .true)), .false, (.mv (.tmp 5))⟩, ⟨(.some 29), (.some (27, .true)), .false, (.six (.tmp 28) (.const (Go.Value.int Go.IntKind.i64 0)))⟩, ⟨(.some 30), (.some (27, .true)), .false, (.bin .eql (.tmp 29) (.const (Go.Value.int Go.IntKind.u8 98)))⟩, ⟨(.some 31), .none, .false, (.pick (.tmp 27) (.tmp 30) (.const (Go.Value.bool false)))⟩, ⟨(.some 25), .none, .false, (.mv (.tmp 31))⟩]) (.cond (.tmp 25) (.reg [⟨(.some 32), .none, .false, (.fa 0 (.tmp 3))⟩, ⟨(.some 33), .none, .false, (.ld .false 1 (.tmp 32))⟩, ⟨(.some 34), .none, .false, (.mv (.tmp 6))⟩, ⟨(.some 35), .none, .false, (.bsl (.mk 2 1) 1 [(0, (.tmp 34))])⟩, ⟨(.some 36), .none, .false, (.app (.mk 2 1) 8 (.tmp 33) (.tmp 35))⟩, ⟨(.some 37), .none, .false, (.fa 0 (.tmp 3))⟩, ⟨.none, .none, .false, (.sto 1 (.tmp 37) (.tmp 36))⟩]) (.seq (.reg [⟨(.some 39), .none, .false, (.mv (.tmp 7))⟩, ⟨(.some 40), .none, .false, (.mv (.tmp 39))⟩, ⟨(.some 41), (.some (40, .true)), .false, (.mv (.tmp 5))⟩, ⟨(.some 42), (.some (40, .true)), .false, (.six (.tmp 41) (.const (Go.Value.int Go.IntKind.i64 0)))⟩, ⟨(.some 43), (.some (40, .true)), .false, (.bin .eql (.tmp 42) (.const (Go.Value.int Go.IntKind.u8 116)))⟩, ⟨(.some 44), .none, .false, (.pick (.tmp 40) (.tmp 43) (.const (Go.Value.bool false)))⟩, ⟨(.some 38), .none, .false, (.mv (.tmp 44))⟩]) (.cond (.tmp 38) (.reg [⟨(.some 45), .none, .false, (.fa 1 (.tmp 3))⟩, ⟨(.some 46), .none, .false, (.ld .false 1 (.tmp 45))⟩, ⟨(.some 47), .none, .false, (.mv (.tmp 6))⟩, ⟨(.some 48), .none, .false, (.bsl (.mk 2 1) 1 [(0, (.tmp 47))])⟩, ⟨(.some 49), .none, .false, (.app (.mk 2 1) 8 (.tmp 46) (.tmp 48))⟩, ⟨(.some 50), .none, .false, (.fa 1 (.tmp 3))⟩, ⟨.none, .none, .false, (.sto 1 (.tmp 50) (.tmp 49))⟩]) (.code 53 (.region 8 (.mk [(.mk (.some 23) (.build 100 (.mk [])) 100 "l30_stages.go:213" (.mk []) .none), (.mk (.some 24) (.makeInterface 100 (.tmp 23)) 20 "l30_stages.go:213" (.mk [(.mk 0 .data)]) .none), (.mk .none (.panic (.tmp 24)) 0 "l30_stages.go:213" (.mk [(.mk 1 .data)]) .none)]) .false))))))))))) (.reg [⟨(.some 51), .none, .false, (.bin .add (.tmp 11) (.const (Go.Value.int Go.IntKind.i64 1)))⟩, ⟨(.some 11), .none, .false, (.mv (.tmp 51))⟩]))))))) (.seq (.reg [⟨(.some 52), .none, .false, (.ld .true 2 (.tmp 3))⟩, ⟨.none, .none, .false, (.sto 2 (.tmp 2) (.tmp 52))⟩]) .ret))))
set_option maxRecDepth 100000 in
theorem S.ok63 : stripF Tryd.prog Tryd.f63 = some S.s63 := by kernel_rfl
set_option maxRecDepth 20000
set_option maxHeartbeats 8000000
abbrev oMx (m : TMixture) : RT := .v (.agg [.nw kI (m.fFrom.map enI), .nw kI (m.fTiles.map enI)])
theorem arrI_eq {l l' : List Int} (h : l = l') : (some (Ob.arr kI (l.map enI) [])) = some (Ob.arr kI (l'.map enI) []) := by rw [h]
theorem fm_snoc {α β : Type} (f : α → Option β) {l : List α} {i : Nat} {a : α} (h : l[i]? = some a) : (l.take (i + 1)).filterMap f = (l.take i).filterMap f ++ (f a).toList := by
  rw [List.take_add_one, h, List.filterMap_append]
  cases hf : f a <;> simp [hf]
theorem fm_len {α β : Type} (f : α → Option β) (l : List α) (i : Nat) : ((l.take i).filterMap f).length ≤ l.length := by
  have := List.length_filterMap_le f (l.take i)
  rw [List.length_take] at this
  omega
theorem ws_len {s : List UInt8} (hs : s.length ≤ 1048576) : (wsC s).length ≤ 1048577 ∧ ∀ w ∈ wsC s, w.length ≤ 1048576 := by
  obtain ⟨h1, h2⟩ := cut_bds (s := s) (sep := [32]) (by simp)
  refine ⟨?_, fun w hw => Nat.le_trans (h1 w hw) hs⟩
  unfold wsC
  simp only [List.length_singleton] at h2
  omega
theorem tailE (c : UInt8) (r : List UInt8) : ((c :: r).take (c :: r).length).drop 1 = r := by rw [List.take_length]; rfl
theorem rdN_fst (r : List UInt8) : (rdN r).1 = (rdD r).getD 0 := by
  unfold rdN
  split <;> rename_i h <;> rw [h] <;> rfl
theorem sBin (s : List UInt8) (hs : s.length ≤ 1048576) : Spec Tryd.prog 35 [.c (sD (bA s))] (oMx (mixG (wsC s))) := by
  have hC := sCut [32] s (by simp) hs (by simp)
  obtain ⟨hwl, hwm⟩ := ws_len hs
  change Spec _ _ _ (oN kStr ((wsC s).map enS)) at hC
  unfold mixG
  generalize wsC s = ws at *
  refine Spec.walk T.mixed Tryd.func35 S.ok35 (by simp [Tryd.f35]) fun hk => ?_
  clear hk
  unfold S.s35
  repeat' (first | refine R.mv rfl ?_ | refine R.reg ?_ | refine R.nil ?_ | refine R.seq ?_ | refine R.nseq ?_ | refine R.nblk ?_ | refine R.skip ?_ | refine R.blk ?_ | refine R.exit rfl ?_ | refine R.ldEp rfl rfl (by assumption) rfl rfl ?_ | refine R.ldaEp rfl rfl (by assumption) (Nat.le_of_ble_eq_true rfl) rfl rfl ?_ | refine R.ld rfl rfl rfl ?_ | refine R.lda rfl rfl (Nat.le_of_ble_eq_true rfl) rfl ?_ | refine R.fa rfl rfl ?_ | refine R.lenM rfl ?_ | refine R.lenO rfl rfl ?_ | refine R.len rfl rfl ?_ | refine R.lss rfl rfl ?_ | refine R.eql rfl rfl ?_ | refine R.add rfl rfl (by omega) ?_ | refine R.ixN rfl rfl rfl (by omega) (fun a ha => ?_) | refine R.ixM rfl rfl rfl (by omega) (fun a ha => ?_) | refine R.ixON rfl rfl rfl (by first | omega | (simp; omega)) (fun a' ha' => ?_) | refine R.ixO rfl rfl rfl (by first | omega | (simp; omega)) (fun a' ha' => ?_) | refine R.six rfl rfl (by omega) (fun a ha => ?_) | refine R.mvU rfl ?_ | refine R.ext rfl rfl ?_ | refine R.al rfl ?_ | refine R.stoB rfl rfl rfl rfl ⟨rfl, rfl, Nat.le_of_ble_eq_true rfl⟩ rfl ?_ | refine R.stoE _ rfl rfl rfl rfl rfl (by assumption) rfl ⟨rfl, rfl, Nat.le_of_ble_eq_true rfl⟩ ?_ | refine R.bld rfl rfl ?_ | refine R.condT rfl ?_ | refine R.condF rfl ?_ | refine R.call (bor := false) rfl rfl (hC) rfl rfl rfl ?_ | refine R.call (bor := true) rfl rfl (hC) rfl rfl rfl ?_ | refine R.fcal (bor := false) rfl rfl (hC) rfl rfl rfl ?_ | refine R.fcal (bor := true) rfl rfl (hC) rfl rfl rfl ?_ | refine R.cond rfl (fun hc => ?_) (fun hc => ?_) | refine R.condN rfl (fun hc => ?_) (fun hc => ?_) | refine R.condB rfl (fun hc => ?_) (fun hc => ?_))
  refine R.loop (G := Nat) (fun i => [(2, .v (.c (.ptr 2 0))), (3, .v (.c (.ptr 3 0))), (4, rdA kStr (ws.map enS)), (5, pvA (.int .i64 i))]) (fun i => [(2, .box 53 [nilB, nilB]), (3, .box 53 [.own 901, .own 902]), (901, .arr kI (((ws.take i).filterMap frS).map enI) []), (902, .arr kI (((ws.take i).filterMap tlS).map enI) [])]) (fun i => i ≤ ws.length) (fun i => ws.length - i) 0 (Nat.zero_le _) (Weak.trans (Weak.reifyBox 3 0 901 kI rfl rfl rfl) (Weak.trans (Weak.reifyBox 3 1 902 kI rfl rfl rfl) (Weak.frame _ _ ⟨rfl, rfl, rfl, rfl, trivial⟩ ⟨rfl, rfl, rfl, rfl, trivial⟩ rfl rfl))) fun i hi => ?_
  have hl1 := fm_len frS ws i
  have hl2 := fm_len tlS ws i
  by_cases hil : i < ws.length
  · obtain ⟨w, hw⟩ : ∃ w, ws[i]? = some w := ⟨_, List.getElem?_eq_getElem hil⟩
    have hwl2 := hwm w (List.mem_of_getElem? hw)
    have hf1 := fm_snoc frS hw
    have hf2 := fm_snoc tlS hw
    generalize (ws.take i).filterMap frS = F at *
    generalize (ws.take i).filterMap tlS = T at *
    cases w with
    | nil =>
      have e1 : decide (([] : List UInt8) = []) = true := rfl
      rw [show frS [] = none from rfl, Option.toList_none, List.append_nil] at hf1
      rw [show tlS [] = none from rfl, Option.toList_none, List.append_nil] at hf2
      repeat' (first | refine R.ixK [] hw rfl rfl rfl ?_ | refine R.eqlA e1 rfl rfl ?_ | refine R.mv rfl ?_ | refine R.reg ?_ | refine R.nil ?_ | refine R.seq ?_ | refine R.nseq ?_ | refine R.nblk ?_ | refine R.skip ?_ | refine R.blk ?_ | refine R.exit rfl ?_ | refine R.ldEp rfl rfl (by assumption) rfl rfl ?_ | refine R.ldaEp rfl rfl (by assumption) (Nat.le_of_ble_eq_true rfl) rfl rfl ?_ | refine R.ld rfl rfl rfl ?_ | refine R.lda rfl rfl (Nat.le_of_ble_eq_true rfl) rfl ?_ | refine R.fa rfl rfl ?_ | refine R.lenM rfl ?_ | refine R.lenO rfl rfl ?_ | refine R.len rfl rfl ?_ | refine R.lss rfl rfl ?_ | refine R.eql rfl rfl ?_ | refine R.add rfl rfl (by omega) ?_ | refine R.ixN rfl rfl rfl (by omega) (fun a ha => ?_) | refine R.ixM rfl rfl rfl (by omega) (fun a ha => ?_) | refine R.ixON rfl rfl rfl (by first | omega | (simp; omega)) (fun a' ha' => ?_) | refine R.ixO rfl rfl rfl (by first | omega | (simp; omega)) (fun a' ha' => ?_) | refine R.six rfl rfl (by omega) (fun a ha => ?_) | refine R.mvU rfl ?_ | refine R.ext rfl rfl ?_ | refine R.al rfl ?_ | refine R.stoB rfl rfl rfl rfl ⟨rfl, rfl, Nat.le_of_ble_eq_true rfl⟩ rfl ?_ | refine R.stoE _ rfl rfl rfl rfl rfl (by assumption) rfl ⟨rfl, rfl, Nat.le_of_ble_eq_true rfl⟩ ?_ | refine R.bld rfl rfl ?_ | refine R.condT rfl ?_ | refine R.condF rfl ?_ | refine R.cond rfl (fun hc => ?_) (fun hc => ?_) | refine R.condN rfl (fun hc => ?_) (fun hc => ?_) | refine R.condB rfl (fun hc => ?_) (fun hc => ?_))
      all_goals first
        | (exfalso; omega)
        | exact R.nloop (R.again (i + 1) (by omega) (by omega) ⟨rfl, rfl, rfl, rfl, trivial⟩ ⟨rfl, rfl, arrI_eq hf1.symm, arrI_eq hf2.symm, trivial⟩ rfl rfl)
        | skip
    | cons c r =>
      have e1 : decide ((c :: r : List UInt8) = []) = false := rfl
      have hR := sReadDec r (by simp at hwl2; omega)
      rw [← tailE c r] at hR
      have hn : (rdN (((c :: r).take (c :: r).length).drop 1)).1 = (rdD r).getD 0 := by rw [tailE, rdN_fst]
      generalize (rdN (((c :: r).take (c :: r).length).drop 1)).1 = n at *
      generalize (rdN (((c :: r).take (c :: r).length).drop 1)).2 = ok at *
      have hc0 : (c :: r)[0]? = some c := rfl
      have hbb := c.toNat_lt
      by_cases h98 : c = 98
      · rw [frS_cons, if_pos h98, ← hn] at hf1
        rw [tlS_cons, if_pos h98, Option.toList_none, List.append_nil] at hf2
        have hcn : (c.toNat : Int) = 98 := by rw [h98]; rfl
        repeat' (first | refine R.ixK (c :: r) hw rfl rfl rfl ?_ | refine R.eqlA e1 rfl rfl ?_ | refine R.slenA rfl ?_ | refine R.sixA hc0 rfl rfl (by omega) ?_ | refine R.mv rfl ?_ | refine R.reg ?_ | refine R.nil ?_ | refine R.seq ?_ | refine R.nseq ?_ | refine R.nblk ?_ | refine R.skip ?_ | refine R.blk ?_ | refine R.exit rfl ?_ | refine R.ldEp rfl rfl (by assumption) rfl rfl ?_ | refine R.ldaEp rfl rfl (by assumption) (Nat.le_of_ble_eq_true rfl) rfl rfl ?_ | refine R.ld rfl rfl rfl ?_ | refine R.lda rfl rfl (Nat.le_of_ble_eq_true rfl) rfl ?_ | refine R.fa rfl rfl ?_ | refine R.lenM rfl ?_ | refine R.lenO rfl rfl ?_ | refine R.len rfl rfl ?_ | refine R.lss rfl rfl ?_ | refine R.eql rfl rfl ?_ | refine R.add rfl rfl (by omega) ?_ | refine R.ixN rfl rfl rfl (by omega) (fun a ha => ?_) | refine R.ixM rfl rfl rfl (by omega) (fun a ha => ?_) | refine R.ixON rfl rfl rfl (by first | omega | (simp; omega)) (fun a' ha' => ?_) | refine R.ixO rfl rfl rfl (by first | omega | (simp; omega)) (fun a' ha' => ?_) | refine R.six rfl rfl (by omega) (fun a ha => ?_) | refine R.mvU rfl ?_ | refine R.ext rfl rfl ?_ | refine R.al rfl ?_ | refine R.stoB rfl rfl rfl rfl ⟨rfl, rfl, Nat.le_of_ble_eq_true rfl⟩ rfl ?_ | refine R.stoE _ rfl rfl rfl rfl rfl (by assumption) rfl ⟨rfl, rfl, Nat.le_of_ble_eq_true rfl⟩ ?_ | refine R.bld rfl rfl ?_ | refine R.condT rfl ?_ | refine R.condF rfl ?_ | refine R.sslcA 1 (c :: r).length rfl ⟨by simp, Nat.le_refl _⟩ ⟨_, rfl⟩ rfl ?_ | refine R.call (bor := false) rfl rfl (hR) rfl rfl rfl ?_ | refine R.call (bor := true) rfl rfl (hR) rfl rfl rfl ?_ | refine R.fcal (bor := false) rfl rfl (hR) rfl rfl rfl ?_ | refine R.fcal (bor := true) rfl rfl (hR) rfl rfl rfl ?_ | refine R.bsl (f := enI) [n] rfl rfl rfl rfl rfl ?_ | refine R.app (f := enI) (fun _ => rfl) rfl rfl rfl rfl rfl ⟨by simp only [List.length_singleton]; omega, by simp only [List.length_singleton]; omega⟩ ?_ | refine R.cond rfl (fun hc => ?_) (fun hc => ?_) | refine R.condN rfl (fun hc => ?_) (fun hc => ?_) | refine R.condB rfl (fun hc => ?_) (fun hc => ?_))
        all_goals first
          | (exfalso; omega)
          | exact R.nloop (R.again (i + 1) (by omega) (by omega) ⟨rfl, rfl, rfl, rfl, trivial⟩ ⟨rfl, rfl, arrI_eq hf1.symm, arrI_eq hf2.symm, trivial⟩ rfl rfl)
          | skip
      · rw [frS_cons, if_neg h98, Option.toList_none, List.append_nil] at hf1
        rw [tlS_cons, if_neg h98, ← hn] at hf2
        have hcn : ¬ ((c.toNat : Int) = 98) := fun e => h98 (by rw [← UInt8.toNat_inj]; exact Int.ofNat.inj e)
        repeat' (first | refine R.ixK (c :: r) hw rfl rfl rfl ?_ | refine R.eqlA e1 rfl rfl ?_ | refine R.slenA rfl ?_ | refine R.sixA hc0 rfl rfl (by omega) ?_ | refine R.mv rfl ?_ | refine R.reg ?_ | refine R.nil ?_ | refine R.seq ?_ | refine R.nseq ?_ | refine R.nblk ?_ | refine R.skip ?_ | refine R.blk ?_ | refine R.exit rfl ?_ | refine R.ldEp rfl rfl (by assumption) rfl rfl ?_ | refine R.ldaEp rfl rfl (by assumption) (Nat.le_of_ble_eq_true rfl) rfl rfl ?_ | refine R.ld rfl rfl rfl ?_ | refine R.lda rfl rfl (Nat.le_of_ble_eq_true rfl) rfl ?_ | refine R.fa rfl rfl ?_ | refine R.lenM rfl ?_ | refine R.lenO rfl rfl ?_ | refine R.len rfl rfl ?_ | refine R.lss rfl rfl ?_ | refine R.eql rfl rfl ?_ | refine R.add rfl rfl (by omega) ?_ | refine R.ixN rfl rfl rfl (by omega) (fun a ha => ?_) | refine R.ixM rfl rfl rfl (by omega) (fun a ha => ?_) | refine R.ixON rfl rfl rfl (by first | omega | (simp; omega)) (fun a' ha' => ?_) | refine R.ixO rfl rfl rfl (by first | omega | (simp; omega)) (fun a' ha' => ?_) | refine R.six rfl rfl (by omega) (fun a ha => ?_) | refine R.mvU rfl ?_ | refine R.ext rfl rfl ?_ | refine R.al rfl ?_ | refine R.stoB rfl rfl rfl rfl ⟨rfl, rfl, Nat.le_of_ble_eq_true rfl⟩ rfl ?_ | refine R.stoE _ rfl rfl rfl rfl rfl (by assumption) rfl ⟨rfl, rfl, Nat.le_of_ble_eq_true rfl⟩ ?_ | refine R.bld rfl rfl ?_ | refine R.condT rfl ?_ | refine R.condF rfl ?_ | refine R.sslcA 1 (c :: r).length rfl ⟨by simp, Nat.le_refl _⟩ ⟨_, rfl⟩ rfl ?_ | refine R.call (bor := false) rfl rfl (hR) rfl rfl rfl ?_ | refine R.call (bor := true) rfl rfl (hR) rfl rfl rfl ?_ | refine R.fcal (bor := false) rfl rfl (hR) rfl rfl rfl ?_ | refine R.fcal (bor := true) rfl rfl (hR) rfl rfl rfl ?_ | refine R.bsl (f := enI) [n] rfl rfl rfl rfl rfl ?_ | refine R.app (f := enI) (fun _ => rfl) rfl rfl rfl rfl rfl ⟨by simp only [List.length_singleton]; omega, by simp only [List.length_singleton]; omega⟩ ?_ | refine R.cond rfl (fun hc => ?_) (fun hc => ?_) | refine R.condN rfl (fun hc => ?_) (fun hc => ?_) | refine R.condB rfl (fun hc => ?_) (fun hc => ?_))
        all_goals first
          | (exfalso; omega)
          | exact R.nloop (R.again (i + 1) (by omega) (by omega) ⟨rfl, rfl, rfl, rfl, trivial⟩ ⟨rfl, rfl, arrI_eq hf1.symm, arrI_eq hf2.symm, trivial⟩ rfl rfl)
          | skip
  obtain rfl : i = ws.length := by omega
  rw [List.take_length]
  repeat' (first | refine R.mv rfl ?_ | refine R.reg ?_ | refine R.nil ?_ | refine R.seq ?_ | refine R.nseq ?_ | refine R.nblk ?_ | refine R.skip ?_ | refine R.blk ?_ | refine R.exit rfl ?_ | refine R.ldEp rfl rfl (by assumption) rfl rfl ?_ | refine R.ldaEp rfl rfl (by assumption) (Nat.le_of_ble_eq_true rfl) rfl rfl ?_ | refine R.ld rfl rfl rfl ?_ | refine R.lda rfl rfl (Nat.le_of_ble_eq_true rfl) rfl ?_ | refine R.fa rfl rfl ?_ | refine R.lenM rfl ?_ | refine R.lenO rfl rfl ?_ | refine R.len rfl rfl ?_ | refine R.lss rfl rfl ?_ | refine R.eql rfl rfl ?_ | refine R.add rfl rfl (by omega) ?_ | refine R.ixN rfl rfl rfl (by omega) (fun a ha => ?_) | refine R.ixM rfl rfl rfl (by omega) (fun a ha => ?_) | refine R.ixON rfl rfl rfl (by first | omega | (simp; omega)) (fun a' ha' => ?_) | refine R.ixO rfl rfl rfl (by first | omega | (simp; omega)) (fun a' ha' => ?_) | refine R.six rfl rfl (by omega) (fun a ha => ?_) | refine R.mvU rfl ?_ | refine R.ext rfl rfl ?_ | refine R.al rfl ?_ | refine R.stoB rfl rfl rfl rfl ⟨rfl, rfl, Nat.le_of_ble_eq_true rfl⟩ rfl ?_ | refine R.stoE _ rfl rfl rfl rfl rfl (by assumption) rfl ⟨rfl, rfl, Nat.le_of_ble_eq_true rfl⟩ ?_ | refine R.bld rfl rfl ?_ | refine R.condT rfl ?_ | refine R.condF rfl ?_ | refine R.cond rfl (fun hc => ?_) (fun hc => ?_) | refine R.condN rfl (fun hc => ?_) (fun hc => ?_) | refine R.condB rfl (fun hc => ?_) (fun hc => ?_))
  all_goals first
    | (exfalso; omega)
    | exact R.ret ⟨.inr rfl, R.outR rfl (.cons (R.cell rfl rfl T.ty53 (Nat.le_of_ble_eq_true rfl) rfl) .nil) rfl rfl rfl rfl⟩
    | skip
theorem iMix (s : List UInt8) (hs : s.length ≤ 1048576) (hg : goodW (wsC s)) : Spec Tryd.prog 63 [.c (sD (bA s))] (oMx (mixF (wsC s))) := by
  have hC := lib_cut [32] s (by simp) hs
  obtain ⟨hwl, hwm⟩ := ws_len hs
  change Spec _ _ _ (oN kStr ((wsC s).map enS)) at hC
  unfold mixF
  generalize wsC s = ws at *
  refine Spec.walk T.mixed Tryd.func63 S.ok63 (by simp [Tryd.f63]) fun hk => ?_
  clear hk
  unfold S.s63
  repeat' (first | refine R.mv rfl ?_ | refine R.reg ?_ | refine R.nil ?_ | refine R.seq ?_ | refine R.nseq ?_ | refine R.nblk ?_ | refine R.skip ?_ | refine R.blk ?_ | refine R.exit rfl ?_ | refine R.gRun rfl ?_ | refine R.gSkip rfl ?_ | refine R.gSkip0 rfl ?_ | refine R.gUndef rfl ?_ | refine R.gUndef0 rfl ?_ | refine R.ldEp rfl rfl (by assumption) rfl rfl ?_ | refine R.ldaEp rfl rfl (by assumption) (Nat.le_of_ble_eq_true rfl) rfl rfl ?_ | refine R.ld rfl rfl rfl ?_ | refine R.lda rfl rfl (Nat.le_of_ble_eq_true rfl) rfl ?_ | refine R.fa rfl rfl ?_ | refine R.lenM rfl ?_ | refine R.lenO rfl rfl ?_ | refine R.len rfl rfl ?_ | refine R.lss rfl rfl ?_ | refine R.eql rfl rfl ?_ | refine R.neq rfl rfl ?_ | refine R.add rfl rfl (by omega) ?_ | refine R.ixN rfl rfl rfl (by omega) (fun a ha => ?_) | refine R.ixM rfl rfl rfl (by omega) (fun a ha => ?_) | refine R.ixON rfl rfl rfl (by first | omega | (simp; omega)) (fun a' ha' => ?_) | refine R.ixO rfl rfl rfl (by first | omega | (simp; omega)) (fun a' ha' => ?_) | refine R.six rfl rfl (by omega) (fun a ha => ?_) | refine R.pickT rfl rfl ?_ | refine R.pickF rfl rfl ?_ | refine R.mvU rfl ?_ | refine R.ext rfl rfl ?_ | refine R.al rfl ?_ | refine R.stoB rfl rfl rfl rfl ⟨rfl, rfl, Nat.le_of_ble_eq_true rfl⟩ rfl ?_ | refine R.stoE _ rfl rfl rfl rfl rfl (by assumption) rfl ⟨rfl, rfl, Nat.le_of_ble_eq_true rfl⟩ ?_ | refine R.condT rfl ?_ | refine R.condF rfl ?_ | refine R.call (bor := false) rfl rfl (hC) rfl rfl rfl ?_ | refine R.call (bor := true) rfl rfl (hC) rfl rfl rfl ?_ | refine R.fcal (bor := false) rfl rfl (hC) rfl rfl rfl ?_ | refine R.fcal (bor := true) rfl rfl (hC) rfl rfl rfl ?_ | refine R.cond rfl (fun hc => ?_) (fun hc => ?_) | refine R.condN rfl (fun hc => ?_) (fun hc => ?_) | refine R.condB rfl (fun hc => ?_) (fun hc => ?_) | refine R.gP rfl (fun hc => ?_) (fun hc => ?_) | refine R.gN rfl (fun hc => ?_) (fun hc => ?_) | refine R.gB rfl (fun hc => ?_) (fun hc => ?_))
  refine R.loop (G := Nat) (fun i => [(2, .v (.c (.ptr 2 0))), (3, .v (.c (.ptr 3 0))), (9, rdA kStr (ws.map enS)), (10, pvA (.int .i64 ws.length)), (11, pvA (.int .i64 i))]) (fun i => [(2, .box 53 [nilB, nilB]), (3, .box 53 [.own 901, .own 902]), (901, .arr kI (((ws.take i).filterMap frF).map enI) []), (902, .arr kI (((ws.take i).filterMap tlF).map enI) [])]) (fun i => i ≤ ws.length) (fun i => ws.length - i) 0 (Nat.zero_le _) (Weak.trans (Weak.reifyBox 3 0 901 kI rfl rfl rfl) (Weak.trans (Weak.reifyBox 3 1 902 kI rfl rfl rfl) (Weak.frame _ _ ⟨rfl, rfl, rfl, rfl, rfl, trivial⟩ ⟨rfl, rfl, rfl, rfl, trivial⟩ rfl rfl))) fun i hi => ?_
  have hl1 := fm_len frF ws i
  have hl2 := fm_len tlF ws i
  by_cases hil : i < ws.length
  · obtain ⟨w, hw⟩ : ∃ w, ws[i]? = some w := ⟨_, List.getElem?_eq_getElem hil⟩
    have hwl2 := hwm w (List.mem_of_getElem? hw)
    have hgw := hg w (List.mem_of_getElem? hw)
    have hf1 := fm_snoc frF hw
    have hf2 := fm_snoc tlF hw
    generalize (ws.take i).filterMap frF = F at *
    generalize (ws.take i).filterMap tlF = T at *
    cases w with
    | nil => exact (hgw rfl).elim
    | cons c r =>
      have e1 : decide ((c :: r : List UInt8) = []) = false := rfl
      have hR := iReadDec r (by simp at hwl2; omega)
      cases hr : rdD r with
      | none => exact (hgw (rdW_none hr)).elim
      | some n =>
        rw [rdN_some hr, ← tailE c r] at hR
        rw [rdW_some hr] at hgw
        have hc0 : (c :: r)[0]? = some c := rfl
        have hbb := c.toNat_lt
        by_cases h98 : c = 98
        · rw [show frF (c :: r) = some n by unfold frF; rw [rdW_some hr, if_pos h98]] at hf1
          rw [show tlF (c :: r) = none by unfold tlF; rw [rdW_some hr, if_pos h98], Option.toList_none, List.append_nil] at hf2
          have hcn : (c.toNat : Int) = 98 := by rw [h98]; rfl
          repeat' (first | refine R.ixK (c :: r) hw rfl rfl rfl ?_ | refine R.neqA e1 rfl rfl ?_ | refine R.slenA rfl ?_ | refine R.sixA hc0 rfl rfl (by omega) ?_ | refine R.mv rfl ?_ | refine R.reg ?_ | refine R.nil ?_ | refine R.seq ?_ | refine R.nseq ?_ | refine R.nblk ?_ | refine R.skip ?_ | refine R.blk ?_ | refine R.exit rfl ?_ | refine R.gRun rfl ?_ | refine R.gSkip rfl ?_ | refine R.gSkip0 rfl ?_ | refine R.gUndef rfl ?_ | refine R.gUndef0 rfl ?_ | refine R.ldEp rfl rfl (by assumption) rfl rfl ?_ | refine R.ldaEp rfl rfl (by assumption) (Nat.le_of_ble_eq_true rfl) rfl rfl ?_ | refine R.ld rfl rfl rfl ?_ | refine R.lda rfl rfl (Nat.le_of_ble_eq_true rfl) rfl ?_ | refine R.fa rfl rfl ?_ | refine R.lenM rfl ?_ | refine R.lenO rfl rfl ?_ | refine R.len rfl rfl ?_ | refine R.lss rfl rfl ?_ | refine R.eql rfl rfl ?_ | refine R.neq rfl rfl ?_ | refine R.add rfl rfl (by omega) ?_ | refine R.ixN rfl rfl rfl (by omega) (fun a ha => ?_) | refine R.ixM rfl rfl rfl (by omega) (fun a ha => ?_) | refine R.ixON rfl rfl rfl (by first | omega | (simp; omega)) (fun a' ha' => ?_) | refine R.ixO rfl rfl rfl (by first | omega | (simp; omega)) (fun a' ha' => ?_) | refine R.six rfl rfl (by omega) (fun a ha => ?_) | refine R.pickT rfl rfl ?_ | refine R.pickF rfl rfl ?_ | refine R.mvU rfl ?_ | refine R.ext rfl rfl ?_ | refine R.al rfl ?_ | refine R.stoB rfl rfl rfl rfl ⟨rfl, rfl, Nat.le_of_ble_eq_true rfl⟩ rfl ?_ | refine R.stoE _ rfl rfl rfl rfl rfl (by assumption) rfl ⟨rfl, rfl, Nat.le_of_ble_eq_true rfl⟩ ?_ | refine R.condT rfl ?_ | refine R.condF rfl ?_ | refine R.sslcA 1 (c :: r).length rfl ⟨by simp, Nat.le_refl _⟩ ⟨_, rfl⟩ rfl ?_ | refine R.call (bor := false) rfl rfl (hR) rfl rfl rfl ?_ | refine R.call (bor := true) rfl rfl (hR) rfl rfl rfl ?_ | refine R.fcal (bor := false) rfl rfl (hR) rfl rfl rfl ?_ | refine R.fcal (bor := true) rfl rfl (hR) rfl rfl rfl ?_ | refine R.bsl (f := enI) [n] rfl rfl rfl rfl rfl ?_ | refine R.app (f := enI) (fun _ => rfl) rfl rfl rfl rfl rfl ⟨by simp only [List.length_singleton]; omega, by simp only [List.length_singleton]; omega⟩ ?_ | refine R.cond rfl (fun hc => ?_) (fun hc => ?_) | refine R.condN rfl (fun hc => ?_) (fun hc => ?_) | refine R.condB rfl (fun hc => ?_) (fun hc => ?_) | refine R.gP rfl (fun hc => ?_) (fun hc => ?_) | refine R.gN rfl (fun hc => ?_) (fun hc => ?_) | refine R.gB rfl (fun hc => ?_) (fun hc => ?_))
          all_goals first
            | (exfalso; omega)
            | exact R.nloop (R.again (i + 1) (by omega) (by omega) ⟨rfl, rfl, rfl, rfl, rfl, trivial⟩ ⟨rfl, rfl, arrI_eq hf1.symm, arrI_eq hf2.symm, trivial⟩ rfl rfl)
            | skip
        · rw [if_neg h98] at hgw
          have h116 : c = 116 := by
            by_cases h : c = 116
            · exact h
            · rw [if_neg h] at hgw; exact (hgw rfl).elim
          rw [show frF (c :: r) = none by unfold frF; rw [rdW_some hr, if_neg h98, if_pos h116], Option.toList_none, List.append_nil] at hf1
          rw [show tlF (c :: r) = some n by unfold tlF; rw [rdW_some hr, if_neg h98, if_pos h116]] at hf2
          have hcn : (c.toNat : Int) = 116 := by rw [h116]; rfl
          repeat' (first | refine R.ixK (c :: r) hw rfl rfl rfl ?_ | refine R.neqA e1 rfl rfl ?_ | refine R.slenA rfl ?_ | refine R.sixA hc0 rfl rfl (by omega) ?_ | refine R.mv rfl ?_ | refine R.reg ?_ | refine R.nil ?_ | refine R.seq ?_ | refine R.nseq ?_ | refine R.nblk ?_ | refine R.skip ?_ | refine R.blk ?_ | refine R.exit rfl ?_ | refine R.gRun rfl ?_ | refine R.gSkip rfl ?_ | refine R.gSkip0 rfl ?_ | refine R.gUndef rfl ?_ | refine R.gUndef0 rfl ?_ | refine R.ldEp rfl rfl (by assumption) rfl rfl ?_ | refine R.ldaEp rfl rfl (by assumption) (Nat.le_of_ble_eq_true rfl) rfl rfl ?_ | refine R.ld rfl rfl rfl ?_ | refine R.lda rfl rfl (Nat.le_of_ble_eq_true rfl) rfl ?_ | refine R.fa rfl rfl ?_ | refine R.lenM rfl ?_ | refine R.lenO rfl rfl ?_ | refine R.len rfl rfl ?_ | refine R.lss rfl rfl ?_ | refine R.eql rfl rfl ?_ | refine R.neq rfl rfl ?_ | refine R.add rfl rfl (by omega) ?_ | refine R.ixN rfl rfl rfl (by omega) (fun a ha => ?_) | refine R.ixM rfl rfl rfl (by omega) (fun a ha => ?_) | refine R.ixON rfl rfl rfl (by first | omega | (simp; omega)) (fun a' ha' => ?_) | refine R.ixO rfl rfl rfl (by first | omega | (simp; omega)) (fun a' ha' => ?_) | refine R.six rfl rfl (by omega) (fun a ha => ?_) | refine R.pickT rfl rfl ?_ | refine R.pickF rfl rfl ?_ | refine R.mvU rfl ?_ | refine R.ext rfl rfl ?_ | refine R.al rfl ?_ | refine R.stoB rfl rfl rfl rfl ⟨rfl, rfl, Nat.le_of_ble_eq_true rfl⟩ rfl ?_ | refine R.stoE _ rfl rfl rfl rfl rfl (by assumption) rfl ⟨rfl, rfl, Nat.le_of_ble_eq_true rfl⟩ ?_ | refine R.condT rfl ?_ | refine R.condF rfl ?_ | refine R.sslcA 1 (c :: r).length rfl ⟨by simp, Nat.le_refl _⟩ ⟨_, rfl⟩ rfl ?_ | refine R.call (bor := false) rfl rfl (hR) rfl rfl rfl ?_ | refine R.call (bor := true) rfl rfl (hR) rfl rfl rfl ?_ | refine R.fcal (bor := false) rfl rfl (hR) rfl rfl rfl ?_ | refine R.fcal (bor := true) rfl rfl (hR) rfl rfl rfl ?_ | refine R.bsl (f := enI) [n] rfl rfl rfl rfl rfl ?_ | refine R.app (f := enI) (fun _ => rfl) rfl rfl rfl rfl rfl ⟨by simp only [List.length_singleton]; omega, by simp only [List.length_singleton]; omega⟩ ?_ | refine R.cond rfl (fun hc => ?_) (fun hc => ?_) | refine R.condN rfl (fun hc => ?_) (fun hc => ?_) | refine R.condB rfl (fun hc => ?_) (fun hc => ?_) | refine R.gP rfl (fun hc => ?_) (fun hc => ?_) | refine R.gN rfl (fun hc => ?_) (fun hc => ?_) | refine R.gB rfl (fun hc => ?_) (fun hc => ?_))
          all_goals first
            | (exfalso; omega)
            | exact R.nloop (R.again (i + 1) (by omega) (by omega) ⟨rfl, rfl, rfl, rfl, rfl, trivial⟩ ⟨rfl, rfl, arrI_eq hf1.symm, arrI_eq hf2.symm, trivial⟩ rfl rfl)
            | skip
  obtain rfl : i = ws.length := by omega
  rw [List.take_length]
  repeat' (first | refine R.mv rfl ?_ | refine R.reg ?_ | refine R.nil ?_ | refine R.seq ?_ | refine R.nseq ?_ | refine R.nblk ?_ | refine R.skip ?_ | refine R.blk ?_ | refine R.exit rfl ?_ | refine R.gRun rfl ?_ | refine R.gSkip rfl ?_ | refine R.gSkip0 rfl ?_ | refine R.gUndef rfl ?_ | refine R.gUndef0 rfl ?_ | refine R.ldEp rfl rfl (by assumption) rfl rfl ?_ | refine R.ldaEp rfl rfl (by assumption) (Nat.le_of_ble_eq_true rfl) rfl rfl ?_ | refine R.ld rfl rfl rfl ?_ | refine R.lda rfl rfl (Nat.le_of_ble_eq_true rfl) rfl ?_ | refine R.fa rfl rfl ?_ | refine R.lenM rfl ?_ | refine R.lenO rfl rfl ?_ | refine R.len rfl rfl ?_ | refine R.lss rfl rfl ?_ | refine R.eql rfl rfl ?_ | refine R.neq rfl rfl ?_ | refine R.add rfl rfl (by omega) ?_ | refine R.ixN rfl rfl rfl (by omega) (fun a ha => ?_) | refine R.ixM rfl rfl rfl (by omega) (fun a ha => ?_) | refine R.ixON rfl rfl rfl (by first | omega | (simp; omega)) (fun a' ha' => ?_) | refine R.ixO rfl rfl rfl (by first | omega | (simp; omega)) (fun a' ha' => ?_) | refine R.six rfl rfl (by omega) (fun a ha => ?_) | refine R.pickT rfl rfl ?_ | refine R.pickF rfl rfl ?_ | refine R.mvU rfl ?_ | refine R.ext rfl rfl ?_ | refine R.al rfl ?_ | refine R.stoB rfl rfl rfl rfl ⟨rfl, rfl, Nat.le_of_ble_eq_true rfl⟩ rfl ?_ | refine R.stoE _ rfl rfl rfl rfl rfl (by assumption) rfl ⟨rfl, rfl, Nat.le_of_ble_eq_true rfl⟩ ?_ | refine R.condT rfl ?_ | refine R.condF rfl ?_ | refine R.cond rfl (fun hc => ?_) (fun hc => ?_) | refine R.condN rfl (fun hc => ?_) (fun hc => ?_) | refine R.condB rfl (fun hc => ?_) (fun hc => ?_) | refine R.gP rfl (fun hc => ?_) (fun hc => ?_) | refine R.gN rfl (fun hc => ?_) (fun hc => ?_) | refine R.gB rfl (fun hc => ?_) (fun hc => ?_))
  all_goals first
    | (exfalso; omega)
    | exact R.ret ⟨.inr rfl, R.outR rfl (.cons (R.cell rfl rfl T.ty53 (Nat.le_of_ble_eq_true rfl) rfl) .nil) rfl rfl rfl rfl⟩
    | skip
/-- The first word that is none. -/
theorem first_bad : ∀ ws : List (List UInt8), ¬ goodW ws → ∃ j w, ws[j]? = some w ∧ rdW w = none ∧ goodW (ws.take j)
  | [], h => (h fun w hw => (by cases hw)).elim
  | w :: ws, h => by
    cases hw : rdW w with
    | none => exact ⟨0, w, rfl, hw, fun x hx => by simp at hx⟩
    | some v =>
      have h' : ¬ goodW ws := fun hg => h fun x hx => by
        rcases List.mem_cons.1 hx with rfl | hx
        · rw [hw]; simp
        · exact hg x hx
      obtain ⟨j, w', h1, h2, h3⟩ := first_bad ws h'
      refine ⟨j + 1, w', h1, h2, fun x hx => ?_⟩
      rw [List.take_succ_cons] at hx
      rcases List.mem_cons.1 hx with rfl | hx
      · rw [hw]; simp
      · exact h3 x hx
theorem iMixP (s : List UInt8) (hs : s.length ≤ 1048576) (hg : ¬ goodW (wsC s)) : PanM Tryd.prog 63 [.c (sD (bA s))] npCh := by
  have hC := lib_cut [32] s (by simp) hs
  obtain ⟨hwl, hwm⟩ := ws_len hs
  change Spec _ _ _ (oN kStr ((wsC s).map enS)) at hC
  obtain ⟨j, wj, hj, hbad, hgood⟩ := first_bad _ hg
  generalize wsC s = ws at *
  have hjl := (List.getElem?_eq_some_iff.1 hj).1
  refine PanM.walk T.mixed Tryd.func63 S.ok63 (by simp [Tryd.f63]) fun hk => ?_
  clear hk
  unfold S.s63
  repeat' (first | refine R.mv rfl ?_ | refine R.reg ?_ | refine R.nil ?_ | refine R.seq ?_ | refine R.nseq ?_ | refine R.nblk ?_ | refine R.skip ?_ | refine R.blk ?_ | refine R.exit rfl ?_ | refine R.gRun rfl ?_ | refine R.gSkip rfl ?_ | refine R.gSkip0 rfl ?_ | refine R.gUndef rfl ?_ | refine R.gUndef0 rfl ?_ | refine R.ldEp rfl rfl (by assumption) rfl rfl ?_ | refine R.ldaEp rfl rfl (by assumption) (Nat.le_of_ble_eq_true rfl) rfl rfl ?_ | refine R.ld rfl rfl rfl ?_ | refine R.lda rfl rfl (Nat.le_of_ble_eq_true rfl) rfl ?_ | refine R.fa rfl rfl ?_ | refine R.lenM rfl ?_ | refine R.lenO rfl rfl ?_ | refine R.len rfl rfl ?_ | refine R.lss rfl rfl ?_ | refine R.eql rfl rfl ?_ | refine R.neq rfl rfl ?_ | refine R.add rfl rfl (by omega) ?_ | refine R.ixN rfl rfl rfl (by omega) (fun a ha => ?_) | refine R.ixM rfl rfl rfl (by omega) (fun a ha => ?_) | refine R.ixON rfl rfl rfl (by first | omega | (simp; omega)) (fun a' ha' => ?_) | refine R.ixO rfl rfl rfl (by first | omega | (simp; omega)) (fun a' ha' => ?_) | refine R.six rfl rfl (by omega) (fun a ha => ?_) | refine R.pickT rfl rfl ?_ | refine R.pickF rfl rfl ?_ | refine R.mvU rfl ?_ | refine R.ext rfl rfl ?_ | refine R.al rfl ?_ | refine R.stoB rfl rfl rfl rfl ⟨rfl, rfl, Nat.le_of_ble_eq_true rfl⟩ rfl ?_ | refine R.stoE _ rfl rfl rfl rfl rfl (by assumption) rfl ⟨rfl, rfl, Nat.le_of_ble_eq_true rfl⟩ ?_ | refine R.condT rfl ?_ | refine R.condF rfl ?_ | refine R.call (bor := false) rfl rfl (hC) rfl rfl rfl ?_ | refine R.call (bor := true) rfl rfl (hC) rfl rfl rfl ?_ | refine R.fcal (bor := false) rfl rfl (hC) rfl rfl rfl ?_ | refine R.fcal (bor := true) rfl rfl (hC) rfl rfl rfl ?_ | refine R.cond rfl (fun hc => ?_) (fun hc => ?_) | refine R.condN rfl (fun hc => ?_) (fun hc => ?_) | refine R.condB rfl (fun hc => ?_) (fun hc => ?_) | refine R.gP rfl (fun hc => ?_) (fun hc => ?_) | refine R.gN rfl (fun hc => ?_) (fun hc => ?_) | refine R.gB rfl (fun hc => ?_) (fun hc => ?_))
  refine R.loop (G := Nat) (fun i => [(2, .v (.c (.ptr 2 0))), (3, .v (.c (.ptr 3 0))), (9, rdA kStr (ws.map enS)), (10, pvA (.int .i64 ws.length)), (11, pvA (.int .i64 i))]) (fun i => [(2, .box 53 [nilB, nilB]), (3, .box 53 [.own 901, .own 902]), (901, .arr kI (((ws.take i).filterMap frF).map enI) []), (902, .arr kI (((ws.take i).filterMap tlF).map enI) [])]) (fun i => i ≤ j) (fun i => ws.length - i) 0 (Nat.zero_le _) (Weak.trans (Weak.reifyBox 3 0 901 kI rfl rfl rfl) (Weak.trans (Weak.reifyBox 3 1 902 kI rfl rfl rfl) (Weak.frame _ _ ⟨rfl, rfl, rfl, rfl, rfl, trivial⟩ ⟨rfl, rfl, rfl, rfl, trivial⟩ rfl rfl))) fun i hi => ?_
  have hl1 := fm_len frF ws i
  have hl2 := fm_len tlF ws i
  have hil : i < ws.length := by omega
  obtain ⟨w, hw⟩ : ∃ w, ws[i]? = some w := ⟨_, List.getElem?_eq_getElem hil⟩
  have hwl2 := hwm w (List.mem_of_getElem? hw)
  have hf1 := fm_snoc frF hw
  have hf2 := fm_snoc tlF hw
  generalize (ws.take i).filterMap frF = F at *
  generalize (ws.take i).filterMap tlF = T at *
  by_cases hij : i < j
  · have hgw : rdW w ≠ none := hgood w (List.mem_of_getElem? (i := i) (by rw [List.getElem?_take_of_lt hij, hw]))
    cases w with
    | nil => exact (hgw rfl).elim
    | cons c r =>
      have e1 : decide ((c :: r : List UInt8) = []) = false := rfl
      have hR := iReadDec r (by simp at hwl2; omega)
      cases hr : rdD r with
      | none => exact (hgw (rdW_none hr)).elim
      | some n =>
        rw [rdN_some hr, ← tailE c r] at hR
        rw [rdW_some hr] at hgw
        have hc0 : (c :: r)[0]? = some c := rfl
        have hbb := c.toNat_lt
        by_cases h98 : c = 98
        · rw [show frF (c :: r) = some n by unfold frF; rw [rdW_some hr, if_pos h98]] at hf1
          rw [show tlF (c :: r) = none by unfold tlF; rw [rdW_some hr, if_pos h98], Option.toList_none, List.append_nil] at hf2
          have hcn : (c.toNat : Int) = 98 := by rw [h98]; rfl
          repeat' (first | refine R.ixK (c :: r) hw rfl rfl rfl ?_ | refine R.neqA e1 rfl rfl ?_ | refine R.slenA rfl ?_ | refine R.sixA hc0 rfl rfl (by omega) ?_ | refine R.mv rfl ?_ | refine R.reg ?_ | refine R.nil ?_ | refine R.seq ?_ | refine R.nseq ?_ | refine R.nblk ?_ | refine R.skip ?_ | refine R.blk ?_ | refine R.exit rfl ?_ | refine R.gRun rfl ?_ | refine R.gSkip rfl ?_ | refine R.gSkip0 rfl ?_ | refine R.gUndef rfl ?_ | refine R.gUndef0 rfl ?_ | refine R.ldEp rfl rfl (by assumption) rfl rfl ?_ | refine R.ldaEp rfl rfl (by assumption) (Nat.le_of_ble_eq_true rfl) rfl rfl ?_ | refine R.ld rfl rfl rfl ?_ | refine R.lda rfl rfl (Nat.le_of_ble_eq_true rfl) rfl ?_ | refine R.fa rfl rfl ?_ | refine R.lenM rfl ?_ | refine R.lenO rfl rfl ?_ | refine R.len rfl rfl ?_ | refine R.lss rfl rfl ?_ | refine R.eql rfl rfl ?_ | refine R.neq rfl rfl ?_ | refine R.add rfl rfl (by omega) ?_ | refine R.ixN rfl rfl rfl (by omega) (fun a ha => ?_) | refine R.ixM rfl rfl rfl (by omega) (fun a ha => ?_) | refine R.ixON rfl rfl rfl (by first | omega | (simp; omega)) (fun a' ha' => ?_) | refine R.ixO rfl rfl rfl (by first | omega | (simp; omega)) (fun a' ha' => ?_) | refine R.six rfl rfl (by omega) (fun a ha => ?_) | refine R.pickT rfl rfl ?_ | refine R.pickF rfl rfl ?_ | refine R.mvU rfl ?_ | refine R.ext rfl rfl ?_ | refine R.al rfl ?_ | refine R.stoB rfl rfl rfl rfl ⟨rfl, rfl, Nat.le_of_ble_eq_true rfl⟩ rfl ?_ | refine R.stoE _ rfl rfl rfl rfl rfl (by assumption) rfl ⟨rfl, rfl, Nat.le_of_ble_eq_true rfl⟩ ?_ | refine R.condT rfl ?_ | refine R.condF rfl ?_ | refine R.sslcA 1 (c :: r).length rfl ⟨by simp, Nat.le_refl _⟩ ⟨_, rfl⟩ rfl ?_ | refine R.call (bor := false) rfl rfl (hR) rfl rfl rfl ?_ | refine R.call (bor := true) rfl rfl (hR) rfl rfl rfl ?_ | refine R.fcal (bor := false) rfl rfl (hR) rfl rfl rfl ?_ | refine R.fcal (bor := true) rfl rfl (hR) rfl rfl rfl ?_ | refine R.bsl (f := enI) [n] rfl rfl rfl rfl rfl ?_ | refine R.app (f := enI) (fun _ => rfl) rfl rfl rfl rfl rfl ⟨by simp only [List.length_singleton]; omega, by simp only [List.length_singleton]; omega⟩ ?_ | refine R.cond rfl (fun hc => ?_) (fun hc => ?_) | refine R.condN rfl (fun hc => ?_) (fun hc => ?_) | refine R.condB rfl (fun hc => ?_) (fun hc => ?_) | refine R.gP rfl (fun hc => ?_) (fun hc => ?_) | refine R.gN rfl (fun hc => ?_) (fun hc => ?_) | refine R.gB rfl (fun hc => ?_) (fun hc => ?_))
          all_goals first
            | (exfalso; omega)
            | exact R.nloop (R.again (i + 1) (by omega) (by omega) ⟨rfl, rfl, rfl, rfl, rfl, trivial⟩ ⟨rfl, rfl, arrI_eq hf1.symm, arrI_eq hf2.symm, trivial⟩ rfl rfl)
            | skip
        · rw [if_neg h98] at hgw
          have h116 : c = 116 := by
            by_cases h : c = 116
            · exact h
            · rw [if_neg h] at hgw; exact (hgw rfl).elim
          rw [show frF (c :: r) = none by unfold frF; rw [rdW_some hr, if_neg h98, if_pos h116], Option.toList_none, List.append_nil] at hf1
          rw [show tlF (c :: r) = some n by unfold tlF; rw [rdW_some hr, if_neg h98, if_pos h116]] at hf2
          have hcn : (c.toNat : Int) = 116 := by rw [h116]; rfl
          repeat' (first | refine R.ixK (c :: r) hw rfl rfl rfl ?_ | refine R.neqA e1 rfl rfl ?_ | refine R.slenA rfl ?_ | refine R.sixA hc0 rfl rfl (by omega) ?_ | refine R.mv rfl ?_ | refine R.reg ?_ | refine R.nil ?_ | refine R.seq ?_ | refine R.nseq ?_ | refine R.nblk ?_ | refine R.skip ?_ | refine R.blk ?_ | refine R.exit rfl ?_ | refine R.gRun rfl ?_ | refine R.gSkip rfl ?_ | refine R.gSkip0 rfl ?_ | refine R.gUndef rfl ?_ | refine R.gUndef0 rfl ?_ | refine R.ldEp rfl rfl (by assumption) rfl rfl ?_ | refine R.ldaEp rfl rfl (by assumption) (Nat.le_of_ble_eq_true rfl) rfl rfl ?_ | refine R.ld rfl rfl rfl ?_ | refine R.lda rfl rfl (Nat.le_of_ble_eq_true rfl) rfl ?_ | refine R.fa rfl rfl ?_ | refine R.lenM rfl ?_ | refine R.lenO rfl rfl ?_ | refine R.len rfl rfl ?_ | refine R.lss rfl rfl ?_ | refine R.eql rfl rfl ?_ | refine R.neq rfl rfl ?_ | refine R.add rfl rfl (by omega) ?_ | refine R.ixN rfl rfl rfl (by omega) (fun a ha => ?_) | refine R.ixM rfl rfl rfl (by omega) (fun a ha => ?_) | refine R.ixON rfl rfl rfl (by first | omega | (simp; omega)) (fun a' ha' => ?_) | refine R.ixO rfl rfl rfl (by first | omega | (simp; omega)) (fun a' ha' => ?_) | refine R.six rfl rfl (by omega) (fun a ha => ?_) | refine R.pickT rfl rfl ?_ | refine R.pickF rfl rfl ?_ | refine R.mvU rfl ?_ | refine R.ext rfl rfl ?_ | refine R.al rfl ?_ | refine R.stoB rfl rfl rfl rfl ⟨rfl, rfl, Nat.le_of_ble_eq_true rfl⟩ rfl ?_ | refine R.stoE _ rfl rfl rfl rfl rfl (by assumption) rfl ⟨rfl, rfl, Nat.le_of_ble_eq_true rfl⟩ ?_ | refine R.condT rfl ?_ | refine R.condF rfl ?_ | refine R.sslcA 1 (c :: r).length rfl ⟨by simp, Nat.le_refl _⟩ ⟨_, rfl⟩ rfl ?_ | refine R.call (bor := false) rfl rfl (hR) rfl rfl rfl ?_ | refine R.call (bor := true) rfl rfl (hR) rfl rfl rfl ?_ | refine R.fcal (bor := false) rfl rfl (hR) rfl rfl rfl ?_ | refine R.fcal (bor := true) rfl rfl (hR) rfl rfl rfl ?_ | refine R.bsl (f := enI) [n] rfl rfl rfl rfl rfl ?_ | refine R.app (f := enI) (fun _ => rfl) rfl rfl rfl rfl rfl ⟨by simp only [List.length_singleton]; omega, by simp only [List.length_singleton]; omega⟩ ?_ | refine R.cond rfl (fun hc => ?_) (fun hc => ?_) | refine R.condN rfl (fun hc => ?_) (fun hc => ?_) | refine R.condB rfl (fun hc => ?_) (fun hc => ?_) | refine R.gP rfl (fun hc => ?_) (fun hc => ?_) | refine R.gN rfl (fun hc => ?_) (fun hc => ?_) | refine R.gB rfl (fun hc => ?_) (fun hc => ?_))
          all_goals first
            | (exfalso; omega)
            | exact R.nloop (R.again (i + 1) (by omega) (by omega) ⟨rfl, rfl, rfl, rfl, rfl, trivial⟩ ⟨rfl, rfl, arrI_eq hf1.symm, arrI_eq hf2.symm, trivial⟩ rfl rfl)
            | skip
  obtain rfl : i = j := by omega
  rw [hw] at hj
  obtain rfl : w = wj := Option.some.inj hj
  clear hf1 hf2
  cases w with
  | nil =>
    have e1 : decide (([] : List UInt8) = []) = true := rfl
    repeat' (first | refine R.ixK [] hw rfl rfl rfl ?_ | refine R.neqA e1 rfl rfl ?_ | refine R.mv rfl ?_ | refine R.reg ?_ | refine R.nil ?_ | refine R.seq ?_ | refine R.nseq ?_ | refine R.nblk ?_ | refine R.skip ?_ | refine R.blk ?_ | refine R.exit rfl ?_ | refine R.gRun rfl ?_ | refine R.gSkip rfl ?_ | refine R.gSkip0 rfl ?_ | refine R.gUndef rfl ?_ | refine R.gUndef0 rfl ?_ | refine R.ldEp rfl rfl (by assumption) rfl rfl ?_ | refine R.ldaEp rfl rfl (by assumption) (Nat.le_of_ble_eq_true rfl) rfl rfl ?_ | refine R.ld rfl rfl rfl ?_ | refine R.lda rfl rfl (Nat.le_of_ble_eq_true rfl) rfl ?_ | refine R.fa rfl rfl ?_ | refine R.lenM rfl ?_ | refine R.lenO rfl rfl ?_ | refine R.len rfl rfl ?_ | refine R.lss rfl rfl ?_ | refine R.eql rfl rfl ?_ | refine R.neq rfl rfl ?_ | refine R.add rfl rfl (by omega) ?_ | refine R.ixN rfl rfl rfl (by omega) (fun a ha => ?_) | refine R.ixM rfl rfl rfl (by omega) (fun a ha => ?_) | refine R.ixON rfl rfl rfl (by first | omega | (simp; omega)) (fun a' ha' => ?_) | refine R.ixO rfl rfl rfl (by first | omega | (simp; omega)) (fun a' ha' => ?_) | refine R.six rfl rfl (by omega) (fun a ha => ?_) | refine R.pickT rfl rfl ?_ | refine R.pickF rfl rfl ?_ | refine R.mvU rfl ?_ | refine R.ext rfl rfl ?_ | refine R.al rfl ?_ | refine R.stoB rfl rfl rfl rfl ⟨rfl, rfl, Nat.le_of_ble_eq_true rfl⟩ rfl ?_ | refine R.stoE _ rfl rfl rfl rfl rfl (by assumption) rfl ⟨rfl, rfl, Nat.le_of_ble_eq_true rfl⟩ ?_ | refine R.condT rfl ?_ | refine R.condF rfl ?_ | refine R.cond rfl (fun hc => ?_) (fun hc => ?_) | refine R.condN rfl (fun hc => ?_) (fun hc => ?_) | refine R.condB rfl (fun hc => ?_) (fun hc => ?_) | refine R.gP rfl (fun hc => ?_) (fun hc => ?_) | refine R.gN rfl (fun hc => ?_) (fun hc => ?_) | refine R.gB rfl (fun hc => ?_) (fun hc => ?_))
    all_goals first
      | (exfalso; omega)
      | skip
    exact R.panNp np_build np_iface np_panic rfl rfl rfl
  | cons c r =>
    have e1 : decide ((c :: r : List UInt8) = []) = false := rfl
    have hR := iReadDec r (by simp at hwl2; omega)
    have hc0 : (c :: r)[0]? = some c := rfl
    have hbb := c.toNat_lt
    cases hr : rdD r with
    | none =>
      rw [rdN_none hr, ← tailE c r] at hR
      repeat' (first | refine R.ixK (c :: r) hw rfl rfl rfl ?_ | refine R.neqA e1 rfl rfl ?_ | refine R.slenA rfl ?_ | refine R.sixA hc0 rfl rfl (by omega) ?_ | refine R.mv rfl ?_ | refine R.reg ?_ | refine R.nil ?_ | refine R.seq ?_ | refine R.nseq ?_ | refine R.nblk ?_ | refine R.skip ?_ | refine R.blk ?_ | refine R.exit rfl ?_ | refine R.gRun rfl ?_ | refine R.gSkip rfl ?_ | refine R.gSkip0 rfl ?_ | refine R.gUndef rfl ?_ | refine R.gUndef0 rfl ?_ | refine R.ldEp rfl rfl (by assumption) rfl rfl ?_ | refine R.ldaEp rfl rfl (by assumption) (Nat.le_of_ble_eq_true rfl) rfl rfl ?_ | refine R.ld rfl rfl rfl ?_ | refine R.lda rfl rfl (Nat.le_of_ble_eq_true rfl) rfl ?_ | refine R.fa rfl rfl ?_ | refine R.lenM rfl ?_ | refine R.lenO rfl rfl ?_ | refine R.len rfl rfl ?_ | refine R.lss rfl rfl ?_ | refine R.eql rfl rfl ?_ | refine R.neq rfl rfl ?_ | refine R.add rfl rfl (by omega) ?_ | refine R.ixN rfl rfl rfl (by omega) (fun a ha => ?_) | refine R.ixM rfl rfl rfl (by omega) (fun a ha => ?_) | refine R.ixON rfl rfl rfl (by first | omega | (simp; omega)) (fun a' ha' => ?_) | refine R.ixO rfl rfl rfl (by first | omega | (simp; omega)) (fun a' ha' => ?_) | refine R.six rfl rfl (by omega) (fun a ha => ?_) | refine R.pickT rfl rfl ?_ | refine R.pickF rfl rfl ?_ | refine R.mvU rfl ?_ | refine R.ext rfl rfl ?_ | refine R.al rfl ?_ | refine R.stoB rfl rfl rfl rfl ⟨rfl, rfl, Nat.le_of_ble_eq_true rfl⟩ rfl ?_ | refine R.stoE _ rfl rfl rfl rfl rfl (by assumption) rfl ⟨rfl, rfl, Nat.le_of_ble_eq_true rfl⟩ ?_ | refine R.condT rfl ?_ | refine R.condF rfl ?_ | refine R.sslcA 1 (c :: r).length rfl ⟨by simp, Nat.le_refl _⟩ ⟨_, rfl⟩ rfl ?_ | refine R.call (bor := false) rfl rfl (hR) rfl rfl rfl ?_ | refine R.call (bor := true) rfl rfl (hR) rfl rfl rfl ?_ | refine R.fcal (bor := false) rfl rfl (hR) rfl rfl rfl ?_ | refine R.fcal (bor := true) rfl rfl (hR) rfl rfl rfl ?_ | refine R.cond rfl (fun hc => ?_) (fun hc => ?_) | refine R.condN rfl (fun hc => ?_) (fun hc => ?_) | refine R.condB rfl (fun hc => ?_) (fun hc => ?_) | refine R.gP rfl (fun hc => ?_) (fun hc => ?_) | refine R.gN rfl (fun hc => ?_) (fun hc => ?_) | refine R.gB rfl (fun hc => ?_) (fun hc => ?_))
      all_goals first
        | (exfalso; omega)
        | exact R.panNp np_build np_iface np_panic rfl rfl rfl
        | skip
    | some n =>
      rw [rdN_some hr, ← tailE c r] at hR
      rw [rdW_some hr] at hbad
      have h98 : ¬ ((c.toNat : Int) = 98) := fun e => by
        rw [if_pos (by rw [← UInt8.toNat_inj]; exact Int.ofNat.inj e)] at hbad
        cases hbad
      have h116 : ¬ ((c.toNat : Int) = 116) := fun e => by
        rw [if_neg (fun h => h98 (by rw [h]; rfl)), if_pos (by rw [← UInt8.toNat_inj]; exact Int.ofNat.inj e)] at hbad
        cases hbad
      repeat' (first | refine R.ixK (c :: r) hw rfl rfl rfl ?_ | refine R.neqA e1 rfl rfl ?_ | refine R.slenA rfl ?_ | refine R.sixA hc0 rfl rfl (by omega) ?_ | refine R.mv rfl ?_ | refine R.reg ?_ | refine R.nil ?_ | refine R.seq ?_ | refine R.nseq ?_ | refine R.nblk ?_ | refine R.skip ?_ | refine R.blk ?_ | refine R.exit rfl ?_ | refine R.gRun rfl ?_ | refine R.gSkip rfl ?_ | refine R.gSkip0 rfl ?_ | refine R.gUndef rfl ?_ | refine R.gUndef0 rfl ?_ | refine R.ldEp rfl rfl (by assumption) rfl rfl ?_ | refine R.ldaEp rfl rfl (by assumption) (Nat.le_of_ble_eq_true rfl) rfl rfl ?_ | refine R.ld rfl rfl rfl ?_ | refine R.lda rfl rfl (Nat.le_of_ble_eq_true rfl) rfl ?_ | refine R.fa rfl rfl ?_ | refine R.lenM rfl ?_ | refine R.lenO rfl rfl ?_ | refine R.len rfl rfl ?_ | refine R.lss rfl rfl ?_ | refine R.eql rfl rfl ?_ | refine R.neq rfl rfl ?_ | refine R.add rfl rfl (by omega) ?_ | refine R.ixN rfl rfl rfl (by omega) (fun a ha => ?_) | refine R.ixM rfl rfl rfl (by omega) (fun a ha => ?_) | refine R.ixON rfl rfl rfl (by first | omega | (simp; omega)) (fun a' ha' => ?_) | refine R.ixO rfl rfl rfl (by first | omega | (simp; omega)) (fun a' ha' => ?_) | refine R.six rfl rfl (by omega) (fun a ha => ?_) | refine R.pickT rfl rfl ?_ | refine R.pickF rfl rfl ?_ | refine R.mvU rfl ?_ | refine R.ext rfl rfl ?_ | refine R.al rfl ?_ | refine R.stoB rfl rfl rfl rfl ⟨rfl, rfl, Nat.le_of_ble_eq_true rfl⟩ rfl ?_ | refine R.stoE _ rfl rfl rfl rfl rfl (by assumption) rfl ⟨rfl, rfl, Nat.le_of_ble_eq_true rfl⟩ ?_ | refine R.condT rfl ?_ | refine R.condF rfl ?_ | refine R.sslcA 1 (c :: r).length rfl ⟨by simp, Nat.le_refl _⟩ ⟨_, rfl⟩ rfl ?_ | refine R.call (bor := false) rfl rfl (hR) rfl rfl rfl ?_ | refine R.call (bor := true) rfl rfl (hR) rfl rfl rfl ?_ | refine R.fcal (bor := false) rfl rfl (hR) rfl rfl rfl ?_ | refine R.fcal (bor := true) rfl rfl (hR) rfl rfl rfl ?_ | refine R.cond rfl (fun hc => ?_) (fun hc => ?_) | refine R.condN rfl (fun hc => ?_) (fun hc => ?_) | refine R.condB rfl (fun hc => ?_) (fun hc => ?_) | refine R.gP rfl (fun hc => ?_) (fun hc => ?_) | refine R.gN rfl (fun hc => ?_) (fun hc => ?_) | refine R.gB rfl (fun hc => ?_) (fun hc => ?_))
      all_goals first
        | (exfalso; omega)
        | exact R.panNp np_build np_iface np_panic rfl rfl rfl
        | skip
abbrev oRP (r : TPlan × Bool) : RT := .tup [.agg [.nw kRMixture (r.1.fStages.map enRMixture)], cB1 r.2]
theorem fm_sum {f : List UInt8 → Option Int} (hf : f [] = none) : ∀ ws : List (List UInt8), (ws.filterMap f).length ≤ (ws.map List.length).sum
  | [] => Nat.le_refl _
  | w :: ws => by
    have ih := fm_sum hf ws
    rw [List.filterMap_cons, List.map_cons, List.sum_cons]
    cases w with
    | nil => rw [hf]; simpa using ih
    | cons c r =>
      split
      · omega
      · simp only [List.length_cons]
        omega
theorem bin_sum (s : List UInt8) : ((wsC s).map List.length).sum ≤ s.length := by
  have h := cutS_sum (sep := [32]) (by simp) s.length s [] (Nat.le_refl _)
  have h1 : 1 ≤ (wsC s).length := List.length_pos_iff.2 (cutS_ne [32] s [] 0)
  unfold wsC at h1 ⊢
  simp only [List.length_nil, List.length_singleton] at h
  omega
theorem mixF_bd {s : List UInt8} (hs : s.length ≤ 1048576) : bdMixture (mixF (wsC s)) := by
  have := bin_sum s
  exact ⟨Nat.le_trans (fm_sum rfl _) (by omega), Nat.le_trans (fm_sum rfl _) (by omega)⟩
theorem mixG_bd {s : List UInt8} (hs : s.length ≤ 1048576) : bdMixture (mixG (wsC s)) := by
  have := bin_sum s
  exact ⟨Nat.le_trans (fm_sum rfl _) (by omega), Nat.le_trans (fm_sum rfl _) (by omega)⟩
theorem bs_len {s : List UInt8} (hs : s.length ≤ 1048576) : (bsC s).length ≤ 349526 ∧ ∀ b ∈ bsC s, b.length ≤ 1048576 := by
  obtain ⟨h1, h2⟩ := cut_bds (s := s) (sep := [32, 124, 32]) (by simp)
  refine ⟨?_, fun b hb => Nat.le_trans (h1 b hb) hs⟩
  unfold bsC
  simp only [List.length_cons, List.length_nil] at h2
  omega
theorem ss_len {s : List UInt8} (hs : s.length ≤ 1048576) : (ssC s).length ≤ 524289 ∧ ∀ b ∈ ssC s, b.length ≤ 1048576 := by
  obtain ⟨h1, h2⟩ := cut_bds (s := s) (sep := [59, 32]) (by simp)
  refine ⟨?_, fun b hb => Nat.le_trans (h1 b hb) hs⟩
  unfold ssC
  simp only [List.length_cons, List.length_nil] at h2
  omega
theorem plan_bd {mk : List (List UInt8) → TMixture} (hmk : ∀ b : List UInt8, b.length ≤ 1048576 → bdMixture (mk (wsC b))) {s : List UInt8} (hs : s.length ≤ 1048576) : bdPlan (rdPl mk s) := by
  obtain ⟨h1, h2⟩ := ss_len hs
  refine ⟨by unfold rdPl; rw [List.length_map]; omega, fun st hst => ?_⟩
  obtain ⟨x, hx, rfl⟩ := List.mem_map.1 hst
  obtain ⟨h3, h4⟩ := bs_len (h2 x hx)
  refine ⟨by unfold rdStg; rw [List.length_map]; omega, fun m hm => ?_⟩
  obtain ⟨b, hb, rfl⟩ := List.mem_map.1 hm
  exact hmk b (h4 b hb)
theorem map_snocA {α β : Type} (f : α → β) {l : List α} {i : Nat} {a : α} (h : l[i]? = some a) : (l.take (i + 1)).map f = (l.take i).map f ++ [f a] := by
  rw [List.take_add_one, h, List.map_append]
  rfl
theorem arrM_eq {l l' : List TMixture} (h : l = l') : (some (Ob.arr kMixture (l.map enMixture) [])) = some (Ob.arr kMixture (l'.map enMixture) []) := by rw [h]
theorem arrR_eq {l l' : List (List TMixture)} (h : l = l') : (some (Ob.arr kRMixture (l.map enRMixture) [])) = some (Ob.arr kRMixture (l'.map enRMixture) []) := by rw [h]
theorem sReadPlan (s : List UInt8) (hs : s.length ≤ 1048576) : Spec Tryd.prog 13 [.c (sD (bA s))] (oRP (sRP s)) := by
  by_cases h0 : s = []
  · rw [show sRP s = (⟨[]⟩, false) from if_pos h0]
    have e1 : decide (s = []) = true := decide_eq_true h0
    refine Spec.walk T.mixed Tryd.func13 S.ok13 (by simp [Tryd.f13]) fun hk => ?_
    clear hk
    unfold S.s13
    repeat' (first | refine R.eqlA e1 rfl rfl ?_ | refine R.mv rfl ?_ | refine R.reg ?_ | refine R.nil ?_ | refine R.seq ?_ | refine R.nseq ?_ | refine R.nblk ?_ | refine R.skip ?_ | refine R.blk ?_ | refine R.exit rfl ?_ | refine R.ldEp rfl rfl (by assumption) rfl rfl ?_ | refine R.ldaEp rfl rfl (by assumption) (Nat.le_of_ble_eq_true rfl) rfl rfl ?_ | refine R.ld rfl rfl rfl ?_ | refine R.lda rfl rfl (Nat.le_of_ble_eq_true rfl) rfl ?_ | refine R.fa rfl rfl ?_ | refine R.lenM rfl ?_ | refine R.lenO rfl rfl ?_ | refine R.len rfl rfl ?_ | refine R.lss rfl rfl ?_ | refine R.eql rfl rfl ?_ | refine R.neq rfl rfl ?_ | refine R.add rfl rfl (by omega) ?_ | refine R.ixN rfl rfl rfl (by omega) (fun a ha => ?_) | refine R.ixM rfl rfl rfl (by omega) (fun a ha => ?_) | refine R.ixON rfl rfl rfl (by first | omega | (simp; omega)) (fun a' ha' => ?_) | refine R.ixO rfl rfl rfl (by first | omega | (simp; omega)) (fun a' ha' => ?_) | refine R.al rfl ?_ | refine R.stoB rfl rfl rfl rfl ⟨rfl, rfl, Nat.le_of_ble_eq_true rfl⟩ rfl ?_ | refine R.stoE _ rfl rfl rfl rfl rfl (by assumption) rfl ⟨rfl, rfl, Nat.le_of_ble_eq_true rfl⟩ ?_ | refine R.bld rfl rfl ?_ | refine R.condT rfl ?_ | refine R.condF rfl ?_ | refine R.cond rfl (fun hc => ?_) (fun hc => ?_) | refine R.condN rfl (fun hc => ?_) (fun hc => ?_) | refine R.condB rfl (fun hc => ?_) (fun hc => ?_))
    all_goals first
      | exact R.ret ⟨.inr rfl, R.outW (Weak.reifyBox 2 0 903 kRMixture rfl rfl rfl) (R.outR rfl (.cons (R.cell rfl rfl T.ty28 (Nat.le_of_ble_eq_true rfl) rfl) (.cons (R.tmp rfl) .nil)) rfl rfl rfl ⟨by show ¬ (2 = 1); omega, rfl⟩)⟩
      | skip
  have e1 : decide (s = []) = false := decide_eq_false h0
  have hC := sCut [59, 32] s (by simp) hs (by simp)
  change Spec _ _ _ (oN kStr ((ssC s).map enS)) at hC
  obtain ⟨hsl, hsm⟩ := ss_len hs
  have hT := sPlanText (rdPl mixG s) (plan_bd (fun b hb => mixG_bd hb) hs)
  have hS0 : sRP s = if fPlT (rdPl mixG s) = s then (rdPl mixG s, true) else (⟨[]⟩, false) := if_neg h0
  rw [hS0]
  unfold rdPl at hT ⊢
  generalize ssC s = ss at *
  refine Spec.walk T.mixed Tryd.func13 S.ok13 (by simp [Tryd.f13]) fun hk => ?_
  clear hk
  unfold S.s13
  repeat' (first | refine R.eqlA e1 rfl rfl ?_ | refine R.mv rfl ?_ | refine R.reg ?_ | refine R.nil ?_ | refine R.seq ?_ | refine R.nseq ?_ | refine R.nblk ?_ | refine R.skip ?_ | refine R.blk ?_ | refine R.exit rfl ?_ | refine R.ldEp rfl rfl (by assumption) rfl rfl ?_ | refine R.ldaEp rfl rfl (by assumption) (Nat.le_of_ble_eq_true rfl) rfl rfl ?_ | refine R.ld rfl rfl rfl ?_ | refine R.lda rfl rfl (Nat.le_of_ble_eq_true rfl) rfl ?_ | refine R.fa rfl rfl ?_ | refine R.lenM rfl ?_ | refine R.lenO rfl rfl ?_ | refine R.len rfl rfl ?_ | refine R.lss rfl rfl ?_ | refine R.eql rfl rfl ?_ | refine R.neq rfl rfl ?_ | refine R.add rfl rfl (by omega) ?_ | refine R.ixN rfl rfl rfl (by omega) (fun a ha => ?_) | refine R.ixM rfl rfl rfl (by omega) (fun a ha => ?_) | refine R.ixON rfl rfl rfl (by first | omega | (simp; omega)) (fun a' ha' => ?_) | refine R.ixO rfl rfl rfl (by first | omega | (simp; omega)) (fun a' ha' => ?_) | refine R.al rfl ?_ | refine R.stoB rfl rfl rfl rfl ⟨rfl, rfl, Nat.le_of_ble_eq_true rfl⟩ rfl ?_ | refine R.stoE _ rfl rfl rfl rfl rfl (by assumption) rfl ⟨rfl, rfl, Nat.le_of_ble_eq_true rfl⟩ ?_ | refine R.bld rfl rfl ?_ | refine R.condT rfl ?_ | refine R.condF rfl ?_ | refine R.call (bor := false) rfl rfl (hC) rfl rfl rfl ?_ | refine R.call (bor := true) rfl rfl (hC) rfl rfl rfl ?_ | refine R.fcal (bor := false) rfl rfl (hC) rfl rfl rfl ?_ | refine R.fcal (bor := true) rfl rfl (hC) rfl rfl rfl ?_ | refine R.cond rfl (fun hc => ?_) (fun hc => ?_) | refine R.condN rfl (fun hc => ?_) (fun hc => ?_) | refine R.condB rfl (fun hc => ?_) (fun hc => ?_))
  all_goals first | (exfalso; omega) | skip
  refine R.loop (G := Nat) (fun i => [(0, pvA (.string (bA s))), (2, .v (.c (.ptr 2 0))), (4, .v (.c (.ptr 4 0))), (5, rdA kStr (ss.map enS)), (6, pvA (.int .i64 i))]) (fun i => [(2, .box 28 [nilB]), (4, .box 28 [.own 901]), (901, .arr kRMixture (((ss.take i).map (rdStg mixG)).map enRMixture) [])]) (fun i => i ≤ ss.length) (fun i => ss.length - i) 0 (Nat.zero_le _) (Weak.trans (Weak.reifyBox 4 0 901 kRMixture rfl rfl rfl) (Weak.frame _ _ ⟨rfl, rfl, rfl, rfl, rfl, trivial⟩ ⟨rfl, rfl, rfl, trivial⟩ rfl rfl)) fun i hi => ?_
  by_cases hil : i < ss.length
  · obtain ⟨x, hx⟩ : ∃ x, ss[i]? = some x := ⟨_, List.getElem?_eq_getElem hil⟩
    have hxl := hsm x (List.mem_of_getElem? hx)
    have hC2 := sCut [32, 124, 32] x (by simp) hxl (by simp)
    change Spec _ _ _ (oN kStr ((bsC x).map enS)) at hC2
    obtain ⟨hbl, hbm⟩ := bs_len hxl
    have hsn := map_snocA (rdStg mixG) hx
    have hln : ((ss.take i).map (rdStg mixG)).length ≤ ss.length := by rw [List.length_map, List.length_take]; omega
    have hst : rdStg mixG x = (bsC x).map fun b => mixG (wsC b) := rfl
    generalize (ss.take i).map (rdStg mixG) = done at *
    generalize rdStg mixG x = st at *
    generalize bsC x = bs at *
    repeat' (first | refine R.ixK x hx rfl rfl rfl ?_ | refine R.mv rfl ?_ | refine R.reg ?_ | refine R.nil ?_ | refine R.seq ?_ | refine R.nseq ?_ | refine R.nblk ?_ | refine R.skip ?_ | refine R.blk ?_ | refine R.exit rfl ?_ | refine R.ldEp rfl rfl (by assumption) rfl rfl ?_ | refine R.ldaEp rfl rfl (by assumption) (Nat.le_of_ble_eq_true rfl) rfl rfl ?_ | refine R.ld rfl rfl rfl ?_ | refine R.lda rfl rfl (Nat.le_of_ble_eq_true rfl) rfl ?_ | refine R.fa rfl rfl ?_ | refine R.lenM rfl ?_ | refine R.lenO rfl rfl ?_ | refine R.len rfl rfl ?_ | refine R.lss rfl rfl ?_ | refine R.eql rfl rfl ?_ | refine R.neq rfl rfl ?_ | refine R.add rfl rfl (by omega) ?_ | refine R.ixN rfl rfl rfl (by omega) (fun a ha => ?_) | refine R.ixM rfl rfl rfl (by omega) (fun a ha => ?_) | refine R.ixON rfl rfl rfl (by first | omega | (simp; omega)) (fun a' ha' => ?_) | refine R.ixO rfl rfl rfl (by first | omega | (simp; omega)) (fun a' ha' => ?_) | refine R.al rfl ?_ | refine R.stoB rfl rfl rfl rfl ⟨rfl, rfl, Nat.le_of_ble_eq_true rfl⟩ rfl ?_ | refine R.stoE _ rfl rfl rfl rfl rfl (by assumption) rfl ⟨rfl, rfl, Nat.le_of_ble_eq_true rfl⟩ ?_ | refine R.bld rfl rfl ?_ | refine R.condT rfl ?_ | refine R.condF rfl ?_ | refine R.call (bor := false) rfl rfl (hC2) rfl rfl rfl ?_ | refine R.call (bor := true) rfl rfl (hC2) rfl rfl rfl ?_ | refine R.fcal (bor := false) rfl rfl (hC2) rfl rfl rfl ?_ | refine R.fcal (bor := true) rfl rfl (hC2) rfl rfl rfl ?_ | refine R.bsl (f := enMixture) ([] : List TMixture) rfl rfl rfl rfl rfl ?_ | refine R.cond rfl (fun hc => ?_) (fun hc => ?_) | refine R.condN rfl (fun hc => ?_) (fun hc => ?_) | refine R.condB rfl (fun hc => ?_) (fun hc => ?_))
    all_goals first | (exfalso; omega) | skip
    refine R.loop (G := Nat) (fun k => [(0, pvA (.string (bA s))), (2, .v (.c (.ptr 2 0))), (4, .v (.c (.ptr 4 0))), (5, rdA kStr (ss.map enS)), (6, pvA (.int .i64 i)), (7, .v (.c (.own 22))), (8, rdA kStr (bs.map enS)), (9, pvA (.int .i64 k))]) (fun k => [(2, .box 28 [nilB]), (4, .box 28 [.own 901]), (22, .arr kMixture (((bs.take k).map fun b => mixG (wsC b)).map enMixture) []), (901, .arr kRMixture (done.map enRMixture) [])]) (fun k => k ≤ bs.length) (fun k => bs.length - k) 0 (Nat.zero_le _) (Weak.frame _ _ ⟨rfl, rfl, rfl, rfl, rfl, rfl, rfl, rfl, trivial⟩ ⟨rfl, rfl, rfl, rfl, trivial⟩ rfl rfl) fun k hk => ?_
    by_cases hkl : k < bs.length
    · obtain ⟨b, hb⟩ : ∃ b, bs[k]? = some b := ⟨_, List.getElem?_eq_getElem hkl⟩
      have hB := sBin b (hbm b (List.mem_of_getElem? hb))
      have hsn2 := map_snocA (fun b => mixG (wsC b)) hb
      have hln2 : ((bs.take k).map fun b => mixG (wsC b)).length ≤ bs.length := by rw [List.length_map, List.length_take]; omega
      generalize ((bs.take k).map fun b => mixG (wsC b)) = done2 at *
      generalize mixG (wsC b) = m at *
      have hap : (done2.length + [m].length) * 48 ≤ 140737488355328 ∧ done2.length + [m].length ≤ 140737488355328 := by rw [List.length_singleton]; omega
      repeat' (first | refine R.ixK b hb rfl rfl rfl ?_ | refine R.mv rfl ?_ | refine R.reg ?_ | refine R.nil ?_ | refine R.seq ?_ | refine R.nseq ?_ | refine R.nblk ?_ | refine R.skip ?_ | refine R.blk ?_ | refine R.exit rfl ?_ | refine R.ldEp rfl rfl (by assumption) rfl rfl ?_ | refine R.ldaEp rfl rfl (by assumption) (Nat.le_of_ble_eq_true rfl) rfl rfl ?_ | refine R.ld rfl rfl rfl ?_ | refine R.lda rfl rfl (Nat.le_of_ble_eq_true rfl) rfl ?_ | refine R.fa rfl rfl ?_ | refine R.lenM rfl ?_ | refine R.lenO rfl rfl ?_ | refine R.len rfl rfl ?_ | refine R.lss rfl rfl ?_ | refine R.eql rfl rfl ?_ | refine R.neq rfl rfl ?_ | refine R.add rfl rfl (by omega) ?_ | refine R.ixN rfl rfl rfl (by omega) (fun a ha => ?_) | refine R.ixM rfl rfl rfl (by omega) (fun a ha => ?_) | refine R.ixON rfl rfl rfl (by first | omega | (simp; omega)) (fun a' ha' => ?_) | refine R.ixO rfl rfl rfl (by first | omega | (simp; omega)) (fun a' ha' => ?_) | refine R.al rfl ?_ | refine R.stoB rfl rfl rfl rfl ⟨rfl, rfl, Nat.le_of_ble_eq_true rfl⟩ rfl ?_ | refine R.stoE _ rfl rfl rfl rfl rfl (by assumption) rfl ⟨rfl, rfl, Nat.le_of_ble_eq_true rfl⟩ ?_ | refine R.bld rfl rfl ?_ | refine R.condT rfl ?_ | refine R.condF rfl ?_ | refine R.callN1 (bor := false) rfl rfl (hB) rfl rfl ?_ | refine R.callN1 (bor := true) rfl rfl (hB) rfl rfl ?_ | refine R.callN (bor := false) rfl rfl (hB) rfl rfl rfl rfl rfl ?_ | refine R.callN (bor := true) rfl rfl (hB) rfl rfl rfl rfl rfl ?_ | refine R.bslA (f := enMixture) [m] rfl rfl rfl rfl rfl rfl ?_ | refine R.appN (f := enMixture) rfl rfl rfl rfl rfl hap ?_ | refine R.cond rfl (fun hc => ?_) (fun hc => ?_) | refine R.condN rfl (fun hc => ?_) (fun hc => ?_) | refine R.condB rfl (fun hc => ?_) (fun hc => ?_))
      all_goals first
        | (exfalso; omega)
        | exact R.nloop (R.again (k + 1) (by omega) (by omega) ⟨rfl, rfl, rfl, rfl, rfl, rfl, rfl, rfl, trivial⟩ ⟨rfl, rfl, arrM_eq hsn2.symm, rfl, trivial⟩ rfl rfl)
        | skip
    obtain rfl : k = bs.length := by omega
    rw [List.take_length, ← hst]
    have hap : (done.length + [st].length) * 24 ≤ 140737488355328 ∧ done.length + [st].length ≤ 140737488355328 := by rw [List.length_singleton]; omega
    repeat' (first | refine R.mv rfl ?_ | refine R.reg ?_ | refine R.nil ?_ | refine R.seq ?_ | refine R.nseq ?_ | refine R.nblk ?_ | refine R.skip ?_ | refine R.blk ?_ | refine R.exit rfl ?_ | refine R.ldEp rfl rfl (by assumption) rfl rfl ?_ | refine R.ldaEp rfl rfl (by assumption) (Nat.le_of_ble_eq_true rfl) rfl rfl ?_ | refine R.ld rfl rfl rfl ?_ | refine R.lda rfl rfl (Nat.le_of_ble_eq_true rfl) rfl ?_ | refine R.fa rfl rfl ?_ | refine R.lenM rfl ?_ | refine R.lenO rfl rfl ?_ | refine R.len rfl rfl ?_ | refine R.lss rfl rfl ?_ | refine R.eql rfl rfl ?_ | refine R.neq rfl rfl ?_ | refine R.add rfl rfl (by omega) ?_ | refine R.ixN rfl rfl rfl (by omega) (fun a ha => ?_) | refine R.ixM rfl rfl rfl (by omega) (fun a ha => ?_) | refine R.ixON rfl rfl rfl (by first | omega | (simp; omega)) (fun a' ha' => ?_) | refine R.ixO rfl rfl rfl (by first | omega | (simp; omega)) (fun a' ha' => ?_) | refine R.al rfl ?_ | refine R.stoB rfl rfl rfl rfl ⟨rfl, rfl, Nat.le_of_ble_eq_true rfl⟩ rfl ?_ | refine R.stoE _ rfl rfl rfl rfl rfl (by assumption) rfl ⟨rfl, rfl, Nat.le_of_ble_eq_true rfl⟩ ?_ | refine R.bld rfl rfl ?_ | refine R.condT rfl ?_ | refine R.condF rfl ?_ | refine R.bslA (f := enRMixture) [st] rfl rfl rfl rfl rfl rfl ?_ | refine R.appN (f := enRMixture) rfl rfl rfl rfl rfl hap ?_ | refine R.cond rfl (fun hc => ?_) (fun hc => ?_) | refine R.condN rfl (fun hc => ?_) (fun hc => ?_) | refine R.condB rfl (fun hc => ?_) (fun hc => ?_))
    all_goals first
      | (exfalso; omega)
      | exact R.nloop (R.again (i + 1) (by omega) (by omega) ⟨rfl, rfl, rfl, rfl, rfl, trivial⟩ ⟨rfl, rfl, arrR_eq hsn.symm, trivial⟩ rfl rfl)
      | skip
  obtain rfl : i = ss.length := by omega
  rw [List.take_length]
  generalize ss.map (rdStg mixG) = sts at *
  by_cases hq : fPlT ⟨sts⟩ = s
  · rw [if_pos hq]
    have e2 : decide (fPlT ⟨sts⟩ = s) = true := decide_eq_true hq
    repeat' (first | refine R.neqA e2 rfl rfl ?_ | refine R.mv rfl ?_ | refine R.reg ?_ | refine R.nil ?_ | refine R.seq ?_ | refine R.nseq ?_ | refine R.nblk ?_ | refine R.skip ?_ | refine R.blk ?_ | refine R.exit rfl ?_ | refine R.ldEp rfl rfl (by assumption) rfl rfl ?_ | refine R.ldaEp rfl rfl (by assumption) (Nat.le_of_ble_eq_true rfl) rfl rfl ?_ | refine R.ld rfl rfl rfl ?_ | refine R.lda rfl rfl (Nat.le_of_ble_eq_true rfl) rfl ?_ | refine R.fa rfl rfl ?_ | refine R.lenM rfl ?_ | refine R.lenO rfl rfl ?_ | refine R.len rfl rfl ?_ | refine R.lss rfl rfl ?_ | refine R.eql rfl rfl ?_ | refine R.neq rfl rfl ?_ | refine R.add rfl rfl (by omega) ?_ | refine R.ixN rfl rfl rfl (by omega) (fun a ha => ?_) | refine R.ixM rfl rfl rfl (by omega) (fun a ha => ?_) | refine R.ixON rfl rfl rfl (by first | omega | (simp; omega)) (fun a' ha' => ?_) | refine R.ixO rfl rfl rfl (by first | omega | (simp; omega)) (fun a' ha' => ?_) | refine R.al rfl ?_ | refine R.stoB rfl rfl rfl rfl ⟨rfl, rfl, Nat.le_of_ble_eq_true rfl⟩ rfl ?_ | refine R.stoE _ rfl rfl rfl rfl rfl (by assumption) rfl ⟨rfl, rfl, Nat.le_of_ble_eq_true rfl⟩ ?_ | refine R.bld rfl rfl ?_ | refine R.condT rfl ?_ | refine R.condF rfl ?_ | refine R.call (bor := false) rfl rfl (hT) rfl rfl rfl ?_ | refine R.call (bor := true) rfl rfl (hT) rfl rfl rfl ?_ | refine R.fcal (bor := false) rfl rfl (hT) rfl rfl rfl ?_ | refine R.fcal (bor := true) rfl rfl (hT) rfl rfl rfl ?_ | refine R.cond rfl (fun hc => ?_) (fun hc => ?_) | refine R.condN rfl (fun hc => ?_) (fun hc => ?_) | refine R.condB rfl (fun hc => ?_) (fun hc => ?_))
    all_goals first
      | (exfalso; omega)
      | exact R.ret ⟨.inr rfl, R.outR rfl (.cons (R.cell rfl rfl T.ty28 (Nat.le_of_ble_eq_true rfl) rfl) (.cons (R.tmp rfl) .nil)) rfl rfl rfl ⟨by show ¬ (2 = 1); omega, rfl⟩⟩
      | skip
  · rw [if_neg hq]
    have e2 : decide (fPlT ⟨sts⟩ = s) = false := decide_eq_false hq
    repeat' (first | refine R.neqA e2 rfl rfl ?_ | refine R.mv rfl ?_ | refine R.reg ?_ | refine R.nil ?_ | refine R.seq ?_ | refine R.nseq ?_ | refine R.nblk ?_ | refine R.skip ?_ | refine R.blk ?_ | refine R.exit rfl ?_ | refine R.ldEp rfl rfl (by assumption) rfl rfl ?_ | refine R.ldaEp rfl rfl (by assumption) (Nat.le_of_ble_eq_true rfl) rfl rfl ?_ | refine R.ld rfl rfl rfl ?_ | refine R.lda rfl rfl (Nat.le_of_ble_eq_true rfl) rfl ?_ | refine R.fa rfl rfl ?_ | refine R.lenM rfl ?_ | refine R.lenO rfl rfl ?_ | refine R.len rfl rfl ?_ | refine R.lss rfl rfl ?_ | refine R.eql rfl rfl ?_ | refine R.neq rfl rfl ?_ | refine R.add rfl rfl (by omega) ?_ | refine R.ixN rfl rfl rfl (by omega) (fun a ha => ?_) | refine R.ixM rfl rfl rfl (by omega) (fun a ha => ?_) | refine R.ixON rfl rfl rfl (by first | omega | (simp; omega)) (fun a' ha' => ?_) | refine R.ixO rfl rfl rfl (by first | omega | (simp; omega)) (fun a' ha' => ?_) | refine R.al rfl ?_ | refine R.stoB rfl rfl rfl rfl ⟨rfl, rfl, Nat.le_of_ble_eq_true rfl⟩ rfl ?_ | refine R.stoE _ rfl rfl rfl rfl rfl (by assumption) rfl ⟨rfl, rfl, Nat.le_of_ble_eq_true rfl⟩ ?_ | refine R.bld rfl rfl ?_ | refine R.condT rfl ?_ | refine R.condF rfl ?_ | refine R.call (bor := false) rfl rfl (hT) rfl rfl rfl ?_ | refine R.call (bor := true) rfl rfl (hT) rfl rfl rfl ?_ | refine R.fcal (bor := false) rfl rfl (hT) rfl rfl rfl ?_ | refine R.fcal (bor := true) rfl rfl (hT) rfl rfl rfl ?_ | refine R.cond rfl (fun hc => ?_) (fun hc => ?_) | refine R.condN rfl (fun hc => ?_) (fun hc => ?_) | refine R.condB rfl (fun hc => ?_) (fun hc => ?_))
    all_goals first
      | (exfalso; omega)
      | exact R.ret ⟨.inr rfl, R.outW (Weak.reifyBox 2 0 903 kRMixture rfl rfl rfl) (R.outR rfl (.cons (R.cell rfl rfl T.ty28 (Nat.le_of_ble_eq_true rfl) rfl) (.cons (R.tmp rfl) .nil)) rfl rfl rfl ⟨by show ¬ (2 = 1); omega, rfl⟩)⟩
      | skip
theorem strip_seq {P : Program} {n : Nat} {a b : Code} {a' b' : SC} (h : strip P n (.seq a b) = some (.seq a' b')) : strip P n b = some b' := by
  simp only [strip] at h
  split at h
  · rename_i x y hx hy
    cases h
    exact hy
  · cases h
theorem stripF_body {P : Program} {fn : Func} {c : Code} {s : SC} (hb : fn.body = some c) (h : stripF P fn = some s) : strip P fn.ntmps c = some s := by
  unfold stripF at h
  simp only [hb, Option.bind_some] at h
  split at h
  · cases h
  · exact h
def tailS : SC → SC
  | .seq _ b => b
  | s => s
/-- How the program's reading ends: with a plan, or with a panic (the results are still what they were). -/
def QP (s : List UInt8) (e : Exit) (st : St) : Prop :=
  (e = .ret ∧ RetOk Tryd.prog Tryd.f37.results.toList (oRP (iRP s)).av (oRP (iRP s)).outs st) ∨
  (e = .panic npCh ∧ iRP s = (⟨[]⟩, false) ∧ st.env 2 = .v (.c (.ptr (pin 0) 0)) ∧ st.env 3 = .v (.c (.ptr (pin 1) 0)) ∧ st.objs (pin 0) = some (.box 28 [nilB]) ∧ st.objs (pin 1) = some (.box 4 [.d (bD false)]))
theorem iRP_bad {s : List UInt8} (h : ¬ (goodT s ∧ okPlan 160 (rdPl mixF s) ∧ planL (rdPl mixF s) = s)) : iRP s = (⟨[]⟩, false) := if_neg h
theorem iRP_ok {s : List UInt8} (h : goodT s ∧ okPlan 160 (rdPl mixF s) ∧ planL (rdPl mixF s) = s) : iRP s = (rdPl mixF s, true) := if_pos h
theorem take_all {α : Type} {p : α → Prop} {l : List α} {i : Nat} {a : α} (h : l[i]? = some a) (h1 : ∀ x ∈ l.take i, p x) (h2 : p a) : ∀ x ∈ l.take (i + 1), p x := fun x hx => by
  rw [take_snocN h] at hx
  rcases List.mem_append.1 hx with hx | hx
  · exact h1 x hx
  · rw [List.mem_singleton.1 hx]; exact h2
theorem rpWalk (s : List UInt8) (hs : s.length ≤ 1048576) : WC Tryd.prog (tailS (tailS S.s37)) [] (QP s) ⟨frE [(0, pvA (.string (bA s))), (2, .v (.c (.ptr (pin 0) 0))), (3, .v (.c (.ptr (pin 1) 0)))], frO [(pin 0, .box 28 [nilB]), (pin 1, .box 4 [.d (bD false)])]⟩ := by
  have hC := lib_cut [59, 32] s (by simp) hs
  change Spec _ _ _ (oN kStr ((ssC s).map enS)) at hC
  obtain ⟨hsl, hsm⟩ := ss_len hs
  have hbd := plan_bd (fun b hb => mixF_bd hb) hs
  have hO := iPlanOk (rdPl mixF s) 160 (by decide) hbd
  have hpl : (rdPl mixF s).fStages = (ssC s).map (rdStg mixF) := rfl
  unfold S.s37
  simp only [tailS]
  repeat' (first | refine R.mv rfl ?_ | refine R.reg ?_ | refine R.nil ?_ | refine R.seq ?_ | refine R.nseqF rfl rfl rfl ?_ | refine R.nseq ?_ | refine R.nblk ?_ | refine R.skip ?_ | refine R.blk ?_ | refine R.exit rfl ?_ | refine R.gRun rfl ?_ | refine R.gSkip rfl ?_ | refine R.gSkip0 rfl ?_ | refine R.gUndef rfl ?_ | refine R.gUndef0 rfl ?_ | refine R.ldEp rfl rfl (by assumption) rfl rfl ?_ | refine R.ldaEp rfl rfl (by assumption) (Nat.le_of_ble_eq_true rfl) rfl rfl ?_ | refine R.ld rfl rfl rfl ?_ | refine R.lda rfl rfl (Nat.le_of_ble_eq_true rfl) rfl ?_ | refine R.fa rfl rfl ?_ | refine R.lenM rfl ?_ | refine R.lenO rfl rfl ?_ | refine R.len rfl rfl ?_ | refine R.lss rfl rfl ?_ | refine R.neq rfl rfl ?_ | refine R.add rfl rfl (by omega) ?_ | refine R.ixN rfl rfl rfl (by omega) (fun a ha => ?_) | refine R.ixM rfl rfl rfl (by omega) (fun a ha => ?_) | refine R.ixON rfl rfl rfl (by first | omega | (simp; omega)) (fun a' ha' => ?_) | refine R.ixO rfl rfl rfl (by first | omega | (simp; omega)) (fun a' ha' => ?_) | refine R.pickT rfl rfl ?_ | refine R.pickF rfl rfl ?_ | refine R.not rfl ?_ | refine R.mkf rfl ?_ | refine R.al rfl ?_ | refine R.stoB rfl rfl rfl rfl ⟨rfl, rfl, Nat.le_of_ble_eq_true rfl⟩ rfl ?_ | refine R.stoE _ rfl rfl rfl rfl rfl (by assumption) rfl ⟨rfl, rfl, Nat.le_of_ble_eq_true rfl⟩ ?_ | refine R.condT rfl ?_ | refine R.condF rfl ?_ | refine R.call (bor := false) rfl rfl (hC) rfl rfl rfl ?_ | refine R.call (bor := true) rfl rfl (hC) rfl rfl rfl ?_ | refine R.fcal (bor := false) rfl rfl (hC) rfl rfl rfl ?_ | refine R.fcal (bor := true) rfl rfl (hC) rfl rfl rfl ?_ | refine R.cond rfl (fun hc => ?_) (fun hc => ?_) | refine R.condN rfl (fun hc => ?_) (fun hc => ?_) | refine R.condB rfl (fun hc => ?_) (fun hc => ?_) | refine R.gP rfl (fun hc => ?_) (fun hc => ?_) | refine R.gN rfl (fun hc => ?_) (fun hc => ?_) | refine R.gB rfl (fun hc => ?_) (fun hc => ?_))
  all_goals first | (exfalso; omega) | skip
  refine R.loop (G := Nat) (fun i => [(0, pvA (.string (bA s))), (2, .v (.c (.ptr (pin 0) 0))), (3, .v (.c (.ptr (pin 1) 0))), (4, .v (.c (.ptr 4 0))), (12, rdA kStr ((ssC s).map enS)), (13, pvA (.int .i64 (ssC s).length)), (14, pvA (.int .i64 i))]) (fun i => [(4, .box 28 [.own 901]), (901, .arr kRMixture ((((ssC s).take i).map (rdStg mixF)).map enRMixture) []), (pin 0, .box 28 [nilB]), (pin 1, .box 4 [.d (bD false)])]) (fun i => i ≤ (ssC s).length ∧ ∀ x ∈ (ssC s).take i, goodS x) (fun i => (ssC s).length - i) 0 ⟨Nat.zero_le _, by simp⟩ (Weak.trans (Weak.reifyBox 4 0 901 kRMixture rfl rfl rfl) (Weak.frame _ _ ⟨rfl, rfl, rfl, rfl, rfl, rfl, rfl, trivial⟩ ⟨rfl, rfl, rfl, rfl, trivial⟩ rfl rfl)) fun i hi => ?_
  obtain ⟨hi, hgd⟩ := hi
  by_cases hil : i < (ssC s).length
  · obtain ⟨x, hx⟩ : ∃ x, (ssC s)[i]? = some x := ⟨_, List.getElem?_eq_getElem hil⟩
    have hxm := List.mem_of_getElem? hx
    have hxl := hsm x hxm
    have hC2 := lib_cut [32, 124, 32] x (by simp) hxl
    change Spec _ _ _ (oN kStr ((bsC x).map enS)) at hC2
    obtain ⟨hbl, hbm⟩ := bs_len hxl
    have hsn := map_snocA (rdStg mixF) hx
    have hln : (((ssC s).take i).map (rdStg mixF)).length ≤ (ssC s).length := by rw [List.length_map, List.length_take]; omega
    have hst : rdStg mixF x = (bsC x).map fun b => mixF (wsC b) := rfl
    generalize ((ssC s).take i).map (rdStg mixF) = done at *
    generalize rdStg mixF x = st at *
    repeat' (first | refine R.ixK x hx rfl rfl rfl ?_ | refine R.mv rfl ?_ | refine R.reg ?_ | refine R.nil ?_ | refine R.seq ?_ | refine R.nseqF rfl rfl rfl ?_ | refine R.nseq ?_ | refine R.nblk ?_ | refine R.skip ?_ | refine R.blk ?_ | refine R.exit rfl ?_ | refine R.gRun rfl ?_ | refine R.gSkip rfl ?_ | refine R.gSkip0 rfl ?_ | refine R.gUndef rfl ?_ | refine R.gUndef0 rfl ?_ | refine R.ldEp rfl rfl (by assumption) rfl rfl ?_ | refine R.ldaEp rfl rfl (by assumption) (Nat.le_of_ble_eq_true rfl) rfl rfl ?_ | refine R.ld rfl rfl rfl ?_ | refine R.lda rfl rfl (Nat.le_of_ble_eq_true rfl) rfl ?_ | refine R.fa rfl rfl ?_ | refine R.lenM rfl ?_ | refine R.lenO rfl rfl ?_ | refine R.len rfl rfl ?_ | refine R.lss rfl rfl ?_ | refine R.neq rfl rfl ?_ | refine R.add rfl rfl (by omega) ?_ | refine R.ixN rfl rfl rfl (by omega) (fun a ha => ?_) | refine R.ixM rfl rfl rfl (by omega) (fun a ha => ?_) | refine R.ixON rfl rfl rfl (by first | omega | (simp; omega)) (fun a' ha' => ?_) | refine R.ixO rfl rfl rfl (by first | omega | (simp; omega)) (fun a' ha' => ?_) | refine R.pickT rfl rfl ?_ | refine R.pickF rfl rfl ?_ | refine R.not rfl ?_ | refine R.mkf rfl ?_ | refine R.al rfl ?_ | refine R.stoB rfl rfl rfl rfl ⟨rfl, rfl, Nat.le_of_ble_eq_true rfl⟩ rfl ?_ | refine R.stoE _ rfl rfl rfl rfl rfl (by assumption) rfl ⟨rfl, rfl, Nat.le_of_ble_eq_true rfl⟩ ?_ | refine R.condT rfl ?_ | refine R.condF rfl ?_ | refine R.call (bor := false) rfl rfl (hC2) rfl rfl rfl ?_ | refine R.call (bor := true) rfl rfl (hC2) rfl rfl rfl ?_ | refine R.fcal (bor := false) rfl rfl (hC2) rfl rfl rfl ?_ | refine R.fcal (bor := true) rfl rfl (hC2) rfl rfl rfl ?_ | refine R.cond rfl (fun hc => ?_) (fun hc => ?_) | refine R.condN rfl (fun hc => ?_) (fun hc => ?_) | refine R.condB rfl (fun hc => ?_) (fun hc => ?_) | refine R.gP rfl (fun hc => ?_) (fun hc => ?_) | refine R.gN rfl (fun hc => ?_) (fun hc => ?_) | refine R.gB rfl (fun hc => ?_) (fun hc => ?_))
    all_goals first | (exfalso; omega) | skip
    refine R.loop (G := Nat) (fun k => [(0, pvA (.string (bA s))), (2, .v (.c (.ptr (pin 0) 0))), (3, .v (.c (.ptr (pin 1) 0))), (4, .v (.c (.ptr 4 0))), (7, .v (.c (.own 903))), (12, rdA kStr ((ssC s).map enS)), (13, pvA (.int .i64 (ssC s).length)), (14, pvA (.int .i64 i)), (19, rdA kStr ((bsC x).map enS)), (20, pvA (.int .i64 (bsC x).length)), (21, pvA (.int .i64 k))]) (fun k => [(4, .box 28 [.own 901]), (901, .arr kRMixture (done.map enRMixture) []), (903, .arr kMixture ((((bsC x).take k).map fun b => mixF (wsC b)).map enMixture) []), (pin 0, .box 28 [nilB]), (pin 1, .box 4 [.d (bD false)])]) (fun k => k ≤ (bsC x).length ∧ ∀ b ∈ (bsC x).take k, goodW (wsC b)) (fun k => (bsC x).length - k) 0 ⟨Nat.zero_le _, by simp⟩ (Weak.trans (Weak.reify 7 903 kMixture rfl rfl) (Weak.frame _ _ ⟨rfl, rfl, rfl, rfl, rfl, rfl, rfl, rfl, rfl, rfl, rfl, trivial⟩ ⟨rfl, rfl, rfl, rfl, rfl, trivial⟩ rfl rfl)) fun k hk => ?_
    obtain ⟨hk, hgb⟩ := hk
    by_cases hkl : k < (bsC x).length
    · obtain ⟨b, hb⟩ : ∃ b, (bsC x)[k]? = some b := ⟨_, List.getElem?_eq_getElem hkl⟩
      have hbm2 := List.mem_of_getElem? hb
      have hbl2 := hbm b hbm2
      have hsn2 := map_snocA (fun b => mixF (wsC b)) hb
      have hln2 : (((bsC x).take k).map fun b => mixF (wsC b)).length ≤ (bsC x).length := by rw [List.length_map, List.length_take]; omega
      generalize (((bsC x).take k).map fun b => mixF (wsC b)) = done2 at *
      by_cases hgw : goodW (wsC b)
      · have hB := iMix b hbl2 hgw
        have hga := take_all (p := fun b => goodW (wsC b)) hb hgb hgw
        generalize mixF (wsC b) = m at *
        have hap : (done2.length + [m].length) * 48 ≤ 140737488355328 ∧ done2.length + [m].length ≤ 140737488355328 := by rw [List.length_singleton]; omega
        repeat' (first | refine R.altN ?_ | refine R.ixK b hb rfl rfl rfl ?_ | refine R.mv rfl ?_ | refine R.reg ?_ | refine R.nil ?_ | refine R.seq ?_ | refine R.nseqF rfl rfl rfl ?_ | refine R.nseq ?_ | refine R.nblk ?_ | refine R.skip ?_ | refine R.blk ?_ | refine R.exit rfl ?_ | refine R.gRun rfl ?_ | refine R.gSkip rfl ?_ | refine R.gSkip0 rfl ?_ | refine R.gUndef rfl ?_ | refine R.gUndef0 rfl ?_ | refine R.ldEp rfl rfl (by assumption) rfl rfl ?_ | refine R.ldaEp rfl rfl (by assumption) (Nat.le_of_ble_eq_true rfl) rfl rfl ?_ | refine R.ld rfl rfl rfl ?_ | refine R.lda rfl rfl (Nat.le_of_ble_eq_true rfl) rfl ?_ | refine R.fa rfl rfl ?_ | refine R.lenM rfl ?_ | refine R.lenO rfl rfl ?_ | refine R.len rfl rfl ?_ | refine R.lss rfl rfl ?_ | refine R.neq rfl rfl ?_ | refine R.add rfl rfl (by omega) ?_ | refine R.ixN rfl rfl rfl (by omega) (fun a ha => ?_) | refine R.ixM rfl rfl rfl (by omega) (fun a ha => ?_) | refine R.ixON rfl rfl rfl (by first | omega | (simp; omega)) (fun a' ha' => ?_) | refine R.ixO rfl rfl rfl (by first | omega | (simp; omega)) (fun a' ha' => ?_) | refine R.pickT rfl rfl ?_ | refine R.pickF rfl rfl ?_ | refine R.not rfl ?_ | refine R.mkf rfl ?_ | refine R.al rfl ?_ | refine R.stoB rfl rfl rfl rfl ⟨rfl, rfl, Nat.le_of_ble_eq_true rfl⟩ rfl ?_ | refine R.stoE _ rfl rfl rfl rfl rfl (by assumption) rfl ⟨rfl, rfl, Nat.le_of_ble_eq_true rfl⟩ ?_ | refine R.condT rfl ?_ | refine R.condF rfl ?_ | refine R.callN1 (bor := false) rfl rfl (hB) rfl rfl ?_ | refine R.callN1 (bor := true) rfl rfl (hB) rfl rfl ?_ | refine R.callN (bor := false) rfl rfl (hB) rfl rfl rfl rfl rfl ?_ | refine R.callN (bor := true) rfl rfl (hB) rfl rfl rfl rfl rfl ?_ | refine R.bslA (f := enMixture) [m] rfl rfl rfl rfl rfl rfl ?_ | refine R.appN (f := enMixture) rfl rfl rfl rfl rfl hap ?_ | refine R.cond rfl (fun hc => ?_) (fun hc => ?_) | refine R.condN rfl (fun hc => ?_) (fun hc => ?_) | refine R.condB rfl (fun hc => ?_) (fun hc => ?_) | refine R.gP rfl (fun hc => ?_) (fun hc => ?_) | refine R.gN rfl (fun hc => ?_) (fun hc => ?_) | refine R.gB rfl (fun hc => ?_) (fun hc => ?_))
        all_goals first
          | (exfalso; omega)
          | exact R.nloop (R.again (k + 1) ⟨by omega, hga⟩ (by omega) ⟨rfl, rfl, rfl, rfl, rfl, rfl, rfl, rfl, rfl, rfl, rfl, trivial⟩ ⟨rfl, rfl, arrM_eq hsn2.symm, rfl, rfl, trivial⟩ rfl rfl)
          | skip
      · have hP := iMixP b hbl2 hgw
        have hbad : iRP s = (⟨[]⟩, false) := iRP_bad fun h => hgw (h.1 x hxm b hbm2)
        repeat' (first | refine R.ixK b hb rfl rfl rfl ?_ | refine R.mv rfl ?_ | refine R.reg ?_ | refine R.nil ?_ | refine R.seq ?_ | refine R.nseqF rfl rfl rfl ?_ | refine R.nseq ?_ | refine R.nblk ?_ | refine R.skip ?_ | refine R.blk ?_ | refine R.exit rfl ?_ | refine R.gRun rfl ?_ | refine R.gSkip rfl ?_ | refine R.gSkip0 rfl ?_ | refine R.gUndef rfl ?_ | refine R.gUndef0 rfl ?_ | refine R.ldEp rfl rfl (by assumption) rfl rfl ?_ | refine R.ldaEp rfl rfl (by assumption) (Nat.le_of_ble_eq_true rfl) rfl rfl ?_ | refine R.ld rfl rfl rfl ?_ | refine R.lda rfl rfl (Nat.le_of_ble_eq_true rfl) rfl ?_ | refine R.fa rfl rfl ?_ | refine R.lenM rfl ?_ | refine R.lenO rfl rfl ?_ | refine R.len rfl rfl ?_ | refine R.lss rfl rfl ?_ | refine R.neq rfl rfl ?_ | refine R.add rfl rfl (by omega) ?_ | refine R.ixN rfl rfl rfl (by omega) (fun a ha => ?_) | refine R.ixM rfl rfl rfl (by omega) (fun a ha => ?_) | refine R.ixON rfl rfl rfl (by first | omega | (simp; omega)) (fun a' ha' => ?_) | refine R.ixO rfl rfl rfl (by first | omega | (simp; omega)) (fun a' ha' => ?_) | refine R.pickT rfl rfl ?_ | refine R.pickF rfl rfl ?_ | refine R.not rfl ?_ | refine R.mkf rfl ?_ | refine R.al rfl ?_ | refine R.stoB rfl rfl rfl rfl ⟨rfl, rfl, Nat.le_of_ble_eq_true rfl⟩ rfl ?_ | refine R.stoE _ rfl rfl rfl rfl rfl (by assumption) rfl ⟨rfl, rfl, Nat.le_of_ble_eq_true rfl⟩ ?_ | refine R.condT rfl ?_ | refine R.condF rfl ?_ | refine R.cond rfl (fun hc => ?_) (fun hc => ?_) | refine R.condN rfl (fun hc => ?_) (fun hc => ?_) | refine R.condB rfl (fun hc => ?_) (fun hc => ?_) | refine R.gP rfl (fun hc => ?_) (fun hc => ?_) | refine R.gN rfl (fun hc => ?_) (fun hc => ?_) | refine R.gB rfl (fun hc => ?_) (fun hc => ?_))
        all_goals first
          | (exfalso; omega)
          | exact R.panCall hP rfl rfl rfl rfl (.inr ⟨rfl, hbad, rfl, rfl, rfl, rfl⟩)
          | skip
    obtain rfl : k = (bsC x).length := by omega
    rw [List.take_length] at hgb ⊢
    rw [← hst]
    have hga := take_all (p := goodS) hx hgd hgb
    have hap : (done.length + [st].length) * 24 ≤ 140737488355328 ∧ done.length + [st].length ≤ 140737488355328 := by rw [List.length_singleton]; omega
    repeat' (first | refine R.mv rfl ?_ | refine R.reg ?_ | refine R.nil ?_ | refine R.seq ?_ | refine R.nseqF rfl rfl rfl ?_ | refine R.nseq ?_ | refine R.nblk ?_ | refine R.skip ?_ | refine R.blk ?_ | refine R.exit rfl ?_ | refine R.gRun rfl ?_ | refine R.gSkip rfl ?_ | refine R.gSkip0 rfl ?_ | refine R.gUndef rfl ?_ | refine R.gUndef0 rfl ?_ | refine R.ldEp rfl rfl (by assumption) rfl rfl ?_ | refine R.ldaEp rfl rfl (by assumption) (Nat.le_of_ble_eq_true rfl) rfl rfl ?_ | refine R.ld rfl rfl rfl ?_ | refine R.lda rfl rfl (Nat.le_of_ble_eq_true rfl) rfl ?_ | refine R.fa rfl rfl ?_ | refine R.lenM rfl ?_ | refine R.lenO rfl rfl ?_ | refine R.len rfl rfl ?_ | refine R.lss rfl rfl ?_ | refine R.neq rfl rfl ?_ | refine R.add rfl rfl (by omega) ?_ | refine R.ixN rfl rfl rfl (by omega) (fun a ha => ?_) | refine R.ixM rfl rfl rfl (by omega) (fun a ha => ?_) | refine R.ixON rfl rfl rfl (by first | omega | (simp; omega)) (fun a' ha' => ?_) | refine R.ixO rfl rfl rfl (by first | omega | (simp; omega)) (fun a' ha' => ?_) | refine R.pickT rfl rfl ?_ | refine R.pickF rfl rfl ?_ | refine R.not rfl ?_ | refine R.mkf rfl ?_ | refine R.al rfl ?_ | refine R.stoB rfl rfl rfl rfl ⟨rfl, rfl, Nat.le_of_ble_eq_true rfl⟩ rfl ?_ | refine R.stoE _ rfl rfl rfl rfl rfl (by assumption) rfl ⟨rfl, rfl, Nat.le_of_ble_eq_true rfl⟩ ?_ | refine R.condT rfl ?_ | refine R.condF rfl ?_ | refine R.bslA (f := enRMixture) [st] rfl rfl rfl rfl rfl rfl ?_ | refine R.appN (f := enRMixture) rfl rfl rfl rfl rfl hap ?_ | refine R.cond rfl (fun hc => ?_) (fun hc => ?_) | refine R.condN rfl (fun hc => ?_) (fun hc => ?_) | refine R.condB rfl (fun hc => ?_) (fun hc => ?_) | refine R.gP rfl (fun hc => ?_) (fun hc => ?_) | refine R.gN rfl (fun hc => ?_) (fun hc => ?_) | refine R.gB rfl (fun hc => ?_) (fun hc => ?_))
    all_goals first
      | (exfalso; omega)
      | exact R.nloop (R.again (i + 1) ⟨by omega, hga⟩ (by omega) ⟨rfl, rfl, rfl, rfl, rfl, rfl, rfl, trivial⟩ ⟨rfl, arrR_eq hsn.symm, rfl, rfl, trivial⟩ rfl rfl)
      | skip
  obtain rfl : i = (ssC s).length := by omega
  rw [List.take_length] at hgd ⊢
  rw [← hpl]
  have hgt : goodT s := hgd
  by_cases hok : okPlan 160 (rdPl mixF s)
  · rw [bP_iff.2 hok] at hO
    have hX := iPlanTx (rdPl mixF s) (okPlan_sm hok)
    by_cases hq : planL (rdPl mixF s) = s
    · have e2 : decide (planL (rdPl mixF s) = s) = true := decide_eq_true hq
      have hr := iRP_ok ⟨hgt, hok, hq⟩
      unfold QP
      rw [hr]
      generalize rdPl mixF s = p at *
      repeat' (first | refine R.neqA e2 rfl rfl ?_ | refine R.mv rfl ?_ | refine R.reg ?_ | refine R.nil ?_ | refine R.seq ?_ | refine R.nseqF rfl rfl rfl ?_ | refine R.nseq ?_ | refine R.nblk ?_ | refine R.skip ?_ | refine R.blk ?_ | refine R.exit rfl ?_ | refine R.gRun rfl ?_ | refine R.gSkip rfl ?_ | refine R.gSkip0 rfl ?_ | refine R.gUndef rfl ?_ | refine R.gUndef0 rfl ?_ | refine R.ldEp rfl rfl (by assumption) rfl rfl ?_ | refine R.ldaEp rfl rfl (by assumption) (Nat.le_of_ble_eq_true rfl) rfl rfl ?_ | refine R.ld rfl rfl rfl ?_ | refine R.lda rfl rfl (Nat.le_of_ble_eq_true rfl) rfl ?_ | refine R.fa rfl rfl ?_ | refine R.lenM rfl ?_ | refine R.lenO rfl rfl ?_ | refine R.len rfl rfl ?_ | refine R.lss rfl rfl ?_ | refine R.neq rfl rfl ?_ | refine R.add rfl rfl (by omega) ?_ | refine R.ixN rfl rfl rfl (by omega) (fun a ha => ?_) | refine R.ixM rfl rfl rfl (by omega) (fun a ha => ?_) | refine R.ixON rfl rfl rfl (by first | omega | (simp; omega)) (fun a' ha' => ?_) | refine R.ixO rfl rfl rfl (by first | omega | (simp; omega)) (fun a' ha' => ?_) | refine R.pickT rfl rfl ?_ | refine R.pickF rfl rfl ?_ | refine R.not rfl ?_ | refine R.mkf rfl ?_ | refine R.al rfl ?_ | refine R.stoB rfl rfl rfl rfl ⟨rfl, rfl, Nat.le_of_ble_eq_true rfl⟩ rfl ?_ | refine R.stoE _ rfl rfl rfl rfl rfl (by assumption) rfl ⟨rfl, rfl, Nat.le_of_ble_eq_true rfl⟩ ?_ | refine R.condT rfl ?_ | refine R.condF rfl ?_ | refine R.call (bor := false) rfl rfl (hO) rfl rfl rfl ?_ | refine R.call (bor := true) rfl rfl (hO) rfl rfl rfl ?_ | refine R.fcal (bor := false) rfl rfl (hO) rfl rfl rfl ?_ | refine R.fcal (bor := true) rfl rfl (hO) rfl rfl rfl ?_ | refine R.call (bor := false) rfl rfl (hX) rfl rfl rfl ?_ | refine R.call (bor := true) rfl rfl (hX) rfl rfl rfl ?_ | refine R.fcal (bor := false) rfl rfl (hX) rfl rfl rfl ?_ | refine R.fcal (bor := true) rfl rfl (hX) rfl rfl rfl ?_ | refine R.cond rfl (fun hc => ?_) (fun hc => ?_) | refine R.condN rfl (fun hc => ?_) (fun hc => ?_) | refine R.condB rfl (fun hc => ?_) (fun hc => ?_) | refine R.gP rfl (fun hc => ?_) (fun hc => ?_) | refine R.gN rfl (fun hc => ?_) (fun hc => ?_) | refine R.gB rfl (fun hc => ?_) (fun hc => ?_))
      all_goals first
        | (exfalso; omega)
        | exact R.ret (.inl ⟨rfl, R.outR rfl (.cons (R.cell rfl rfl T.ty28 (Nat.le_of_ble_eq_true rfl) rfl) (.cons (R.cell1 rfl rfl T.ty4 rfl) .nil)) rfl rfl rfl ⟨by show ¬ (2 = 1); omega, rfl⟩⟩)
        | skip
    · have e2 : decide (planL (rdPl mixF s) = s) = false := decide_eq_false hq
      have hbad : iRP s = (⟨[]⟩, false) := iRP_bad fun h => hq h.2.2
      repeat' (first | refine R.neqA e2 rfl rfl ?_ | refine R.mv rfl ?_ | refine R.reg ?_ | refine R.nil ?_ | refine R.seq ?_ | refine R.nseqF rfl rfl rfl ?_ | refine R.nseq ?_ | refine R.nblk ?_ | refine R.skip ?_ | refine R.blk ?_ | refine R.exit rfl ?_ | refine R.gRun rfl ?_ | refine R.gSkip rfl ?_ | refine R.gSkip0 rfl ?_ | refine R.gUndef rfl ?_ | refine R.gUndef0 rfl ?_ | refine R.ldEp rfl rfl (by assumption) rfl rfl ?_ | refine R.ldaEp rfl rfl (by assumption) (Nat.le_of_ble_eq_true rfl) rfl rfl ?_ | refine R.ld rfl rfl rfl ?_ | refine R.lda rfl rfl (Nat.le_of_ble_eq_true rfl) rfl ?_ | refine R.fa rfl rfl ?_ | refine R.lenM rfl ?_ | refine R.lenO rfl rfl ?_ | refine R.len rfl rfl ?_ | refine R.lss rfl rfl ?_ | refine R.neq rfl rfl ?_ | refine R.add rfl rfl (by omega) ?_ | refine R.ixN rfl rfl rfl (by omega) (fun a ha => ?_) | refine R.ixM rfl rfl rfl (by omega) (fun a ha => ?_) | refine R.ixON rfl rfl rfl (by first | omega | (simp; omega)) (fun a' ha' => ?_) | refine R.ixO rfl rfl rfl (by first | omega | (simp; omega)) (fun a' ha' => ?_) | refine R.pickT rfl rfl ?_ | refine R.pickF rfl rfl ?_ | refine R.not rfl ?_ | refine R.mkf rfl ?_ | refine R.al rfl ?_ | refine R.stoB rfl rfl rfl rfl ⟨rfl, rfl, Nat.le_of_ble_eq_true rfl⟩ rfl ?_ | refine R.stoE _ rfl rfl rfl rfl rfl (by assumption) rfl ⟨rfl, rfl, Nat.le_of_ble_eq_true rfl⟩ ?_ | refine R.condT rfl ?_ | refine R.condF rfl ?_ | refine R.call (bor := false) rfl rfl (hO) rfl rfl rfl ?_ | refine R.call (bor := true) rfl rfl (hO) rfl rfl rfl ?_ | refine R.fcal (bor := false) rfl rfl (hO) rfl rfl rfl ?_ | refine R.fcal (bor := true) rfl rfl (hO) rfl rfl rfl ?_ | refine R.call (bor := false) rfl rfl (hX) rfl rfl rfl ?_ | refine R.call (bor := true) rfl rfl (hX) rfl rfl rfl ?_ | refine R.fcal (bor := false) rfl rfl (hX) rfl rfl rfl ?_ | refine R.fcal (bor := true) rfl rfl (hX) rfl rfl rfl ?_ | refine R.cond rfl (fun hc => ?_) (fun hc => ?_) | refine R.condN rfl (fun hc => ?_) (fun hc => ?_) | refine R.condB rfl (fun hc => ?_) (fun hc => ?_) | refine R.gP rfl (fun hc => ?_) (fun hc => ?_) | refine R.gN rfl (fun hc => ?_) (fun hc => ?_) | refine R.gB rfl (fun hc => ?_) (fun hc => ?_))
      all_goals first
        | (exfalso; omega)
        | exact R.panNp np_build np_iface np_panic rfl rfl (.inr ⟨rfl, hbad, rfl, rfl, rfl, rfl⟩)
        | skip
  · rw [show bP (okPlan 160 (rdPl mixF s)) = false from bP_not.2 hok] at hO
    have hbad : iRP s = (⟨[]⟩, false) := iRP_bad fun h => hok h.2.1
    repeat' (first | refine R.mv rfl ?_ | refine R.reg ?_ | refine R.nil ?_ | refine R.seq ?_ | refine R.nseqF rfl rfl rfl ?_ | refine R.nseq ?_ | refine R.nblk ?_ | refine R.skip ?_ | refine R.blk ?_ | refine R.exit rfl ?_ | refine R.gRun rfl ?_ | refine R.gSkip rfl ?_ | refine R.gSkip0 rfl ?_ | refine R.gUndef rfl ?_ | refine R.gUndef0 rfl ?_ | refine R.ldEp rfl rfl (by assumption) rfl rfl ?_ | refine R.ldaEp rfl rfl (by assumption) (Nat.le_of_ble_eq_true rfl) rfl rfl ?_ | refine R.ld rfl rfl rfl ?_ | refine R.lda rfl rfl (Nat.le_of_ble_eq_true rfl) rfl ?_ | refine R.fa rfl rfl ?_ | refine R.lenM rfl ?_ | refine R.lenO rfl rfl ?_ | refine R.len rfl rfl ?_ | refine R.lss rfl rfl ?_ | refine R.neq rfl rfl ?_ | refine R.add rfl rfl (by omega) ?_ | refine R.ixN rfl rfl rfl (by omega) (fun a ha => ?_) | refine R.ixM rfl rfl rfl (by omega) (fun a ha => ?_) | refine R.ixON rfl rfl rfl (by first | omega | (simp; omega)) (fun a' ha' => ?_) | refine R.ixO rfl rfl rfl (by first | omega | (simp; omega)) (fun a' ha' => ?_) | refine R.pickT rfl rfl ?_ | refine R.pickF rfl rfl ?_ | refine R.not rfl ?_ | refine R.mkf rfl ?_ | refine R.al rfl ?_ | refine R.stoB rfl rfl rfl rfl ⟨rfl, rfl, Nat.le_of_ble_eq_true rfl⟩ rfl ?_ | refine R.stoE _ rfl rfl rfl rfl rfl (by assumption) rfl ⟨rfl, rfl, Nat.le_of_ble_eq_true rfl⟩ ?_ | refine R.condT rfl ?_ | refine R.condF rfl ?_ | refine R.call (bor := false) rfl rfl (hO) rfl rfl rfl ?_ | refine R.call (bor := true) rfl rfl (hO) rfl rfl rfl ?_ | refine R.fcal (bor := false) rfl rfl (hO) rfl rfl rfl ?_ | refine R.fcal (bor := true) rfl rfl (hO) rfl rfl rfl ?_ | refine R.cond rfl (fun hc => ?_) (fun hc => ?_) | refine R.condN rfl (fun hc => ?_) (fun hc => ?_) | refine R.condB rfl (fun hc => ?_) (fun hc => ?_) | refine R.gP rfl (fun hc => ?_) (fun hc => ?_) | refine R.gN rfl (fun hc => ?_) (fun hc => ?_) | refine R.gB rfl (fun hc => ?_) (fun hc => ?_))
    all_goals first
      | (exfalso; omega)
      | exact R.panNp np_build np_iface np_panic rfl rfl (.inr ⟨rfl, hbad, rfl, rfl, rfl, rfl⟩)
      | skip
theorem rpStrip : strip Tryd.prog Tryd.f37.ntmps (Tryd.f37.body.getD .skip) = some S.s37 := stripF_body rfl S.ok37
theorem addr_invoke (g g' : Nat) (w : World) : (invoke (.fn (.func 61) #[.pointer (some ⟨g, 0, none⟩), .pointer (some ⟨g', 0, none⟩)]) #[]).run Tryd.prog w = .ok (.enter 61 #[.pointer (some ⟨g, 0, none⟩), .pointer (some ⟨g', 0, none⟩)]) w := by simp [go_sem]
end Go.Proofs.YtlblmofimjhbbaaDoor
