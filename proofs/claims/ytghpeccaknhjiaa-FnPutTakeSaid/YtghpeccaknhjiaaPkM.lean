/- Swp and Src and PkP and PkD and PkE and PkF. -/
import Derived.Test.YtghpeccaknhjiaaY22
import Derived.Test.YtghpeccaknhjiaaY23
import Derived.Test.YtghpeccaknhjiaaBoil
import Derived.Test.YtghpeccaknhjiaaTake1
import Derived.Test.YtghpeccaknhjiaaPut1
import Derived.Test.YtghpeccaknhjiaaOutS
namespace Go.Proofs.Ytghpeccaknhjiaa
open Go.RowKit
set_option maxRecDepth 100000 in
def S.s17 : SC := (.seq (.reg [⟨(.some 2), .none, .false, (.al 30 [(Go.Value.slice none 0 0)])⟩, ⟨(.some 3), .none, .false, (.al 34 [(Go.Value.int Go.IntKind.i64 0), (Go.Value.int Go.IntKind.i64 0)])⟩, ⟨(.some 4), .none, .false, (.mv (.const (Go.Value.int Go.IntKind.i64 0)))⟩]) (.seq (.reg [⟨(.some 8), .none, .false, (.mv (.tmp 0))⟩, ⟨(.some 9), .none, .false, (.call (.func 38) [(.tmp 8)])⟩, ⟨(.some 5), .none, .false, (.mv (.tmp 9))⟩]) (.seq (.reg [⟨(.some 10), .none, .false, (.mv (.tmp 5))⟩, ⟨(.some 11), .none, .false, (.call (.func 39) [(.tmp 10)])⟩, ⟨(.some 6), .none, .false, (.al 30 [(Go.Value.slice none 0 0)])⟩, ⟨.none, .none, .false, (.sto 1 (.tmp 6) (.tmp 11))⟩]) (.seq (.reg [⟨(.some 12), .none, .false, (.mv (.tmp 5))⟩, ⟨(.some 13), .none, .false, (.call (.func 40) [(.tmp 12), (.tmp 6)])⟩, ⟨(.some 7), .none, .false, (.al 34 [(Go.Value.int Go.IntKind.i64 0), (Go.Value.int Go.IntKind.i64 0)])⟩, ⟨.none, .none, .false, (.sto 2 (.tmp 7) (.tmp 13))⟩]) (.seq (.seq (.reg [⟨(.some 14), .none, .false, (.mv (.tmp 5))⟩, ⟨(.some 15), .none, .false, (.call (.func 41) [(.tmp 14), (.const (Go.Value.int Go.IntKind.i64 12))])⟩]) (.cond (.tmp 15) (.seq (.regO (.take ⟨(.some 18), .none, .false, (.mv (.tmp 5))⟩ (.both (.take ⟨(.some 16), .none, .false, (.ld .true 1 (.tmp 6))⟩ (.both (.take ⟨(.some 17), .none, .false, (.ld .true 2 (.tmp 7))⟩ (.take ⟨(.some 19), .none, .false, (.bsl (.mk 2 1) 4 [(0, (.const (Go.Value.int Go.IntKind.i64 (-1)))), (1, (.const (Go.Value.int Go.IntKind.i64 159))), (2, (.const (Go.Value.int Go.IntKind.i64 160))), (3, (.const (Go.Value.int Go.IntKind.i64 (-9223372036854775808))))])⟩ (.take ⟨(.some 20), .none, .false, (.call (.func 42) [(.tmp 18), (.tmp 19)])⟩ (.take ⟨.none, .none, .false, (.sto 1 (.tmp 2) (.tmp 16))⟩ (.take ⟨.none, .none, .false, (.sto 2 (.tmp 3) (.tmp 17))⟩ (.take ⟨(.some 4), .none, .false, (.mv (.tmp 20))⟩ .done)))))) (.take ⟨(.some 19), .none, .false, (.bsl (.mk 2 1) 4 [(0, (.const (Go.Value.int Go.IntKind.i64 (-1)))), (1, (.const (Go.Value.int Go.IntKind.i64 159))), (2, (.const (Go.Value.int Go.IntKind.i64 160))), (3, (.const (Go.Value.int Go.IntKind.i64 (-9223372036854775808))))])⟩ (.both (.take ⟨(.some 17), .none, .false, (.ld .true 2 (.tmp 7))⟩ (.take ⟨(.some 20), .none, .false, (.call (.func 42) [(.tmp 18), (.tmp 19)])⟩ (.take ⟨.none, .none, .false, (.sto 1 (.tmp 2) (.tmp 16))⟩ (.take ⟨.none, .none, .false, (.sto 2 (.tmp 3) (.tmp 17))⟩ (.take ⟨(.some 4), .none, .false, (.mv (.tmp 20))⟩ .done))))) (.take ⟨(.some 20), .none, .false, (.call (.func 42) [(.tmp 18), (.tmp 19)])⟩ (.both (.take ⟨(.some 17), .none, .false, (.ld .true 2 (.tmp 7))⟩ (.take ⟨.none, .none, .false, (.sto 1 (.tmp 2) (.tmp 16))⟩ (.take ⟨.none, .none, .false, (.sto 2 (.tmp 3) (.tmp 17))⟩ (.take ⟨(.some 4), .none, .false, (.mv (.tmp 20))⟩ .done)))) (.take ⟨.none, .none, .false, (.sto 1 (.tmp 2) (.tmp 16))⟩ (.take ⟨(.some 17), .none, .false, (.ld .true 2 (.tmp 7))⟩ (.take ⟨.none, .none, .false, (.sto 2 (.tmp 3) (.tmp 17))⟩ (.take ⟨(.some 4), .none, .false, (.mv (.tmp 20))⟩ .done)))))))))) (.both (.take ⟨(.some 17), .none, .false, (.ld .true 2 (.tmp 7))⟩ (.both (.take ⟨(.some 16), .none, .false, (.ld .true 1 (.tmp 6))⟩ (.take ⟨(.some 19), .none, .false, (.bsl (.mk 2 1) 4 [(0, (.const (Go.Value.int Go.IntKind.i64 (-1)))), (1, (.const (Go.Value.int Go.IntKind.i64 159))), (2, (.const (Go.Value.int Go.IntKind.i64 160))), (3, (.const (Go.Value.int Go.IntKind.i64 (-9223372036854775808))))])⟩ (.take ⟨(.some 20), .none, .false, (.call (.func 42) [(.tmp 18), (.tmp 19)])⟩ (.take ⟨.none, .none, .false, (.sto 1 (.tmp 2) (.tmp 16))⟩ (.take ⟨.none, .none, .false, (.sto 2 (.tmp 3) (.tmp 17))⟩ (.take ⟨(.some 4), .none, .false, (.mv (.tmp 20))⟩ .done)))))) (.take ⟨(.some 19), .none, .false, (.bsl (.mk 2 1) 4 [(0, (.const (Go.Value.int Go.IntKind.i64 (-1)))), (1, (.const (Go.Value.int Go.IntKind.i64 159))), (2, (.const (Go.Value.int Go.IntKind.i64 160))), (3, (.const (Go.Value.int Go.IntKind.i64 (-9223372036854775808))))])⟩ (.both (.take ⟨(.some 16), .none, .false, (.ld .true 1 (.tmp 6))⟩ (.take ⟨(.some 20), .none, .false, (.call (.func 42) [(.tmp 18), (.tmp 19)])⟩ (.take ⟨.none, .none, .false, (.sto 1 (.tmp 2) (.tmp 16))⟩ (.take ⟨.none, .none, .false, (.sto 2 (.tmp 3) (.tmp 17))⟩ (.take ⟨(.some 4), .none, .false, (.mv (.tmp 20))⟩ .done))))) (.take ⟨(.some 20), .none, .false, (.call (.func 42) [(.tmp 18), (.tmp 19)])⟩ (.take ⟨(.some 16), .none, .false, (.ld .true 1 (.tmp 6))⟩ (.take ⟨.none, .none, .false, (.sto 1 (.tmp 2) (.tmp 16))⟩ (.take ⟨.none, .none, .false, (.sto 2 (.tmp 3) (.tmp 17))⟩ (.take ⟨(.some 4), .none, .false, (.mv (.tmp 20))⟩ .done))))))))) (.take ⟨(.some 19), .none, .false, (.bsl (.mk 2 1) 4 [(0, (.const (Go.Value.int Go.IntKind.i64 (-1)))), (1, (.const (Go.Value.int Go.IntKind.i64 159))), (2, (.const (Go.Value.int Go.IntKind.i64 160))), (3, (.const (Go.Value.int Go.IntKind.i64 (-9223372036854775808))))])⟩ (.both (.take ⟨(.some 16), .none, .false, (.ld .true 1 (.tmp 6))⟩ (.both (.take ⟨(.some 17), .none, .false, (.ld .true 2 (.tmp 7))⟩ (.take ⟨(.some 20), .none, .false, (.call (.func 42) [(.tmp 18), (.tmp 19)])⟩ (.take ⟨.none, .none, .false, (.sto 1 (.tmp 2) (.tmp 16))⟩ (.take ⟨.none, .none, .false, (.sto 2 (.tmp 3) (.tmp 17))⟩ (.take ⟨(.some 4), .none, .false, (.mv (.tmp 20))⟩ .done))))) (.take ⟨(.some 20), .none, .false, (.call (.func 42) [(.tmp 18), (.tmp 19)])⟩ (.both (.take ⟨(.some 17), .none, .false, (.ld .true 2 (.tmp 7))⟩ (.take ⟨.none, .none, .false, (.sto 1 (.tmp 2) (.tmp 16))⟩ (.take ⟨.none, .none, .false, (.sto 2 (.tmp 3) (.tmp 17))⟩ (.take ⟨(.some 4), .none, .false, (.mv (.tmp 20))⟩ .done)))) (.take ⟨.none, .none, .false, (.sto 1 (.tmp 2) (.tmp 16))⟩ (.take ⟨(.some 17), .none, .false, (.ld .true 2 (.tmp 7))⟩ (.take ⟨.none, .none, .false, (.sto 2 (.tmp 3) (.tmp 17))⟩ (.take ⟨(.some 4), .none, .false, (.mv (.tmp 20))⟩ .done)))))))) (.both (.take ⟨(.some 17), .none, .false, (.ld .true 2 (.tmp 7))⟩ (.both (.take ⟨(.some 16), .none, .false, (.ld .true 1 (.tmp 6))⟩ (.take ⟨(.some 20), .none, .false, (.call (.func 42) [(.tmp 18), (.tmp 19)])⟩ (.take ⟨.none, .none, .false, (.sto 1 (.tmp 2) (.tmp 16))⟩ (.take ⟨.none, .none, .false, (.sto 2 (.tmp 3) (.tmp 17))⟩ (.take ⟨(.some 4), .none, .false, (.mv (.tmp 20))⟩ .done))))) (.take ⟨(.some 20), .none, .false, (.call (.func 42) [(.tmp 18), (.tmp 19)])⟩ (.take ⟨(.some 16), .none, .false, (.ld .true 1 (.tmp 6))⟩ (.take ⟨.none, .none, .false, (.sto 1 (.tmp 2) (.tmp 16))⟩ (.take ⟨.none, .none, .false, (.sto 2 (.tmp 3) (.tmp 17))⟩ (.take ⟨(.some 4), .none, .false, (.mv (.tmp 20))⟩ .done))))))) (.take ⟨(.some 20), .none, .false, (.call (.func 42) [(.tmp 18), (.tmp 19)])⟩ (.both (.take ⟨(.some 16), .none, .false, (.ld .true 1 (.tmp 6))⟩ (.both (.take ⟨(.some 17), .none, .false, (.ld .true 2 (.tmp 7))⟩ (.take ⟨.none, .none, .false, (.sto 1 (.tmp 2) (.tmp 16))⟩ (.take ⟨.none, .none, .false, (.sto 2 (.tmp 3) (.tmp 17))⟩ (.take ⟨(.some 4), .none, .false, (.mv (.tmp 20))⟩ .done)))) (.take ⟨.none, .none, .false, (.sto 1 (.tmp 2) (.tmp 16))⟩ (.take ⟨(.some 17), .none, .false, (.ld .true 2 (.tmp 7))⟩ (.take ⟨.none, .none, .false, (.sto 2 (.tmp 3) (.tmp 17))⟩ (.take ⟨(.some 4), .none, .false, (.mv (.tmp 20))⟩ .done)))))) (.take ⟨(.some 17), .none, .false, (.ld .true 2 (.tmp 7))⟩ (.take ⟨(.some 16), .none, .false, (.ld .true 1 (.tmp 6))⟩ (.take ⟨.none, .none, .false, (.sto 1 (.tmp 2) (.tmp 16))⟩ (.take ⟨.none, .none, .false, (.sto 2 (.tmp 3) (.tmp 17))⟩ (.take ⟨(.some 4), .none, .false, (.mv (.tmp 20))⟩ .done)))))))))))))) .ret) .skip)) (.seq (.regO (.take ⟨(.some 23), .none, .false, (.mv (.tmp 5))⟩ (.both (.take ⟨(.some 21), .none, .false, (.ld .true 1 (.tmp 6))⟩ (.both (.take ⟨(.some 22), .none, .false, (.ld .true 2 (.tmp 7))⟩ (.take ⟨(.some 24), .none, .false, (.call (.func 43) [(.tmp 23), (.const (Go.Value.int Go.IntKind.i64 4))])⟩ (.take ⟨.none, .none, .false, (.sto 1 (.tmp 2) (.tmp 21))⟩ (.take ⟨.none, .none, .false, (.sto 2 (.tmp 3) (.tmp 22))⟩ (.take ⟨(.some 4), .none, .false, (.mv (.tmp 24))⟩ .done))))) (.take ⟨(.some 24), .none, .false, (.call (.func 43) [(.tmp 23), (.const (Go.Value.int Go.IntKind.i64 4))])⟩ (.both (.take ⟨(.some 22), .none, .false, (.ld .true 2 (.tmp 7))⟩ (.take ⟨.none, .none, .false, (.sto 1 (.tmp 2) (.tmp 21))⟩ (.take ⟨.none, .none, .false, (.sto 2 (.tmp 3) (.tmp 22))⟩ (.take ⟨(.some 4), .none, .false, (.mv (.tmp 24))⟩ .done)))) (.take ⟨.none, .none, .false, (.sto 1 (.tmp 2) (.tmp 21))⟩ (.take ⟨(.some 22), .none, .false, (.ld .true 2 (.tmp 7))⟩ (.take ⟨.none, .none, .false, (.sto 2 (.tmp 3) (.tmp 22))⟩ (.take ⟨(.some 4), .none, .false, (.mv (.tmp 24))⟩ .done)))))))) (.both (.take ⟨(.some 22), .none, .false, (.ld .true 2 (.tmp 7))⟩ (.both (.take ⟨(.some 21), .none, .false, (.ld .true 1 (.tmp 6))⟩ (.take ⟨(.some 24), .none, .false, (.call (.func 43) [(.tmp 23), (.const (Go.Value.int Go.IntKind.i64 4))])⟩ (.take ⟨.none, .none, .false, (.sto 1 (.tmp 2) (.tmp 21))⟩ (.take ⟨.none, .none, .false, (.sto 2 (.tmp 3) (.tmp 22))⟩ (.take ⟨(.some 4), .none, .false, (.mv (.tmp 24))⟩ .done))))) (.take ⟨(.some 24), .none, .false, (.call (.func 43) [(.tmp 23), (.const (Go.Value.int Go.IntKind.i64 4))])⟩ (.take ⟨(.some 21), .none, .false, (.ld .true 1 (.tmp 6))⟩ (.take ⟨.none, .none, .false, (.sto 1 (.tmp 2) (.tmp 21))⟩ (.take ⟨.none, .none, .false, (.sto 2 (.tmp 3) (.tmp 22))⟩ (.take ⟨(.some 4), .none, .false, (.mv (.tmp 24))⟩ .done))))))) (.take ⟨(.some 24), .none, .false, (.call (.func 43) [(.tmp 23), (.const (Go.Value.int Go.IntKind.i64 4))])⟩ (.both (.take ⟨(.some 21), .none, .false, (.ld .true 1 (.tmp 6))⟩ (.both (.take ⟨(.some 22), .none, .false, (.ld .true 2 (.tmp 7))⟩ (.take ⟨.none, .none, .false, (.sto 1 (.tmp 2) (.tmp 21))⟩ (.take ⟨.none, .none, .false, (.sto 2 (.tmp 3) (.tmp 22))⟩ (.take ⟨(.some 4), .none, .false, (.mv (.tmp 24))⟩ .done)))) (.take ⟨.none, .none, .false, (.sto 1 (.tmp 2) (.tmp 21))⟩ (.take ⟨(.some 22), .none, .false, (.ld .true 2 (.tmp 7))⟩ (.take ⟨.none, .none, .false, (.sto 2 (.tmp 3) (.tmp 22))⟩ (.take ⟨(.some 4), .none, .false, (.mv (.tmp 24))⟩ .done)))))) (.take ⟨(.some 22), .none, .false, (.ld .true 2 (.tmp 7))⟩ (.take ⟨(.some 21), .none, .false, (.ld .true 1 (.tmp 6))⟩ (.take ⟨.none, .none, .false, (.sto 1 (.tmp 2) (.tmp 21))⟩ (.take ⟨.none, .none, .false, (.sto 2 (.tmp 3) (.tmp 22))⟩ (.take ⟨(.some 4), .none, .false, (.mv (.tmp 24))⟩ .done))))))))))) .ret))))))
set_option maxRecDepth 100000 in
theorem S.ok17 : stripF Try.prog Try.f17 = some S.s17 := by kernel_rfl
set_option maxRecDepth 100000 in
def S.s38 : SC := (.seq (.reg [⟨(.some 2), .none, .false, (.mv (.const (Go.Value.pointer none)))⟩]) (.seq (.reg [⟨(.some 3), .none, .false, (.mv (.tmp 0))⟩, ⟨(.some 4), .none, .false, (.bld [(Go.Value.slice none 0 0), (Go.Value.int Go.IntKind.i64 0), (Go.Value.int Go.IntKind.u64 0)] [(0, 1), (1, 1), (2, 1)] [(0, (.tmp 3))])⟩, ⟨(.some 5), .none, .false, (.box 92 (.tmp 4))⟩, ⟨(.some 2), .none, .false, (.mv (.tmp 5))⟩]) .ret))
set_option maxRecDepth 100000 in
theorem S.ok38 : stripF Try.prog Try.f38 = some S.s38 := by kernel_rfl
def S.t39_0 : OT SR := .take ⟨.none, .none, .false, (.sto 1 (.tmp 28) (.tmp 27))⟩ .done
def S.t39_1 : OT SR := .take ⟨(.some 28), .none, .false, (.fa 0 (.tmp 3))⟩ S.t39_0
def S.t39_2 : OT SR := .take ⟨(.some 27), .none, .false, (.app (.mk 50 3) 24 (.tmp 20) (.tmp 26))⟩ S.t39_1
def S.t39_3 : OT SR := .take ⟨(.some 26), .none, .false, (.bsl (.mk 50 3) 1 [(0, (.tmp 25))])⟩ S.t39_2
def S.t39_4 : OT SR := .take ⟨(.some 25), .none, .false, (.bld [(Go.Value.int Go.IntKind.i64 0), (Go.Value.int Go.IntKind.i64 0), (Go.Value.int Go.IntKind.i64 0)] [(0, 2), (2, 1)] [(0, (.tmp 21)), (1, (.tmp 24))])⟩ S.t39_3
def S.t39_5 : OT SR := .take ⟨(.some 24), .none, .false, (.call (.func 42) [(.tmp 22), (.tmp 23)])⟩ S.t39_4
def S.t39_6 : OT SR := .take ⟨(.some 23), .none, .false, (.bsl (.mk 2 1) 5 [(0, (.const (Go.Value.int Go.IntKind.i64 (-1)))), (1, (.const (Go.Value.int Go.IntKind.i64 0))), (2, (.const (Go.Value.int Go.IntKind.i64 159))), (3, (.const (Go.Value.int Go.IntKind.i64 160))), (4, (.const (Go.Value.int Go.IntKind.i64 (-9223372036854775808))))])⟩ S.t39_5
def S.t39_7 : OT SR := .take ⟨(.some 21), .none, .false, (.bld [(Go.Value.int Go.IntKind.i64 0), (Go.Value.int Go.IntKind.i64 0)] [(0, 1), (1, 1)] [(0, (.const (Go.Value.int Go.IntKind.i64 60))), (1, (.const (Go.Value.int Go.IntKind.i64 60)))])⟩ S.t39_6
def S.t39_8 : OT SR := .take ⟨(.some 21), .none, .false, (.bld [(Go.Value.int Go.IntKind.i64 0), (Go.Value.int Go.IntKind.i64 0)] [(0, 1), (1, 1)] [(0, (.const (Go.Value.int Go.IntKind.i64 60))), (1, (.const (Go.Value.int Go.IntKind.i64 60)))])⟩ S.t39_5
def S.t39_9 : OT SR := .take ⟨(.some 21), .none, .false, (.bld [(Go.Value.int Go.IntKind.i64 0), (Go.Value.int Go.IntKind.i64 0)] [(0, 1), (1, 1)] [(0, (.const (Go.Value.int Go.IntKind.i64 60))), (1, (.const (Go.Value.int Go.IntKind.i64 60)))])⟩ S.t39_4
def S.t39_10 : OT SR := .take ⟨(.some 24), .none, .false, (.call (.func 42) [(.tmp 22), (.tmp 23)])⟩ S.t39_9
def S.t39_11 : OT SR := .both S.t39_8 S.t39_10
def S.t39_12 : OT SR := .take ⟨(.some 23), .none, .false, (.bsl (.mk 2 1) 5 [(0, (.const (Go.Value.int Go.IntKind.i64 (-1)))), (1, (.const (Go.Value.int Go.IntKind.i64 0))), (2, (.const (Go.Value.int Go.IntKind.i64 159))), (3, (.const (Go.Value.int Go.IntKind.i64 160))), (4, (.const (Go.Value.int Go.IntKind.i64 (-9223372036854775808))))])⟩ S.t39_11
def S.t39_13 : OT SR := .both S.t39_7 S.t39_12
def S.t39_14 : OT SR := .take ⟨(.some 20), .none, .false, (.ld .false 1 (.tmp 19))⟩ S.t39_13
def S.t39_15 : OT SR := .take ⟨(.some 20), .none, .false, (.ld .false 1 (.tmp 19))⟩ S.t39_6
def S.t39_16 : OT SR := .take ⟨(.some 20), .none, .false, (.ld .false 1 (.tmp 19))⟩ S.t39_5
def S.t39_17 : OT SR := .take ⟨(.some 20), .none, .false, (.ld .false 1 (.tmp 19))⟩ S.t39_4
def S.t39_18 : OT SR := .take ⟨(.some 20), .none, .false, (.ld .false 1 (.tmp 19))⟩ S.t39_3
def S.t39_19 : OT SR := .take ⟨(.some 20), .none, .false, (.ld .false 1 (.tmp 19))⟩ S.t39_2
def S.t39_20 : OT SR := .take ⟨(.some 26), .none, .false, (.bsl (.mk 50 3) 1 [(0, (.tmp 25))])⟩ S.t39_19
def S.t39_21 : OT SR := .both S.t39_18 S.t39_20
def S.t39_22 : OT SR := .take ⟨(.some 25), .none, .false, (.bld [(Go.Value.int Go.IntKind.i64 0), (Go.Value.int Go.IntKind.i64 0), (Go.Value.int Go.IntKind.i64 0)] [(0, 2), (2, 1)] [(0, (.tmp 21)), (1, (.tmp 24))])⟩ S.t39_21
def S.t39_23 : OT SR := .both S.t39_17 S.t39_22
def S.t39_24 : OT SR := .take ⟨(.some 24), .none, .false, (.call (.func 42) [(.tmp 22), (.tmp 23)])⟩ S.t39_23
def S.t39_25 : OT SR := .both S.t39_16 S.t39_24
def S.t39_26 : OT SR := .take ⟨(.some 23), .none, .false, (.bsl (.mk 2 1) 5 [(0, (.const (Go.Value.int Go.IntKind.i64 (-1)))), (1, (.const (Go.Value.int Go.IntKind.i64 0))), (2, (.const (Go.Value.int Go.IntKind.i64 159))), (3, (.const (Go.Value.int Go.IntKind.i64 160))), (4, (.const (Go.Value.int Go.IntKind.i64 (-9223372036854775808))))])⟩ S.t39_25
def S.t39_27 : OT SR := .both S.t39_15 S.t39_26
def S.t39_28 : OT SR := .take ⟨(.some 21), .none, .false, (.bld [(Go.Value.int Go.IntKind.i64 0), (Go.Value.int Go.IntKind.i64 0)] [(0, 1), (1, 1)] [(0, (.const (Go.Value.int Go.IntKind.i64 60))), (1, (.const (Go.Value.int Go.IntKind.i64 60)))])⟩ S.t39_27
def S.t39_29 : OT SR := .take ⟨(.some 20), .none, .false, (.ld .false 1 (.tmp 19))⟩ S.t39_11
def S.t39_30 : OT SR := .take ⟨(.some 21), .none, .false, (.bld [(Go.Value.int Go.IntKind.i64 0), (Go.Value.int Go.IntKind.i64 0)] [(0, 1), (1, 1)] [(0, (.const (Go.Value.int Go.IntKind.i64 60))), (1, (.const (Go.Value.int Go.IntKind.i64 60)))])⟩ S.t39_25
def S.t39_31 : OT SR := .take ⟨(.some 20), .none, .false, (.ld .false 1 (.tmp 19))⟩ S.t39_9
def S.t39_32 : OT SR := .take ⟨(.some 21), .none, .false, (.bld [(Go.Value.int Go.IntKind.i64 0), (Go.Value.int Go.IntKind.i64 0)] [(0, 1), (1, 1)] [(0, (.const (Go.Value.int Go.IntKind.i64 60))), (1, (.const (Go.Value.int Go.IntKind.i64 60)))])⟩ S.t39_23
def S.t39_33 : OT SR := .both S.t39_31 S.t39_32
def S.t39_34 : OT SR := .take ⟨(.some 24), .none, .false, (.call (.func 42) [(.tmp 22), (.tmp 23)])⟩ S.t39_33
def S.t39_35 : OT SR := .both S.t39_30 S.t39_34
def S.t39_36 : OT SR := .both S.t39_29 S.t39_35
def S.t39_37 : OT SR := .take ⟨(.some 23), .none, .false, (.bsl (.mk 2 1) 5 [(0, (.const (Go.Value.int Go.IntKind.i64 (-1)))), (1, (.const (Go.Value.int Go.IntKind.i64 0))), (2, (.const (Go.Value.int Go.IntKind.i64 159))), (3, (.const (Go.Value.int Go.IntKind.i64 160))), (4, (.const (Go.Value.int Go.IntKind.i64 (-9223372036854775808))))])⟩ S.t39_36
def S.t39_38 : OT SR := .both S.t39_28 S.t39_37
def S.t39_39 : OT SR := .both S.t39_14 S.t39_38
def S.t39_40 : OT SR := .take ⟨(.some 22), .none, .false, (.mv (.tmp 0))⟩ S.t39_39
def S.t39_41 : OT SR := .take ⟨(.some 19), .none, .false, (.fa 0 (.tmp 3))⟩ S.t39_40
def S.t39_42 : OT SR := .take ⟨.none, .none, .false, (.sto 1 (.tmp 40) (.tmp 39))⟩ .done
def S.t39_43 : OT SR := .take ⟨(.some 40), .none, .false, (.fa 0 (.tmp 3))⟩ S.t39_42
def S.t39_44 : OT SR := .take ⟨(.some 39), .none, .false, (.app (.mk 50 3) 24 (.tmp 32) (.tmp 38))⟩ S.t39_43
def S.t39_45 : OT SR := .take ⟨(.some 38), .none, .false, (.bsl (.mk 50 3) 1 [(0, (.tmp 37))])⟩ S.t39_44
def S.t39_46 : OT SR := .take ⟨(.some 37), .none, .false, (.bld [(Go.Value.int Go.IntKind.i64 0), (Go.Value.int Go.IntKind.i64 0), (Go.Value.int Go.IntKind.i64 0)] [(0, 2), (2, 1)] [(0, (.tmp 36))])⟩ S.t39_45
def S.t39_47 : OT SR := .take ⟨(.some 36), .none, .false, (.bld [(Go.Value.int Go.IntKind.i64 0), (Go.Value.int Go.IntKind.i64 0)] [(0, 1), (1, 1)] [(0, (.tmp 35)), (1, (.const (Go.Value.int Go.IntKind.i64 60)))])⟩ S.t39_46
def S.t39_48 : OT SR := .take ⟨(.some 35), .none, .false, (.call (.func 42) [(.tmp 33), (.tmp 34)])⟩ S.t39_47
def S.t39_49 : OT SR := .take ⟨(.some 34), .none, .false, (.bsl (.mk 2 1) 3 [(0, (.const (Go.Value.int Go.IntKind.i64 60))), (1, (.const (Go.Value.int Go.IntKind.i64 61))), (2, (.const (Go.Value.int Go.IntKind.i64 9223372036854775807)))])⟩ S.t39_48
def S.t39_50 : OT SR := .take ⟨(.some 32), .none, .false, (.ld .false 1 (.tmp 31))⟩ S.t39_49
def S.t39_51 : OT SR := .take ⟨(.some 32), .none, .false, (.ld .false 1 (.tmp 31))⟩ S.t39_48
def S.t39_52 : OT SR := .take ⟨(.some 32), .none, .false, (.ld .false 1 (.tmp 31))⟩ S.t39_47
def S.t39_53 : OT SR := .take ⟨(.some 32), .none, .false, (.ld .false 1 (.tmp 31))⟩ S.t39_46
def S.t39_54 : OT SR := .take ⟨(.some 32), .none, .false, (.ld .false 1 (.tmp 31))⟩ S.t39_45
def S.t39_55 : OT SR := .take ⟨(.some 32), .none, .false, (.ld .false 1 (.tmp 31))⟩ S.t39_44
def S.t39_56 : OT SR := .take ⟨(.some 38), .none, .false, (.bsl (.mk 50 3) 1 [(0, (.tmp 37))])⟩ S.t39_55
def S.t39_57 : OT SR := .both S.t39_54 S.t39_56
def S.t39_58 : OT SR := .take ⟨(.some 37), .none, .false, (.bld [(Go.Value.int Go.IntKind.i64 0), (Go.Value.int Go.IntKind.i64 0), (Go.Value.int Go.IntKind.i64 0)] [(0, 2), (2, 1)] [(0, (.tmp 36))])⟩ S.t39_57
def S.t39_59 : OT SR := .both S.t39_53 S.t39_58
def S.t39_60 : OT SR := .take ⟨(.some 36), .none, .false, (.bld [(Go.Value.int Go.IntKind.i64 0), (Go.Value.int Go.IntKind.i64 0)] [(0, 1), (1, 1)] [(0, (.tmp 35)), (1, (.const (Go.Value.int Go.IntKind.i64 60)))])⟩ S.t39_59
def S.t39_61 : OT SR := .both S.t39_52 S.t39_60
def S.t39_62 : OT SR := .take ⟨(.some 35), .none, .false, (.call (.func 42) [(.tmp 33), (.tmp 34)])⟩ S.t39_61
def S.t39_63 : OT SR := .both S.t39_51 S.t39_62
def S.t39_64 : OT SR := .take ⟨(.some 34), .none, .false, (.bsl (.mk 2 1) 3 [(0, (.const (Go.Value.int Go.IntKind.i64 60))), (1, (.const (Go.Value.int Go.IntKind.i64 61))), (2, (.const (Go.Value.int Go.IntKind.i64 9223372036854775807)))])⟩ S.t39_63
def S.t39_65 : OT SR := .both S.t39_50 S.t39_64
def S.t39_66 : OT SR := .take ⟨(.some 33), .none, .false, (.mv (.tmp 0))⟩ S.t39_65
def S.t39_67 : OT SR := .take ⟨(.some 31), .none, .false, (.fa 0 (.tmp 3))⟩ S.t39_66
set_option maxRecDepth 100000 in
def S.s39 : SC := (.seq (.reg [⟨(.some 2), .none, .false, (.al 30 [(Go.Value.slice none 0 0)])⟩]) (.seq (.reg [⟨(.some 4), .none, .false, (.mv (.tmp 0))⟩, ⟨(.some 5), .none, .false, (.call (.func 60) [(.tmp 4), (.const (Go.Value.int Go.IntKind.i64 4))])⟩, ⟨(.some 3), .none, .false, (.al 30 [(Go.Value.slice none 0 0)])⟩, ⟨.none, .none, .false, (.sto 1 (.tmp 3) (.tmp 5))⟩]) (.seq (.seq (.reg [⟨(.some 6), .none, .false, (.mv (.tmp 0))⟩, ⟨(.some 7), .none, .false, (.call (.func 43) [(.tmp 6), (.const (Go.Value.int Go.IntKind.i64 24))])⟩]) (.block 0 (.seq (.reg [⟨(.some 9), .none, .false, (.bin .eql (.tmp 7) (.const (Go.Value.int Go.IntKind.i64 0)))⟩, ⟨(.some 8), .none, .false, (.mv (.tmp 9))⟩]) (.cond (.tmp 8) (.reg [⟨(.some 10), .none, .false, (.fa 0 (.tmp 3))⟩, ⟨(.some 11), .none, .false, (.ld .false 1 (.tmp 10))⟩, ⟨(.some 12), .none, .false, (.bld [(Go.Value.int Go.IntKind.i64 0), (Go.Value.int Go.IntKind.i64 0)] [(0, 1), (1, 1)] [(0, (.const (Go.Value.int Go.IntKind.i64 (-60)))), (1, (.const (Go.Value.int Go.IntKind.i64 (-60))))])⟩, ⟨(.some 13), .none, .false, (.bld [(Go.Value.int Go.IntKind.i64 0), (Go.Value.int Go.IntKind.i64 0), (Go.Value.int Go.IntKind.i64 0)] [(0, 2), (2, 1)] [(0, (.tmp 12))])⟩, ⟨(.some 14), .none, .false, (.bsl (.mk 50 3) 1 [(0, (.tmp 13))])⟩, ⟨(.some 15), .none, .false, (.app (.mk 50 3) 24 (.tmp 11) (.tmp 14))⟩, ⟨(.some 16), .none, .false, (.fa 0 (.tmp 3))⟩, ⟨.none, .none, .false, (.sto 1 (.tmp 16) (.tmp 15))⟩]) (.seq (.reg [⟨(.some 18), .none, .false, (.bin .eql (.tmp 7) (.const (Go.Value.int Go.IntKind.i64 1)))⟩, ⟨(.some 17), .none, .false, (.mv (.tmp 18))⟩]) (.cond (.tmp 17) (.regO S.t39_41) (.seq (.reg [⟨(.some 30), .none, .false, (.bin .eql (.tmp 7) (.const (Go.Value.int Go.IntKind.i64 2)))⟩, ⟨(.some 29), .none, .false, (.mv (.tmp 30))⟩]) (.cond (.tmp 29) (.regO S.t39_67) (.seq (.reg [⟨(.some 42), .none, .false, (.bin .eql (.tmp 7) (.const (Go.Value.int Go.IntKind.i64 3)))⟩, ⟨(.some 41), .none, .false, (.mv (.tmp 42))⟩]) (.cond (.tmp 41) (.seq (.reg [⟨(.some 43), .none, .false, (.mv (.tmp 0))⟩, ⟨(.some 44), .none, .false, (.call (.func 61) [(.tmp 43)])⟩, ⟨.none, .none, .false, (.sto 1 (.tmp 2) (.tmp 44))⟩]) .ret) .skip)))))))))) (.seq (.reg [⟨(.some 45), .none, .false, (.ld .true 1 (.tmp 3))⟩, ⟨.none, .none, .false, (.sto 1 (.tmp 2) (.tmp 45))⟩]) .ret))))
set_option maxRecDepth 100000 in
theorem S.ok39 : stripF Try.prog Try.f39 = some S.s39 := by kernel_rfl
def S.t40_0 : OT SR := .take ⟨.none, .none, .false, (.sto 2 (.tmp 5) (.tmp 31))⟩ .done
def S.t40_1 : OT SR := .take ⟨(.some 5), .none, .false, (.al 34 [(Go.Value.int Go.IntKind.i64 0), (Go.Value.int Go.IntKind.i64 0)])⟩ S.t40_0
def S.t40_2 : OT SR := .take ⟨(.some 31), .none, .false, (.ld .true 2 (.tmp 30))⟩ S.t40_1
def S.t40_3 : OT SR := .take ⟨(.some 31), .none, .false, (.ld .true 2 (.tmp 30))⟩ S.t40_0
def S.t40_4 : OT SR := .both S.t40_3 .vac
def S.t40_5 : OT SR := .take ⟨(.some 5), .none, .false, (.al 34 [(Go.Value.int Go.IntKind.i64 0), (Go.Value.int Go.IntKind.i64 0)])⟩ S.t40_4
def S.t40_6 : OT SR := .both S.t40_2 S.t40_5
def S.t40_7 : OT SR := .take ⟨(.some 30), .none, .false, (.fa 0 (.tmp 29))⟩ S.t40_6
def S.t40_8 : OT SR := .take ⟨(.some 29), .none, .false, (.ix (.mk 50 3) (.tmp 21) (.tmp 28))⟩ S.t40_7
def S.t40_9 : OT SR := .take ⟨(.some 30), .none, .false, (.fa 0 (.tmp 29))⟩ S.t40_4
def S.t40_10 : OT SR := .take ⟨(.some 29), .none, .false, (.ix (.mk 50 3) (.tmp 21) (.tmp 28))⟩ S.t40_9
def S.t40_11 : OT SR := .both S.t40_10 .vac
def S.t40_12 : OT SR := .take ⟨(.some 5), .none, .false, (.al 34 [(Go.Value.int Go.IntKind.i64 0), (Go.Value.int Go.IntKind.i64 0)])⟩ S.t40_11
def S.t40_13 : OT SR := .both S.t40_8 S.t40_12
def S.t40_14 : OT SR := .take ⟨(.some 28), .none, .false, (.call (.func 43) [(.tmp 22), (.tmp 27)])⟩ S.t40_13
def S.t40_15 : OT SR := .take ⟨(.some 28), .none, .false, (.call (.func 43) [(.tmp 22), (.tmp 27)])⟩ S.t40_11
def S.t40_16 : OT SR := .take ⟨(.some 5), .none, .false, (.al 34 [(Go.Value.int Go.IntKind.i64 0), (Go.Value.int Go.IntKind.i64 0)])⟩ S.t40_15
def S.t40_17 : OT SR := .both S.t40_14 S.t40_16
def S.t40_18 : OT SR := .take ⟨(.some 27), .none, .false, (.len (.tmp 26))⟩ S.t40_17
def S.t40_19 : OT SR := .take ⟨(.some 27), .none, .false, (.len (.tmp 26))⟩ S.t40_15
def S.t40_20 : OT SR := .take ⟨(.some 5), .none, .false, (.al 34 [(Go.Value.int Go.IntKind.i64 0), (Go.Value.int Go.IntKind.i64 0)])⟩ S.t40_19
def S.t40_21 : OT SR := .both S.t40_18 S.t40_20
def S.t40_22 : OT SR := .take ⟨(.some 26), .none, .false, (.ld .false 1 (.tmp 25))⟩ S.t40_21
def S.t40_23 : OT SR := .take ⟨(.some 26), .none, .false, (.ld .false 1 (.tmp 25))⟩ S.t40_19
def S.t40_24 : OT SR := .both S.t40_23 .vac
def S.t40_25 : OT SR := .take ⟨(.some 5), .none, .false, (.al 34 [(Go.Value.int Go.IntKind.i64 0), (Go.Value.int Go.IntKind.i64 0)])⟩ S.t40_24
def S.t40_26 : OT SR := .both S.t40_22 S.t40_25
def S.t40_27 : OT SR := .take ⟨(.some 25), .none, .false, (.fa 0 (.tmp 24))⟩ S.t40_26
def S.t40_28 : OT SR := .take ⟨(.some 24), .none, .false, (.nc (.tmp 23))⟩ S.t40_27
def S.t40_29 : OT SR := .take ⟨(.some 25), .none, .false, (.fa 0 (.tmp 24))⟩ S.t40_24
def S.t40_30 : OT SR := .take ⟨(.some 24), .none, .false, (.nc (.tmp 23))⟩ S.t40_29
def S.t40_31 : OT SR := .both S.t40_30 .vac
def S.t40_32 : OT SR := .take ⟨(.some 5), .none, .false, (.al 34 [(Go.Value.int Go.IntKind.i64 0), (Go.Value.int Go.IntKind.i64 0)])⟩ S.t40_31
def S.t40_33 : OT SR := .both S.t40_28 S.t40_32
def S.t40_34 : OT SR := .take ⟨(.some 21), .none, .false, (.ld .false 1 (.tmp 20))⟩ S.t40_33
def S.t40_35 : OT SR := .take ⟨(.some 21), .none, .false, (.ld .false 1 (.tmp 20))⟩ S.t40_17
def S.t40_36 : OT SR := .take ⟨(.some 21), .none, .false, (.ld .false 1 (.tmp 20))⟩ S.t40_13
def S.t40_37 : OT SR := .take ⟨(.some 21), .none, .false, (.ld .false 1 (.tmp 20))⟩ S.t40_11
def S.t40_38 : OT SR := .both S.t40_37 .vac
def S.t40_39 : OT SR := .take ⟨(.some 5), .none, .false, (.al 34 [(Go.Value.int Go.IntKind.i64 0), (Go.Value.int Go.IntKind.i64 0)])⟩ S.t40_38
def S.t40_40 : OT SR := .both S.t40_36 S.t40_39
def S.t40_41 : OT SR := .take ⟨(.some 28), .none, .false, (.call (.func 43) [(.tmp 22), (.tmp 27)])⟩ S.t40_40
def S.t40_42 : OT SR := .take ⟨(.some 21), .none, .false, (.ld .false 1 (.tmp 20))⟩ S.t40_15
def S.t40_43 : OT SR := .take ⟨(.some 28), .none, .false, (.call (.func 43) [(.tmp 22), (.tmp 27)])⟩ S.t40_38
def S.t40_44 : OT SR := .both S.t40_42 S.t40_43
def S.t40_45 : OT SR := .take ⟨(.some 5), .none, .false, (.al 34 [(Go.Value.int Go.IntKind.i64 0), (Go.Value.int Go.IntKind.i64 0)])⟩ S.t40_44
def S.t40_46 : OT SR := .both S.t40_41 S.t40_45
def S.t40_47 : OT SR := .both S.t40_35 S.t40_46
def S.t40_48 : OT SR := .take ⟨(.some 27), .none, .false, (.len (.tmp 26))⟩ S.t40_47
def S.t40_49 : OT SR := .take ⟨(.some 21), .none, .false, (.ld .false 1 (.tmp 20))⟩ S.t40_19
def S.t40_50 : OT SR := .take ⟨(.some 27), .none, .false, (.len (.tmp 26))⟩ S.t40_44
def S.t40_51 : OT SR := .both S.t40_49 S.t40_50
def S.t40_52 : OT SR := .take ⟨(.some 5), .none, .false, (.al 34 [(Go.Value.int Go.IntKind.i64 0), (Go.Value.int Go.IntKind.i64 0)])⟩ S.t40_51
def S.t40_53 : OT SR := .both S.t40_48 S.t40_52
def S.t40_54 : OT SR := .take ⟨(.some 26), .none, .false, (.ld .false 1 (.tmp 25))⟩ S.t40_53
def S.t40_55 : OT SR := .take ⟨(.some 21), .none, .false, (.ld .false 1 (.tmp 20))⟩ S.t40_24
def S.t40_56 : OT SR := .take ⟨(.some 26), .none, .false, (.ld .false 1 (.tmp 25))⟩ S.t40_50
def S.t40_57 : OT SR := .both S.t40_56 .vac
def S.t40_58 : OT SR := .both S.t40_55 S.t40_57
def S.t40_59 : OT SR := .take ⟨(.some 5), .none, .false, (.al 34 [(Go.Value.int Go.IntKind.i64 0), (Go.Value.int Go.IntKind.i64 0)])⟩ S.t40_58
def S.t40_60 : OT SR := .both S.t40_54 S.t40_59
def S.t40_61 : OT SR := .take ⟨(.some 25), .none, .false, (.fa 0 (.tmp 24))⟩ S.t40_60
def S.t40_62 : OT SR := .take ⟨(.some 24), .none, .false, (.nc (.tmp 23))⟩ S.t40_61
def S.t40_63 : OT SR := .take ⟨(.some 21), .none, .false, (.ld .false 1 (.tmp 20))⟩ S.t40_31
def S.t40_64 : OT SR := .take ⟨(.some 25), .none, .false, (.fa 0 (.tmp 24))⟩ S.t40_57
def S.t40_65 : OT SR := .take ⟨(.some 24), .none, .false, (.nc (.tmp 23))⟩ S.t40_64
def S.t40_66 : OT SR := .both S.t40_65 .vac
def S.t40_67 : OT SR := .both S.t40_63 S.t40_66
def S.t40_68 : OT SR := .take ⟨(.some 5), .none, .false, (.al 34 [(Go.Value.int Go.IntKind.i64 0), (Go.Value.int Go.IntKind.i64 0)])⟩ S.t40_67
def S.t40_69 : OT SR := .both S.t40_62 S.t40_68
def S.t40_70 : OT SR := .both S.t40_34 S.t40_69
def S.t40_71 : OT SR := .take ⟨(.some 20), .none, .false, (.fa 0 (.tmp 19))⟩ S.t40_70
def S.t40_72 : OT SR := .take ⟨(.some 19), .none, .false, (.nc (.tmp 18))⟩ S.t40_71
def S.t40_73 : OT SR := .take ⟨(.some 20), .none, .false, (.fa 0 (.tmp 19))⟩ S.t40_47
def S.t40_74 : OT SR := .take ⟨(.some 19), .none, .false, (.nc (.tmp 18))⟩ S.t40_73
def S.t40_75 : OT SR := .take ⟨(.some 20), .none, .false, (.fa 0 (.tmp 19))⟩ S.t40_40
def S.t40_76 : OT SR := .take ⟨(.some 19), .none, .false, (.nc (.tmp 18))⟩ S.t40_75
def S.t40_77 : OT SR := .take ⟨(.some 20), .none, .false, (.fa 0 (.tmp 19))⟩ S.t40_38
def S.t40_78 : OT SR := .take ⟨(.some 19), .none, .false, (.nc (.tmp 18))⟩ S.t40_77
def S.t40_79 : OT SR := .both S.t40_78 .vac
def S.t40_80 : OT SR := .take ⟨(.some 5), .none, .false, (.al 34 [(Go.Value.int Go.IntKind.i64 0), (Go.Value.int Go.IntKind.i64 0)])⟩ S.t40_79
def S.t40_81 : OT SR := .both S.t40_76 S.t40_80
def S.t40_82 : OT SR := .take ⟨(.some 28), .none, .false, (.call (.func 43) [(.tmp 22), (.tmp 27)])⟩ S.t40_81
def S.t40_83 : OT SR := .take ⟨(.some 20), .none, .false, (.fa 0 (.tmp 19))⟩ S.t40_44
def S.t40_84 : OT SR := .take ⟨(.some 19), .none, .false, (.nc (.tmp 18))⟩ S.t40_83
def S.t40_85 : OT SR := .take ⟨(.some 28), .none, .false, (.call (.func 43) [(.tmp 22), (.tmp 27)])⟩ S.t40_79
def S.t40_86 : OT SR := .both S.t40_84 S.t40_85
def S.t40_87 : OT SR := .take ⟨(.some 5), .none, .false, (.al 34 [(Go.Value.int Go.IntKind.i64 0), (Go.Value.int Go.IntKind.i64 0)])⟩ S.t40_86
def S.t40_88 : OT SR := .both S.t40_82 S.t40_87
def S.t40_89 : OT SR := .both S.t40_74 S.t40_88
def S.t40_90 : OT SR := .take ⟨(.some 27), .none, .false, (.len (.tmp 26))⟩ S.t40_89
def S.t40_91 : OT SR := .take ⟨(.some 20), .none, .false, (.fa 0 (.tmp 19))⟩ S.t40_51
def S.t40_92 : OT SR := .take ⟨(.some 19), .none, .false, (.nc (.tmp 18))⟩ S.t40_91
def S.t40_93 : OT SR := .take ⟨(.some 27), .none, .false, (.len (.tmp 26))⟩ S.t40_86
def S.t40_94 : OT SR := .both S.t40_92 S.t40_93
def S.t40_95 : OT SR := .take ⟨(.some 5), .none, .false, (.al 34 [(Go.Value.int Go.IntKind.i64 0), (Go.Value.int Go.IntKind.i64 0)])⟩ S.t40_94
def S.t40_96 : OT SR := .both S.t40_90 S.t40_95
def S.t40_97 : OT SR := .take ⟨(.some 26), .none, .false, (.ld .false 1 (.tmp 25))⟩ S.t40_96
def S.t40_98 : OT SR := .take ⟨(.some 20), .none, .false, (.fa 0 (.tmp 19))⟩ S.t40_58
def S.t40_99 : OT SR := .take ⟨(.some 19), .none, .false, (.nc (.tmp 18))⟩ S.t40_98
def S.t40_100 : OT SR := .take ⟨(.some 26), .none, .false, (.ld .false 1 (.tmp 25))⟩ S.t40_93
def S.t40_101 : OT SR := .both S.t40_100 .vac
def S.t40_102 : OT SR := .both S.t40_99 S.t40_101
def S.t40_103 : OT SR := .take ⟨(.some 5), .none, .false, (.al 34 [(Go.Value.int Go.IntKind.i64 0), (Go.Value.int Go.IntKind.i64 0)])⟩ S.t40_102
def S.t40_104 : OT SR := .both S.t40_97 S.t40_103
def S.t40_105 : OT SR := .take ⟨(.some 25), .none, .false, (.fa 0 (.tmp 24))⟩ S.t40_104
def S.t40_106 : OT SR := .take ⟨(.some 24), .none, .false, (.nc (.tmp 23))⟩ S.t40_105
def S.t40_107 : OT SR := .take ⟨(.some 20), .none, .false, (.fa 0 (.tmp 19))⟩ S.t40_67
def S.t40_108 : OT SR := .take ⟨(.some 19), .none, .false, (.nc (.tmp 18))⟩ S.t40_107
def S.t40_109 : OT SR := .take ⟨(.some 25), .none, .false, (.fa 0 (.tmp 24))⟩ S.t40_101
def S.t40_110 : OT SR := .take ⟨(.some 24), .none, .false, (.nc (.tmp 23))⟩ S.t40_109
def S.t40_111 : OT SR := .both S.t40_110 .vac
def S.t40_112 : OT SR := .both S.t40_108 S.t40_111
def S.t40_113 : OT SR := .take ⟨(.some 5), .none, .false, (.al 34 [(Go.Value.int Go.IntKind.i64 0), (Go.Value.int Go.IntKind.i64 0)])⟩ S.t40_112
def S.t40_114 : OT SR := .both S.t40_106 S.t40_113
def S.t40_115 : OT SR := .both S.t40_72 S.t40_114
def S.t40_116 : OT SR := .take ⟨(.some 23), .none, .false, (.mv (.tmp 1))⟩ S.t40_115
def S.t40_117 : OT SR := .take ⟨(.some 22), .none, .false, (.mv (.tmp 0))⟩ S.t40_116
def S.t40_118 : OT SR := .take ⟨(.some 18), .none, .false, (.mv (.tmp 1))⟩ S.t40_117
def S.t40_119 : OT SR := .take ⟨.none, .none, .false, (.sto 2 (.tmp 4) (.tmp 37))⟩ .done
def S.t40_120 : OT SR := .take ⟨(.some 37), .none, .false, (.call (.func 63) [(.tmp 34), (.tmp 36)])⟩ S.t40_119
def S.t40_121 : OT SR := .take ⟨(.some 36), .none, .false, (.call (.func 43) [(.tmp 35), (.const (Go.Value.int Go.IntKind.i64 4))])⟩ S.t40_120
def S.t40_122 : OT SR := .take ⟨(.some 34), .none, .false, (.ld .true 2 (.tmp 5))⟩ S.t40_121
def S.t40_123 : OT SR := .take ⟨(.some 34), .none, .false, (.ld .true 2 (.tmp 5))⟩ S.t40_120
def S.t40_124 : OT SR := .take ⟨(.some 36), .none, .false, (.call (.func 43) [(.tmp 35), (.const (Go.Value.int Go.IntKind.i64 4))])⟩ S.t40_123
def S.t40_125 : OT SR := .both S.t40_122 S.t40_124
def S.t40_126 : OT SR := .take ⟨(.some 35), .none, .false, (.mv (.tmp 0))⟩ S.t40_125
set_option maxRecDepth 100000 in
def S.s40 : SC := (.seq (.reg [⟨(.some 4), .none, .false, (.al 34 [(Go.Value.int Go.IntKind.i64 0), (Go.Value.int Go.IntKind.i64 0)])⟩]) (.seq (.seq (.reg [⟨(.some 6), .none, .false, (.mv (.tmp 1))⟩, ⟨(.some 7), .none, .false, (.nc (.tmp 6))⟩, ⟨(.some 8), .none, .false, (.fa 0 (.tmp 7))⟩, ⟨(.some 9), .none, .false, (.ld .false 1 (.tmp 8))⟩, ⟨(.some 10), .none, .false, (.len (.tmp 9))⟩, ⟨(.some 11), .none, .false, (.bin .eql (.tmp 10) (.const (Go.Value.int Go.IntKind.i64 0)))⟩, ⟨(.some 12), .none, .false, (.mv (.tmp 11))⟩, ⟨(.some 13), (.some (12, .false)), .false, (.mv (.tmp 0))⟩, ⟨(.some 14), (.some (12, .false)), .false, (.call (.func 41) [(.tmp 13), (.const (Go.Value.int Go.IntKind.i64 6))])⟩, ⟨(.some 15), .none, .false, (.pick (.tmp 12) (.const (Go.Value.bool true)) (.tmp 14))⟩]) (.cond (.tmp 15) (.seq (.reg [⟨(.some 16), .none, .false, (.mv (.tmp 0))⟩, ⟨(.some 17), .none, .false, (.call (.func 62) [(.tmp 16)])⟩, ⟨.none, .none, .false, (.sto 2 (.tmp 4) (.tmp 17))⟩]) .ret) .skip)) (.seq (.regO S.t40_118) (.seq (.seq (.reg [⟨(.some 32), .none, .false, (.mv (.tmp 0))⟩, ⟨(.some 33), .none, .false, (.call (.func 41) [(.tmp 32), (.const (Go.Value.int Go.IntKind.i64 2))])⟩]) (.cond (.tmp 33) (.seq (.regO S.t40_126) .ret) .skip)) (.seq (.reg [⟨(.some 38), .none, .false, (.ld .true 2 (.tmp 5))⟩, ⟨.none, .none, .false, (.sto 2 (.tmp 4) (.tmp 38))⟩]) .ret)))))
set_option maxRecDepth 100000 in
theorem S.ok40 : stripF Try.prog Try.f40 = some S.s40 := by kernel_rfl
set_option maxRecDepth 100000 in
def S.s41 : SC := (.seq (.reg [⟨(.some 4), .none, .false, (.mv (.const (Go.Value.bool false)))⟩]) (.seq (.reg [⟨(.some 5), .none, .false, (.mv (.tmp 0))⟩, ⟨(.some 6), .none, .false, (.mv (.tmp 1))⟩, ⟨(.some 7), .none, .false, (.call (.func 43) [(.tmp 5), (.tmp 6)])⟩, ⟨(.some 8), .none, .false, (.bin .eql (.tmp 7) (.const (Go.Value.int Go.IntKind.i64 0)))⟩, ⟨(.some 4), .none, .false, (.mv (.tmp 8))⟩]) .ret))
set_option maxRecDepth 100000 in
theorem S.ok41 : stripF Try.prog Try.f41 = some S.s41 := by kernel_rfl
set_option maxRecDepth 100000 in
def S.s42 : SC := (.seq (.reg [⟨(.some 4), .none, .false, (.mv (.const (Go.Value.int Go.IntKind.i64 0)))⟩]) (.seq (.reg [⟨(.some 5), .none, .false, (.mv (.tmp 1))⟩, ⟨(.some 6), .none, .false, (.mv (.tmp 0))⟩, ⟨(.some 7), .none, .false, (.mv (.tmp 1))⟩, ⟨(.some 8), .none, .false, (.len (.tmp 7))⟩, ⟨(.some 9), .none, .false, (.call (.func 43) [(.tmp 6), (.tmp 8)])⟩, ⟨(.some 10), .none, .false, (.ix (.mk 2 1) (.tmp 5) (.tmp 9))⟩, ⟨(.some 11), .none, .false, (.ld .false 1 (.tmp 10))⟩, ⟨(.some 4), .none, .false, (.mv (.tmp 11))⟩]) .ret))
set_option maxRecDepth 100000 in
theorem S.ok42 : stripF Try.prog Try.f42 = some S.s42 := by kernel_rfl
set_option maxRecDepth 100000 in
def S.s43 : SC := (.seq (.reg [⟨(.some 4), .none, .false, (.mv (.const (Go.Value.int Go.IntKind.i64 0)))⟩]) (.seq (.seq (.reg [⟨(.some 6), .none, .false, (.mv (.tmp 1))⟩, ⟨(.some 7), .none, .false, (.bin .leq (.tmp 6) (.const (Go.Value.int Go.IntKind.i64 1)))⟩]) (.cond (.tmp 7) (.seq (.reg [⟨(.some 4), .none, .false, (.mv (.const (Go.Value.int Go.IntKind.i64 0)))⟩]) .ret) .skip)) (.seq (.reg [⟨(.some 8), .none, .false, (.mv (.tmp 0))⟩, ⟨(.some 9), .none, .false, (.call (.func 64) [(.tmp 8)])⟩, ⟨(.some 5), .none, .false, (.mv (.tmp 9))⟩]) (.seq (.seq (.reg [⟨(.some 10), .none, .false, (.mv (.tmp 1))⟩, ⟨(.some 11), .none, .false, (.bin .gtr (.tmp 10) (.const (Go.Value.int Go.IntKind.i64 200)))⟩]) (.cond (.tmp 11) (.reg [⟨(.some 12), .none, .false, (.mv (.tmp 5))⟩, ⟨(.some 13), .none, .false, (.bin .mul (.tmp 12) (.const (Go.Value.int Go.IntKind.i64 256)))⟩, ⟨(.some 14), .none, .false, (.mv (.tmp 0))⟩, ⟨(.some 15), .none, .false, (.call (.func 64) [(.tmp 14)])⟩, ⟨(.some 16), .none, .false, (.bin .add (.tmp 13) (.tmp 15))⟩, ⟨(.some 5), .none, .false, (.mv (.tmp 16))⟩]) .skip)) (.seq (.reg [⟨(.some 17), .none, .false, (.mv (.tmp 5))⟩, ⟨(.some 18), .none, .false, (.mv (.tmp 1))⟩, ⟨(.some 19), .none, .false, (.bin .rem (.tmp 17) (.tmp 18))⟩, ⟨(.some 4), .none, .false, (.mv (.tmp 19))⟩]) .ret)))))
set_option maxRecDepth 100000 in
theorem S.ok43 : stripF Try.prog Try.f43 = some S.s43 := by kernel_rfl
set_option maxRecDepth 100000 in
def S.s60 : SC := (.seq (.reg [⟨(.some 4), .none, .false, (.al 30 [(Go.Value.slice none 0 0)])⟩]) (.seq (.reg [⟨(.some 8), .none, .false, (.bld [(Go.Value.slice none 0 0)] [(0, 1)] [])⟩, ⟨(.some 5), .none, .false, (.al 30 [(Go.Value.slice none 0 0)])⟩, ⟨.none, .none, .false, (.sto 1 (.tmp 5) (.tmp 8))⟩]) (.seq (.reg [⟨(.some 9), .none, .false, (.mv (.tmp 0))⟩, ⟨(.some 10), .none, .false, (.call (.func 43) [(.tmp 9), (.const (Go.Value.int Go.IntKind.i64 5))])⟩, ⟨(.some 11), .none, .false, (.bin .sub (.tmp 10) (.const (Go.Value.int Go.IntKind.i64 2)))⟩, ⟨(.some 12), .none, .false, (.mv (.tmp 0))⟩, ⟨(.some 13), .none, .false, (.call (.func 43) [(.tmp 12), (.const (Go.Value.int Go.IntKind.i64 5))])⟩, ⟨(.some 14), .none, .false, (.bin .sub (.tmp 13) (.const (Go.Value.int Go.IntKind.i64 2)))⟩, ⟨(.some 15), .none, .false, (.bld [(Go.Value.int Go.IntKind.i64 0), (Go.Value.int Go.IntKind.i64 0)] [(0, 1), (1, 1)] [(0, (.tmp 11)), (1, (.tmp 14))])⟩, ⟨(.some 6), .none, .false, (.al 34 [(Go.Value.int Go.IntKind.i64 0), (Go.Value.int Go.IntKind.i64 0)])⟩, ⟨.none, .none, .false, (.sto 2 (.tmp 6) (.tmp 15))⟩]) (.seq (.seq (.reg [⟨(.some 16), .none, .false, (.mv (.tmp 0))⟩, ⟨(.some 17), .none, .false, (.call (.func 43) [(.tmp 16), (.const (Go.Value.int Go.IntKind.i64 12))])⟩, ⟨(.some 7), .none, .false, (.mv (.tmp 17))⟩]) (.block 0 (.loop (.seq (.seq (.reg [⟨(.some 18), .none, .false, (.mv (.tmp 7))⟩, ⟨(.some 19), .none, .false, (.bin .gtr (.tmp 18) (.const (Go.Value.int Go.IntKind.i64 0)))⟩]) (.cond (.tmp 19) .skip (.exit 0))) (.seq (.block 1 (.seq (.seq (.reg [⟨(.some 22), .none, .false, (.ld .true 2 (.tmp 6))⟩, ⟨(.some 23), .none, .false, (.call (.func 26) [(.tmp 5), (.tmp 22)])⟩, ⟨(.some 24), .none, .false, (.bin .lss (.tmp 23) (.const (Go.Value.int Go.IntKind.i64 0)))⟩]) (.cond (.tmp 24) (.regO (.take ⟨(.some 26), .none, .false, (.mv (.tmp 0))⟩ (.take ⟨(.some 27), .none, .false, (.mv (.tmp 1))⟩ (.both (.take ⟨(.some 25), .none, .false, (.ld .true 2 (.tmp 6))⟩ (.take ⟨(.some 28), .none, .false, (.call (.func 43) [(.tmp 26), (.tmp 27)])⟩ (.take ⟨(.some 29), .none, .false, (.call (.func 27) [(.tmp 5), (.tmp 25), (.tmp 28)])⟩ (.take ⟨.none, .none, .false, (.sto 1 (.tmp 5) (.tmp 29))⟩ .done)))) (.take ⟨(.some 28), .none, .false, (.call (.func 43) [(.tmp 26), (.tmp 27)])⟩ (.take ⟨(.some 25), .none, .false, (.ld .true 2 (.tmp 6))⟩ (.take ⟨(.some 29), .none, .false, (.call (.func 27) [(.tmp 5), (.tmp 25), (.tmp 28)])⟩ (.take ⟨.none, .none, .false, (.sto 1 (.tmp 5) (.tmp 29))⟩ .done)))))))) .skip)) (.seq (.regO (.take ⟨(.some 31), .none, .false, (.mv (.tmp 0))⟩ (.both (.take ⟨(.some 30), .none, .false, (.ld .true 2 (.tmp 6))⟩ (.take ⟨(.some 32), .none, .false, (.call (.func 43) [(.tmp 31), (.const (Go.Value.int Go.IntKind.i64 4))])⟩ (.take ⟨(.some 33), .none, .false, (.call (.func 63) [(.tmp 30), (.tmp 32)])⟩ (.take ⟨.none, .none, .false, (.sto 2 (.tmp 6) (.tmp 33))⟩ .done)))) (.take ⟨(.some 32), .none, .false, (.call (.func 43) [(.tmp 31), (.const (Go.Value.int Go.IntKind.i64 4))])⟩ (.take ⟨(.some 30), .none, .false, (.ld .true 2 (.tmp 6))⟩ (.take ⟨(.some 33), .none, .false, (.call (.func 63) [(.tmp 30), (.tmp 32)])⟩ (.take ⟨.none, .none, .false, (.sto 2 (.tmp 6) (.tmp 33))⟩ .done))))))) (.seq (.reg [⟨(.some 34), .none, .false, (.mv (.tmp 0))⟩, ⟨(.some 35), .none, .false, (.call (.func 41) [(.tmp 34), (.const (Go.Value.int Go.IntKind.i64 10))])⟩]) (.cond (.tmp 35) (.regO (.take ⟨(.some 37), .none, .false, (.mv (.tmp 0))⟩ (.both (.take ⟨(.some 36), .none, .false, (.ld .true 2 (.tmp 6))⟩ (.take ⟨(.some 38), .none, .false, (.call (.func 43) [(.tmp 37), (.const (Go.Value.int Go.IntKind.i64 4))])⟩ (.take ⟨(.some 39), .none, .false, (.call (.func 63) [(.tmp 36), (.tmp 38)])⟩ (.take ⟨.none, .none, .false, (.sto 2 (.tmp 6) (.tmp 39))⟩ .done)))) (.take ⟨(.some 38), .none, .false, (.call (.func 43) [(.tmp 37), (.const (Go.Value.int Go.IntKind.i64 4))])⟩ (.take ⟨(.some 36), .none, .false, (.ld .true 2 (.tmp 6))⟩ (.take ⟨(.some 39), .none, .false, (.call (.func 63) [(.tmp 36), (.tmp 38)])⟩ (.take ⟨.none, .none, .false, (.sto 2 (.tmp 6) (.tmp 39))⟩ .done))))))) .skip))))) (.reg [⟨(.some 20), .none, .false, (.mv (.tmp 7))⟩, ⟨(.some 21), .none, .false, (.bin .sub (.tmp 20) (.const (Go.Value.int Go.IntKind.i64 1)))⟩, ⟨(.some 7), .none, .false, (.mv (.tmp 21))⟩])))))) (.seq (.reg [⟨(.some 40), .none, .false, (.ld .true 1 (.tmp 5))⟩, ⟨.none, .none, .false, (.sto 1 (.tmp 4) (.tmp 40))⟩]) .ret)))))
set_option maxRecDepth 100000 in
theorem S.ok60 : stripF Try.prog Try.f60 = some S.s60 := by kernel_rfl
set_option maxRecDepth 100000 in
def S.s61 : SC := (.seq (.reg [⟨(.some 2), .none, .false, (.al 30 [(Go.Value.slice none 0 0)])⟩]) (.seq (.reg [⟨(.some 6), .none, .false, (.bld [(Go.Value.slice none 0 0)] [(0, 1)] [])⟩, ⟨(.some 3), .none, .false, (.al 30 [(Go.Value.slice none 0 0)])⟩, ⟨.none, .none, .false, (.sto 1 (.tmp 3) (.tmp 6))⟩]) (.seq (.reg [⟨(.some 7), .none, .false, (.mv (.tmp 0))⟩, ⟨(.some 8), .none, .false, (.call (.func 43) [(.tmp 7), (.const (Go.Value.int Go.IntKind.i64 3))])⟩, ⟨(.some 9), .none, .false, (.bin .add (.const (Go.Value.int Go.IntKind.i64 499)) (.tmp 8))⟩, ⟨(.some 4), .none, .false, (.mv (.tmp 9))⟩]) (.seq (.seq (.reg [⟨(.some 5), .none, .false, (.mv (.const (Go.Value.int Go.IntKind.i64 0)))⟩]) (.block 0 (.loop (.seq (.seq (.reg [⟨(.some 10), .none, .false, (.mv (.tmp 5))⟩, ⟨(.some 11), .none, .false, (.mv (.tmp 4))⟩, ⟨(.some 12), .none, .false, (.bin .lss (.tmp 10) (.tmp 11))⟩]) (.cond (.tmp 12) .skip (.exit 0))) (.seq (.block 1 (.reg [⟨(.some 15), .none, .false, (.fa 0 (.tmp 3))⟩, ⟨(.some 16), .none, .false, (.ld .false 1 (.tmp 15))⟩, ⟨(.some 17), .none, .false, (.mv (.tmp 5))⟩, ⟨(.some 18), .none, .false, (.bin .rem (.tmp 17) (.const (Go.Value.int Go.IntKind.i64 100)))⟩, ⟨(.some 19), .none, .false, (.bin .sub (.tmp 18) (.const (Go.Value.int Go.IntKind.i64 50)))⟩, ⟨(.some 20), .none, .false, (.mv (.tmp 5))⟩, ⟨(.some 21), .none, .false, (.bin .quo (.tmp 20) (.const (Go.Value.int Go.IntKind.i64 100)))⟩, ⟨(.some 22), .none, .false, (.bld [(Go.Value.int Go.IntKind.i64 0), (Go.Value.int Go.IntKind.i64 0)] [(0, 1), (1, 1)] [(0, (.tmp 19)), (1, (.tmp 21))])⟩, ⟨(.some 23), .none, .false, (.bld [(Go.Value.int Go.IntKind.i64 0), (Go.Value.int Go.IntKind.i64 0), (Go.Value.int Go.IntKind.i64 0)] [(0, 2), (2, 1)] [(0, (.tmp 22))])⟩, ⟨(.some 24), .none, .false, (.bsl (.mk 50 3) 1 [(0, (.tmp 23))])⟩, ⟨(.some 25), .none, .false, (.app (.mk 50 3) 24 (.tmp 16) (.tmp 24))⟩, ⟨(.some 26), .none, .false, (.fa 0 (.tmp 3))⟩, ⟨.none, .none, .false, (.sto 1 (.tmp 26) (.tmp 25))⟩])) (.reg [⟨(.some 13), .none, .false, (.mv (.tmp 5))⟩, ⟨(.some 14), .none, .false, (.bin .add (.tmp 13) (.const (Go.Value.int Go.IntKind.i64 1)))⟩, ⟨(.some 5), .none, .false, (.mv (.tmp 14))⟩])))))) (.seq (.reg [⟨(.some 27), .none, .false, (.ld .true 1 (.tmp 3))⟩, ⟨.none, .none, .false, (.sto 1 (.tmp 2) (.tmp 27))⟩]) .ret)))))
set_option maxRecDepth 100000 in
theorem S.ok61 : stripF Try.prog Try.f61 = some S.s61 := by kernel_rfl
set_option maxRecDepth 100000 in
def S.s62 : SC := (.seq (.reg [⟨(.some 2), .none, .false, (.al 34 [(Go.Value.int Go.IntKind.i64 0), (Go.Value.int Go.IntKind.i64 0)])⟩]) (.seq (.seq (.reg [⟨(.some 5), .none, .false, (.mv (.tmp 0))⟩, ⟨(.some 6), .none, .false, (.call (.func 41) [(.tmp 5), (.const (Go.Value.int Go.IntKind.i64 24))])⟩]) (.cond (.tmp 6) (.seq (.reg [⟨(.some 7), .none, .false, (.mv (.tmp 0))⟩, ⟨(.some 8), .none, .false, (.bsl (.mk 2 1) 6 [(0, (.const (Go.Value.int Go.IntKind.i64 (-60)))), (1, (.const (Go.Value.int Go.IntKind.i64 (-61)))), (2, (.const (Go.Value.int Go.IntKind.i64 60))), (3, (.const (Go.Value.int Go.IntKind.i64 61))), (4, (.const (Go.Value.int Go.IntKind.i64 (-9223372036854775808)))), (5, (.const (Go.Value.int Go.IntKind.i64 9223372036854775807)))])⟩, ⟨(.some 9), .none, .false, (.call (.func 42) [(.tmp 7), (.tmp 8)])⟩, ⟨(.some 3), .none, .false, (.mv (.tmp 9))⟩]) (.seq (.reg [⟨(.some 10), .none, .false, (.mv (.tmp 3))⟩, ⟨(.some 11), .none, .false, (.mv (.tmp 0))⟩, ⟨(.some 12), .none, .false, (.call (.func 43) [(.tmp 11), (.const (Go.Value.int Go.IntKind.i64 9))])⟩, ⟨(.some 13), .none, .false, (.bld [(Go.Value.int Go.IntKind.i64 0), (Go.Value.int Go.IntKind.i64 0)] [(0, 1), (1, 1)] [(0, (.tmp 10)), (1, (.tmp 12))])⟩, ⟨.none, .none, .false, (.sto 2 (.tmp 2) (.tmp 13))⟩]) .ret)) .skip)) (.seq (.reg [⟨(.some 14), .none, .false, (.mv (.tmp 0))⟩, ⟨(.some 15), .none, .false, (.call (.func 43) [(.tmp 14), (.const (Go.Value.int Go.IntKind.i64 9))])⟩, ⟨(.some 16), .none, .false, (.bin .sub (.tmp 15) (.const (Go.Value.int Go.IntKind.i64 4)))⟩, ⟨(.some 4), .none, .false, (.mv (.tmp 16))⟩]) (.seq (.reg [⟨(.some 17), .none, .false, (.mv (.tmp 4))⟩, ⟨(.some 18), .none, .false, (.mv (.tmp 0))⟩, ⟨(.some 19), .none, .false, (.call (.func 43) [(.tmp 18), (.const (Go.Value.int Go.IntKind.i64 9))])⟩, ⟨(.some 20), .none, .false, (.bin .sub (.tmp 19) (.const (Go.Value.int Go.IntKind.i64 4)))⟩, ⟨(.some 21), .none, .false, (.bld [(Go.Value.int Go.IntKind.i64 0), (Go.Value.int Go.IntKind.i64 0)] [(0, 1), (1, 1)] [(0, (.tmp 17)), (1, (.tmp 20))])⟩, ⟨.none, .none, .false, (.sto 2 (.tmp 2) (.tmp 21))⟩]) .ret))))
set_option maxRecDepth 100000 in
theorem S.ok62 : stripF Try.prog Try.f62 = some S.s62 := by kernel_rfl
set_option maxRecDepth 100000 in
def S.s63 : SC := (.seq (.reg [⟨(.some 2), .none, .false, (.box 34 (.tmp 0))⟩, ⟨(.some 4), .none, .false, (.al 34 [(Go.Value.int Go.IntKind.i64 0), (Go.Value.int Go.IntKind.i64 0)])⟩]) (.seq (.seq (.reg [⟨(.some 5), .none, .false, (.mv (.tmp 1))⟩]) (.block 0 (.seq (.reg [⟨(.some 7), .none, .false, (.bin .eql (.tmp 5) (.const (Go.Value.int Go.IntKind.i64 0)))⟩, ⟨(.some 6), .none, .false, (.mv (.tmp 7))⟩]) (.cond (.tmp 6) (.reg [⟨(.some 8), .none, .false, (.fa 1 (.tmp 2))⟩, ⟨(.some 9), .none, .false, (.ld .false 1 (.tmp 8))⟩, ⟨(.some 10), .none, .false, (.bin .add (.tmp 9) (.const (Go.Value.int Go.IntKind.i64 1)))⟩, ⟨(.some 11), .none, .false, (.fa 1 (.tmp 2))⟩, ⟨.none, .none, .false, (.sto 1 (.tmp 11) (.tmp 10))⟩]) (.seq (.reg [⟨(.some 13), .none, .false, (.bin .eql (.tmp 5) (.const (Go.Value.int Go.IntKind.i64 1)))⟩, ⟨(.some 12), .none, .false, (.mv (.tmp 13))⟩]) (.cond (.tmp 12) (.reg [⟨(.some 14), .none, .false, (.fa 0 (.tmp 2))⟩, ⟨(.some 15), .none, .false, (.ld .false 1 (.tmp 14))⟩, ⟨(.some 16), .none, .false, (.bin .add (.tmp 15) (.const (Go.Value.int Go.IntKind.i64 1)))⟩, ⟨(.some 17), .none, .false, (.fa 0 (.tmp 2))⟩, ⟨.none, .none, .false, (.sto 1 (.tmp 17) (.tmp 16))⟩]) (.seq (.reg [⟨(.some 19), .none, .false, (.bin .eql (.tmp 5) (.const (Go.Value.int Go.IntKind.i64 2)))⟩, ⟨(.some 18), .none, .false, (.mv (.tmp 19))⟩]) (.cond (.tmp 18) (.reg [⟨(.some 20), .none, .false, (.fa 1 (.tmp 2))⟩, ⟨(.some 21), .none, .false, (.ld .false 1 (.tmp 20))⟩, ⟨(.some 22), .none, .false, (.bin .sub (.tmp 21) (.const (Go.Value.int Go.IntKind.i64 1)))⟩, ⟨(.some 23), .none, .false, (.fa 1 (.tmp 2))⟩, ⟨.none, .none, .false, (.sto 1 (.tmp 23) (.tmp 22))⟩]) (.seq (.reg [⟨(.some 25), .none, .false, (.bin .eql (.tmp 5) (.const (Go.Value.int Go.IntKind.i64 3)))⟩, ⟨(.some 24), .none, .false, (.mv (.tmp 25))⟩]) (.cond (.tmp 24) (.reg [⟨(.some 26), .none, .false, (.fa 0 (.tmp 2))⟩, ⟨(.some 27), .none, .false, (.ld .false 1 (.tmp 26))⟩, ⟨(.some 28), .none, .false, (.bin .sub (.tmp 27) (.const (Go.Value.int Go.IntKind.i64 1)))⟩, ⟨(.some 29), .none, .false, (.fa 0 (.tmp 2))⟩, ⟨.none, .none, .false, (.sto 1 (.tmp 29) (.tmp 28))⟩]) .skip)))))))))) (.seq (.reg [⟨(.some 30), .none, .false, (.ld .true 2 (.tmp 2))⟩, ⟨.none, .none, .false, (.sto 2 (.tmp 4) (.tmp 30))⟩]) .ret)))
set_option maxRecDepth 100000 in
theorem S.ok63 : stripF Try.prog Try.f63 = some S.s63 := by kernel_rfl
set_option maxRecDepth 100000 in
def S.s64 : SC := (.seq (.reg [⟨(.some 2), .none, .false, (.mv (.const (Go.Value.int Go.IntKind.i64 0)))⟩]) (.seq (.reg [⟨(.some 3), .none, .false, (.mv (.const (Go.Value.int Go.IntKind.i64 0)))⟩]) (.seq (.seq (.reg [⟨(.some 4), .none, .true, (.mv (.tmp 0))⟩, ⟨(.some 5), .none, .true, (.nc (.tmp 4))⟩, ⟨(.some 6), .none, .true, (.fa 1 (.tmp 5))⟩, ⟨(.some 7), .none, .true, (.ld .false 1 (.tmp 6))⟩, ⟨(.some 8), .none, .true, (.mv (.tmp 0))⟩, ⟨(.some 9), .none, .true, (.nc (.tmp 8))⟩, ⟨(.some 10), .none, .true, (.fa 0 (.tmp 9))⟩, ⟨(.some 11), .none, .true, (.ld .false 1 (.tmp 10))⟩, ⟨(.some 12), .none, .true, (.len (.tmp 11))⟩, ⟨(.some 13), .none, .true, (.bin .lss (.tmp 7) (.tmp 12))⟩]) (.cond (.tmp 13) (.reg [⟨(.some 14), .none, .true, (.mv (.tmp 0))⟩, ⟨(.some 15), .none, .true, (.nc (.tmp 14))⟩, ⟨(.some 16), .none, .true, (.fa 0 (.tmp 15))⟩, ⟨(.some 17), .none, .true, (.ld .false 1 (.tmp 16))⟩, ⟨(.some 18), .none, .true, (.mv (.tmp 0))⟩, ⟨(.some 19), .none, .true, (.nc (.tmp 18))⟩, ⟨(.some 20), .none, .true, (.fa 1 (.tmp 19))⟩, ⟨(.some 21), .none, .true, (.ld .false 1 (.tmp 20))⟩, ⟨(.some 22), .none, .true, (.ix (.mk 5 1) (.tmp 17) (.tmp 21))⟩, ⟨(.some 23), .none, .true, (.ld .false 1 (.tmp 22))⟩, ⟨(.some 24), .none, .true, (.cv .i64 (.tmp 23))⟩, ⟨(.some 3), .none, .true, (.mv (.tmp 24))⟩]) .skip)) (.seq (.reg [⟨(.some 25), .none, .false, (.mv (.tmp 0))⟩, ⟨(.some 26), .none, .false, (.nc (.tmp 25))⟩, ⟨(.some 27), .none, .false, (.fa 1 (.tmp 26))⟩, ⟨(.some 28), .none, .false, (.ld .false 1 (.tmp 27))⟩, ⟨(.some 29), .none, .false, (.bin .add (.tmp 28) (.const (Go.Value.int Go.IntKind.i64 1)))⟩, ⟨(.some 30), .none, .false, (.nc (.tmp 25))⟩, ⟨(.some 31), .none, .false, (.fa 1 (.tmp 30))⟩, ⟨.none, .none, .false, (.sto 1 (.tmp 31) (.tmp 29))⟩]) (.seq (.reg [⟨(.some 32), .none, .false, (.mv (.tmp 0))⟩, ⟨(.some 33), .none, .false, (.mv (.tmp 0))⟩, ⟨(.some 34), .none, .false, (.nc (.tmp 33))⟩, ⟨(.some 35), .none, .false, (.fa 2 (.tmp 34))⟩, ⟨(.some 36), .none, .false, (.ld .false 1 (.tmp 35))⟩, ⟨(.some 37), .none, .false, (.bin .mul (.tmp 36) (.const (Go.Value.int Go.IntKind.u64 6364136223846793005)))⟩, ⟨(.some 38), .none, .false, (.mv (.tmp 3))⟩, ⟨(.some 39), .none, .false, (.cv .u64 (.tmp 38))⟩, ⟨(.some 40), .none, .false, (.bin .add (.tmp 37) (.tmp 39))⟩, ⟨(.some 41), .none, .false, (.bin .add (.tmp 40) (.const (Go.Value.int Go.IntKind.u64 1442695040888963407)))⟩, ⟨(.some 42), .none, .false, (.nc (.tmp 32))⟩, ⟨(.some 43), .none, .false, (.fa 2 (.tmp 42))⟩, ⟨.none, .none, .false, (.sto 1 (.tmp 43) (.tmp 41))⟩]) (.seq (.seq (.reg [⟨(.some 44), .none, .true, (.mv (.tmp 0))⟩, ⟨(.some 45), .none, .true, (.nc (.tmp 44))⟩, ⟨(.some 46), .none, .true, (.fa 1 (.tmp 45))⟩, ⟨(.some 47), .none, .true, (.ld .false 1 (.tmp 46))⟩, ⟨(.some 48), .none, .true, (.mv (.tmp 0))⟩, ⟨(.some 49), .none, .true, (.nc (.tmp 48))⟩, ⟨(.some 50), .none, .true, (.fa 0 (.tmp 49))⟩, ⟨(.some 51), .none, .true, (.ld .false 1 (.tmp 50))⟩, ⟨(.some 52), .none, .true, (.len (.tmp 51))⟩, ⟨(.some 53), .none, .true, (.bin .leq (.tmp 47) (.tmp 52))⟩]) (.cond (.tmp 53) (.seq (.reg [⟨(.some 54), .none, .false, (.mv (.tmp 3))⟩, ⟨(.some 2), .none, .false, (.mv (.tmp 54))⟩]) .ret) .skip)) (.seq (.reg [⟨(.some 55), .none, .false, (.mv (.tmp 0))⟩, ⟨(.some 56), .none, .false, (.nc (.tmp 55))⟩, ⟨(.some 57), .none, .false, (.fa 2 (.tmp 56))⟩, ⟨(.some 58), .none, .false, (.ld .false 1 (.tmp 57))⟩, ⟨(.some 59), .none, .false, (.bin .shr (.tmp 58) (.const (Go.Value.int Go.IntKind.u64 40)))⟩, ⟨(.some 60), .none, .false, (.bin .and (.tmp 59) (.const (Go.Value.int Go.IntKind.u64 255)))⟩, ⟨(.some 61), .none, .false, (.cv .i64 (.tmp 60))⟩, ⟨(.some 2), .none, .false, (.mv (.tmp 61))⟩]) .ret)))))))
set_option maxRecDepth 100000 in
theorem S.ok64 : stripF Try.prog Try.f64 = some S.s64 := by kernel_rfl
set_option maxRecDepth 20000
set_option maxHeartbeats 8000000
def sw2 (p q o : Nat) : Nat := if o = p then q else if o = q then p else o
theorem sw2_sw2 (p q o : Nat) : sw2 p q (sw2 p q o) = o := by
  unfold sw2
  by_cases h1 : o = p
  · subst h1
    rw [if_pos rfl]
    by_cases h2 : q = o
    · subst h2; simp
    · rw [if_neg h2, if_pos rfl]
  · rw [if_neg h1]
    by_cases h2 : o = q
    · subst h2; rw [if_pos rfl, if_pos rfl]
    · rw [if_neg h2, if_neg h1, if_neg h2]
theorem sw2_pin {p q o : Nat} (hp : p < pinN) (hq : q < pinN) (ho : pinN ≤ o) : sw2 p q o = o := by
  unfold sw2
  rw [if_neg (by omega), if_neg (by omega)]
def St.swap (p q : Nat) (st : St) : St := ⟨fun d => (st.env d).ren (sw2 p q), fun o => (st.objs (sw2 p q o)).map (Ob.ren (sw2 p q))⟩
/-- Two objects change their names. -/
theorem Weak.swap {st : St} (p q : Nat) (hp : Nat.blt p pinN = true) (hq : Nat.blt q pinN = true) : Weak st (st.swap p q) := fun F R ι φ a w hs => by
  have hp : p < pinN := Nat.le_of_ble_eq_true hp
  have hq : q < pinN := Nat.le_of_ble_eq_true hq
  have hσ : ∀ j, st.dom j → (st.swap p q).dom (sw2 p q j) ∧ (fun o => ι (sw2 p q o)) (sw2 p q j) = ι j := fun j ⟨x, hx⟩ =>
    ⟨⟨x.ren (sw2 p q), by show (st.objs (sw2 p q (sw2 p q j))).map _ = _; rw [sw2_sw2, hx]; rfl⟩, by show ι (sw2 p q (sw2 p q j)) = _; rw [sw2_sw2]⟩
  have hob : ∀ o x, (st.swap p q).objs o = some x → ∃ y, st.objs (sw2 p q o) = some y ∧ x = y.ren (sw2 p q) := fun o x hx => by
    have hx : (st.objs (sw2 p q o)).map (Ob.ren (sw2 p q)) = some x := hx
    cases hy : st.objs (sw2 p q o) with
    | none => rw [hy] at hx; cases hx
    | some y => rw [hy] at hx; cases hx; exact ⟨y, rfl, rfl⟩
  refine ⟨R, fun o => ι (sw2 p q o), fun o => φ (sw2 p q o), hs.below, hs.rlt, hs.rsub, hs.rnew, hs.size, hs.defers, fun d => RA.ren hσ (.inl fun _ h => h) (hs.env d), fun o x hx => ?_, fun o x hx => ?_, fun o o' x x' g hx hx' h1 h2 => ?_, fun o ho => ?_⟩
  · obtain ⟨y, hy, rfl⟩ := hob o x hx
    exact RO.ren hσ (.inl fun _ h => h) (hs.objs _ y hy)
  · obtain ⟨y, hy, rfl⟩ := hob o x hx
    exact hs.mine _ y hy
  · obtain ⟨y, hy, rfl⟩ := hob o x hx
    obtain ⟨y', hy', rfl⟩ := hob o' x' hx'
    have := hs.apart _ _ y y' g hy hy' h1 h2
    rw [← sw2_sw2 p q o, this, sw2_sw2]
  · show ι (sw2 p q o) = _
    rw [sw2_pin hp hq ho]
    exact hs.pin o ho
section
variable {P : Program} {Q : Exit → St → Prop} {ks : List Fr} {e : Nat → AV} {o : Nat → Option Ob} {d : Nat} {fr : Bool} {x y z : Operand} {rest : List SR}
theorem R.mulU {m n : Int} (h1 : ev e x = pvA (.int .u64 m)) (h2 : ev e y = pvA (.int .u64 n)) (k : WL P rest ks Q ⟨upd e d (pvA (.int .u64 (IntKind.wrap .u64 (m * n)))), o⟩) : WL P (⟨some d, none, fr, .bin .mul x y⟩ :: rest) ks Q ⟨e, o⟩ := R.bin h1 h2 (by simp [binI, numV]) k
theorem R.addU {m n : Int} (h1 : ev e x = pvA (.int .u64 m)) (h2 : ev e y = pvA (.int .u64 n)) (k : WL P rest ks Q ⟨upd e d (pvA (.int .u64 (IntKind.wrap .u64 (m + n)))), o⟩) : WL P (⟨some d, none, fr, .bin .add x y⟩ :: rest) ks Q ⟨e, o⟩ := R.bin h1 h2 (by simp [binI, numV]) k
theorem and255 {m : Int} (hm : 0 ≤ m ∧ m ≤ 4611686018427387904) : (IntKind.u64.wrap ((BitVec.ofInt IntKind.u64.bits m &&& BitVec.ofInt IntKind.u64.bits 255).toNat : Int)) = m % 256 := by
  obtain ⟨j, rfl⟩ : ∃ j : Nat, m = j := ⟨m.toNat, by omega⟩
  have h1 : (BitVec.ofInt IntKind.u64.bits (j : Int) &&& BitVec.ofInt IntKind.u64.bits 255).toNat = j % 256 := by
    have h2 : (BitVec.ofInt 64 (j : Int)).toNat = j := by
      rw [BitVec.toNat_ofInt]
      omega
    have h3 : (BitVec.ofInt 64 255).toNat = 255 := by decide
    show (BitVec.ofInt 64 (j : Int) &&& BitVec.ofInt 64 255).toNat = j % 256
    rw [BitVec.toNat_and, h2, h3]
    exact Nat.and_two_pow_sub_one_eq_mod j 8
  rw [h1, wrapU ⟨by omega, by omega⟩]
  omega
theorem R.andU {m : Int} (h1 : ev e x = pvA (.int .u64 m)) (h2 : ev e y = pvA (.int .u64 255)) (hm : 0 ≤ m ∧ m ≤ 4611686018427387904) (k : WL P rest ks Q ⟨upd e d (pvA (.int .u64 (m % 256))), o⟩) : WL P (⟨some d, none, fr, .bin .and x y⟩ :: rest) ks Q ⟨e, o⟩ := R.bin h1 h2 (by simp only [binI, numV, if_true, and255 hm]) k
end
theorem wrapU_bd (n : Int) : 0 ≤ IntKind.wrap .u64 n ∧ IntKind.wrap .u64 n ≤ 18446744073709551615 := by
  simp [IntKind.wrap, IntKind.bits, IntKind.signed]
  omega
structure Src where
  code : List Int
  pos : Int
  seed : Int
abbrev kU8s : Ky := ⟨5, 1⟩
abbrev enSrc (s : Src) : List D := [.rd kU8s (s.code.map enB8), iD s.pos, .pv (.int .u64 s.seed)]
def okSrc (n : Int) (s : Src) : Prop := (0 ≤ s.pos ∧ s.pos ≤ n) ∧ ∀ c ∈ s.code, 0 ≤ c ∧ c ≤ 255
theorem okSrc.mono {n m : Int} {s : Src} (h : okSrc n s) (hn : n ≤ m) : okSrc m s := ⟨⟨h.1.1, by have := h.1.2; omega⟩, h.2⟩
abbrev srcV : V1 := .c (.ptr (pin 0) 0)
abbrev srcB (l : List Int) (p sd : Int) : List (Nat × Ob) := [(pin 0, .box 92 [.d (.rd kU8s (l.map enB8)), .d (iD p), .d (.pv (.int .u64 sd))])]
abbrev srcOb (s : Src) : List (Nat × Ob) := srcB s.code s.pos s.seed
def seedN (m b : Int) : Int := IntKind.wrap .u64 (IntKind.wrap .u64 (IntKind.wrap .u64 (m * 6364136223846793005) + b) + 1442695040888963407)
theorem nextA (l : List Int) (i : Nat) (sd c : Int) (hci : l[i]? = some c) (hcb : 0 ≤ c ∧ c ≤ 255) (hi : i ≤ 1000000000) : SpecM Try.prog 64 [srcV] (srcB l i sd) (oI c).av (srcB l ((i : Int) + 1) (seedN sd c)) := by
  have hil := (List.getElem?_eq_some_iff.1 hci).1
  refine SpecM.walk T.mixed Try.func64 S.ok64 (by simp [Try.f64]) fun hk => ?_
  unfold S.s64
  repeat' (first | refine R.ixK c hci rfl rfl rfl ?_ | refine R.mv rfl ?_ | refine R.reg ?_ | refine R.nil ?_ | refine R.seq ?_ | refine R.nseq ?_ | refine R.nblk ?_ | refine R.skip ?_ | refine R.blk ?_ | refine R.exit rfl ?_ | refine R.ldEp rfl rfl (by assumption) rfl rfl ?_ | refine R.ldaEp rfl rfl (by assumption) (Nat.le_of_ble_eq_true rfl) rfl rfl ?_ | refine R.ld rfl rfl rfl ?_ | refine R.lda rfl rfl (Nat.le_of_ble_eq_true rfl) rfl ?_ | refine R.fa rfl rfl ?_ | refine R.lenM rfl ?_ | refine R.lenO rfl rfl ?_ | refine R.len rfl rfl ?_ | refine R.lss rfl rfl ?_ | refine R.leq rfl rfl ?_ | refine R.add rfl rfl (by omega) ?_ | refine R.ixN rfl rfl rfl (by omega) (fun a ha => ?_) | refine R.ixM rfl rfl rfl (by omega) (fun a ha => ?_) | refine R.ixON rfl rfl rfl (by first | omega | (simp; omega)) (fun a' ha' => ?_) | refine R.ixO rfl rfl rfl (by first | omega | (simp; omega)) (fun a' ha' => ?_) | refine R.cv64 rfl (by omega) ?_ | refine R.nc rfl rfl ?_ | refine R.nc0 rfl rfl ?_ | refine R.stoB rfl rfl rfl rfl ⟨rfl, rfl, Nat.le_of_ble_eq_true rfl⟩ rfl ?_ | refine R.stoE _ rfl rfl rfl rfl rfl (by assumption) rfl ⟨rfl, rfl, Nat.le_of_ble_eq_true rfl⟩ ?_ | refine R.and rfl rfl ?_ | refine R.shr rfl rfl (by omega) ?_ | refine R.shrU1 rfl rfl ?_ | refine R.shrU rfl rfl (by omega) ?_ | refine R.cvU rfl (by omega) ?_ | refine R.condT rfl ?_ | refine R.condF rfl ?_ | refine R.mulU rfl rfl ?_ | refine R.addU rfl rfl ?_ | refine R.cond rfl (fun hc => ?_) (fun hc => ?_) | refine R.condN rfl (fun hc => ?_) (fun hc => ?_) | refine R.condB rfl (fun hc => ?_) (fun hc => ?_))
  all_goals first
    | (exfalso; omega)
    | exact R.ret ⟨.inr rfl, R.outR rfl (.cons (R.tmp rfl) .nil) rfl rfl rfl rfl⟩
    | skip
theorem nextB (l : List Int) (i : Nat) (sd : Int) (hil : ¬ i < l.length) (hi : i ≤ 1000000000) : SpecM Try.prog 64 [srcV] (srcB l i sd) (oI (seedN sd 0 / 2 ^ 40 % 256)).av (srcB l ((i : Int) + 1) (seedN sd 0)) := by
  have hb1 : 0 ≤ seedN sd 0 ∧ seedN sd 0 ≤ 18446744073709551615 := wrapU_bd _
  have hb2 : 0 ≤ seedN sd 0 / 2 ^ 40 ∧ seedN sd 0 / 2 ^ 40 ≤ 4611686018427387904 := by omega
  refine SpecM.walk T.mixed Try.func64 S.ok64 (by simp [Try.f64]) fun hk => ?_
  unfold S.s64
  repeat' (first | refine R.mv rfl ?_ | refine R.reg ?_ | refine R.nil ?_ | refine R.seq ?_ | refine R.nseq ?_ | refine R.nblk ?_ | refine R.skip ?_ | refine R.blk ?_ | refine R.exit rfl ?_ | refine R.ldEp rfl rfl (by assumption) rfl rfl ?_ | refine R.ldaEp rfl rfl (by assumption) (Nat.le_of_ble_eq_true rfl) rfl rfl ?_ | refine R.ld rfl rfl rfl ?_ | refine R.lda rfl rfl (Nat.le_of_ble_eq_true rfl) rfl ?_ | refine R.fa rfl rfl ?_ | refine R.lenM rfl ?_ | refine R.lenO rfl rfl ?_ | refine R.len rfl rfl ?_ | refine R.lss rfl rfl ?_ | refine R.leq rfl rfl ?_ | refine R.add rfl rfl (by omega) ?_ | refine R.ixN rfl rfl rfl (by omega) (fun a ha => ?_) | refine R.ixM rfl rfl rfl (by omega) (fun a ha => ?_) | refine R.ixON rfl rfl rfl (by first | omega | (simp; omega)) (fun a' ha' => ?_) | refine R.ixO rfl rfl rfl (by first | omega | (simp; omega)) (fun a' ha' => ?_) | refine R.cv64 rfl (by omega) ?_ | refine R.nc rfl rfl ?_ | refine R.nc0 rfl rfl ?_ | refine R.stoB rfl rfl rfl rfl ⟨rfl, rfl, Nat.le_of_ble_eq_true rfl⟩ rfl ?_ | refine R.stoE _ rfl rfl rfl rfl rfl (by assumption) rfl ⟨rfl, rfl, Nat.le_of_ble_eq_true rfl⟩ ?_ | refine R.and rfl rfl ?_ | refine R.shr rfl rfl (by omega) ?_ | refine R.shrU1 rfl rfl ?_ | refine R.shrU rfl rfl (by omega) ?_ | refine R.cvU rfl (by omega) ?_ | refine R.condT rfl ?_ | refine R.condF rfl ?_ | refine R.mulU rfl rfl ?_ | refine R.addU rfl rfl ?_ | refine R.andU (m := seedN sd 0 / 2 ^ 40) rfl rfl hb2 ?_ | refine R.shrU rfl rfl ⟨by omega, by omega⟩ ?_ | refine R.cond rfl (fun hc => ?_) (fun hc => ?_) | refine R.condN rfl (fun hc => ?_) (fun hc => ?_) | refine R.condB rfl (fun hc => ?_) (fun hc => ?_))
  all_goals first
    | (exfalso; omega)
    | exact R.ret ⟨.inr rfl, R.outR rfl (.cons (R.tmp rfl) .nil) rfl rfl rfl rfl⟩
    | skip
theorem sNext (s : Src) (n : Int) (h : okSrc n s) (hn : n ≤ 1000000000) : ∃ v s', (0 ≤ v ∧ v ≤ 255) ∧ okSrc (n + 1) s' ∧ SpecM Try.prog 64 [srcV] (srcOb s) (oI v).av (srcOb s') := by
  obtain ⟨l, pos, seed⟩ := s
  obtain ⟨⟨h1, h2⟩, h3⟩ := h
  dsimp only at h1 h2 h3
  obtain ⟨i, rfl⟩ : ∃ i : Nat, pos = i := ⟨pos.toNat, by omega⟩
  by_cases hil : i < l.length
  · obtain ⟨c, hc⟩ : ∃ c, l[i]? = some c := ⟨_, List.getElem?_eq_getElem hil⟩
    have hcb := h3 c (List.mem_of_getElem? hc)
    exact ⟨c, ⟨l, (i : Int) + 1, seedN seed c⟩, hcb, ⟨⟨by show 0 ≤ (i : Int) + 1; omega, by show (i : Int) + 1 ≤ n + 1; omega⟩, h3⟩, nextA l i seed c hc hcb (by omega)⟩
  · exact ⟨seedN seed 0 / 2 ^ 40 % 256, ⟨l, (i : Int) + 1, seedN seed 0⟩, ⟨Int.emod_nonneg _ (by omega), by have := Int.emod_lt_of_pos (seedN seed 0 / 2 ^ 40) (show (0 : Int) < 256 by omega); omega⟩, ⟨⟨by show 0 ≤ (i : Int) + 1; omega, by show (i : Int) + 1 ≤ n + 1; omega⟩, h3⟩, nextB l i seed hil (by omega)⟩
theorem sPick (s : Src) (n : Int) (h : okSrc n s) (hn : n ≤ 900000000) (m : Int) : ∃ v s', (0 ≤ v ∧ (v < m ∨ v = 0)) ∧ okSrc (n + 2) s' ∧ SpecM Try.prog 43 [srcV, .c (.d (iD m))] (srcOb s) (oI v).av (srcOb s') := by
  by_cases h1 : m ≤ 1
  · refine ⟨0, s, ⟨by omega, .inr rfl⟩, h.mono (by omega), ?_⟩
    refine SpecM.walk T.mixed Try.func43 S.ok43 (by simp [Try.f43]) fun hk => ?_
    unfold S.s43
    repeat' (first | refine R.mv rfl ?_ | refine R.reg ?_ | refine R.nil ?_ | refine R.seq ?_ | refine R.nseq ?_ | refine R.nblk ?_ | refine R.skip ?_ | refine R.blk ?_ | refine R.exit rfl ?_ | refine R.leq rfl rfl ?_ | refine R.gtr rfl rfl ?_ | refine R.add rfl rfl (by omega) ?_ | refine R.rem rfl rfl (by omega) ?_ | refine R.condT rfl ?_ | refine R.condF rfl ?_ | refine R.cond rfl (fun hc => ?_) (fun hc => ?_) | refine R.condN rfl (fun hc => ?_) (fun hc => ?_) | refine R.condB rfl (fun hc => ?_) (fun hc => ?_))
    all_goals first
      | (exfalso; omega)
      | exact R.ret ⟨.inr rfl, R.outR rfl (.cons (R.tmp rfl) .nil) rfl rfl rfl rfl⟩
      | skip
  obtain ⟨v1, s1, hv1, hs1, c1⟩ := sNext s n h (by omega)
  obtain ⟨v2, s2, hv2, hs2, c2⟩ := sNext s1 (n + 1) hs1 (by omega)
  by_cases h2 : 200 < m
  · have hb := Int.emod_lt_of_pos (v1 * 256 + v2) (show (0 : Int) < m by omega)
    refine ⟨(v1 * 256 + v2) % m, s2, ⟨Int.emod_nonneg _ (by omega), .inl hb⟩, hs2.mono (by omega), ?_⟩
    refine SpecM.walk T.mixed Try.func43 S.ok43 (by simp [Try.f43]) fun hk => ?_
    unfold S.s43
    repeat' (first | refine R.mv rfl ?_ | refine R.reg ?_ | refine R.nil ?_ | refine R.seq ?_ | refine R.nseq ?_ | refine R.nblk ?_ | refine R.skip ?_ | refine R.blk ?_ | refine R.exit rfl ?_ | refine R.leq rfl rfl ?_ | refine R.gtr rfl rfl ?_ | refine R.add rfl rfl (by omega) ?_ | refine R.rem rfl rfl (by omega) ?_ | refine R.condT rfl ?_ | refine R.condF rfl ?_ | refine R.callX (bor := false) [(pin 0, pin 0)] rfl c1 rfl rfl rfl rfl rfl ?_ | refine R.callX (bor := false) [(pin 0, pin 0)] rfl c2 rfl rfl rfl rfl rfl ?_ | refine R.mul rfl rfl ⟨by omega, by omega⟩ ?_ | refine R.rem rfl rfl ⟨by omega, by omega⟩ ?_ | refine R.cond rfl (fun hc => ?_) (fun hc => ?_) | refine R.condN rfl (fun hc => ?_) (fun hc => ?_) | refine R.condB rfl (fun hc => ?_) (fun hc => ?_))
    all_goals first
      | (exfalso; omega)
      | exact R.ret ⟨.inr rfl, R.outR rfl (.cons (R.tmp rfl) .nil) rfl rfl rfl rfl⟩
      | skip
  · have hb := Int.emod_lt_of_pos v1 (show (0 : Int) < m by omega)
    refine ⟨v1 % m, s1, ⟨Int.emod_nonneg _ (by omega), .inl hb⟩, hs1.mono (by omega), ?_⟩
    refine SpecM.walk T.mixed Try.func43 S.ok43 (by simp [Try.f43]) fun hk => ?_
    unfold S.s43
    repeat' (first | refine R.mv rfl ?_ | refine R.reg ?_ | refine R.nil ?_ | refine R.seq ?_ | refine R.nseq ?_ | refine R.nblk ?_ | refine R.skip ?_ | refine R.blk ?_ | refine R.exit rfl ?_ | refine R.leq rfl rfl ?_ | refine R.gtr rfl rfl ?_ | refine R.add rfl rfl (by omega) ?_ | refine R.rem rfl rfl (by omega) ?_ | refine R.condT rfl ?_ | refine R.condF rfl ?_ | refine R.callX (bor := false) [(pin 0, pin 0)] rfl c1 rfl rfl rfl rfl rfl ?_ | refine R.rem rfl rfl ⟨by omega, by omega⟩ ?_ | refine R.cond rfl (fun hc => ?_) (fun hc => ?_) | refine R.condN rfl (fun hc => ?_) (fun hc => ?_) | refine R.condB rfl (fun hc => ?_) (fun hc => ?_))
    all_goals first
      | (exfalso; omega)
      | exact R.ret ⟨.inr rfl, R.outR rfl (.cons (R.tmp rfl) .nil) rfl rfl rfl rfl⟩
      | skip
theorem sOne (s : Src) (n : Int) (h : okSrc n s) (hn : n ≤ 900000000) (m : Int) : ∃ b s', okSrc (n + 2) s' ∧ SpecM Try.prog 41 [srcV, .c (.d (iD m))] (srcOb s) (oB b).av (srcOb s') := by
  obtain ⟨v1, s1, hv1, hs1, c1⟩ := sPick s n h hn m
  refine ⟨decide (v1 = 0), s1, hs1, ?_⟩
  refine SpecM.walk T.mixed Try.func41 S.ok41 (by simp [Try.f41]) fun hk => ?_
  unfold S.s41
  repeat' (first | refine R.mv rfl ?_ | refine R.reg ?_ | refine R.nil ?_ | refine R.seq ?_ | refine R.nseq ?_ | refine R.nblk ?_ | refine R.skip ?_ | refine R.blk ?_ | refine R.exit rfl ?_ | refine R.eql rfl rfl ?_ | refine R.condT rfl ?_ | refine R.condF rfl ?_ | refine R.callX (bor := false) [(pin 0, pin 0)] rfl c1 rfl rfl rfl rfl rfl ?_ | refine R.cond rfl (fun hc => ?_) (fun hc => ?_) | refine R.condN rfl (fun hc => ?_) (fun hc => ?_) | refine R.condB rfl (fun hc => ?_) (fun hc => ?_))
  all_goals first | exact R.ret ⟨.inr rfl, R.outR rfl (.cons (R.tmp rfl) .nil) rfl rfl rfl rfl⟩ | skip
theorem sAmong (s : Src) (n : Int) (h : okSrc n s) (hn : n ≤ 900000000) (l : List Int) (hl : 0 < l.length) : ∃ v s', v ∈ l ∧ okSrc (n + 2) s' ∧ SpecM Try.prog 42 [srcV, .c (.d (.rd kI (ints l)))] (srcOb s) (oI v).av (srcOb s') := by
  obtain ⟨v1, s1, hv1, hs1, c1⟩ := sPick s n h hn l.length
  obtain ⟨j, rfl⟩ : ∃ j : Nat, v1 = j := ⟨v1.toNat, by omega⟩
  obtain ⟨v, hv⟩ : ∃ v, l[j]? = some v := ⟨_, List.getElem?_eq_getElem (by omega)⟩
  refine ⟨v, s1, List.mem_of_getElem? hv, hs1, ?_⟩
  refine SpecM.walk T.mixed Try.func42 S.ok42 (by simp [Try.f42]) fun hk => ?_
  have hlen := (K.c hk 1 rfl).lenM
  unfold S.s42
  repeat' (first | refine R.ixK v hv rfl rfl rfl ?_ | refine R.mv rfl ?_ | refine R.reg ?_ | refine R.nil ?_ | refine R.seq ?_ | refine R.nseq ?_ | refine R.nblk ?_ | refine R.skip ?_ | refine R.blk ?_ | refine R.exit rfl ?_ | refine R.ldEp rfl rfl (by assumption) rfl rfl ?_ | refine R.ldaEp rfl rfl (by assumption) (Nat.le_of_ble_eq_true rfl) rfl rfl ?_ | refine R.ld rfl rfl rfl ?_ | refine R.lda rfl rfl (Nat.le_of_ble_eq_true rfl) rfl ?_ | refine R.lenM rfl ?_ | refine R.lenO rfl rfl ?_ | refine R.len rfl rfl ?_ | refine R.ixN rfl rfl rfl (by omega) (fun a ha => ?_) | refine R.ixM rfl rfl rfl (by omega) (fun a ha => ?_) | refine R.ixON rfl rfl rfl (by first | omega | (simp; omega)) (fun a' ha' => ?_) | refine R.ixO rfl rfl rfl (by first | omega | (simp; omega)) (fun a' ha' => ?_) | refine R.condT rfl ?_ | refine R.condF rfl ?_ | refine R.callX (bor := false) [(pin 0, pin 0)] rfl c1 rfl rfl rfl rfl rfl ?_ | refine R.cond rfl (fun hc => ?_) (fun hc => ?_) | refine R.condN rfl (fun hc => ?_) (fun hc => ?_) | refine R.condB rfl (fun hc => ?_) (fun hc => ?_))
  all_goals first
    | (exfalso; omega)
    | exact R.ret ⟨.inr rfl, R.outR rfl (.cons (R.tmp rfl) .nil) rfl rfl rfl rfl⟩
    | skip
theorem sFrom (l : List Int) : SpecM Try.prog 38 [.c (.d (.rd kU8s (l.map enB8)))] [] (.v (.c (.ptr 0 0))) [(0, .box 92 [.d (.rd kU8s (l.map enB8)), .d (iD 0), .d (.pv (.int .u64 0))])] := by
  refine SpecM.walk T.mixed Try.func38 S.ok38 (by simp [Try.f38]) fun hk => ?_
  unfold S.s38
  repeat' (first | refine R.mv rfl ?_ | refine R.reg ?_ | refine R.nil ?_ | refine R.seq ?_ | refine R.nseq ?_ | refine R.nblk ?_ | refine R.skip ?_ | refine R.blk ?_ | refine R.exit rfl ?_ | refine R.box rfl rfl rfl ?_ | refine R.bld rfl rfl ?_ | refine R.condT rfl ?_ | refine R.condF rfl ?_ | refine R.cond rfl (fun hc => ?_) (fun hc => ?_) | refine R.condN rfl (fun hc => ?_) (fun hc => ?_) | refine R.condB rfl (fun hc => ?_) (fun hc => ?_))
  exact R.ret ⟨.inr rfl, R.outR rfl (.cons (R.tmp rfl) .nil) rfl rfl rfl rfl⟩
def okOne (x : TPlaced) : Prop := okP x.fAt ∧ (0 ≤ x.fTile ∧ x.fTile ≤ 159)
/-- Rising from tile to tile. -/
def risP : List TPlaced → Prop
  | [] => True
  | x :: l => (∀ y ∈ l, ltP x.fAt y.fAt) ∧ risP l
def goodP (l : List TPlaced) : Prop := (∀ x ∈ l, okOne x) ∧ risP l
theorem risP_iff : ∀ {l : List TPlaced}, risP l ↔ ∀ (i j : Nat) (s t : TPlaced), i < j → l[i]? = some s → l[j]? = some t → ltP s.fAt t.fAt
  | [] => ⟨fun _ i j s t _ h => by simp at h, fun _ => trivial⟩
  | x :: l => by
    constructor
    · rintro ⟨h1, h2⟩ i j s t hij hs ht
      obtain ⟨j', rfl⟩ : ∃ j', j = j' + 1 := ⟨j - 1, by omega⟩
      rw [List.getElem?_cons_succ] at ht
      cases i with
      | zero =>
        rw [List.getElem?_cons_zero] at hs
        cases hs
        exact h1 t (List.mem_of_getElem? ht)
      | succ i =>
        rw [List.getElem?_cons_succ] at hs
        exact risP_iff.1 h2 i j' s t (by omega) hs ht
    · intro h
      refine ⟨fun y hy => ?_, risP_iff.2 fun i j s t hij hs ht => h (i + 1) (j + 1) s t (by omega) (by simpa using hs) (by simpa using ht)⟩
      obtain ⟨j, hj, rfl⟩ := List.getElem_of_mem hy
      exact h 0 (j + 1) x _ (by omega) rfl (by rw [List.getElem?_cons_succ]; exact List.getElem?_eq_getElem hj)
theorem goodP_iff {l : List TPlaced} : atTo l l.length ↔ goodP l := by
  constructor
  · intro h
    refine ⟨fun x hx => ?_, risP_iff.2 fun i j s t hij hs ht => at_lt h hij hs ht⟩
    obtain ⟨i, hi, rfl⟩ := List.getElem_of_mem hx
    exact (h i _ hi (List.getElem?_eq_getElem hi)).1
  · rintro ⟨h1, h2⟩ i t hi ht
    exact ⟨h1 t (List.mem_of_getElem? ht), fun s h0 hs => risP_iff.1 h2 (i - 1) i s t (by omega) hs ht⟩
theorem mem_putP {q : TPlaced} : ∀ {l : List TPlaced} {x : TPlaced}, x ∈ putP l q → x = q ∨ x ∈ l
  | [], x, h => .inl (List.mem_singleton.1 h)
  | y :: l, x, h => by
    rw [putP] at h
    split at h
    · rcases List.mem_cons.1 h with h | h
      · exact .inl h
      · exact .inr h
    · rcases List.mem_cons.1 h with h | h
      · exact .inr (by simp [h])
      · exact (mem_putP h).imp id fun h => by simp [h]
theorem putP_good {q : TPlaced} (hq : okOne q) : ∀ {l : List TPlaced}, goodP l → (∀ x ∈ l, x.fAt ≠ q.fAt) → goodP (putP l q)
  | [], _, _ => ⟨fun x hx => by rw [List.mem_singleton.1 hx]; exact hq, ⟨fun y hy => (by cases hy), trivial⟩⟩
  | y :: l, h, hn => by
    refine ⟨fun x hx => (mem_putP hx).elim (fun e => e ▸ hq) fun hx => h.1 x hx, ?_⟩
    rw [putP]
    split
    · rename_i hlt
      exact ⟨fun z hz => by
        rcases List.mem_cons.1 hz with rfl | hz
        · exact hlt
        · exact ltP_trans hlt (h.2.1 z hz), h.2⟩
    · rename_i hlt
      have ih := putP_good hq (l := l) ⟨fun x hx => h.1 x (by simp [hx]), h.2.2⟩ (fun x hx => hn x (by simp [hx]))
      exact ⟨fun z hz => (mem_putP hz).elim (fun e => e ▸ ltP_tri hlt (fun e => hn y (by simp) e.symm)) fun hz => h.2.1 z hz, ih.2⟩
theorem putP_filter {q : TPlaced} : ∀ {l : List TPlaced}, (∀ x ∈ l, x.fAt ≠ q.fAt) → (putP l q).filter (fun a => !decide (a.fAt ∈ [q.fAt])) = l
  | [], _ => by simp [putP]
  | y :: l, hn => by
    have hy : y.fAt ≠ q.fAt := hn y (by simp)
    have hl : (y :: l).filter (fun a => !decide (a.fAt ∈ [q.fAt])) = y :: l := by
      rw [List.filter_eq_self]
      intro x hx
      have := hn x hx
      simpa using this
    rw [putP]
    split
    · rw [List.filter_cons]
      simp only [List.mem_singleton, decide_true, Bool.not_true]
      simpa using hl
    · rw [List.filter_cons, putP_filter (fun x hx => hn x (by simp [hx]))]
      simp [hy]
theorem tile_in : ∀ {l : List TPlaced}, risP l → ∀ x ∈ l, tileAt l x.fAt = x.fTile
  | [], _, x, hx => by cases hx
  | y :: l, h, x, hx => by
    unfold tileAt atF
    rw [List.find?_cons]
    by_cases hy : y.fAt = x.fAt
    · rw [show isAt x.fAt y = true from decide_eq_true hy]
      rcases List.mem_cons.1 hx with rfl | hx
      · rfl
      · exact absurd (hy ▸ h.1 x hx) (ltP_irrefl _)
    · rw [show isAt x.fAt y = false from decide_eq_false hy]
      rcases List.mem_cons.1 hx with rfl | hx
      · exact absurd rfl hy
      · exact tile_in h.2 x hx
theorem tile_none {p : TPoint} : ∀ {l : List TPlaced}, (∀ x ∈ l, x.fAt ≠ p) → tileAt l p = -1
  | [], _ => rfl
  | y :: l, h => by
    unfold tileAt atF
    rw [List.find?_cons, show isAt p y = false from decide_eq_false (h y (by simp))]
    exact tile_none fun x hx => h x (by simp [hx])
theorem tile_neg {p : TPoint} : ∀ {l : List TPlaced}, (∀ x ∈ l, okOne x) → ¬ 0 ≤ tileAt l p → ∀ x ∈ l, x.fAt ≠ p
  | [], _, _, x, hx => by cases hx
  | y :: l, h, hn, x, hx => by
    unfold tileAt atF at hn
    rw [List.find?_cons] at hn
    by_cases hy : y.fAt = p
    · rw [show isAt p y = true from decide_eq_true hy] at hn
      exact absurd (h y (by simp)).2.1 hn
    · rw [show isAt p y = false from decide_eq_false hy] at hn
      rcases List.mem_cons.1 hx with rfl | hx
      · exact hy
      · exact tile_neg (l := l) (fun x hx => h x (by simp [hx])) hn x hx
theorem putP_mem {q : TPlaced} : ∀ {l : List TPlaced}, q ∈ putP l q ∧ ∀ x ∈ l, x ∈ putP l q
  | [] => ⟨by simp [putP], fun x hx => by cases hx⟩
  | y :: l => by
    rw [putP]
    split
    · exact ⟨by simp, fun x hx => by simp [List.mem_cons.1 hx]⟩
    · have := putP_mem (q := q) (l := l)
      exact ⟨by simp [this.1], fun x hx => by
        rcases List.mem_cons.1 hx with rfl | hx
        · simp
        · simp [this.2 x hx]⟩
/-- What putting a tile gives, where it can be put. -/
theorem put_ok {A : TAssembly} {p : TPoint} {t : Int} (h : (fPut A p t).2 = 0) : ((okA (fPut A p t).1 ∧ fTileAt (fPut A p t).1 p = (t, true)) ∧ fTake ⟨(fPut A p t).1⟩ p = (A.fTiles, 0)) ∧ okW A.fTiles (fPut A p t).1 := by
  unfold fPut at h ⊢
  split at h
  case isFalse => cases h
  rename_i hA
  rw [if_pos hA]
  split at h
  case isFalse => cases h
  rename_i hp
  rw [if_pos hp]
  split at h
  case isTrue => cases h
  rename_i hn
  rw [if_neg hn]
  split at h
  case isTrue => cases h
  rename_i hl
  rw [if_neg hl]
  have hg := goodP_iff.1 hA.2
  have hne := tile_neg hg.1 hn
  have hgM := putP_good (q := ⟨p, t⟩) ⟨hp.1, hp.2⟩ hg hne
  have hM : okA (putP A.fTiles ⟨p, t⟩) := ⟨by rw [putP_len]; have := hA.1; omega, goodP_iff.2 hgM⟩
  have ht : tileAt (putP A.fTiles ⟨p, t⟩) p = t := tile_in hgM.2 ⟨p, t⟩ putP_mem.1
  refine ⟨⟨⟨hM, ?_⟩, ?_⟩, hA, hM, fun x hx => tile_in hgM.2 x (putP_mem.2 x hx)⟩
  · show fTileAt (putP A.fTiles ⟨p, t⟩) p = _
    unfold fTileAt
    rw [ht, if_pos ⟨hM, hp.2.1⟩]
  · unfold fTake
    dsimp only
    rw [if_pos hM, ht, if_neg (by omega)]
    have hf := putP_filter (q := ⟨p, t⟩) hne
    dsimp only at hf
    rw [hf]
theorem goodP_drop {l : List TPlaced} (h : goodP l) (i : Nat) : goodP (l.drop i) := by
  refine ⟨fun x hx => h.1 x (List.mem_of_mem_drop hx), risP_iff.2 fun a b s t hab hs ht => ?_⟩
  rw [List.getElem?_drop] at hs ht
  exact risP_iff.1 h.2 (i + a) (i + b) s t (by omega) hs ht
/-- The tiles of an assembly, put one by one from behind. -/
theorem put_back {l : List TPlaced} (h : okA l) {i : Nat} {q : TPlaced} (hq : l[i]? = some q) : fPut ⟨l.drop (i + 1)⟩ q.fAt q.fTile = (l.drop i, 0) := by
  have hg := goodP_iff.1 h.2
  have hi := (List.getElem?_eq_some_iff.1 hq).1
  have hok := hg.1 q (List.mem_of_getElem? hq)
  have hd : l.drop i = q :: l.drop (i + 1) := by
    rw [List.drop_eq_getElem_cons hi, (List.getElem?_eq_some_iff.1 hq).2]
  have hr := (goodP_drop hg i).2
  rw [hd] at hr
  have hlen : (l.drop (i + 1)).length ≤ 499 := by
    rw [List.length_drop]
    have := h.1
    omega
  have hn : ∀ x ∈ l.drop (i + 1), x.fAt ≠ q.fAt := fun x hx e => ltP_irrefl q.fAt (by have := hr.1 x hx; rwa [e] at this)
  unfold fPut
  dsimp only
  rw [if_pos ⟨by omega, goodP_iff.2 (goodP_drop hg (i + 1))⟩, if_pos ⟨hok.1, hok.2.1, hok.2.2⟩, tile_none hn, if_neg (by omega), if_neg (by omega)]
  have hp : putP (l.drop (i + 1)) ⟨q.fAt, q.fTile⟩ = q :: l.drop (i + 1) := by
    cases hl : l.drop (i + 1) with
    | nil => rfl
    | cons y m =>
      rw [putP, if_pos]
      rw [hl] at hr
      exact hr.1 y (by simp)
  rw [hp, hd]
section
variable {P : Program} {Q : Exit → St → Prop} {ks : List Fr} {e : Nat → AV} {o : Nat → Option Ob} {d : Nat} {fr : Bool} {x y z : Operand} {rest : List SR}
theorem R.addW {m n : Int} (h1 : ev e x = pvA (.int .i64 m)) (h2 : ev e y = pvA (.int .i64 n)) (k : WL P rest ks Q ⟨upd e d (pvA (.int .i64 (IntKind.wrap .i64 (m + n)))), o⟩) : WL P (⟨some d, none, fr, .bin .add x y⟩ :: rest) ks Q ⟨e, o⟩ := R.bin h1 h2 (by simp [binI, numV]) k
theorem R.subW {m n : Int} (h1 : ev e x = pvA (.int .i64 m)) (h2 : ev e y = pvA (.int .i64 n)) (k : WL P rest ks Q ⟨upd e d (pvA (.int .i64 (IntKind.wrap .i64 (m - n)))), o⟩) : WL P (⟨some d, none, fr, .bin .sub x y⟩ :: rest) ks Q ⟨e, o⟩ := R.bin h1 h2 (by simp [binI, numV]) k
end
abbrev oPt (q : TPoint) : RT := .v (.agg [.fz (iD q.fX), .fz (iD q.fY)])
abbrev outA (l : List TPlaced) (s : Src) : List (Nat × Ob) := (0, .arr kPlaced (l.map enPlaced) []) :: srcOb s
theorem wrap_in {n : Int} (h : -1000 ≤ n ∧ n ≤ 1000) : IntKind.wrap .i64 n = n := by
  simp [IntKind.wrap, IntKind.bits, IntKind.signed]
  omega
def inP (K : Int) (q : TPoint) : Prop := (-K ≤ q.fX ∧ q.fX ≤ K) ∧ (-K ≤ q.fY ∧ q.fY ≤ K)
theorem sStep (p : TPoint) (d : Int) : ∃ q : TPoint, (∀ K : Int, K ≤ 500 → inP K p → inP (K + 1) q) ∧ Spec Try.prog 63 [.agg (enPoint p), vI d] (oPt q) := by
  obtain ⟨x, y⟩ := p
  by_cases h0 : d = 0
  · subst h0
    refine ⟨⟨x, IntKind.wrap .i64 (y + 1)⟩, fun K hK h => ?_, ?_⟩
    · obtain ⟨⟨a1, a2⟩, a3, a4⟩ := h
      dsimp only at a1 a2 a3 a4
      unfold inP
      dsimp only
      rw [wrap_in ⟨by omega, by omega⟩]
      omega
    · refine Spec.walk T.mixed Try.func63 S.ok63 (by simp [Try.f63]) fun hk => ?_
      unfold S.s63
      repeat' (first | refine R.addW rfl rfl ?_ | refine R.subW rfl rfl ?_ | refine R.mv rfl ?_ | refine R.reg ?_ | refine R.nil ?_ | refine R.seq ?_ | refine R.nseq ?_ | refine R.nblk ?_ | refine R.skip ?_ | refine R.blk ?_ | refine R.exit rfl ?_ | refine R.ldEp rfl rfl (by assumption) rfl rfl ?_ | refine R.ldaEp rfl rfl (by assumption) (Nat.le_of_ble_eq_true rfl) rfl rfl ?_ | refine R.ld rfl rfl rfl ?_ | refine R.lda rfl rfl (Nat.le_of_ble_eq_true rfl) rfl ?_ | refine R.fa rfl rfl ?_ | refine R.eql rfl rfl ?_ | refine R.add rfl rfl (by omega) ?_ | refine R.sub rfl rfl (by omega) ?_ | refine R.al rfl ?_ | refine R.box rfl rfl rfl ?_ | refine R.stoB rfl rfl rfl rfl ⟨rfl, rfl, Nat.le_of_ble_eq_true rfl⟩ rfl ?_ | refine R.stoE _ rfl rfl rfl rfl rfl (by assumption) rfl ⟨rfl, rfl, Nat.le_of_ble_eq_true rfl⟩ ?_ | refine R.condT rfl ?_ | refine R.condF rfl ?_ | refine R.cond rfl (fun hc => ?_) (fun hc => ?_) | refine R.condN rfl (fun hc => ?_) (fun hc => ?_) | refine R.condB rfl (fun hc => ?_) (fun hc => ?_))
      all_goals first | (exfalso; omega) | exact R.ret ⟨.inr rfl, R.outR rfl (.cons (R.cell rfl rfl T.ty34 (Nat.le_of_ble_eq_true rfl) rfl) .nil) rfl rfl rfl rfl⟩ | skip
  by_cases h1 : d = 1
  · subst h1
    refine ⟨⟨IntKind.wrap .i64 (x + 1), y⟩, fun K hK h => ?_, ?_⟩
    · obtain ⟨⟨a1, a2⟩, a3, a4⟩ := h
      dsimp only at a1 a2 a3 a4
      unfold inP
      dsimp only
      rw [wrap_in ⟨by omega, by omega⟩]
      omega
    · refine Spec.walk T.mixed Try.func63 S.ok63 (by simp [Try.f63]) fun hk => ?_
      unfold S.s63
      repeat' (first | refine R.addW rfl rfl ?_ | refine R.subW rfl rfl ?_ | refine R.mv rfl ?_ | refine R.reg ?_ | refine R.nil ?_ | refine R.seq ?_ | refine R.nseq ?_ | refine R.nblk ?_ | refine R.skip ?_ | refine R.blk ?_ | refine R.exit rfl ?_ | refine R.ldEp rfl rfl (by assumption) rfl rfl ?_ | refine R.ldaEp rfl rfl (by assumption) (Nat.le_of_ble_eq_true rfl) rfl rfl ?_ | refine R.ld rfl rfl rfl ?_ | refine R.lda rfl rfl (Nat.le_of_ble_eq_true rfl) rfl ?_ | refine R.fa rfl rfl ?_ | refine R.eql rfl rfl ?_ | refine R.add rfl rfl (by omega) ?_ | refine R.sub rfl rfl (by omega) ?_ | refine R.al rfl ?_ | refine R.box rfl rfl rfl ?_ | refine R.stoB rfl rfl rfl rfl ⟨rfl, rfl, Nat.le_of_ble_eq_true rfl⟩ rfl ?_ | refine R.stoE _ rfl rfl rfl rfl rfl (by assumption) rfl ⟨rfl, rfl, Nat.le_of_ble_eq_true rfl⟩ ?_ | refine R.condT rfl ?_ | refine R.condF rfl ?_ | refine R.cond rfl (fun hc => ?_) (fun hc => ?_) | refine R.condN rfl (fun hc => ?_) (fun hc => ?_) | refine R.condB rfl (fun hc => ?_) (fun hc => ?_))
      all_goals first | (exfalso; omega) | exact R.ret ⟨.inr rfl, R.outR rfl (.cons (R.cell rfl rfl T.ty34 (Nat.le_of_ble_eq_true rfl) rfl) .nil) rfl rfl rfl rfl⟩ | skip
  by_cases h2 : d = 2
  · subst h2
    refine ⟨⟨x, IntKind.wrap .i64 (y - 1)⟩, fun K hK h => ?_, ?_⟩
    · obtain ⟨⟨a1, a2⟩, a3, a4⟩ := h
      dsimp only at a1 a2 a3 a4
      unfold inP
      dsimp only
      rw [wrap_in ⟨by omega, by omega⟩]
      omega
    · refine Spec.walk T.mixed Try.func63 S.ok63 (by simp [Try.f63]) fun hk => ?_
      unfold S.s63
      repeat' (first | refine R.addW rfl rfl ?_ | refine R.subW rfl rfl ?_ | refine R.mv rfl ?_ | refine R.reg ?_ | refine R.nil ?_ | refine R.seq ?_ | refine R.nseq ?_ | refine R.nblk ?_ | refine R.skip ?_ | refine R.blk ?_ | refine R.exit rfl ?_ | refine R.ldEp rfl rfl (by assumption) rfl rfl ?_ | refine R.ldaEp rfl rfl (by assumption) (Nat.le_of_ble_eq_true rfl) rfl rfl ?_ | refine R.ld rfl rfl rfl ?_ | refine R.lda rfl rfl (Nat.le_of_ble_eq_true rfl) rfl ?_ | refine R.fa rfl rfl ?_ | refine R.eql rfl rfl ?_ | refine R.add rfl rfl (by omega) ?_ | refine R.sub rfl rfl (by omega) ?_ | refine R.al rfl ?_ | refine R.box rfl rfl rfl ?_ | refine R.stoB rfl rfl rfl rfl ⟨rfl, rfl, Nat.le_of_ble_eq_true rfl⟩ rfl ?_ | refine R.stoE _ rfl rfl rfl rfl rfl (by assumption) rfl ⟨rfl, rfl, Nat.le_of_ble_eq_true rfl⟩ ?_ | refine R.condT rfl ?_ | refine R.condF rfl ?_ | refine R.cond rfl (fun hc => ?_) (fun hc => ?_) | refine R.condN rfl (fun hc => ?_) (fun hc => ?_) | refine R.condB rfl (fun hc => ?_) (fun hc => ?_))
      all_goals first | (exfalso; omega) | exact R.ret ⟨.inr rfl, R.outR rfl (.cons (R.cell rfl rfl T.ty34 (Nat.le_of_ble_eq_true rfl) rfl) .nil) rfl rfl rfl rfl⟩ | skip
  by_cases h3 : d = 3
  · subst h3
    refine ⟨⟨IntKind.wrap .i64 (x - 1), y⟩, fun K hK h => ?_, ?_⟩
    · obtain ⟨⟨a1, a2⟩, a3, a4⟩ := h
      dsimp only at a1 a2 a3 a4
      unfold inP
      dsimp only
      rw [wrap_in ⟨by omega, by omega⟩]
      omega
    · refine Spec.walk T.mixed Try.func63 S.ok63 (by simp [Try.f63]) fun hk => ?_
      unfold S.s63
      repeat' (first | refine R.addW rfl rfl ?_ | refine R.subW rfl rfl ?_ | refine R.mv rfl ?_ | refine R.reg ?_ | refine R.nil ?_ | refine R.seq ?_ | refine R.nseq ?_ | refine R.nblk ?_ | refine R.skip ?_ | refine R.blk ?_ | refine R.exit rfl ?_ | refine R.ldEp rfl rfl (by assumption) rfl rfl ?_ | refine R.ldaEp rfl rfl (by assumption) (Nat.le_of_ble_eq_true rfl) rfl rfl ?_ | refine R.ld rfl rfl rfl ?_ | refine R.lda rfl rfl (Nat.le_of_ble_eq_true rfl) rfl ?_ | refine R.fa rfl rfl ?_ | refine R.eql rfl rfl ?_ | refine R.add rfl rfl (by omega) ?_ | refine R.sub rfl rfl (by omega) ?_ | refine R.al rfl ?_ | refine R.box rfl rfl rfl ?_ | refine R.stoB rfl rfl rfl rfl ⟨rfl, rfl, Nat.le_of_ble_eq_true rfl⟩ rfl ?_ | refine R.stoE _ rfl rfl rfl rfl rfl (by assumption) rfl ⟨rfl, rfl, Nat.le_of_ble_eq_true rfl⟩ ?_ | refine R.condT rfl ?_ | refine R.condF rfl ?_ | refine R.cond rfl (fun hc => ?_) (fun hc => ?_) | refine R.condN rfl (fun hc => ?_) (fun hc => ?_) | refine R.condB rfl (fun hc => ?_) (fun hc => ?_))
      all_goals first | (exfalso; omega) | exact R.ret ⟨.inr rfl, R.outR rfl (.cons (R.cell rfl rfl T.ty34 (Nat.le_of_ble_eq_true rfl) rfl) .nil) rfl rfl rfl rfl⟩ | skip
  refine ⟨⟨x, y⟩, fun K hK h => ?_, ?_⟩
  · unfold inP at h ⊢
    omega
  · refine Spec.walk T.mixed Try.func63 S.ok63 (by simp [Try.f63]) fun hk => ?_
    unfold S.s63
    repeat' (first | refine R.addW rfl rfl ?_ | refine R.subW rfl rfl ?_ | refine R.mv rfl ?_ | refine R.reg ?_ | refine R.nil ?_ | refine R.seq ?_ | refine R.nseq ?_ | refine R.nblk ?_ | refine R.skip ?_ | refine R.blk ?_ | refine R.exit rfl ?_ | refine R.ldEp rfl rfl (by assumption) rfl rfl ?_ | refine R.ldaEp rfl rfl (by assumption) (Nat.le_of_ble_eq_true rfl) rfl rfl ?_ | refine R.ld rfl rfl rfl ?_ | refine R.lda rfl rfl (Nat.le_of_ble_eq_true rfl) rfl ?_ | refine R.fa rfl rfl ?_ | refine R.eql rfl rfl ?_ | refine R.add rfl rfl (by omega) ?_ | refine R.sub rfl rfl (by omega) ?_ | refine R.al rfl ?_ | refine R.box rfl rfl rfl ?_ | refine R.stoB rfl rfl rfl rfl ⟨rfl, rfl, Nat.le_of_ble_eq_true rfl⟩ rfl ?_ | refine R.stoE _ rfl rfl rfl rfl rfl (by assumption) rfl ⟨rfl, rfl, Nat.le_of_ble_eq_true rfl⟩ ?_ | refine R.condT rfl ?_ | refine R.condF rfl ?_ | refine R.cond rfl (fun hc => ?_) (fun hc => ?_) | refine R.condN rfl (fun hc => ?_) (fun hc => ?_) | refine R.condB rfl (fun hc => ?_) (fun hc => ?_))
    all_goals first | (exfalso; omega) | exact R.ret ⟨.inr rfl, R.outR rfl (.cons (R.cell rfl rfl T.ty34 (Nat.le_of_ble_eq_true rfl) rfl) .nil) rfl rfl rfl rfl⟩ | skip
theorem sDrawPoint (s : Src) (n : Int) (h : okSrc n s) (hn : n ≤ 700000000) : ∃ (q : TPoint) (s' : Src), okSrc (n + 10) s' ∧ SpecM Try.prog 62 [srcV] (srcOb s) (oPt q).av (srcOb s') := by
  obtain ⟨b, s1, hs1, c1⟩ := sOne s n h (by omega) 24
  cases b
  case true =>
    obtain ⟨u, s2, hu, hs2, c2⟩ := sAmong s1 (n + 2) hs1 (by omega) [-60, -61, 60, 61, -9223372036854775808, 9223372036854775807] (by decide)
    obtain ⟨v, s3, hv, hs3, c3⟩ := sPick s2 (n + 4) (hs2.mono (by omega)) (by omega) 9
    refine ⟨⟨u, v⟩, s3, hs3.mono (by omega), ?_⟩
    refine SpecM.walk T.mixed Try.func62 S.ok62 (by simp [Try.f62]) fun hk => ?_
    unfold S.s62
    repeat' (first | refine R.mv rfl ?_ | refine R.reg ?_ | refine R.nil ?_ | refine R.seq ?_ | refine R.nseq ?_ | refine R.nblk ?_ | refine R.skip ?_ | refine R.blk ?_ | refine R.exit rfl ?_ | refine R.sub rfl rfl (by omega) ?_ | refine R.al rfl ?_ | refine R.stoB rfl rfl rfl rfl ⟨rfl, rfl, Nat.le_of_ble_eq_true rfl⟩ rfl ?_ | refine R.stoE _ rfl rfl rfl rfl rfl (by assumption) rfl ⟨rfl, rfl, Nat.le_of_ble_eq_true rfl⟩ ?_ | refine R.bld rfl rfl ?_ | refine R.condT rfl ?_ | refine R.condF rfl ?_ | refine R.callX (bor := false) [(pin 0, pin 0)] rfl c1 rfl rfl rfl rfl rfl ?_ | refine R.callX (bor := false) [(pin 0, pin 0)] rfl c3 rfl rfl rfl rfl rfl ?_ | refine R.bsl (f := fun n => [iD n]) [-60, -61, 60, 61, -9223372036854775808, 9223372036854775807] rfl rfl rfl rfl rfl ?_ | refine R.weak (Weak.freeze 8 rfl rfl) (R.callX (bor := false) [(pin 0, pin 0)] rfl c2 rfl rfl rfl rfl rfl ?_) | refine R.cond rfl (fun hc => ?_) (fun hc => ?_) | refine R.condN rfl (fun hc => ?_) (fun hc => ?_) | refine R.condB rfl (fun hc => ?_) (fun hc => ?_))
    all_goals first
      | (exfalso; omega)
      | exact R.ret ⟨.inr rfl, R.outR rfl (.cons (R.cell rfl rfl T.ty34 (Nat.le_of_ble_eq_true rfl) rfl) .nil) rfl rfl rfl rfl⟩
      | skip
  obtain ⟨u, s2, hu, hs2, c2⟩ := sPick s1 (n + 2) hs1 (by omega) 9
  obtain ⟨v, s3, hv, hs3, c3⟩ := sPick s2 (n + 4) (hs2.mono (by omega)) (by omega) 9
  refine ⟨⟨u - 4, v - 4⟩, s3, hs3.mono (by omega), ?_⟩
  refine SpecM.walk T.mixed Try.func62 S.ok62 (by simp [Try.f62]) fun hk => ?_
  unfold S.s62
  repeat' (first | refine R.mv rfl ?_ | refine R.reg ?_ | refine R.nil ?_ | refine R.seq ?_ | refine R.nseq ?_ | refine R.nblk ?_ | refine R.skip ?_ | refine R.blk ?_ | refine R.exit rfl ?_ | refine R.sub rfl rfl (by omega) ?_ | refine R.al rfl ?_ | refine R.stoB rfl rfl rfl rfl ⟨rfl, rfl, Nat.le_of_ble_eq_true rfl⟩ rfl ?_ | refine R.stoE _ rfl rfl rfl rfl rfl (by assumption) rfl ⟨rfl, rfl, Nat.le_of_ble_eq_true rfl⟩ ?_ | refine R.bld rfl rfl ?_ | refine R.condT rfl ?_ | refine R.condF rfl ?_ | refine R.callX (bor := false) [(pin 0, pin 0)] rfl c1 rfl rfl rfl rfl rfl ?_ | refine R.callX (bor := false) [(pin 0, pin 0)] rfl c2 rfl rfl rfl rfl rfl ?_ | refine R.callX (bor := false) [(pin 0, pin 0)] rfl c3 rfl rfl rfl rfl rfl ?_ | refine R.cond rfl (fun hc => ?_) (fun hc => ?_) | refine R.condN rfl (fun hc => ?_) (fun hc => ?_) | refine R.condB rfl (fun hc => ?_) (fun hc => ?_))
  all_goals first
    | (exfalso; omega)
    | exact R.ret ⟨.inr rfl, R.outR rfl (.cons (R.cell rfl rfl T.ty34 (Nat.le_of_ble_eq_true rfl) rfl) .nil) rfl rfl rfl rfl⟩
    | skip
def fullL (k : Nat) : List TPlaced := (List.range k).map fun i : Nat => ⟨⟨(i : Int) % 100 - 50, (i : Int) / 100⟩, 0⟩
theorem sFull (s : Src) (n : Int) (h : okSrc n s) (hn : n ≤ 700000000) : ∃ (l : List TPlaced) (s' : Src), l.length ≤ 600 ∧ okSrc (n + 2) s' ∧ SpecM Try.prog 61 [srcV] (srcOb s) (.v (.agg [.own 0])) (outA l s') := by
  obtain ⟨u, s1, hu, hs1, c1⟩ := sPick s n h (by omega) 3
  obtain ⟨k, hk, hk9⟩ : ∃ k : Nat, 499 + u = k ∧ k ≤ 501 := ⟨(499 + u).toNat, by omega, by omega⟩
  refine ⟨fullL k, s1, by simp [fullL]; omega, hs1, ?_⟩
  refine SpecM.walk T.mixed Try.func61 S.ok61 (by simp [Try.f61]) fun hk' => ?_
  clear hk'
  unfold S.s61
  repeat' (first | refine R.mv rfl ?_ | refine R.reg ?_ | refine R.nil ?_ | refine R.seq ?_ | refine R.nseq ?_ | refine R.nblk ?_ | refine R.skip ?_ | refine R.blk ?_ | refine R.exit rfl ?_ | refine R.ldEp rfl rfl (by assumption) rfl rfl ?_ | refine R.ldaEp rfl rfl (by assumption) (Nat.le_of_ble_eq_true rfl) rfl rfl ?_ | refine R.ld rfl rfl rfl ?_ | refine R.lda rfl rfl (Nat.le_of_ble_eq_true rfl) rfl ?_ | refine R.fa rfl rfl ?_ | refine R.lss rfl rfl ?_ | refine R.add rfl rfl (by omega) ?_ | refine R.sub rfl rfl (by omega) ?_ | refine R.al rfl ?_ | refine R.stoB rfl rfl rfl rfl ⟨rfl, rfl, Nat.le_of_ble_eq_true rfl⟩ rfl ?_ | refine R.stoE _ rfl rfl rfl rfl rfl (by assumption) rfl ⟨rfl, rfl, Nat.le_of_ble_eq_true rfl⟩ ?_ | refine R.bld rfl rfl ?_ | refine R.quo rfl rfl (by omega) ?_ | refine R.rem rfl rfl (by omega) ?_ | refine R.condT rfl ?_ | refine R.condF rfl ?_ | refine R.callX (bor := false) [(pin 0, pin 0)] rfl c1 rfl rfl rfl rfl rfl ?_ | refine R.cond rfl (fun hc => ?_) (fun hc => ?_) | refine R.condN rfl (fun hc => ?_) (fun hc => ?_) | refine R.condB rfl (fun hc => ?_) (fun hc => ?_))
  refine R.loop (G := Nat) (fun i => [(2, .v (.c (.ptr 2 0))), (3, .v (.c (.ptr 3 0))), (4, pvA (.int .i64 k)), (5, pvA (.int .i64 i))]) (fun i => (2, .box 30 [nilB]) :: (3, .box 30 [.own 900]) :: (900, .arr kPlaced ((fullL i).map enPlaced) []) :: srcOb s1) (fun i => i ≤ k) (fun i => k - i) 0 (by omega) (Weak.trans (Weak.reifyBox 3 0 900 kPlaced rfl rfl rfl) (Weak.frame _ _ ⟨rfl, rfl, by rw [hk]; rfl, rfl, trivial⟩ ⟨rfl, rfl, rfl, rfl, trivial⟩ rfl rfl)) fun i hi => ?_
  have hli : (fullL i).length = i := by simp [fullL]
  have hr : 0 ≤ (i : Int) % 100 ∧ (i : Int) % 100 ≤ 99 := by omega
  have hd : 0 ≤ (i : Int) / 100 ∧ (i : Int) / 100 ≤ 10 := by omega
  by_cases hik : i < k
  · repeat' (first | refine R.mv rfl ?_ | refine R.reg ?_ | refine R.nil ?_ | refine R.seq ?_ | refine R.nseq ?_ | refine R.nblk ?_ | refine R.skip ?_ | refine R.blk ?_ | refine R.exit rfl ?_ | refine R.ldEp rfl rfl (by assumption) rfl rfl ?_ | refine R.ldaEp rfl rfl (by assumption) (Nat.le_of_ble_eq_true rfl) rfl rfl ?_ | refine R.ld rfl rfl rfl ?_ | refine R.lda rfl rfl (Nat.le_of_ble_eq_true rfl) rfl ?_ | refine R.fa rfl rfl ?_ | refine R.lss rfl rfl ?_ | refine R.add rfl rfl (by omega) ?_ | refine R.sub rfl rfl (by omega) ?_ | refine R.al rfl ?_ | refine R.stoB rfl rfl rfl rfl ⟨rfl, rfl, Nat.le_of_ble_eq_true rfl⟩ rfl ?_ | refine R.stoE _ rfl rfl rfl rfl rfl (by assumption) rfl ⟨rfl, rfl, Nat.le_of_ble_eq_true rfl⟩ ?_ | refine R.bld rfl rfl ?_ | refine R.quo rfl rfl (by omega) ?_ | refine R.rem rfl rfl (by omega) ?_ | refine R.condT rfl ?_ | refine R.condF rfl ?_ | refine R.rem rfl rfl ⟨by omega, by omega⟩ ?_ | refine R.quo rfl rfl ⟨by omega, by omega⟩ ?_ | refine R.bsl (f := enPlaced) [⟨⟨(i : Int) % 100 - 50, (i : Int) / 100⟩, 0⟩] rfl rfl rfl rfl rfl ?_ | refine R.app (f := enPlaced) (fun _ => rfl) rfl rfl rfl rfl rfl ⟨by simp only [hli, List.length_singleton]; omega, by simp only [hli, List.length_singleton]; omega⟩ ?_ | refine R.cond rfl (fun hc => ?_) (fun hc => ?_) | refine R.condN rfl (fun hc => ?_) (fun hc => ?_) | refine R.condB rfl (fun hc => ?_) (fun hc => ?_))
    all_goals first
      | (exfalso; omega)
      | exact R.nloop (R.again (i + 1) (by omega) (by omega) ⟨rfl, rfl, rfl, rfl, trivial⟩ ⟨rfl, rfl, arr_eq (by unfold fullL; rw [List.range_succ, List.map_append]; rfl), rfl, trivial⟩ rfl rfl)
      | skip
  obtain rfl : i = k := by omega
  repeat' (first | refine R.mv rfl ?_ | refine R.reg ?_ | refine R.nil ?_ | refine R.seq ?_ | refine R.nseq ?_ | refine R.nblk ?_ | refine R.skip ?_ | refine R.blk ?_ | refine R.exit rfl ?_ | refine R.ldEp rfl rfl (by assumption) rfl rfl ?_ | refine R.ldaEp rfl rfl (by assumption) (Nat.le_of_ble_eq_true rfl) rfl rfl ?_ | refine R.ld rfl rfl rfl ?_ | refine R.lda rfl rfl (Nat.le_of_ble_eq_true rfl) rfl ?_ | refine R.fa rfl rfl ?_ | refine R.lss rfl rfl ?_ | refine R.add rfl rfl (by omega) ?_ | refine R.sub rfl rfl (by omega) ?_ | refine R.al rfl ?_ | refine R.stoB rfl rfl rfl rfl ⟨rfl, rfl, Nat.le_of_ble_eq_true rfl⟩ rfl ?_ | refine R.stoE _ rfl rfl rfl rfl rfl (by assumption) rfl ⟨rfl, rfl, Nat.le_of_ble_eq_true rfl⟩ ?_ | refine R.bld rfl rfl ?_ | refine R.quo rfl rfl (by omega) ?_ | refine R.rem rfl rfl (by omega) ?_ | refine R.condT rfl ?_ | refine R.condF rfl ?_ | refine R.cond rfl (fun hc => ?_) (fun hc => ?_) | refine R.condN rfl (fun hc => ?_) (fun hc => ?_) | refine R.condB rfl (fun hc => ?_) (fun hc => ?_))
  all_goals first
    | (exfalso; omega)
    | exact R.ret ⟨.inr rfl, R.outR rfl (.cons (R.cell rfl rfl T.ty30 (Nat.le_of_ble_eq_true rfl) rfl) .nil) rfl rfl rfl rfl⟩
    | skip
structure DSt where
  l : List TPlaced
  p : TPoint
  s : Src
/-- One round of the drawing. -/
def Rnd (a b : DSt) : Prop := ∃ (s1 : Src) (d : Int) (s2 : Src) (p1 : TPoint) (c : Bool) (s3 : Src),
  ((idxOf (isAt a.p) a.l < 0 ∧ ∃ v, SpecM Try.prog 43 [srcV, .c (.d (iD 4))] (srcOb a.s) (oI v).av (srcOb s1) ∧ b.l = putP a.l ⟨a.p, v⟩) ∨ (¬ idxOf (isAt a.p) a.l < 0 ∧ s1 = a.s ∧ b.l = a.l)) ∧
  SpecM Try.prog 43 [srcV, .c (.d (iD 4))] (srcOb s1) (oI d).av (srcOb s2) ∧
  Spec Try.prog 63 [.agg (enPoint a.p), vI d] (oPt p1) ∧
  SpecM Try.prog 41 [srcV, .c (.d (iD 10))] (srcOb s2) (oB c).av (srcOb s3) ∧
  ((c = true ∧ ∃ d2, SpecM Try.prog 43 [srcV, .c (.d (iD 4))] (srcOb s3) (oI d2).av (srcOb b.s) ∧ Spec Try.prog 63 [.agg (enPoint p1), vI d2] (oPt b.p)) ∨ (c = false ∧ b.s = s3 ∧ b.p = p1))
def okD (n K : Int) (a : DSt) : Prop := okSrc n a.s ∧ inP K a.p ∧ goodP a.l
theorem inP.mono {K K' : Int} {q : TPoint} (h : inP K q) (hk : K ≤ K') : inP K' q := by unfold inP at *; omega
theorem rnd1 (a : DSt) (n K : Int) (h : okD n K a) (hn : n ≤ 700000000) (hK : K ≤ 58) (hl : a.l.length ≤ 400) : ∃ b : DSt, okD (n + 8) (K + 2) b ∧ Rnd a b ∧ b.l.length ≤ a.l.length + 1 := by
  obtain ⟨l, p, s⟩ := a
  obtain ⟨h1, h2, h3⟩ := h
  dsimp only at h1 h2 h3 hl
  have hat : atTo l l.length := goodP_iff.2 h3
  obtain ⟨l', s1, hs1, hg, hlen, hA⟩ : ∃ (l' : List TPlaced) (s1 : Src), okSrc (n + 2) s1 ∧ goodP l' ∧ l'.length ≤ l.length + 1 ∧ ((idxOf (isAt p) l < 0 ∧ ∃ v, SpecM Try.prog 43 [srcV, .c (.d (iD 4))] (srcOb s) (oI v).av (srcOb s1) ∧ l' = putP l ⟨p, v⟩) ∨ (¬ idxOf (isAt p) l < 0 ∧ s1 = s ∧ l' = l)) := by
    by_cases hi : idxOf (isAt p) l < 0
    · obtain ⟨v, s1, hv, hs1, c1⟩ := sPick s n h1 (by omega) 4
      have ht := idxAt_neg hi
      refine ⟨putP l ⟨p, v⟩, s1, hs1, putP_good ⟨?_, by show 0 ≤ v; omega, by show v ≤ 159; omega⟩ h3 (tile_neg h3.1 (by rw [ht]; omega)), by rw [putP_len]; omega, .inl ⟨hi, v, c1, rfl⟩⟩
      unfold inP at h2
      unfold okP
      dsimp only
      omega
    · exact ⟨l, s, h1.mono (by omega), h3, by omega, .inr ⟨hi, rfl, rfl⟩⟩
  obtain ⟨d, s2, hd, hs2, c2⟩ := sPick s1 (n + 2) hs1 (by omega) 4
  obtain ⟨p1, hp1, c3⟩ := sStep p d
  obtain ⟨c, s3, hs3, c4⟩ := sOne s2 (n + 4) (hs2.mono (by omega)) (by omega) 10
  have hp1 := hp1 K (by omega) h2
  cases c with
  | true =>
    obtain ⟨d2, s4, hd2, hs4, c5⟩ := sPick s3 (n + 6) (hs3.mono (by omega)) (by omega) 4
    obtain ⟨p2, hp2, c6⟩ := sStep p1 d2
    exact ⟨⟨l', p2, s4⟩, ⟨hs4.mono (by omega), (hp2 (K + 1) (by omega) hp1).mono (by omega), hg⟩, ⟨s1, d, s2, p1, true, s3, hA, c2, c3, c4, .inl ⟨rfl, d2, c5, c6⟩⟩, hlen⟩
  | false => exact ⟨⟨l', p1, s3⟩, ⟨hs3.mono (by omega), hp1.mono (by omega), hg⟩, ⟨s1, d, s2, p1, false, s3, hA, c2, c3, c4, .inr ⟨rfl, rfl, rfl⟩⟩, hlen⟩
theorem rnds (a : DSt) (n K : Int) (h : okD n K a) (ha : a.l = []) : ∀ k : Nat, n + 8 * (k : Int) ≤ 600000000 → K + 2 * (k : Int) ≤ 58 → k ≤ 100 → ∃ Z : Nat → DSt, Z 0 = a ∧ (∀ i, i ≤ k → okD (n + 8 * (i : Int)) (K + 2 * (i : Int)) (Z i) ∧ (Z i).l.length ≤ i) ∧ ∀ i, i < k → Rnd (Z i) (Z (i + 1))
  | 0, _, _, _ => ⟨fun _ => a, rfl, fun i hi => by
      obtain rfl : i = 0 := by omega
      exact ⟨⟨h.1.mono (by omega), h.2.1.mono (by omega), h.2.2⟩, by rw [ha]; simp⟩, fun i hi => by omega⟩
  | k + 1, hk, hK, hk1 => by
    obtain ⟨Z, h0, hS, hR⟩ := rnds a n K h ha k (by omega) (by omega) (by omega)
    have hk' := hS k (Nat.le_refl _)
    obtain ⟨b, hb, hr, hlb⟩ := rnd1 (Z k) _ _ hk'.1 (by omega) (by omega) (by omega)
    refine ⟨fun i => if i = k + 1 then b else Z i, by dsimp only; rw [if_neg (by omega)]; exact h0, fun i hi => ?_, fun i hi => ?_⟩
    · dsimp only
      by_cases hik : i = k + 1
      · subst hik
        rw [if_pos rfl]
        exact ⟨⟨hb.1.mono (by omega), hb.2.1.mono (by omega), hb.2.2⟩, by omega⟩
      · rw [if_neg hik]; exact hS i (by omega)
    · dsimp only
      by_cases hik : i = k
      · subst hik
        rw [if_pos rfl, if_neg (by omega)]; exact hr
      · rw [if_neg (by omega), if_neg (by omega)]; exact hR i (by omega)
abbrev enD (k i : Nat) : List (Nat × AV) := [(0, .v srcV), (1, pvA (.int .i64 4)), (4, .v (.c (.ptr 4 0))), (5, .v (.c (.ptr 5 0))), (6, .v (.c (.ptr 6 0))), (7, pvA (.int .i64 ((k : Int) - (i : Int))))]
abbrev obD (l : List TPlaced) (p : TPoint) (s : Src) : List (Nat × Ob) := (4, .box 30 [nilB]) :: (5, .box 30 [.own 900]) :: (6, .box 34 ((enPoint p).map B.d)) :: (900, .arr kPlaced (l.map enPlaced) []) :: srcOb s
theorem sAsmDraw (s : Src) (n : Int) (h : okSrc n s) (hn : n ≤ 500000000) : ∃ (l : List TPlaced) (s' : Src), l.length ≤ 400 ∧ okSrc (n + 200) s' ∧ SpecM Try.prog 60 [srcV, .c (.d (iD 4))] (srcOb s) (.v (.agg [.own 0])) (outA l s') := by
  obtain ⟨x, s1, hx, hs1, c1⟩ := sPick s n h (by omega) 5
  obtain ⟨y, s2, hy, hs2, c2⟩ := sPick s1 (n + 2) hs1 (by omega) 5
  obtain ⟨u, s3, hu, hs3, c3⟩ := sPick s2 (n + 4) (hs2.mono (by omega)) (by omega) 12
  obtain ⟨k, hk, hk9⟩ : ∃ k : Nat, u = k ∧ k ≤ 11 := ⟨u.toNat, by omega, by omega⟩
  obtain ⟨Z, hS0, hS, hR⟩ := rnds ⟨[], ⟨x - 2, y - 2⟩, s3⟩ (n + 6) 4 ⟨hs3.mono (by omega), by unfold inP; dsimp only; omega, fun x hx => (by cases hx), trivial⟩ rfl k (by omega) (by omega) (by omega)
  have hSk := hS k (Nat.le_refl _)
  refine ⟨(Z k).l, (Z k).s, by omega, hSk.1.1.mono (by omega), ?_⟩
  refine SpecM.walk T.mixed Try.func60 S.ok60 (by simp [Try.f60]) fun hk' => ?_
  clear hk'
  unfold S.s60
  repeat' (first | refine R.mv rfl ?_ | refine R.reg ?_ | refine R.tk ?_ | refine R.tkN ?_ | exact R.vac | refine R.both ?_ ?_ | refine R.nil ?_ | refine R.seq ?_ | refine R.nseq ?_ | refine R.nblk ?_ | refine R.skip ?_ | refine R.blk ?_ | refine R.exit rfl ?_ | refine R.ldEp rfl rfl (by assumption) rfl rfl ?_ | refine R.ldaEp rfl rfl (by assumption) (Nat.le_of_ble_eq_true rfl) rfl rfl ?_ | refine R.ld rfl rfl rfl ?_ | refine R.lda rfl rfl (Nat.le_of_ble_eq_true rfl) rfl ?_ | refine R.lss rfl rfl ?_ | refine R.gtr rfl rfl ?_ | refine R.sub rfl rfl (by omega) ?_ | refine R.al rfl ?_ | refine R.stoB rfl rfl rfl rfl ⟨rfl, rfl, Nat.le_of_ble_eq_true rfl⟩ rfl ?_ | refine R.stoE _ rfl rfl rfl rfl rfl (by assumption) rfl ⟨rfl, rfl, Nat.le_of_ble_eq_true rfl⟩ ?_ | refine R.bld rfl rfl ?_ | refine R.condT rfl ?_ | refine R.condF rfl ?_ | refine R.callX (bor := false) [(pin 0, pin 0)] rfl c1 rfl rfl rfl rfl rfl ?_ | refine R.callX (bor := false) [(pin 0, pin 0)] rfl c2 rfl rfl rfl rfl rfl ?_ | refine R.callX (bor := false) [(pin 0, pin 0)] rfl c3 rfl rfl rfl rfl rfl ?_ | refine R.cond rfl (fun hc => ?_) (fun hc => ?_) | refine R.condN rfl (fun hc => ?_) (fun hc => ?_) | refine R.condB rfl (fun hc => ?_) (fun hc => ?_))
  refine R.loop (G := Nat) (fun i => enD k i) (fun i => obD (Z i).l (Z i).p (Z i).s) (fun i => i ≤ k) (fun i => k - i) 0 (by omega) (Weak.trans (Weak.reifyBox 5 0 900 kPlaced rfl rfl rfl) (Weak.frame _ _ ⟨rfl, rfl, rfl, rfl, rfl, by rw [hk]; show _ = pvA (.int .i64 ((k : Int) - ((0 : Nat) : Int))); rw [show (k : Int) - ((0 : Nat) : Int) = k by omega]; rfl, trivial⟩ ⟨rfl, rfl, by rw [hS0]; rfl, by rw [hS0]; rfl, by rw [hS0]; rfl, trivial⟩ rfl rfl)) fun i hi => ?_
  by_cases hik : i < k
  · obtain ⟨⟨-, hpi, hgi⟩, hli⟩ := hS i hi
    have hati : okA (Z i).l := ⟨by omega, goodP_iff.2 hgi⟩
    obtain ⟨s1', d, s2', p1, c, s3', hA, b2, b3, b4, hB⟩ := hR i hik
    generalize Z i = a at *
    obtain ⟨b, hb⟩ : ∃ b, Z (i + 1) = b := ⟨_, rfl⟩
    rw [hb] at hA hB
    have hI := sIndexAt ⟨a.l⟩ a.p hati
    have hP := fun v => sL03Put ⟨a.l⟩ a.p v (by dsimp only; omega)
    have he : (k : Int) - ((i + 1 : Nat) : Int) = (k : Int) - (i : Int) - 1 := by omega
    rcases hA with ⟨hidx, v, b1, hbl⟩ | ⟨hidx, hs1', hbl⟩
    · rcases hB with ⟨rfl, d2, b5, b6⟩ | ⟨rfl, e1, e2⟩
      · repeat' (first | refine R.mv rfl ?_ | refine R.reg ?_ | refine R.tk ?_ | refine R.tkN ?_ | exact R.vac | refine R.both ?_ ?_ | refine R.nil ?_ | refine R.seq ?_ | refine R.nseq ?_ | refine R.nblk ?_ | refine R.skip ?_ | refine R.blk ?_ | refine R.exit rfl ?_ | refine R.ldEp rfl rfl (by assumption) rfl rfl ?_ | refine R.ldaEp rfl rfl (by assumption) (Nat.le_of_ble_eq_true rfl) rfl rfl ?_ | refine R.ld rfl rfl rfl ?_ | refine R.lda rfl rfl (Nat.le_of_ble_eq_true rfl) rfl ?_ | refine R.lss rfl rfl ?_ | refine R.gtr rfl rfl ?_ | refine R.sub rfl rfl (by omega) ?_ | refine R.al rfl ?_ | refine R.stoB rfl rfl rfl rfl ⟨rfl, rfl, Nat.le_of_ble_eq_true rfl⟩ rfl ?_ | refine R.stoE _ rfl rfl rfl rfl rfl (by assumption) rfl ⟨rfl, rfl, Nat.le_of_ble_eq_true rfl⟩ ?_ | refine R.bld rfl rfl ?_ | refine R.condT rfl ?_ | refine R.condF rfl ?_ | refine R.call (bor := false) rfl rfl (hI) rfl rfl rfl ?_ | refine R.call (bor := true) rfl rfl (hI) rfl rfl rfl ?_ | refine R.fcal (bor := false) rfl rfl (hI) rfl rfl rfl ?_ | refine R.fcal (bor := true) rfl rfl (hI) rfl rfl rfl ?_ | refine R.cond rfl (fun hc => ?_) (fun hc => ?_) | refine R.condN rfl (fun hc => ?_) (fun hc => ?_) | refine R.condB rfl (fun hc => ?_) (fun hc => ?_))
        all_goals first | (exfalso; omega) | (exfalso; exact absurd hidx (by assumption)) | (exfalso; exact absurd (by assumption) hidx) | skip
        refine R.regO (⟨frE (enD k i), frO (obD (putP a.l ⟨a.p, v⟩) a.p s1')⟩) ?_ ?_
        · repeat' (first | refine R.mv rfl ?_ | refine R.reg ?_ | refine R.tk ?_ | refine R.tkN ?_ | exact R.vac | refine R.both ?_ ?_ | refine R.nil ?_ | refine R.seq ?_ | refine R.nseq ?_ | refine R.nblk ?_ | refine R.skip ?_ | refine R.blk ?_ | refine R.exit rfl ?_ | refine R.ldEp rfl rfl (by assumption) rfl rfl ?_ | refine R.ldaEp rfl rfl (by assumption) (Nat.le_of_ble_eq_true rfl) rfl rfl ?_ | refine R.ld rfl rfl rfl ?_ | refine R.lda rfl rfl (Nat.le_of_ble_eq_true rfl) rfl ?_ | refine R.lss rfl rfl ?_ | refine R.gtr rfl rfl ?_ | refine R.sub rfl rfl (by omega) ?_ | refine R.al rfl ?_ | refine R.stoB rfl rfl rfl rfl ⟨rfl, rfl, Nat.le_of_ble_eq_true rfl⟩ rfl ?_ | refine R.stoE _ rfl rfl rfl rfl rfl (by assumption) rfl ⟨rfl, rfl, Nat.le_of_ble_eq_true rfl⟩ ?_ | refine R.bld rfl rfl ?_ | refine R.condT rfl ?_ | refine R.condF rfl ?_ | refine R.callN1 (bor := false) rfl rfl (hP v) rfl rfl ?_ | refine R.callN1 (bor := true) rfl rfl (hP v) rfl rfl ?_ | refine R.callN (bor := false) rfl rfl (hP v) rfl rfl rfl rfl rfl ?_ | refine R.callN (bor := true) rfl rfl (hP v) rfl rfl rfl rfl rfl ?_ | refine R.callX (bor := false) [(pin 0, pin 0)] rfl b1 rfl rfl rfl rfl rfl ?_ | refine R.cond rfl (fun hc => ?_) (fun hc => ?_) | refine R.condN rfl (fun hc => ?_) (fun hc => ?_) | refine R.condB rfl (fun hc => ?_) (fun hc => ?_))
          all_goals exact R.done (Weak.trans (Weak.swap 31000 900 rfl rfl) (Weak.frame _ _ ⟨rfl, rfl, rfl, rfl, rfl, rfl, trivial⟩ ⟨rfl, rfl, rfl, rfl, rfl, trivial⟩ rfl rfl))
        repeat' (first | refine R.mv rfl ?_ | refine R.reg ?_ | refine R.tk ?_ | refine R.tkN ?_ | exact R.vac | refine R.both ?_ ?_ | refine R.nil ?_ | refine R.seq ?_ | refine R.nseq ?_ | refine R.nblk ?_ | refine R.skip ?_ | refine R.blk ?_ | refine R.exit rfl ?_ | refine R.ldEp rfl rfl (by assumption) rfl rfl ?_ | refine R.ldaEp rfl rfl (by assumption) (Nat.le_of_ble_eq_true rfl) rfl rfl ?_ | refine R.ld rfl rfl rfl ?_ | refine R.lda rfl rfl (Nat.le_of_ble_eq_true rfl) rfl ?_ | refine R.lss rfl rfl ?_ | refine R.gtr rfl rfl ?_ | refine R.sub rfl rfl (by omega) ?_ | refine R.al rfl ?_ | refine R.stoB rfl rfl rfl rfl ⟨rfl, rfl, Nat.le_of_ble_eq_true rfl⟩ rfl ?_ | refine R.stoE _ rfl rfl rfl rfl rfl (by assumption) rfl ⟨rfl, rfl, Nat.le_of_ble_eq_true rfl⟩ ?_ | refine R.bld rfl rfl ?_ | refine R.condT rfl ?_ | refine R.condF rfl ?_ | refine R.cond rfl (fun hc => ?_) (fun hc => ?_) | refine R.condN rfl (fun hc => ?_) (fun hc => ?_) | refine R.condB rfl (fun hc => ?_) (fun hc => ?_))
        all_goals first | (exfalso; omega) | (exfalso; exact absurd hidx (by assumption)) | (exfalso; exact absurd (by assumption) hidx) | skip
        refine R.regO (⟨frE (enD k i), frO (obD (putP a.l ⟨a.p, v⟩) p1 s2')⟩) ?_ ?_
        · repeat' (first | refine R.mv rfl ?_ | refine R.reg ?_ | refine R.tk ?_ | refine R.tkN ?_ | exact R.vac | refine R.both ?_ ?_ | refine R.nil ?_ | refine R.seq ?_ | refine R.nseq ?_ | refine R.nblk ?_ | refine R.skip ?_ | refine R.blk ?_ | refine R.exit rfl ?_ | refine R.ldEp rfl rfl (by assumption) rfl rfl ?_ | refine R.ldaEp rfl rfl (by assumption) (Nat.le_of_ble_eq_true rfl) rfl rfl ?_ | refine R.ld rfl rfl rfl ?_ | refine R.lda rfl rfl (Nat.le_of_ble_eq_true rfl) rfl ?_ | refine R.lss rfl rfl ?_ | refine R.gtr rfl rfl ?_ | refine R.sub rfl rfl (by omega) ?_ | refine R.al rfl ?_ | refine R.stoB rfl rfl rfl rfl ⟨rfl, rfl, Nat.le_of_ble_eq_true rfl⟩ rfl ?_ | refine R.stoE _ rfl rfl rfl rfl rfl (by assumption) rfl ⟨rfl, rfl, Nat.le_of_ble_eq_true rfl⟩ ?_ | refine R.bld rfl rfl ?_ | refine R.condT rfl ?_ | refine R.condF rfl ?_ | refine R.call (bor := false) rfl rfl (b3) rfl rfl rfl ?_ | refine R.call (bor := true) rfl rfl (b3) rfl rfl rfl ?_ | refine R.fcal (bor := false) rfl rfl (b3) rfl rfl rfl ?_ | refine R.fcal (bor := true) rfl rfl (b3) rfl rfl rfl ?_ | refine R.callX (bor := false) [(pin 0, pin 0)] rfl b2 rfl rfl rfl rfl rfl ?_ | refine R.cond rfl (fun hc => ?_) (fun hc => ?_) | refine R.condN rfl (fun hc => ?_) (fun hc => ?_) | refine R.condB rfl (fun hc => ?_) (fun hc => ?_))
          all_goals exact R.done (Weak.frame _ _ ⟨rfl, rfl, rfl, rfl, rfl, rfl, trivial⟩ ⟨rfl, rfl, rfl, rfl, rfl, trivial⟩ rfl rfl)
        repeat' (first | refine R.mv rfl ?_ | refine R.reg ?_ | refine R.tk ?_ | refine R.tkN ?_ | exact R.vac | refine R.both ?_ ?_ | refine R.nil ?_ | refine R.seq ?_ | refine R.nseq ?_ | refine R.nblk ?_ | refine R.skip ?_ | refine R.blk ?_ | refine R.exit rfl ?_ | refine R.ldEp rfl rfl (by assumption) rfl rfl ?_ | refine R.ldaEp rfl rfl (by assumption) (Nat.le_of_ble_eq_true rfl) rfl rfl ?_ | refine R.ld rfl rfl rfl ?_ | refine R.lda rfl rfl (Nat.le_of_ble_eq_true rfl) rfl ?_ | refine R.lss rfl rfl ?_ | refine R.gtr rfl rfl ?_ | refine R.sub rfl rfl (by omega) ?_ | refine R.al rfl ?_ | refine R.stoB rfl rfl rfl rfl ⟨rfl, rfl, Nat.le_of_ble_eq_true rfl⟩ rfl ?_ | refine R.stoE _ rfl rfl rfl rfl rfl (by assumption) rfl ⟨rfl, rfl, Nat.le_of_ble_eq_true rfl⟩ ?_ | refine R.bld rfl rfl ?_ | refine R.condT rfl ?_ | refine R.condF rfl ?_ | refine R.callX (bor := false) [(pin 0, pin 0)] rfl b4 rfl rfl rfl rfl rfl ?_ | refine R.cond rfl (fun hc => ?_) (fun hc => ?_) | refine R.condN rfl (fun hc => ?_) (fun hc => ?_) | refine R.condB rfl (fun hc => ?_) (fun hc => ?_))
        all_goals first | (exfalso; omega) | (exfalso; exact absurd hidx (by assumption)) | (exfalso; exact absurd (by assumption) hidx) | skip
        refine R.regOB (⟨frE (enD k i), frO (obD (putP a.l ⟨a.p, v⟩) b.p b.s)⟩) ?_ ?_
        · repeat' (first | refine R.mv rfl ?_ | refine R.reg ?_ | refine R.tk ?_ | refine R.tkN ?_ | exact R.vac | refine R.both ?_ ?_ | refine R.nil ?_ | refine R.seq ?_ | refine R.nseq ?_ | refine R.nblk ?_ | refine R.skip ?_ | refine R.blk ?_ | refine R.exit rfl ?_ | refine R.ldEp rfl rfl (by assumption) rfl rfl ?_ | refine R.ldaEp rfl rfl (by assumption) (Nat.le_of_ble_eq_true rfl) rfl rfl ?_ | refine R.ld rfl rfl rfl ?_ | refine R.lda rfl rfl (Nat.le_of_ble_eq_true rfl) rfl ?_ | refine R.lss rfl rfl ?_ | refine R.gtr rfl rfl ?_ | refine R.sub rfl rfl (by omega) ?_ | refine R.al rfl ?_ | refine R.stoB rfl rfl rfl rfl ⟨rfl, rfl, Nat.le_of_ble_eq_true rfl⟩ rfl ?_ | refine R.stoE _ rfl rfl rfl rfl rfl (by assumption) rfl ⟨rfl, rfl, Nat.le_of_ble_eq_true rfl⟩ ?_ | refine R.bld rfl rfl ?_ | refine R.condT rfl ?_ | refine R.condF rfl ?_ | refine R.call (bor := false) rfl rfl (b6) rfl rfl rfl ?_ | refine R.call (bor := true) rfl rfl (b6) rfl rfl rfl ?_ | refine R.fcal (bor := false) rfl rfl (b6) rfl rfl rfl ?_ | refine R.fcal (bor := true) rfl rfl (b6) rfl rfl rfl ?_ | refine R.callX (bor := false) [(pin 0, pin 0)] rfl b5 rfl rfl rfl rfl rfl ?_ | refine R.cond rfl (fun hc => ?_) (fun hc => ?_) | refine R.condN rfl (fun hc => ?_) (fun hc => ?_) | refine R.condB rfl (fun hc => ?_) (fun hc => ?_))
          all_goals exact R.done (Weak.frame _ _ ⟨rfl, rfl, rfl, rfl, rfl, rfl, trivial⟩ ⟨rfl, rfl, rfl, rfl, rfl, trivial⟩ rfl rfl)
        repeat' (first | refine R.mv rfl ?_ | refine R.reg ?_ | refine R.tk ?_ | refine R.tkN ?_ | exact R.vac | refine R.both ?_ ?_ | refine R.nil ?_ | refine R.seq ?_ | refine R.nseq ?_ | refine R.nblk ?_ | refine R.skip ?_ | refine R.blk ?_ | refine R.exit rfl ?_ | refine R.ldEp rfl rfl (by assumption) rfl rfl ?_ | refine R.ldaEp rfl rfl (by assumption) (Nat.le_of_ble_eq_true rfl) rfl rfl ?_ | refine R.ld rfl rfl rfl ?_ | refine R.lda rfl rfl (Nat.le_of_ble_eq_true rfl) rfl ?_ | refine R.lss rfl rfl ?_ | refine R.gtr rfl rfl ?_ | refine R.sub rfl rfl (by omega) ?_ | refine R.al rfl ?_ | refine R.stoB rfl rfl rfl rfl ⟨rfl, rfl, Nat.le_of_ble_eq_true rfl⟩ rfl ?_ | refine R.stoE _ rfl rfl rfl rfl rfl (by assumption) rfl ⟨rfl, rfl, Nat.le_of_ble_eq_true rfl⟩ ?_ | refine R.bld rfl rfl ?_ | refine R.condT rfl ?_ | refine R.condF rfl ?_ | refine R.cond rfl (fun hc => ?_) (fun hc => ?_) | refine R.condN rfl (fun hc => ?_) (fun hc => ?_) | refine R.condB rfl (fun hc => ?_) (fun hc => ?_))
        all_goals first | (exfalso; omega) | (exfalso; exact absurd hidx (by assumption)) | (exfalso; exact absurd (by assumption) hidx) | skip
        exact R.nloop (R.again (i + 1) (by omega) (by omega) ⟨rfl, rfl, rfl, rfl, rfl, by rw [he]; rfl, trivial⟩ ⟨rfl, rfl, by rw [hb]; rfl, arr_eq (by rw [hb, hbl]), by rw [hb]; rfl, trivial⟩ rfl rfl)
      · repeat' (first | refine R.mv rfl ?_ | refine R.reg ?_ | refine R.tk ?_ | refine R.tkN ?_ | exact R.vac | refine R.both ?_ ?_ | refine R.nil ?_ | refine R.seq ?_ | refine R.nseq ?_ | refine R.nblk ?_ | refine R.skip ?_ | refine R.blk ?_ | refine R.exit rfl ?_ | refine R.ldEp rfl rfl (by assumption) rfl rfl ?_ | refine R.ldaEp rfl rfl (by assumption) (Nat.le_of_ble_eq_true rfl) rfl rfl ?_ | refine R.ld rfl rfl rfl ?_ | refine R.lda rfl rfl (Nat.le_of_ble_eq_true rfl) rfl ?_ | refine R.lss rfl rfl ?_ | refine R.gtr rfl rfl ?_ | refine R.sub rfl rfl (by omega) ?_ | refine R.al rfl ?_ | refine R.stoB rfl rfl rfl rfl ⟨rfl, rfl, Nat.le_of_ble_eq_true rfl⟩ rfl ?_ | refine R.stoE _ rfl rfl rfl rfl rfl (by assumption) rfl ⟨rfl, rfl, Nat.le_of_ble_eq_true rfl⟩ ?_ | refine R.bld rfl rfl ?_ | refine R.condT rfl ?_ | refine R.condF rfl ?_ | refine R.call (bor := false) rfl rfl (hI) rfl rfl rfl ?_ | refine R.call (bor := true) rfl rfl (hI) rfl rfl rfl ?_ | refine R.fcal (bor := false) rfl rfl (hI) rfl rfl rfl ?_ | refine R.fcal (bor := true) rfl rfl (hI) rfl rfl rfl ?_ | refine R.cond rfl (fun hc => ?_) (fun hc => ?_) | refine R.condN rfl (fun hc => ?_) (fun hc => ?_) | refine R.condB rfl (fun hc => ?_) (fun hc => ?_))
        all_goals first | (exfalso; omega) | (exfalso; exact absurd hidx (by assumption)) | (exfalso; exact absurd (by assumption) hidx) | skip
        refine R.regO (⟨frE (enD k i), frO (obD (putP a.l ⟨a.p, v⟩) a.p s1')⟩) ?_ ?_
        · repeat' (first | refine R.mv rfl ?_ | refine R.reg ?_ | refine R.tk ?_ | refine R.tkN ?_ | exact R.vac | refine R.both ?_ ?_ | refine R.nil ?_ | refine R.seq ?_ | refine R.nseq ?_ | refine R.nblk ?_ | refine R.skip ?_ | refine R.blk ?_ | refine R.exit rfl ?_ | refine R.ldEp rfl rfl (by assumption) rfl rfl ?_ | refine R.ldaEp rfl rfl (by assumption) (Nat.le_of_ble_eq_true rfl) rfl rfl ?_ | refine R.ld rfl rfl rfl ?_ | refine R.lda rfl rfl (Nat.le_of_ble_eq_true rfl) rfl ?_ | refine R.lss rfl rfl ?_ | refine R.gtr rfl rfl ?_ | refine R.sub rfl rfl (by omega) ?_ | refine R.al rfl ?_ | refine R.stoB rfl rfl rfl rfl ⟨rfl, rfl, Nat.le_of_ble_eq_true rfl⟩ rfl ?_ | refine R.stoE _ rfl rfl rfl rfl rfl (by assumption) rfl ⟨rfl, rfl, Nat.le_of_ble_eq_true rfl⟩ ?_ | refine R.bld rfl rfl ?_ | refine R.condT rfl ?_ | refine R.condF rfl ?_ | refine R.callN1 (bor := false) rfl rfl (hP v) rfl rfl ?_ | refine R.callN1 (bor := true) rfl rfl (hP v) rfl rfl ?_ | refine R.callN (bor := false) rfl rfl (hP v) rfl rfl rfl rfl rfl ?_ | refine R.callN (bor := true) rfl rfl (hP v) rfl rfl rfl rfl rfl ?_ | refine R.callX (bor := false) [(pin 0, pin 0)] rfl b1 rfl rfl rfl rfl rfl ?_ | refine R.cond rfl (fun hc => ?_) (fun hc => ?_) | refine R.condN rfl (fun hc => ?_) (fun hc => ?_) | refine R.condB rfl (fun hc => ?_) (fun hc => ?_))
          all_goals exact R.done (Weak.trans (Weak.swap 31000 900 rfl rfl) (Weak.frame _ _ ⟨rfl, rfl, rfl, rfl, rfl, rfl, trivial⟩ ⟨rfl, rfl, rfl, rfl, rfl, trivial⟩ rfl rfl))
        repeat' (first | refine R.mv rfl ?_ | refine R.reg ?_ | refine R.tk ?_ | refine R.tkN ?_ | exact R.vac | refine R.both ?_ ?_ | refine R.nil ?_ | refine R.seq ?_ | refine R.nseq ?_ | refine R.nblk ?_ | refine R.skip ?_ | refine R.blk ?_ | refine R.exit rfl ?_ | refine R.ldEp rfl rfl (by assumption) rfl rfl ?_ | refine R.ldaEp rfl rfl (by assumption) (Nat.le_of_ble_eq_true rfl) rfl rfl ?_ | refine R.ld rfl rfl rfl ?_ | refine R.lda rfl rfl (Nat.le_of_ble_eq_true rfl) rfl ?_ | refine R.lss rfl rfl ?_ | refine R.gtr rfl rfl ?_ | refine R.sub rfl rfl (by omega) ?_ | refine R.al rfl ?_ | refine R.stoB rfl rfl rfl rfl ⟨rfl, rfl, Nat.le_of_ble_eq_true rfl⟩ rfl ?_ | refine R.stoE _ rfl rfl rfl rfl rfl (by assumption) rfl ⟨rfl, rfl, Nat.le_of_ble_eq_true rfl⟩ ?_ | refine R.bld rfl rfl ?_ | refine R.condT rfl ?_ | refine R.condF rfl ?_ | refine R.cond rfl (fun hc => ?_) (fun hc => ?_) | refine R.condN rfl (fun hc => ?_) (fun hc => ?_) | refine R.condB rfl (fun hc => ?_) (fun hc => ?_))
        all_goals first | (exfalso; omega) | (exfalso; exact absurd hidx (by assumption)) | (exfalso; exact absurd (by assumption) hidx) | skip
        refine R.regO (⟨frE (enD k i), frO (obD (putP a.l ⟨a.p, v⟩) p1 s2')⟩) ?_ ?_
        · repeat' (first | refine R.mv rfl ?_ | refine R.reg ?_ | refine R.tk ?_ | refine R.tkN ?_ | exact R.vac | refine R.both ?_ ?_ | refine R.nil ?_ | refine R.seq ?_ | refine R.nseq ?_ | refine R.nblk ?_ | refine R.skip ?_ | refine R.blk ?_ | refine R.exit rfl ?_ | refine R.ldEp rfl rfl (by assumption) rfl rfl ?_ | refine R.ldaEp rfl rfl (by assumption) (Nat.le_of_ble_eq_true rfl) rfl rfl ?_ | refine R.ld rfl rfl rfl ?_ | refine R.lda rfl rfl (Nat.le_of_ble_eq_true rfl) rfl ?_ | refine R.lss rfl rfl ?_ | refine R.gtr rfl rfl ?_ | refine R.sub rfl rfl (by omega) ?_ | refine R.al rfl ?_ | refine R.stoB rfl rfl rfl rfl ⟨rfl, rfl, Nat.le_of_ble_eq_true rfl⟩ rfl ?_ | refine R.stoE _ rfl rfl rfl rfl rfl (by assumption) rfl ⟨rfl, rfl, Nat.le_of_ble_eq_true rfl⟩ ?_ | refine R.bld rfl rfl ?_ | refine R.condT rfl ?_ | refine R.condF rfl ?_ | refine R.call (bor := false) rfl rfl (b3) rfl rfl rfl ?_ | refine R.call (bor := true) rfl rfl (b3) rfl rfl rfl ?_ | refine R.fcal (bor := false) rfl rfl (b3) rfl rfl rfl ?_ | refine R.fcal (bor := true) rfl rfl (b3) rfl rfl rfl ?_ | refine R.callX (bor := false) [(pin 0, pin 0)] rfl b2 rfl rfl rfl rfl rfl ?_ | refine R.cond rfl (fun hc => ?_) (fun hc => ?_) | refine R.condN rfl (fun hc => ?_) (fun hc => ?_) | refine R.condB rfl (fun hc => ?_) (fun hc => ?_))
          all_goals exact R.done (Weak.frame _ _ ⟨rfl, rfl, rfl, rfl, rfl, rfl, trivial⟩ ⟨rfl, rfl, rfl, rfl, rfl, trivial⟩ rfl rfl)
        repeat' (first | refine R.mv rfl ?_ | refine R.reg ?_ | refine R.tk ?_ | refine R.tkN ?_ | exact R.vac | refine R.both ?_ ?_ | refine R.nil ?_ | refine R.seq ?_ | refine R.nseq ?_ | refine R.nblk ?_ | refine R.skip ?_ | refine R.blk ?_ | refine R.exit rfl ?_ | refine R.ldEp rfl rfl (by assumption) rfl rfl ?_ | refine R.ldaEp rfl rfl (by assumption) (Nat.le_of_ble_eq_true rfl) rfl rfl ?_ | refine R.ld rfl rfl rfl ?_ | refine R.lda rfl rfl (Nat.le_of_ble_eq_true rfl) rfl ?_ | refine R.lss rfl rfl ?_ | refine R.gtr rfl rfl ?_ | refine R.sub rfl rfl (by omega) ?_ | refine R.al rfl ?_ | refine R.stoB rfl rfl rfl rfl ⟨rfl, rfl, Nat.le_of_ble_eq_true rfl⟩ rfl ?_ | refine R.stoE _ rfl rfl rfl rfl rfl (by assumption) rfl ⟨rfl, rfl, Nat.le_of_ble_eq_true rfl⟩ ?_ | refine R.bld rfl rfl ?_ | refine R.condT rfl ?_ | refine R.condF rfl ?_ | refine R.callX (bor := false) [(pin 0, pin 0)] rfl b4 rfl rfl rfl rfl rfl ?_ | refine R.cond rfl (fun hc => ?_) (fun hc => ?_) | refine R.condN rfl (fun hc => ?_) (fun hc => ?_) | refine R.condB rfl (fun hc => ?_) (fun hc => ?_))
        all_goals first | (exfalso; omega) | (exfalso; exact absurd hidx (by assumption)) | (exfalso; exact absurd (by assumption) hidx) | skip
        exact R.nloop (R.again (i + 1) (by omega) (by omega) ⟨rfl, rfl, rfl, rfl, rfl, by rw [he]; rfl, trivial⟩ ⟨rfl, rfl, by rw [hb, e2]; rfl, arr_eq (by rw [hb, hbl]), by rw [hb, e1]; rfl, trivial⟩ rfl rfl)
    · rcases hB with ⟨rfl, d2, b5, b6⟩ | ⟨rfl, e1, e2⟩
      · subst hs1'
        repeat' (first | refine R.mv rfl ?_ | refine R.reg ?_ | refine R.tk ?_ | refine R.tkN ?_ | exact R.vac | refine R.both ?_ ?_ | refine R.nil ?_ | refine R.seq ?_ | refine R.nseq ?_ | refine R.nblk ?_ | refine R.skip ?_ | refine R.blk ?_ | refine R.exit rfl ?_ | refine R.ldEp rfl rfl (by assumption) rfl rfl ?_ | refine R.ldaEp rfl rfl (by assumption) (Nat.le_of_ble_eq_true rfl) rfl rfl ?_ | refine R.ld rfl rfl rfl ?_ | refine R.lda rfl rfl (Nat.le_of_ble_eq_true rfl) rfl ?_ | refine R.lss rfl rfl ?_ | refine R.gtr rfl rfl ?_ | refine R.sub rfl rfl (by omega) ?_ | refine R.al rfl ?_ | refine R.stoB rfl rfl rfl rfl ⟨rfl, rfl, Nat.le_of_ble_eq_true rfl⟩ rfl ?_ | refine R.stoE _ rfl rfl rfl rfl rfl (by assumption) rfl ⟨rfl, rfl, Nat.le_of_ble_eq_true rfl⟩ ?_ | refine R.bld rfl rfl ?_ | refine R.condT rfl ?_ | refine R.condF rfl ?_ | refine R.call (bor := false) rfl rfl (hI) rfl rfl rfl ?_ | refine R.call (bor := true) rfl rfl (hI) rfl rfl rfl ?_ | refine R.fcal (bor := false) rfl rfl (hI) rfl rfl rfl ?_ | refine R.fcal (bor := true) rfl rfl (hI) rfl rfl rfl ?_ | refine R.cond rfl (fun hc => ?_) (fun hc => ?_) | refine R.condN rfl (fun hc => ?_) (fun hc => ?_) | refine R.condB rfl (fun hc => ?_) (fun hc => ?_))
        all_goals first | (exfalso; omega) | (exfalso; exact absurd hidx (by assumption)) | (exfalso; exact absurd (by assumption) hidx) | skip
        refine R.regO (⟨frE (enD k i), frO (obD a.l p1 s2')⟩) ?_ ?_
        · repeat' (first | refine R.mv rfl ?_ | refine R.reg ?_ | refine R.tk ?_ | refine R.tkN ?_ | exact R.vac | refine R.both ?_ ?_ | refine R.nil ?_ | refine R.seq ?_ | refine R.nseq ?_ | refine R.nblk ?_ | refine R.skip ?_ | refine R.blk ?_ | refine R.exit rfl ?_ | refine R.ldEp rfl rfl (by assumption) rfl rfl ?_ | refine R.ldaEp rfl rfl (by assumption) (Nat.le_of_ble_eq_true rfl) rfl rfl ?_ | refine R.ld rfl rfl rfl ?_ | refine R.lda rfl rfl (Nat.le_of_ble_eq_true rfl) rfl ?_ | refine R.lss rfl rfl ?_ | refine R.gtr rfl rfl ?_ | refine R.sub rfl rfl (by omega) ?_ | refine R.al rfl ?_ | refine R.stoB rfl rfl rfl rfl ⟨rfl, rfl, Nat.le_of_ble_eq_true rfl⟩ rfl ?_ | refine R.stoE _ rfl rfl rfl rfl rfl (by assumption) rfl ⟨rfl, rfl, Nat.le_of_ble_eq_true rfl⟩ ?_ | refine R.bld rfl rfl ?_ | refine R.condT rfl ?_ | refine R.condF rfl ?_ | refine R.call (bor := false) rfl rfl (b3) rfl rfl rfl ?_ | refine R.call (bor := true) rfl rfl (b3) rfl rfl rfl ?_ | refine R.fcal (bor := false) rfl rfl (b3) rfl rfl rfl ?_ | refine R.fcal (bor := true) rfl rfl (b3) rfl rfl rfl ?_ | refine R.callX (bor := false) [(pin 0, pin 0)] rfl b2 rfl rfl rfl rfl rfl ?_ | refine R.cond rfl (fun hc => ?_) (fun hc => ?_) | refine R.condN rfl (fun hc => ?_) (fun hc => ?_) | refine R.condB rfl (fun hc => ?_) (fun hc => ?_))
          all_goals exact R.done (Weak.frame _ _ ⟨rfl, rfl, rfl, rfl, rfl, rfl, trivial⟩ ⟨rfl, rfl, rfl, rfl, rfl, trivial⟩ rfl rfl)
        repeat' (first | refine R.mv rfl ?_ | refine R.reg ?_ | refine R.tk ?_ | refine R.tkN ?_ | exact R.vac | refine R.both ?_ ?_ | refine R.nil ?_ | refine R.seq ?_ | refine R.nseq ?_ | refine R.nblk ?_ | refine R.skip ?_ | refine R.blk ?_ | refine R.exit rfl ?_ | refine R.ldEp rfl rfl (by assumption) rfl rfl ?_ | refine R.ldaEp rfl rfl (by assumption) (Nat.le_of_ble_eq_true rfl) rfl rfl ?_ | refine R.ld rfl rfl rfl ?_ | refine R.lda rfl rfl (Nat.le_of_ble_eq_true rfl) rfl ?_ | refine R.lss rfl rfl ?_ | refine R.gtr rfl rfl ?_ | refine R.sub rfl rfl (by omega) ?_ | refine R.al rfl ?_ | refine R.stoB rfl rfl rfl rfl ⟨rfl, rfl, Nat.le_of_ble_eq_true rfl⟩ rfl ?_ | refine R.stoE _ rfl rfl rfl rfl rfl (by assumption) rfl ⟨rfl, rfl, Nat.le_of_ble_eq_true rfl⟩ ?_ | refine R.bld rfl rfl ?_ | refine R.condT rfl ?_ | refine R.condF rfl ?_ | refine R.callX (bor := false) [(pin 0, pin 0)] rfl b4 rfl rfl rfl rfl rfl ?_ | refine R.cond rfl (fun hc => ?_) (fun hc => ?_) | refine R.condN rfl (fun hc => ?_) (fun hc => ?_) | refine R.condB rfl (fun hc => ?_) (fun hc => ?_))
        all_goals first | (exfalso; omega) | (exfalso; exact absurd hidx (by assumption)) | (exfalso; exact absurd (by assumption) hidx) | skip
        refine R.regOB (⟨frE (enD k i), frO (obD a.l b.p b.s)⟩) ?_ ?_
        · repeat' (first | refine R.mv rfl ?_ | refine R.reg ?_ | refine R.tk ?_ | refine R.tkN ?_ | exact R.vac | refine R.both ?_ ?_ | refine R.nil ?_ | refine R.seq ?_ | refine R.nseq ?_ | refine R.nblk ?_ | refine R.skip ?_ | refine R.blk ?_ | refine R.exit rfl ?_ | refine R.ldEp rfl rfl (by assumption) rfl rfl ?_ | refine R.ldaEp rfl rfl (by assumption) (Nat.le_of_ble_eq_true rfl) rfl rfl ?_ | refine R.ld rfl rfl rfl ?_ | refine R.lda rfl rfl (Nat.le_of_ble_eq_true rfl) rfl ?_ | refine R.lss rfl rfl ?_ | refine R.gtr rfl rfl ?_ | refine R.sub rfl rfl (by omega) ?_ | refine R.al rfl ?_ | refine R.stoB rfl rfl rfl rfl ⟨rfl, rfl, Nat.le_of_ble_eq_true rfl⟩ rfl ?_ | refine R.stoE _ rfl rfl rfl rfl rfl (by assumption) rfl ⟨rfl, rfl, Nat.le_of_ble_eq_true rfl⟩ ?_ | refine R.bld rfl rfl ?_ | refine R.condT rfl ?_ | refine R.condF rfl ?_ | refine R.call (bor := false) rfl rfl (b6) rfl rfl rfl ?_ | refine R.call (bor := true) rfl rfl (b6) rfl rfl rfl ?_ | refine R.fcal (bor := false) rfl rfl (b6) rfl rfl rfl ?_ | refine R.fcal (bor := true) rfl rfl (b6) rfl rfl rfl ?_ | refine R.callX (bor := false) [(pin 0, pin 0)] rfl b5 rfl rfl rfl rfl rfl ?_ | refine R.cond rfl (fun hc => ?_) (fun hc => ?_) | refine R.condN rfl (fun hc => ?_) (fun hc => ?_) | refine R.condB rfl (fun hc => ?_) (fun hc => ?_))
          all_goals exact R.done (Weak.frame _ _ ⟨rfl, rfl, rfl, rfl, rfl, rfl, trivial⟩ ⟨rfl, rfl, rfl, rfl, rfl, trivial⟩ rfl rfl)
        repeat' (first | refine R.mv rfl ?_ | refine R.reg ?_ | refine R.tk ?_ | refine R.tkN ?_ | exact R.vac | refine R.both ?_ ?_ | refine R.nil ?_ | refine R.seq ?_ | refine R.nseq ?_ | refine R.nblk ?_ | refine R.skip ?_ | refine R.blk ?_ | refine R.exit rfl ?_ | refine R.ldEp rfl rfl (by assumption) rfl rfl ?_ | refine R.ldaEp rfl rfl (by assumption) (Nat.le_of_ble_eq_true rfl) rfl rfl ?_ | refine R.ld rfl rfl rfl ?_ | refine R.lda rfl rfl (Nat.le_of_ble_eq_true rfl) rfl ?_ | refine R.lss rfl rfl ?_ | refine R.gtr rfl rfl ?_ | refine R.sub rfl rfl (by omega) ?_ | refine R.al rfl ?_ | refine R.stoB rfl rfl rfl rfl ⟨rfl, rfl, Nat.le_of_ble_eq_true rfl⟩ rfl ?_ | refine R.stoE _ rfl rfl rfl rfl rfl (by assumption) rfl ⟨rfl, rfl, Nat.le_of_ble_eq_true rfl⟩ ?_ | refine R.bld rfl rfl ?_ | refine R.condT rfl ?_ | refine R.condF rfl ?_ | refine R.cond rfl (fun hc => ?_) (fun hc => ?_) | refine R.condN rfl (fun hc => ?_) (fun hc => ?_) | refine R.condB rfl (fun hc => ?_) (fun hc => ?_))
        all_goals first | (exfalso; omega) | (exfalso; exact absurd hidx (by assumption)) | (exfalso; exact absurd (by assumption) hidx) | skip
        exact R.nloop (R.again (i + 1) (by omega) (by omega) ⟨rfl, rfl, rfl, rfl, rfl, by rw [he]; rfl, trivial⟩ ⟨rfl, rfl, by rw [hb]; rfl, arr_eq (by rw [hb, hbl]), by rw [hb]; rfl, trivial⟩ rfl rfl)
      · subst hs1'
        repeat' (first | refine R.mv rfl ?_ | refine R.reg ?_ | refine R.tk ?_ | refine R.tkN ?_ | exact R.vac | refine R.both ?_ ?_ | refine R.nil ?_ | refine R.seq ?_ | refine R.nseq ?_ | refine R.nblk ?_ | refine R.skip ?_ | refine R.blk ?_ | refine R.exit rfl ?_ | refine R.ldEp rfl rfl (by assumption) rfl rfl ?_ | refine R.ldaEp rfl rfl (by assumption) (Nat.le_of_ble_eq_true rfl) rfl rfl ?_ | refine R.ld rfl rfl rfl ?_ | refine R.lda rfl rfl (Nat.le_of_ble_eq_true rfl) rfl ?_ | refine R.lss rfl rfl ?_ | refine R.gtr rfl rfl ?_ | refine R.sub rfl rfl (by omega) ?_ | refine R.al rfl ?_ | refine R.stoB rfl rfl rfl rfl ⟨rfl, rfl, Nat.le_of_ble_eq_true rfl⟩ rfl ?_ | refine R.stoE _ rfl rfl rfl rfl rfl (by assumption) rfl ⟨rfl, rfl, Nat.le_of_ble_eq_true rfl⟩ ?_ | refine R.bld rfl rfl ?_ | refine R.condT rfl ?_ | refine R.condF rfl ?_ | refine R.call (bor := false) rfl rfl (hI) rfl rfl rfl ?_ | refine R.call (bor := true) rfl rfl (hI) rfl rfl rfl ?_ | refine R.fcal (bor := false) rfl rfl (hI) rfl rfl rfl ?_ | refine R.fcal (bor := true) rfl rfl (hI) rfl rfl rfl ?_ | refine R.cond rfl (fun hc => ?_) (fun hc => ?_) | refine R.condN rfl (fun hc => ?_) (fun hc => ?_) | refine R.condB rfl (fun hc => ?_) (fun hc => ?_))
        all_goals first | (exfalso; omega) | (exfalso; exact absurd hidx (by assumption)) | (exfalso; exact absurd (by assumption) hidx) | skip
        refine R.regO (⟨frE (enD k i), frO (obD a.l p1 s2')⟩) ?_ ?_
        · repeat' (first | refine R.mv rfl ?_ | refine R.reg ?_ | refine R.tk ?_ | refine R.tkN ?_ | exact R.vac | refine R.both ?_ ?_ | refine R.nil ?_ | refine R.seq ?_ | refine R.nseq ?_ | refine R.nblk ?_ | refine R.skip ?_ | refine R.blk ?_ | refine R.exit rfl ?_ | refine R.ldEp rfl rfl (by assumption) rfl rfl ?_ | refine R.ldaEp rfl rfl (by assumption) (Nat.le_of_ble_eq_true rfl) rfl rfl ?_ | refine R.ld rfl rfl rfl ?_ | refine R.lda rfl rfl (Nat.le_of_ble_eq_true rfl) rfl ?_ | refine R.lss rfl rfl ?_ | refine R.gtr rfl rfl ?_ | refine R.sub rfl rfl (by omega) ?_ | refine R.al rfl ?_ | refine R.stoB rfl rfl rfl rfl ⟨rfl, rfl, Nat.le_of_ble_eq_true rfl⟩ rfl ?_ | refine R.stoE _ rfl rfl rfl rfl rfl (by assumption) rfl ⟨rfl, rfl, Nat.le_of_ble_eq_true rfl⟩ ?_ | refine R.bld rfl rfl ?_ | refine R.condT rfl ?_ | refine R.condF rfl ?_ | refine R.call (bor := false) rfl rfl (b3) rfl rfl rfl ?_ | refine R.call (bor := true) rfl rfl (b3) rfl rfl rfl ?_ | refine R.fcal (bor := false) rfl rfl (b3) rfl rfl rfl ?_ | refine R.fcal (bor := true) rfl rfl (b3) rfl rfl rfl ?_ | refine R.callX (bor := false) [(pin 0, pin 0)] rfl b2 rfl rfl rfl rfl rfl ?_ | refine R.cond rfl (fun hc => ?_) (fun hc => ?_) | refine R.condN rfl (fun hc => ?_) (fun hc => ?_) | refine R.condB rfl (fun hc => ?_) (fun hc => ?_))
          all_goals exact R.done (Weak.frame _ _ ⟨rfl, rfl, rfl, rfl, rfl, rfl, trivial⟩ ⟨rfl, rfl, rfl, rfl, rfl, trivial⟩ rfl rfl)
        repeat' (first | refine R.mv rfl ?_ | refine R.reg ?_ | refine R.tk ?_ | refine R.tkN ?_ | exact R.vac | refine R.both ?_ ?_ | refine R.nil ?_ | refine R.seq ?_ | refine R.nseq ?_ | refine R.nblk ?_ | refine R.skip ?_ | refine R.blk ?_ | refine R.exit rfl ?_ | refine R.ldEp rfl rfl (by assumption) rfl rfl ?_ | refine R.ldaEp rfl rfl (by assumption) (Nat.le_of_ble_eq_true rfl) rfl rfl ?_ | refine R.ld rfl rfl rfl ?_ | refine R.lda rfl rfl (Nat.le_of_ble_eq_true rfl) rfl ?_ | refine R.lss rfl rfl ?_ | refine R.gtr rfl rfl ?_ | refine R.sub rfl rfl (by omega) ?_ | refine R.al rfl ?_ | refine R.stoB rfl rfl rfl rfl ⟨rfl, rfl, Nat.le_of_ble_eq_true rfl⟩ rfl ?_ | refine R.stoE _ rfl rfl rfl rfl rfl (by assumption) rfl ⟨rfl, rfl, Nat.le_of_ble_eq_true rfl⟩ ?_ | refine R.bld rfl rfl ?_ | refine R.condT rfl ?_ | refine R.condF rfl ?_ | refine R.callX (bor := false) [(pin 0, pin 0)] rfl b4 rfl rfl rfl rfl rfl ?_ | refine R.cond rfl (fun hc => ?_) (fun hc => ?_) | refine R.condN rfl (fun hc => ?_) (fun hc => ?_) | refine R.condB rfl (fun hc => ?_) (fun hc => ?_))
        all_goals first | (exfalso; omega) | (exfalso; exact absurd hidx (by assumption)) | (exfalso; exact absurd (by assumption) hidx) | skip
        exact R.nloop (R.again (i + 1) (by omega) (by omega) ⟨rfl, rfl, rfl, rfl, rfl, by rw [he]; rfl, trivial⟩ ⟨rfl, rfl, by rw [hb, e2]; rfl, arr_eq (by rw [hb, hbl]), by rw [hb, e1]; rfl, trivial⟩ rfl rfl)
  obtain rfl : i = k := by omega
  repeat' (first | refine R.mv rfl ?_ | refine R.reg ?_ | refine R.tk ?_ | refine R.tkN ?_ | exact R.vac | refine R.both ?_ ?_ | refine R.nil ?_ | refine R.seq ?_ | refine R.nseq ?_ | refine R.nblk ?_ | refine R.skip ?_ | refine R.blk ?_ | refine R.exit rfl ?_ | refine R.ldEp rfl rfl (by assumption) rfl rfl ?_ | refine R.ldaEp rfl rfl (by assumption) (Nat.le_of_ble_eq_true rfl) rfl rfl ?_ | refine R.ld rfl rfl rfl ?_ | refine R.lda rfl rfl (Nat.le_of_ble_eq_true rfl) rfl ?_ | refine R.lss rfl rfl ?_ | refine R.gtr rfl rfl ?_ | refine R.sub rfl rfl (by omega) ?_ | refine R.al rfl ?_ | refine R.stoB rfl rfl rfl rfl ⟨rfl, rfl, Nat.le_of_ble_eq_true rfl⟩ rfl ?_ | refine R.stoE _ rfl rfl rfl rfl rfl (by assumption) rfl ⟨rfl, rfl, Nat.le_of_ble_eq_true rfl⟩ ?_ | refine R.bld rfl rfl ?_ | refine R.condT rfl ?_ | refine R.condF rfl ?_ | refine R.cond rfl (fun hc => ?_) (fun hc => ?_) | refine R.condN rfl (fun hc => ?_) (fun hc => ?_) | refine R.condB rfl (fun hc => ?_) (fun hc => ?_))
  all_goals first
    | (exfalso; omega)
    | exact R.ret ⟨.inr rfl, R.outR rfl (.cons (R.cell rfl rfl T.ty30 (Nat.le_of_ble_eq_true rfl) rfl) .nil) rfl rfl rfl rfl⟩
    | skip
theorem sBent (s : Src) (n : Int) (h : okSrc n s) (hn : n ≤ 400000000) : ∃ (l : List TPlaced) (s' : Src), l.length ≤ 600 ∧ okSrc (n + 300) s' ∧ SpecM Try.prog 39 [srcV] (srcOb s) (.v (.agg [.own 0])) (outA l s') := by
  obtain ⟨l, s1, hl, hs1, c1⟩ := sAsmDraw s n h (by omega)
  obtain ⟨t, s2, ht, hs2, c2⟩ := sPick s1 (n + 200) hs1 (by omega) 24
  by_cases h0 : t = 0
  · subst h0
    refine ⟨l ++ [⟨⟨-60, -60⟩, 0⟩], s2, by simp; omega, hs2.mono (by omega), ?_⟩
    refine SpecM.walk T.mixed Try.func39 S.ok39 (by simp [Try.f39]) fun hk' => ?_
    clear hk'
    unfold S.s39
    repeat' (first | refine R.mv rfl ?_ | refine R.reg ?_ | refine R.tk ?_ | refine R.tkN ?_ | exact R.vac | refine R.both ?_ ?_ | refine R.nil ?_ | refine R.seq ?_ | refine R.nseq ?_ | refine R.nblk ?_ | refine R.skip ?_ | refine R.blk ?_ | refine R.exit rfl ?_ | refine R.ldEp rfl rfl (by assumption) rfl rfl ?_ | refine R.ldaEp rfl rfl (by assumption) (Nat.le_of_ble_eq_true rfl) rfl rfl ?_ | refine R.ld rfl rfl rfl ?_ | refine R.lda rfl rfl (Nat.le_of_ble_eq_true rfl) rfl ?_ | refine R.fa rfl rfl ?_ | refine R.eql rfl rfl ?_ | refine R.al rfl ?_ | refine R.stoB rfl rfl rfl rfl ⟨rfl, rfl, Nat.le_of_ble_eq_true rfl⟩ rfl ?_ | refine R.stoE _ rfl rfl rfl rfl rfl (by assumption) rfl ⟨rfl, rfl, Nat.le_of_ble_eq_true rfl⟩ ?_ | refine R.bld rfl rfl ?_ | refine R.condT rfl ?_ | refine R.condF rfl ?_ | refine R.callX (bor := false) [(pin 0, pin 0)] rfl c1 rfl rfl rfl rfl rfl ?_ | refine R.callX (bor := false) [(pin 0, pin 0)] rfl c2 rfl rfl rfl rfl rfl ?_ | refine R.bsl (f := enPlaced) [⟨⟨-60, -60⟩, 0⟩] rfl rfl rfl rfl rfl ?_ | refine R.app (f := enPlaced) (fun _ => rfl) rfl rfl rfl rfl rfl ⟨by simp only [List.length_singleton]; omega, by simp only [List.length_singleton]; omega⟩ ?_ | refine R.cond rfl (fun hc => ?_) (fun hc => ?_) | refine R.condN rfl (fun hc => ?_) (fun hc => ?_) | refine R.condB rfl (fun hc => ?_) (fun hc => ?_))
    all_goals first | (exfalso; omega) | exact R.ret ⟨.inr rfl, R.outR rfl (.cons (R.cell rfl rfl T.ty30 (Nat.le_of_ble_eq_true rfl) rfl) .nil) rfl rfl rfl rfl⟩ | skip
  by_cases h1 : t = 1
  · subst h1
    obtain ⟨v, s3, hv, hs3, c3⟩ := sAmong s2 (n + 202) (hs2.mono (by omega)) (by omega) [-1, 0, 159, 160, -9223372036854775808] (by decide)
    refine ⟨l ++ [⟨⟨60, 60⟩, v⟩], s3, by simp; omega, hs3.mono (by omega), ?_⟩
    refine SpecM.walk T.mixed Try.func39 S.ok39 (by simp [Try.f39]) fun hk' => ?_
    clear hk'
    unfold S.s39
    repeat' (first | refine R.mv rfl ?_ | refine R.reg ?_ | refine R.tk ?_ | refine R.tkN ?_ | exact R.vac | refine R.both ?_ ?_ | refine R.nil ?_ | refine R.seq ?_ | refine R.nseq ?_ | refine R.nblk ?_ | refine R.skip ?_ | refine R.blk ?_ | refine R.exit rfl ?_ | refine R.ldEp rfl rfl (by assumption) rfl rfl ?_ | refine R.ldaEp rfl rfl (by assumption) (Nat.le_of_ble_eq_true rfl) rfl rfl ?_ | refine R.ld rfl rfl rfl ?_ | refine R.lda rfl rfl (Nat.le_of_ble_eq_true rfl) rfl ?_ | refine R.fa rfl rfl ?_ | refine R.eql rfl rfl ?_ | refine R.al rfl ?_ | refine R.stoB rfl rfl rfl rfl ⟨rfl, rfl, Nat.le_of_ble_eq_true rfl⟩ rfl ?_ | refine R.stoE _ rfl rfl rfl rfl rfl (by assumption) rfl ⟨rfl, rfl, Nat.le_of_ble_eq_true rfl⟩ ?_ | refine R.bld rfl rfl ?_ | refine R.condT rfl ?_ | refine R.condF rfl ?_ | refine R.callX (bor := false) [(pin 0, pin 0)] rfl c1 rfl rfl rfl rfl rfl ?_ | refine R.callX (bor := false) [(pin 0, pin 0)] rfl c2 rfl rfl rfl rfl rfl ?_ | refine R.cond rfl (fun hc => ?_) (fun hc => ?_) | refine R.condN rfl (fun hc => ?_) (fun hc => ?_) | refine R.condB rfl (fun hc => ?_) (fun hc => ?_))
    all_goals first | (exfalso; omega) | skip
    refine R.regOB (⟨frE [(2, .v (.c (.ptr 2 0))), (3, .v (.c (.ptr 3 0)))], frO ((2, .box 30 [nilB]) :: (3, .box 30 [.own 7000]) :: (7000, .arr kPlaced ((l ++ [(⟨⟨60, 60⟩, v⟩ : TPlaced)]).map enPlaced) []) :: srcOb s3)⟩) ?_ ?_
    · repeat' (first | refine R.mv rfl ?_ | refine R.reg ?_ | refine R.tk ?_ | refine R.tkN ?_ | exact R.vac | refine R.both ?_ ?_ | refine R.nil ?_ | refine R.seq ?_ | refine R.nseq ?_ | refine R.nblk ?_ | refine R.skip ?_ | refine R.blk ?_ | refine R.exit rfl ?_ | refine R.ldEp rfl rfl (by assumption) rfl rfl ?_ | refine R.ldaEp rfl rfl (by assumption) (Nat.le_of_ble_eq_true rfl) rfl rfl ?_ | refine R.ld rfl rfl rfl ?_ | refine R.lda rfl rfl (Nat.le_of_ble_eq_true rfl) rfl ?_ | refine R.fa rfl rfl ?_ | refine R.eql rfl rfl ?_ | refine R.al rfl ?_ | refine R.stoB rfl rfl rfl rfl ⟨rfl, rfl, Nat.le_of_ble_eq_true rfl⟩ rfl ?_ | refine R.stoE _ rfl rfl rfl rfl rfl (by assumption) rfl ⟨rfl, rfl, Nat.le_of_ble_eq_true rfl⟩ ?_ | refine R.bld rfl rfl ?_ | refine R.condT rfl ?_ | refine R.condF rfl ?_ | refine R.weak (Weak.freeze 23 rfl rfl) (R.callX (bor := false) [(pin 0, pin 0)] rfl c3 rfl rfl rfl rfl rfl ?_) | refine R.bsl (f := fun n => [iD n]) [-1, 0, 159, 160, -9223372036854775808] rfl rfl rfl rfl rfl ?_ | refine R.bsl (f := enPlaced) [⟨⟨60, 60⟩, v⟩] rfl rfl rfl rfl rfl ?_ | refine R.app (f := enPlaced) (fun _ => rfl) rfl rfl rfl rfl rfl ⟨by simp only [List.length_singleton]; omega, by simp only [List.length_singleton]; omega⟩ ?_ | refine R.cond rfl (fun hc => ?_) (fun hc => ?_) | refine R.condN rfl (fun hc => ?_) (fun hc => ?_) | refine R.condB rfl (fun hc => ?_) (fun hc => ?_))
      all_goals exact R.done (Weak.frame _ _ ⟨rfl, rfl, trivial⟩ ⟨rfl, rfl, rfl, rfl, trivial⟩ rfl rfl)
    repeat' (first | refine R.mv rfl ?_ | refine R.reg ?_ | refine R.tk ?_ | refine R.tkN ?_ | exact R.vac | refine R.both ?_ ?_ | refine R.nil ?_ | refine R.seq ?_ | refine R.nseq ?_ | refine R.nblk ?_ | refine R.skip ?_ | refine R.blk ?_ | refine R.exit rfl ?_ | refine R.ldEp rfl rfl (by assumption) rfl rfl ?_ | refine R.ldaEp rfl rfl (by assumption) (Nat.le_of_ble_eq_true rfl) rfl rfl ?_ | refine R.ld rfl rfl rfl ?_ | refine R.lda rfl rfl (Nat.le_of_ble_eq_true rfl) rfl ?_ | refine R.fa rfl rfl ?_ | refine R.eql rfl rfl ?_ | refine R.al rfl ?_ | refine R.stoB rfl rfl rfl rfl ⟨rfl, rfl, Nat.le_of_ble_eq_true rfl⟩ rfl ?_ | refine R.stoE _ rfl rfl rfl rfl rfl (by assumption) rfl ⟨rfl, rfl, Nat.le_of_ble_eq_true rfl⟩ ?_ | refine R.bld rfl rfl ?_ | refine R.condT rfl ?_ | refine R.condF rfl ?_ | refine R.cond rfl (fun hc => ?_) (fun hc => ?_) | refine R.condN rfl (fun hc => ?_) (fun hc => ?_) | refine R.condB rfl (fun hc => ?_) (fun hc => ?_))
    all_goals first | (exfalso; omega) | exact R.ret ⟨.inr rfl, R.outR rfl (.cons (R.cell rfl rfl T.ty30 (Nat.le_of_ble_eq_true rfl) rfl) .nil) rfl rfl rfl rfl⟩ | skip
  by_cases h2 : t = 2
  · subst h2
    obtain ⟨v, s3, hv, hs3, c3⟩ := sAmong s2 (n + 202) (hs2.mono (by omega)) (by omega) [60, 61, 9223372036854775807] (by decide)
    refine ⟨l ++ [⟨⟨v, 60⟩, 0⟩], s3, by simp; omega, hs3.mono (by omega), ?_⟩
    refine SpecM.walk T.mixed Try.func39 S.ok39 (by simp [Try.f39]) fun hk' => ?_
    clear hk'
    unfold S.s39
    repeat' (first | refine R.mv rfl ?_ | refine R.reg ?_ | refine R.tk ?_ | refine R.tkN ?_ | exact R.vac | refine R.both ?_ ?_ | refine R.nil ?_ | refine R.seq ?_ | refine R.nseq ?_ | refine R.nblk ?_ | refine R.skip ?_ | refine R.blk ?_ | refine R.exit rfl ?_ | refine R.ldEp rfl rfl (by assumption) rfl rfl ?_ | refine R.ldaEp rfl rfl (by assumption) (Nat.le_of_ble_eq_true rfl) rfl rfl ?_ | refine R.ld rfl rfl rfl ?_ | refine R.lda rfl rfl (Nat.le_of_ble_eq_true rfl) rfl ?_ | refine R.fa rfl rfl ?_ | refine R.eql rfl rfl ?_ | refine R.al rfl ?_ | refine R.stoB rfl rfl rfl rfl ⟨rfl, rfl, Nat.le_of_ble_eq_true rfl⟩ rfl ?_ | refine R.stoE _ rfl rfl rfl rfl rfl (by assumption) rfl ⟨rfl, rfl, Nat.le_of_ble_eq_true rfl⟩ ?_ | refine R.bld rfl rfl ?_ | refine R.condT rfl ?_ | refine R.condF rfl ?_ | refine R.callX (bor := false) [(pin 0, pin 0)] rfl c1 rfl rfl rfl rfl rfl ?_ | refine R.callX (bor := false) [(pin 0, pin 0)] rfl c2 rfl rfl rfl rfl rfl ?_ | refine R.cond rfl (fun hc => ?_) (fun hc => ?_) | refine R.condN rfl (fun hc => ?_) (fun hc => ?_) | refine R.condB rfl (fun hc => ?_) (fun hc => ?_))
    all_goals first | (exfalso; omega) | skip
    refine R.regOB (⟨frE [(2, .v (.c (.ptr 2 0))), (3, .v (.c (.ptr 3 0)))], frO ((2, .box 30 [nilB]) :: (3, .box 30 [.own 7000]) :: (7000, .arr kPlaced ((l ++ [(⟨⟨v, 60⟩, 0⟩ : TPlaced)]).map enPlaced) []) :: srcOb s3)⟩) ?_ ?_
    · repeat' (first | refine R.mv rfl ?_ | refine R.reg ?_ | refine R.tk ?_ | refine R.tkN ?_ | exact R.vac | refine R.both ?_ ?_ | refine R.nil ?_ | refine R.seq ?_ | refine R.nseq ?_ | refine R.nblk ?_ | refine R.skip ?_ | refine R.blk ?_ | refine R.exit rfl ?_ | refine R.ldEp rfl rfl (by assumption) rfl rfl ?_ | refine R.ldaEp rfl rfl (by assumption) (Nat.le_of_ble_eq_true rfl) rfl rfl ?_ | refine R.ld rfl rfl rfl ?_ | refine R.lda rfl rfl (Nat.le_of_ble_eq_true rfl) rfl ?_ | refine R.fa rfl rfl ?_ | refine R.eql rfl rfl ?_ | refine R.al rfl ?_ | refine R.stoB rfl rfl rfl rfl ⟨rfl, rfl, Nat.le_of_ble_eq_true rfl⟩ rfl ?_ | refine R.stoE _ rfl rfl rfl rfl rfl (by assumption) rfl ⟨rfl, rfl, Nat.le_of_ble_eq_true rfl⟩ ?_ | refine R.bld rfl rfl ?_ | refine R.condT rfl ?_ | refine R.condF rfl ?_ | refine R.weak (Weak.freeze 34 rfl rfl) (R.callX (bor := false) [(pin 0, pin 0)] rfl c3 rfl rfl rfl rfl rfl ?_) | refine R.bsl (f := fun n => [iD n]) [60, 61, 9223372036854775807] rfl rfl rfl rfl rfl ?_ | refine R.bsl (f := enPlaced) [⟨⟨v, 60⟩, 0⟩] rfl rfl rfl rfl rfl ?_ | refine R.app (f := enPlaced) (fun _ => rfl) rfl rfl rfl rfl rfl ⟨by simp only [List.length_singleton]; omega, by simp only [List.length_singleton]; omega⟩ ?_ | refine R.cond rfl (fun hc => ?_) (fun hc => ?_) | refine R.condN rfl (fun hc => ?_) (fun hc => ?_) | refine R.condB rfl (fun hc => ?_) (fun hc => ?_))
      all_goals exact R.done (Weak.frame _ _ ⟨rfl, rfl, trivial⟩ ⟨rfl, rfl, rfl, rfl, trivial⟩ rfl rfl)
    repeat' (first | refine R.mv rfl ?_ | refine R.reg ?_ | refine R.tk ?_ | refine R.tkN ?_ | exact R.vac | refine R.both ?_ ?_ | refine R.nil ?_ | refine R.seq ?_ | refine R.nseq ?_ | refine R.nblk ?_ | refine R.skip ?_ | refine R.blk ?_ | refine R.exit rfl ?_ | refine R.ldEp rfl rfl (by assumption) rfl rfl ?_ | refine R.ldaEp rfl rfl (by assumption) (Nat.le_of_ble_eq_true rfl) rfl rfl ?_ | refine R.ld rfl rfl rfl ?_ | refine R.lda rfl rfl (Nat.le_of_ble_eq_true rfl) rfl ?_ | refine R.fa rfl rfl ?_ | refine R.eql rfl rfl ?_ | refine R.al rfl ?_ | refine R.stoB rfl rfl rfl rfl ⟨rfl, rfl, Nat.le_of_ble_eq_true rfl⟩ rfl ?_ | refine R.stoE _ rfl rfl rfl rfl rfl (by assumption) rfl ⟨rfl, rfl, Nat.le_of_ble_eq_true rfl⟩ ?_ | refine R.bld rfl rfl ?_ | refine R.condT rfl ?_ | refine R.condF rfl ?_ | refine R.cond rfl (fun hc => ?_) (fun hc => ?_) | refine R.condN rfl (fun hc => ?_) (fun hc => ?_) | refine R.condB rfl (fun hc => ?_) (fun hc => ?_))
    all_goals first | (exfalso; omega) | exact R.ret ⟨.inr rfl, R.outR rfl (.cons (R.cell rfl rfl T.ty30 (Nat.le_of_ble_eq_true rfl) rfl) .nil) rfl rfl rfl rfl⟩ | skip
  by_cases h3 : t = 3
  · subst h3
    obtain ⟨m, s3, hm, hs3, c3⟩ := sFull s2 (n + 202) (hs2.mono (by omega)) (by omega)
    refine ⟨m, s3, hm, hs3.mono (by omega), ?_⟩
    refine SpecM.walk T.mixed Try.func39 S.ok39 (by simp [Try.f39]) fun hk' => ?_
    clear hk'
    unfold S.s39
    repeat' (first | refine R.mv rfl ?_ | refine R.reg ?_ | refine R.tk ?_ | refine R.tkN ?_ | exact R.vac | refine R.both ?_ ?_ | refine R.nil ?_ | refine R.seq ?_ | refine R.nseq ?_ | refine R.nblk ?_ | refine R.skip ?_ | refine R.blk ?_ | refine R.exit rfl ?_ | refine R.ldEp rfl rfl (by assumption) rfl rfl ?_ | refine R.ldaEp rfl rfl (by assumption) (Nat.le_of_ble_eq_true rfl) rfl rfl ?_ | refine R.ld rfl rfl rfl ?_ | refine R.lda rfl rfl (Nat.le_of_ble_eq_true rfl) rfl ?_ | refine R.fa rfl rfl ?_ | refine R.eql rfl rfl ?_ | refine R.al rfl ?_ | refine R.stoB rfl rfl rfl rfl ⟨rfl, rfl, Nat.le_of_ble_eq_true rfl⟩ rfl ?_ | refine R.stoE _ rfl rfl rfl rfl rfl (by assumption) rfl ⟨rfl, rfl, Nat.le_of_ble_eq_true rfl⟩ ?_ | refine R.bld rfl rfl ?_ | refine R.condT rfl ?_ | refine R.condF rfl ?_ | refine R.callX (bor := false) [(pin 0, pin 0)] rfl c1 rfl rfl rfl rfl rfl ?_ | refine R.callX (bor := false) [(pin 0, pin 0)] rfl c2 rfl rfl rfl rfl rfl ?_ | refine R.callX (bor := false) [(pin 0, pin 0)] rfl c3 rfl rfl rfl rfl rfl ?_ | refine R.cond rfl (fun hc => ?_) (fun hc => ?_) | refine R.condN rfl (fun hc => ?_) (fun hc => ?_) | refine R.condB rfl (fun hc => ?_) (fun hc => ?_))
    all_goals first | (exfalso; omega) | exact R.ret ⟨.inr rfl, R.outR rfl (.cons (R.cell rfl rfl T.ty30 (Nat.le_of_ble_eq_true rfl) rfl) .nil) rfl rfl rfl rfl⟩ | skip
  refine ⟨l, s2, by omega, hs2.mono (by omega), ?_⟩
  refine SpecM.walk T.mixed Try.func39 S.ok39 (by simp [Try.f39]) fun hk' => ?_
  clear hk'
  unfold S.s39
  repeat' (first | refine R.mv rfl ?_ | refine R.reg ?_ | refine R.tk ?_ | refine R.tkN ?_ | exact R.vac | refine R.both ?_ ?_ | refine R.nil ?_ | refine R.seq ?_ | refine R.nseq ?_ | refine R.nblk ?_ | refine R.skip ?_ | refine R.blk ?_ | refine R.exit rfl ?_ | refine R.ldEp rfl rfl (by assumption) rfl rfl ?_ | refine R.ldaEp rfl rfl (by assumption) (Nat.le_of_ble_eq_true rfl) rfl rfl ?_ | refine R.ld rfl rfl rfl ?_ | refine R.lda rfl rfl (Nat.le_of_ble_eq_true rfl) rfl ?_ | refine R.fa rfl rfl ?_ | refine R.eql rfl rfl ?_ | refine R.al rfl ?_ | refine R.stoB rfl rfl rfl rfl ⟨rfl, rfl, Nat.le_of_ble_eq_true rfl⟩ rfl ?_ | refine R.stoE _ rfl rfl rfl rfl rfl (by assumption) rfl ⟨rfl, rfl, Nat.le_of_ble_eq_true rfl⟩ ?_ | refine R.bld rfl rfl ?_ | refine R.condT rfl ?_ | refine R.condF rfl ?_ | refine R.callX (bor := false) [(pin 0, pin 0)] rfl c1 rfl rfl rfl rfl rfl ?_ | refine R.callX (bor := false) [(pin 0, pin 0)] rfl c2 rfl rfl rfl rfl rfl ?_ | refine R.cond rfl (fun hc => ?_) (fun hc => ?_) | refine R.condN rfl (fun hc => ?_) (fun hc => ?_) | refine R.condB rfl (fun hc => ?_) (fun hc => ?_))
  all_goals first | (exfalso; omega) | exact R.ret ⟨.inr rfl, R.outR rfl (.cons (R.cell rfl rfl T.ty30 (Nat.le_of_ble_eq_true rfl) rfl) .nil) rfl rfl rfl rfl⟩ | skip
theorem sNear (A : TAssembly) (s : Src) (n : Int) (h : okSrc n s) (hn : n ≤ 400000000) (hl : A.fTiles.length ≤ 600) : ∃ (q : TPoint) (s' : Src), okSrc (n + 20) s' ∧ SpecM Try.prog 40 [srcV, .c (.d (.rp (enAssembly A)))] (srcOb s) (oPt q).av (srcOb s') := by
  by_cases h0 : A.fTiles.length = 0
  · obtain ⟨q, s1, hs1, c1⟩ := sDrawPoint s n h (by omega)
    refine ⟨q, s1, hs1.mono (by omega), ?_⟩
    refine SpecM.walk T.mixed Try.func40 S.ok40 (by simp [Try.f40]) fun hk' => ?_
    clear hk'
    unfold S.s40
    repeat' (first | refine R.mv rfl ?_ | refine R.reg ?_ | refine R.tk ?_ | refine R.tkN ?_ | exact R.vac | refine R.both ?_ ?_ | refine R.nil ?_ | refine R.seq ?_ | refine R.nseq ?_ | refine R.nblk ?_ | refine R.skip ?_ | refine R.blk ?_ | refine R.exit rfl ?_ | refine R.gRun rfl ?_ | refine R.gSkip rfl ?_ | refine R.gSkip0 rfl ?_ | refine R.gUndef rfl ?_ | refine R.gUndef0 rfl ?_ | refine R.ldEp rfl rfl (by assumption) rfl rfl ?_ | refine R.ldaEp rfl rfl (by assumption) (Nat.le_of_ble_eq_true rfl) rfl rfl ?_ | refine R.ld rfl rfl rfl ?_ | refine R.lda rfl rfl (Nat.le_of_ble_eq_true rfl) rfl ?_ | refine R.fa rfl rfl ?_ | refine R.lenM rfl ?_ | refine R.lenO rfl rfl ?_ | refine R.len rfl rfl ?_ | refine R.eql rfl rfl ?_ | refine R.ixN rfl rfl rfl (by omega) (fun a ha => ?_) | refine R.ixM rfl rfl rfl (by omega) (fun a ha => ?_) | refine R.ixON rfl rfl rfl (by first | omega | (simp; omega)) (fun a' ha' => ?_) | refine R.ixO rfl rfl rfl (by first | omega | (simp; omega)) (fun a' ha' => ?_) | refine R.pickT rfl rfl ?_ | refine R.pickF rfl rfl ?_ | refine R.nc rfl rfl ?_ | refine R.nc0 rfl rfl ?_ | refine R.al rfl ?_ | refine R.stoB rfl rfl rfl rfl ⟨rfl, rfl, Nat.le_of_ble_eq_true rfl⟩ rfl ?_ | refine R.stoE _ rfl rfl rfl rfl rfl (by assumption) rfl ⟨rfl, rfl, Nat.le_of_ble_eq_true rfl⟩ ?_ | refine R.condT rfl ?_ | refine R.condF rfl ?_ | refine R.callX (bor := false) [(pin 0, pin 0)] rfl c1 rfl rfl rfl rfl rfl ?_ | refine R.cond rfl (fun hc => ?_) (fun hc => ?_) | refine R.condN rfl (fun hc => ?_) (fun hc => ?_) | refine R.condB rfl (fun hc => ?_) (fun hc => ?_) | refine R.gP rfl (fun hc => ?_) (fun hc => ?_) | refine R.gN rfl (fun hc => ?_) (fun hc => ?_) | refine R.gB rfl (fun hc => ?_) (fun hc => ?_))
    all_goals first | (exfalso; omega) | exact R.ret ⟨.inr rfl, R.outR rfl (.cons (R.cell rfl rfl T.ty34 (Nat.le_of_ble_eq_true rfl) rfl) .nil) rfl rfl rfl rfl⟩ | skip
  obtain ⟨b, s1, hs1, c1⟩ := sOne s n h (by omega) 6
  cases b
  case true =>
    obtain ⟨q, s2, hs2, c2⟩ := sDrawPoint s1 (n + 2) hs1 (by omega)
    refine ⟨q, s2, hs2.mono (by omega), ?_⟩
    refine SpecM.walk T.mixed Try.func40 S.ok40 (by simp [Try.f40]) fun hk' => ?_
    clear hk'
    unfold S.s40
    repeat' (first | refine R.mv rfl ?_ | refine R.reg ?_ | refine R.tk ?_ | refine R.tkN ?_ | exact R.vac | refine R.both ?_ ?_ | refine R.nil ?_ | refine R.seq ?_ | refine R.nseq ?_ | refine R.nblk ?_ | refine R.skip ?_ | refine R.blk ?_ | refine R.exit rfl ?_ | refine R.gRun rfl ?_ | refine R.gSkip rfl ?_ | refine R.gSkip0 rfl ?_ | refine R.gUndef rfl ?_ | refine R.gUndef0 rfl ?_ | refine R.ldEp rfl rfl (by assumption) rfl rfl ?_ | refine R.ldaEp rfl rfl (by assumption) (Nat.le_of_ble_eq_true rfl) rfl rfl ?_ | refine R.ld rfl rfl rfl ?_ | refine R.lda rfl rfl (Nat.le_of_ble_eq_true rfl) rfl ?_ | refine R.fa rfl rfl ?_ | refine R.lenM rfl ?_ | refine R.lenO rfl rfl ?_ | refine R.len rfl rfl ?_ | refine R.eql rfl rfl ?_ | refine R.ixN rfl rfl rfl (by omega) (fun a ha => ?_) | refine R.ixM rfl rfl rfl (by omega) (fun a ha => ?_) | refine R.ixON rfl rfl rfl (by first | omega | (simp; omega)) (fun a' ha' => ?_) | refine R.ixO rfl rfl rfl (by first | omega | (simp; omega)) (fun a' ha' => ?_) | refine R.pickT rfl rfl ?_ | refine R.pickF rfl rfl ?_ | refine R.nc rfl rfl ?_ | refine R.nc0 rfl rfl ?_ | refine R.al rfl ?_ | refine R.stoB rfl rfl rfl rfl ⟨rfl, rfl, Nat.le_of_ble_eq_true rfl⟩ rfl ?_ | refine R.stoE _ rfl rfl rfl rfl rfl (by assumption) rfl ⟨rfl, rfl, Nat.le_of_ble_eq_true rfl⟩ ?_ | refine R.condT rfl ?_ | refine R.condF rfl ?_ | refine R.callX (bor := false) [(pin 0, pin 0)] rfl c1 rfl rfl rfl rfl rfl ?_ | refine R.callX (bor := false) [(pin 0, pin 0)] rfl c2 rfl rfl rfl rfl rfl ?_ | refine R.cond rfl (fun hc => ?_) (fun hc => ?_) | refine R.condN rfl (fun hc => ?_) (fun hc => ?_) | refine R.condB rfl (fun hc => ?_) (fun hc => ?_) | refine R.gP rfl (fun hc => ?_) (fun hc => ?_) | refine R.gN rfl (fun hc => ?_) (fun hc => ?_) | refine R.gB rfl (fun hc => ?_) (fun hc => ?_))
    all_goals first | (exfalso; omega) | exact R.ret ⟨.inr rfl, R.outR rfl (.cons (R.cell rfl rfl T.ty34 (Nat.le_of_ble_eq_true rfl) rfl) .nil) rfl rfl rfl rfl⟩ | skip
  obtain ⟨j, s2, hj, hs2, c2⟩ := sPick s1 (n + 2) hs1 (by omega) A.fTiles.length
  obtain ⟨k, rfl⟩ : ∃ k : Nat, j = k := ⟨j.toNat, by omega⟩
  obtain ⟨x, hx⟩ : ∃ x, A.fTiles[k]? = some x := ⟨_, List.getElem?_eq_getElem (by omega)⟩
  obtain ⟨b, s3, hs3, c3⟩ := sOne s2 (n + 4) (hs2.mono (by omega)) (by omega) 2
  have hmid : True := trivial
  cases b
  case false =>
    refine ⟨x.fAt, s3, hs3.mono (by omega), ?_⟩
    refine SpecM.walk T.mixed Try.func40 S.ok40 (by simp [Try.f40]) fun hk' => ?_
    clear hk'
    unfold S.s40
    repeat' (first | refine R.mv rfl ?_ | refine R.reg ?_ | refine R.tk ?_ | refine R.tkN ?_ | exact R.vac | refine R.both ?_ ?_ | refine R.nil ?_ | refine R.seq ?_ | refine R.nseq ?_ | refine R.nblk ?_ | refine R.skip ?_ | refine R.blk ?_ | refine R.exit rfl ?_ | refine R.gRun rfl ?_ | refine R.gSkip rfl ?_ | refine R.gSkip0 rfl ?_ | refine R.gUndef rfl ?_ | refine R.gUndef0 rfl ?_ | refine R.ldEp rfl rfl (by assumption) rfl rfl ?_ | refine R.ldaEp rfl rfl (by assumption) (Nat.le_of_ble_eq_true rfl) rfl rfl ?_ | refine R.ld rfl rfl rfl ?_ | refine R.lda rfl rfl (Nat.le_of_ble_eq_true rfl) rfl ?_ | refine R.fa rfl rfl ?_ | refine R.lenM rfl ?_ | refine R.lenO rfl rfl ?_ | refine R.len rfl rfl ?_ | refine R.eql rfl rfl ?_ | refine R.ixN rfl rfl rfl (by omega) (fun a ha => ?_) | refine R.ixM rfl rfl rfl (by omega) (fun a ha => ?_) | refine R.ixON rfl rfl rfl (by first | omega | (simp; omega)) (fun a' ha' => ?_) | refine R.ixO rfl rfl rfl (by first | omega | (simp; omega)) (fun a' ha' => ?_) | refine R.pickT rfl rfl ?_ | refine R.pickF rfl rfl ?_ | refine R.nc rfl rfl ?_ | refine R.nc0 rfl rfl ?_ | refine R.al rfl ?_ | refine R.stoB rfl rfl rfl rfl ⟨rfl, rfl, Nat.le_of_ble_eq_true rfl⟩ rfl ?_ | refine R.stoE _ rfl rfl rfl rfl rfl (by assumption) rfl ⟨rfl, rfl, Nat.le_of_ble_eq_true rfl⟩ ?_ | refine R.condT rfl ?_ | refine R.condF rfl ?_ | refine R.callX (bor := false) [(pin 0, pin 0)] rfl c1 rfl rfl rfl rfl rfl ?_ | refine R.cond rfl (fun hc => ?_) (fun hc => ?_) | refine R.condN rfl (fun hc => ?_) (fun hc => ?_) | refine R.condB rfl (fun hc => ?_) (fun hc => ?_) | refine R.gP rfl (fun hc => ?_) (fun hc => ?_) | refine R.gN rfl (fun hc => ?_) (fun hc => ?_) | refine R.gB rfl (fun hc => ?_) (fun hc => ?_))
    all_goals first | (exfalso; omega) | skip
    refine R.regO (⟨frE [(0, .v srcV), (4, .v (.c (.ptr 4 0))), (5, .v (.c (.ptr 5 0)))], frO ((4, .box 34 [.d (iD 0), .d (iD 0)]) :: (5, .box 34 ((enPoint x.fAt).map B.d)) :: srcOb s2)⟩) ?_ ?_
    · repeat' (first | refine R.ixK x hx rfl rfl rfl ?_ | refine R.mv rfl ?_ | refine R.reg ?_ | refine R.tk ?_ | refine R.tkN ?_ | exact R.vac | refine R.both ?_ ?_ | refine R.nil ?_ | refine R.seq ?_ | refine R.nseq ?_ | refine R.nblk ?_ | refine R.skip ?_ | refine R.blk ?_ | refine R.exit rfl ?_ | refine R.gRun rfl ?_ | refine R.gSkip rfl ?_ | refine R.gSkip0 rfl ?_ | refine R.gUndef rfl ?_ | refine R.gUndef0 rfl ?_ | refine R.ldEp rfl rfl (by assumption) rfl rfl ?_ | refine R.ldaEp rfl rfl (by assumption) (Nat.le_of_ble_eq_true rfl) rfl rfl ?_ | refine R.ld rfl rfl rfl ?_ | refine R.lda rfl rfl (Nat.le_of_ble_eq_true rfl) rfl ?_ | refine R.fa rfl rfl ?_ | refine R.lenM rfl ?_ | refine R.lenO rfl rfl ?_ | refine R.len rfl rfl ?_ | refine R.eql rfl rfl ?_ | refine R.ixN rfl rfl rfl (by omega) (fun a ha => ?_) | refine R.ixM rfl rfl rfl (by omega) (fun a ha => ?_) | refine R.ixON rfl rfl rfl (by first | omega | (simp; omega)) (fun a' ha' => ?_) | refine R.ixO rfl rfl rfl (by first | omega | (simp; omega)) (fun a' ha' => ?_) | refine R.pickT rfl rfl ?_ | refine R.pickF rfl rfl ?_ | refine R.nc rfl rfl ?_ | refine R.nc0 rfl rfl ?_ | refine R.al rfl ?_ | refine R.stoB rfl rfl rfl rfl ⟨rfl, rfl, Nat.le_of_ble_eq_true rfl⟩ rfl ?_ | refine R.stoE _ rfl rfl rfl rfl rfl (by assumption) rfl ⟨rfl, rfl, Nat.le_of_ble_eq_true rfl⟩ ?_ | refine R.condT rfl ?_ | refine R.condF rfl ?_ | refine R.callX (bor := false) [(pin 0, pin 0)] rfl c2 rfl rfl rfl rfl rfl ?_ | refine R.cond rfl (fun hc => ?_) (fun hc => ?_) | refine R.condN rfl (fun hc => ?_) (fun hc => ?_) | refine R.condB rfl (fun hc => ?_) (fun hc => ?_) | refine R.gP rfl (fun hc => ?_) (fun hc => ?_) | refine R.gN rfl (fun hc => ?_) (fun hc => ?_) | refine R.gB rfl (fun hc => ?_) (fun hc => ?_))
      all_goals exact R.done (Weak.frame _ _ ⟨rfl, rfl, rfl, trivial⟩ ⟨rfl, rfl, rfl, trivial⟩ rfl rfl)
    repeat' (first | refine R.mv rfl ?_ | refine R.reg ?_ | refine R.tk ?_ | refine R.tkN ?_ | exact R.vac | refine R.both ?_ ?_ | refine R.nil ?_ | refine R.seq ?_ | refine R.nseq ?_ | refine R.nblk ?_ | refine R.skip ?_ | refine R.blk ?_ | refine R.exit rfl ?_ | refine R.gRun rfl ?_ | refine R.gSkip rfl ?_ | refine R.gSkip0 rfl ?_ | refine R.gUndef rfl ?_ | refine R.gUndef0 rfl ?_ | refine R.ldEp rfl rfl (by assumption) rfl rfl ?_ | refine R.ldaEp rfl rfl (by assumption) (Nat.le_of_ble_eq_true rfl) rfl rfl ?_ | refine R.ld rfl rfl rfl ?_ | refine R.lda rfl rfl (Nat.le_of_ble_eq_true rfl) rfl ?_ | refine R.fa rfl rfl ?_ | refine R.lenM rfl ?_ | refine R.lenO rfl rfl ?_ | refine R.len rfl rfl ?_ | refine R.eql rfl rfl ?_ | refine R.ixN rfl rfl rfl (by omega) (fun a ha => ?_) | refine R.ixM rfl rfl rfl (by omega) (fun a ha => ?_) | refine R.ixON rfl rfl rfl (by first | omega | (simp; omega)) (fun a' ha' => ?_) | refine R.ixO rfl rfl rfl (by first | omega | (simp; omega)) (fun a' ha' => ?_) | refine R.pickT rfl rfl ?_ | refine R.pickF rfl rfl ?_ | refine R.nc rfl rfl ?_ | refine R.nc0 rfl rfl ?_ | refine R.al rfl ?_ | refine R.stoB rfl rfl rfl rfl ⟨rfl, rfl, Nat.le_of_ble_eq_true rfl⟩ rfl ?_ | refine R.stoE _ rfl rfl rfl rfl rfl (by assumption) rfl ⟨rfl, rfl, Nat.le_of_ble_eq_true rfl⟩ ?_ | refine R.condT rfl ?_ | refine R.condF rfl ?_ | refine R.callX (bor := false) [(pin 0, pin 0)] rfl c3 rfl rfl rfl rfl rfl ?_ | refine R.cond rfl (fun hc => ?_) (fun hc => ?_) | refine R.condN rfl (fun hc => ?_) (fun hc => ?_) | refine R.condB rfl (fun hc => ?_) (fun hc => ?_) | refine R.gP rfl (fun hc => ?_) (fun hc => ?_) | refine R.gN rfl (fun hc => ?_) (fun hc => ?_) | refine R.gB rfl (fun hc => ?_) (fun hc => ?_))
    all_goals first | (exfalso; omega) | skip
    all_goals first | (exfalso; omega) | exact R.ret ⟨.inr rfl, R.outR rfl (.cons (R.cell rfl rfl T.ty34 (Nat.le_of_ble_eq_true rfl) rfl) .nil) rfl rfl rfl rfl⟩ | skip
  case true =>
    obtain ⟨d, s4, hd, hs4, c4⟩ := sPick s3 (n + 6) (hs3.mono (by omega)) (by omega) 4
    obtain ⟨q, -, c5⟩ := sStep x.fAt d
    refine ⟨q, s4, hs4.mono (by omega), ?_⟩
    refine SpecM.walk T.mixed Try.func40 S.ok40 (by simp [Try.f40]) fun hk' => ?_
    clear hk'
    unfold S.s40
    repeat' (first | refine R.mv rfl ?_ | refine R.reg ?_ | refine R.tk ?_ | refine R.tkN ?_ | exact R.vac | refine R.both ?_ ?_ | refine R.nil ?_ | refine R.seq ?_ | refine R.nseq ?_ | refine R.nblk ?_ | refine R.skip ?_ | refine R.blk ?_ | refine R.exit rfl ?_ | refine R.gRun rfl ?_ | refine R.gSkip rfl ?_ | refine R.gSkip0 rfl ?_ | refine R.gUndef rfl ?_ | refine R.gUndef0 rfl ?_ | refine R.ldEp rfl rfl (by assumption) rfl rfl ?_ | refine R.ldaEp rfl rfl (by assumption) (Nat.le_of_ble_eq_true rfl) rfl rfl ?_ | refine R.ld rfl rfl rfl ?_ | refine R.lda rfl rfl (Nat.le_of_ble_eq_true rfl) rfl ?_ | refine R.fa rfl rfl ?_ | refine R.lenM rfl ?_ | refine R.lenO rfl rfl ?_ | refine R.len rfl rfl ?_ | refine R.eql rfl rfl ?_ | refine R.ixN rfl rfl rfl (by omega) (fun a ha => ?_) | refine R.ixM rfl rfl rfl (by omega) (fun a ha => ?_) | refine R.ixON rfl rfl rfl (by first | omega | (simp; omega)) (fun a' ha' => ?_) | refine R.ixO rfl rfl rfl (by first | omega | (simp; omega)) (fun a' ha' => ?_) | refine R.pickT rfl rfl ?_ | refine R.pickF rfl rfl ?_ | refine R.nc rfl rfl ?_ | refine R.nc0 rfl rfl ?_ | refine R.al rfl ?_ | refine R.stoB rfl rfl rfl rfl ⟨rfl, rfl, Nat.le_of_ble_eq_true rfl⟩ rfl ?_ | refine R.stoE _ rfl rfl rfl rfl rfl (by assumption) rfl ⟨rfl, rfl, Nat.le_of_ble_eq_true rfl⟩ ?_ | refine R.condT rfl ?_ | refine R.condF rfl ?_ | refine R.callX (bor := false) [(pin 0, pin 0)] rfl c1 rfl rfl rfl rfl rfl ?_ | refine R.cond rfl (fun hc => ?_) (fun hc => ?_) | refine R.condN rfl (fun hc => ?_) (fun hc => ?_) | refine R.condB rfl (fun hc => ?_) (fun hc => ?_) | refine R.gP rfl (fun hc => ?_) (fun hc => ?_) | refine R.gN rfl (fun hc => ?_) (fun hc => ?_) | refine R.gB rfl (fun hc => ?_) (fun hc => ?_))
    all_goals first | (exfalso; omega) | skip
    refine R.regO (⟨frE [(0, .v srcV), (4, .v (.c (.ptr 4 0))), (5, .v (.c (.ptr 5 0)))], frO ((4, .box 34 [.d (iD 0), .d (iD 0)]) :: (5, .box 34 ((enPoint x.fAt).map B.d)) :: srcOb s2)⟩) ?_ ?_
    · repeat' (first | refine R.ixK x hx rfl rfl rfl ?_ | refine R.mv rfl ?_ | refine R.reg ?_ | refine R.tk ?_ | refine R.tkN ?_ | exact R.vac | refine R.both ?_ ?_ | refine R.nil ?_ | refine R.seq ?_ | refine R.nseq ?_ | refine R.nblk ?_ | refine R.skip ?_ | refine R.blk ?_ | refine R.exit rfl ?_ | refine R.gRun rfl ?_ | refine R.gSkip rfl ?_ | refine R.gSkip0 rfl ?_ | refine R.gUndef rfl ?_ | refine R.gUndef0 rfl ?_ | refine R.ldEp rfl rfl (by assumption) rfl rfl ?_ | refine R.ldaEp rfl rfl (by assumption) (Nat.le_of_ble_eq_true rfl) rfl rfl ?_ | refine R.ld rfl rfl rfl ?_ | refine R.lda rfl rfl (Nat.le_of_ble_eq_true rfl) rfl ?_ | refine R.fa rfl rfl ?_ | refine R.lenM rfl ?_ | refine R.lenO rfl rfl ?_ | refine R.len rfl rfl ?_ | refine R.eql rfl rfl ?_ | refine R.ixN rfl rfl rfl (by omega) (fun a ha => ?_) | refine R.ixM rfl rfl rfl (by omega) (fun a ha => ?_) | refine R.ixON rfl rfl rfl (by first | omega | (simp; omega)) (fun a' ha' => ?_) | refine R.ixO rfl rfl rfl (by first | omega | (simp; omega)) (fun a' ha' => ?_) | refine R.pickT rfl rfl ?_ | refine R.pickF rfl rfl ?_ | refine R.nc rfl rfl ?_ | refine R.nc0 rfl rfl ?_ | refine R.al rfl ?_ | refine R.stoB rfl rfl rfl rfl ⟨rfl, rfl, Nat.le_of_ble_eq_true rfl⟩ rfl ?_ | refine R.stoE _ rfl rfl rfl rfl rfl (by assumption) rfl ⟨rfl, rfl, Nat.le_of_ble_eq_true rfl⟩ ?_ | refine R.condT rfl ?_ | refine R.condF rfl ?_ | refine R.callX (bor := false) [(pin 0, pin 0)] rfl c2 rfl rfl rfl rfl rfl ?_ | refine R.cond rfl (fun hc => ?_) (fun hc => ?_) | refine R.condN rfl (fun hc => ?_) (fun hc => ?_) | refine R.condB rfl (fun hc => ?_) (fun hc => ?_) | refine R.gP rfl (fun hc => ?_) (fun hc => ?_) | refine R.gN rfl (fun hc => ?_) (fun hc => ?_) | refine R.gB rfl (fun hc => ?_) (fun hc => ?_))
      all_goals exact R.done (Weak.frame _ _ ⟨rfl, rfl, rfl, trivial⟩ ⟨rfl, rfl, rfl, trivial⟩ rfl rfl)
    repeat' (first | refine R.mv rfl ?_ | refine R.reg ?_ | refine R.tk ?_ | refine R.tkN ?_ | exact R.vac | refine R.both ?_ ?_ | refine R.nil ?_ | refine R.seq ?_ | refine R.nseq ?_ | refine R.nblk ?_ | refine R.skip ?_ | refine R.blk ?_ | refine R.exit rfl ?_ | refine R.gRun rfl ?_ | refine R.gSkip rfl ?_ | refine R.gSkip0 rfl ?_ | refine R.gUndef rfl ?_ | refine R.gUndef0 rfl ?_ | refine R.ldEp rfl rfl (by assumption) rfl rfl ?_ | refine R.ldaEp rfl rfl (by assumption) (Nat.le_of_ble_eq_true rfl) rfl rfl ?_ | refine R.ld rfl rfl rfl ?_ | refine R.lda rfl rfl (Nat.le_of_ble_eq_true rfl) rfl ?_ | refine R.fa rfl rfl ?_ | refine R.lenM rfl ?_ | refine R.lenO rfl rfl ?_ | refine R.len rfl rfl ?_ | refine R.eql rfl rfl ?_ | refine R.ixN rfl rfl rfl (by omega) (fun a ha => ?_) | refine R.ixM rfl rfl rfl (by omega) (fun a ha => ?_) | refine R.ixON rfl rfl rfl (by first | omega | (simp; omega)) (fun a' ha' => ?_) | refine R.ixO rfl rfl rfl (by first | omega | (simp; omega)) (fun a' ha' => ?_) | refine R.pickT rfl rfl ?_ | refine R.pickF rfl rfl ?_ | refine R.nc rfl rfl ?_ | refine R.nc0 rfl rfl ?_ | refine R.al rfl ?_ | refine R.stoB rfl rfl rfl rfl ⟨rfl, rfl, Nat.le_of_ble_eq_true rfl⟩ rfl ?_ | refine R.stoE _ rfl rfl rfl rfl rfl (by assumption) rfl ⟨rfl, rfl, Nat.le_of_ble_eq_true rfl⟩ ?_ | refine R.condT rfl ?_ | refine R.condF rfl ?_ | refine R.callX (bor := false) [(pin 0, pin 0)] rfl c3 rfl rfl rfl rfl rfl ?_ | refine R.cond rfl (fun hc => ?_) (fun hc => ?_) | refine R.condN rfl (fun hc => ?_) (fun hc => ?_) | refine R.condB rfl (fun hc => ?_) (fun hc => ?_) | refine R.gP rfl (fun hc => ?_) (fun hc => ?_) | refine R.gN rfl (fun hc => ?_) (fun hc => ?_) | refine R.gB rfl (fun hc => ?_) (fun hc => ?_))
    all_goals first | (exfalso; omega) | skip
    refine R.regOn ?_
    repeat' (first | refine R.mv rfl ?_ | refine R.reg ?_ | refine R.tk ?_ | refine R.tkN ?_ | exact R.vac | refine R.both ?_ ?_ | refine R.nil ?_ | refine R.seq ?_ | refine R.nseq ?_ | refine R.nblk ?_ | refine R.skip ?_ | refine R.blk ?_ | refine R.exit rfl ?_ | refine R.gRun rfl ?_ | refine R.gSkip rfl ?_ | refine R.gSkip0 rfl ?_ | refine R.gUndef rfl ?_ | refine R.gUndef0 rfl ?_ | refine R.ldEp rfl rfl (by assumption) rfl rfl ?_ | refine R.ldaEp rfl rfl (by assumption) (Nat.le_of_ble_eq_true rfl) rfl rfl ?_ | refine R.ld rfl rfl rfl ?_ | refine R.lda rfl rfl (Nat.le_of_ble_eq_true rfl) rfl ?_ | refine R.fa rfl rfl ?_ | refine R.lenM rfl ?_ | refine R.lenO rfl rfl ?_ | refine R.len rfl rfl ?_ | refine R.eql rfl rfl ?_ | refine R.ixN rfl rfl rfl (by omega) (fun a ha => ?_) | refine R.ixM rfl rfl rfl (by omega) (fun a ha => ?_) | refine R.ixON rfl rfl rfl (by first | omega | (simp; omega)) (fun a' ha' => ?_) | refine R.ixO rfl rfl rfl (by first | omega | (simp; omega)) (fun a' ha' => ?_) | refine R.pickT rfl rfl ?_ | refine R.pickF rfl rfl ?_ | refine R.nc rfl rfl ?_ | refine R.nc0 rfl rfl ?_ | refine R.al rfl ?_ | refine R.stoB rfl rfl rfl rfl ⟨rfl, rfl, Nat.le_of_ble_eq_true rfl⟩ rfl ?_ | refine R.stoE _ rfl rfl rfl rfl rfl (by assumption) rfl ⟨rfl, rfl, Nat.le_of_ble_eq_true rfl⟩ ?_ | refine R.condT rfl ?_ | refine R.condF rfl ?_ | refine R.callX (bor := false) [(pin 0, pin 0)] rfl c4 rfl rfl rfl rfl rfl ?_ | refine R.call (bor := false) rfl rfl (c5) rfl rfl rfl ?_ | refine R.call (bor := true) rfl rfl (c5) rfl rfl rfl ?_ | refine R.fcal (bor := false) rfl rfl (c5) rfl rfl rfl ?_ | refine R.fcal (bor := true) rfl rfl (c5) rfl rfl rfl ?_ | refine R.cond rfl (fun hc => ?_) (fun hc => ?_) | refine R.condN rfl (fun hc => ?_) (fun hc => ?_) | refine R.condB rfl (fun hc => ?_) (fun hc => ?_) | refine R.gP rfl (fun hc => ?_) (fun hc => ?_) | refine R.gN rfl (fun hc => ?_) (fun hc => ?_) | refine R.gB rfl (fun hc => ?_) (fun hc => ?_))
    all_goals refine R.done (R.nseq ?_)
    all_goals exact R.ret ⟨.inr rfl, R.outR rfl (.cons (R.cell rfl rfl T.ty34 (Nat.le_of_ble_eq_true rfl) rfl) .nil) rfl rfl rfl rfl⟩
theorem sDrawPut (l : List Int) (hl : ∀ c ∈ l, 0 ≤ c ∧ c ≤ 255) : ∃ (A : TAssembly) (p : TPoint) (t : Int), A.fTiles.length ≤ 600 ∧ Spec Try.prog 17 [.c (.rd kU8s (l.map enB8))] (.tup [.agg [.fz (.rd kPlaced (A.fTiles.map enPlaced))], .agg [.fz (iD p.fX), .fz (iD p.fY)], cI t]) := by
  obtain ⟨m, s1, hm, hs1, c1⟩ := sBent ⟨l, 0, 0⟩ 0 ⟨⟨by show (0 : Int) ≤ 0; omega, by show (0 : Int) ≤ 0; omega⟩, hl⟩ (by omega)
  obtain ⟨p, s2, hs2, c2⟩ := sNear ⟨m⟩ s1 300 (hs1.mono (by omega)) (by omega) hm
  obtain ⟨b, s3, hs3, c3⟩ := sOne s2 320 (hs2.mono (by omega)) (by omega) 12
  have c0 := sFrom l
  cases b
  case false =>
    obtain ⟨t, s4, ht, hs4, c4⟩ := sPick s3 322 (hs3.mono (by omega)) (by omega) 4
    refine ⟨⟨m⟩, p, t, hm, ?_⟩
    refine Spec.walk T.mixed Try.func17 S.ok17 (by simp [Try.f17]) fun hk' => ?_
    clear hk'
    unfold S.s17
    repeat' (first | refine R.mv rfl ?_ | refine R.reg ?_ | refine R.tk ?_ | refine R.tkN ?_ | exact R.vac | refine R.both ?_ ?_ | refine R.nil ?_ | refine R.seq ?_ | refine R.nseq ?_ | refine R.nblk ?_ | refine R.skip ?_ | refine R.blk ?_ | refine R.exit rfl ?_ | refine R.ldEp rfl rfl (by assumption) rfl rfl ?_ | refine R.ldaEp rfl rfl (by assumption) (Nat.le_of_ble_eq_true rfl) rfl rfl ?_ | refine R.ld rfl rfl rfl ?_ | refine R.lda rfl rfl (Nat.le_of_ble_eq_true rfl) rfl ?_ | refine R.al rfl ?_ | refine R.stoB rfl rfl rfl rfl ⟨rfl, rfl, Nat.le_of_ble_eq_true rfl⟩ rfl ?_ | refine R.stoE _ rfl rfl rfl rfl rfl (by assumption) rfl ⟨rfl, rfl, Nat.le_of_ble_eq_true rfl⟩ ?_ | refine R.condT rfl ?_ | refine R.condF rfl ?_ | refine R.callX (bor := false) [] rfl c0 rfl rfl rfl rfl rfl ?_ | refine R.callX (bor := false) [(11000, pin 0)] rfl c1 rfl rfl rfl rfl rfl ?_ | refine R.weak (Weak.trans (Weak.freeze 13000 rfl rfl) (Weak.freeze 6 rfl rfl)) (R.callX (bor := false) [(11000, pin 0)] rfl c2 rfl rfl rfl rfl rfl ?_) | refine R.callX (bor := false) [(11000, pin 0)] rfl c3 rfl rfl rfl rfl rfl ?_ | refine R.cond rfl (fun hc => ?_) (fun hc => ?_) | refine R.condN rfl (fun hc => ?_) (fun hc => ?_) | refine R.condB rfl (fun hc => ?_) (fun hc => ?_))
    all_goals first | (exfalso; omega) | skip
    refine R.regOn ?_
    repeat' (first | refine R.mv rfl ?_ | refine R.reg ?_ | refine R.tk ?_ | refine R.tkN ?_ | exact R.vac | refine R.both ?_ ?_ | refine R.nil ?_ | refine R.seq ?_ | refine R.nseq ?_ | refine R.nblk ?_ | refine R.skip ?_ | refine R.blk ?_ | refine R.exit rfl ?_ | refine R.ldEp rfl rfl (by assumption) rfl rfl ?_ | refine R.ldaEp rfl rfl (by assumption) (Nat.le_of_ble_eq_true rfl) rfl rfl ?_ | refine R.ld rfl rfl rfl ?_ | refine R.lda rfl rfl (Nat.le_of_ble_eq_true rfl) rfl ?_ | refine R.al rfl ?_ | refine R.stoB rfl rfl rfl rfl ⟨rfl, rfl, Nat.le_of_ble_eq_true rfl⟩ rfl ?_ | refine R.stoE _ rfl rfl rfl rfl rfl (by assumption) rfl ⟨rfl, rfl, Nat.le_of_ble_eq_true rfl⟩ ?_ | refine R.condT rfl ?_ | refine R.condF rfl ?_ | refine R.callX (bor := false) [(11000, pin 0)] rfl c4 rfl rfl rfl rfl rfl ?_ | refine R.cond rfl (fun hc => ?_) (fun hc => ?_) | refine R.condN rfl (fun hc => ?_) (fun hc => ?_) | refine R.condB rfl (fun hc => ?_) (fun hc => ?_))
    all_goals refine R.done (R.nseq ?_)
    all_goals exact R.ret ⟨.inr rfl, R.outR rfl (.cons (R.cell rfl rfl T.ty30 (Nat.le_of_ble_eq_true rfl) rfl) (.cons (R.cell rfl rfl T.ty34 (Nat.le_of_ble_eq_true rfl) rfl) (.cons (R.tmp rfl) .nil))) rfl rfl rfl ⟨by show ¬ (3 = 1); omega, rfl⟩⟩
  case true =>
    obtain ⟨t, s4, ht, hs4, c4⟩ := sAmong s3 322 (hs3.mono (by omega)) (by omega) [-1, 159, 160, -9223372036854775808] (by decide)
    refine ⟨⟨m⟩, p, t, hm, ?_⟩
    refine Spec.walk T.mixed Try.func17 S.ok17 (by simp [Try.f17]) fun hk' => ?_
    clear hk'
    unfold S.s17
    repeat' (first | refine R.mv rfl ?_ | refine R.reg ?_ | refine R.tk ?_ | refine R.tkN ?_ | exact R.vac | refine R.both ?_ ?_ | refine R.nil ?_ | refine R.seq ?_ | refine R.nseq ?_ | refine R.nblk ?_ | refine R.skip ?_ | refine R.blk ?_ | refine R.exit rfl ?_ | refine R.ldEp rfl rfl (by assumption) rfl rfl ?_ | refine R.ldaEp rfl rfl (by assumption) (Nat.le_of_ble_eq_true rfl) rfl rfl ?_ | refine R.ld rfl rfl rfl ?_ | refine R.lda rfl rfl (Nat.le_of_ble_eq_true rfl) rfl ?_ | refine R.al rfl ?_ | refine R.stoB rfl rfl rfl rfl ⟨rfl, rfl, Nat.le_of_ble_eq_true rfl⟩ rfl ?_ | refine R.stoE _ rfl rfl rfl rfl rfl (by assumption) rfl ⟨rfl, rfl, Nat.le_of_ble_eq_true rfl⟩ ?_ | refine R.condT rfl ?_ | refine R.condF rfl ?_ | refine R.callX (bor := false) [] rfl c0 rfl rfl rfl rfl rfl ?_ | refine R.callX (bor := false) [(11000, pin 0)] rfl c1 rfl rfl rfl rfl rfl ?_ | refine R.weak (Weak.trans (Weak.freeze 13000 rfl rfl) (Weak.freeze 6 rfl rfl)) (R.callX (bor := false) [(11000, pin 0)] rfl c2 rfl rfl rfl rfl rfl ?_) | refine R.callX (bor := false) [(11000, pin 0)] rfl c3 rfl rfl rfl rfl rfl ?_ | refine R.cond rfl (fun hc => ?_) (fun hc => ?_) | refine R.condN rfl (fun hc => ?_) (fun hc => ?_) | refine R.condB rfl (fun hc => ?_) (fun hc => ?_))
    all_goals first | (exfalso; omega) | skip
    refine R.regOn ?_
    repeat' (first | refine R.mv rfl ?_ | refine R.reg ?_ | refine R.tk ?_ | refine R.tkN ?_ | exact R.vac | refine R.both ?_ ?_ | refine R.nil ?_ | refine R.seq ?_ | refine R.nseq ?_ | refine R.nblk ?_ | refine R.skip ?_ | refine R.blk ?_ | refine R.exit rfl ?_ | refine R.ldEp rfl rfl (by assumption) rfl rfl ?_ | refine R.ldaEp rfl rfl (by assumption) (Nat.le_of_ble_eq_true rfl) rfl rfl ?_ | refine R.ld rfl rfl rfl ?_ | refine R.lda rfl rfl (Nat.le_of_ble_eq_true rfl) rfl ?_ | refine R.al rfl ?_ | refine R.stoB rfl rfl rfl rfl ⟨rfl, rfl, Nat.le_of_ble_eq_true rfl⟩ rfl ?_ | refine R.stoE _ rfl rfl rfl rfl rfl (by assumption) rfl ⟨rfl, rfl, Nat.le_of_ble_eq_true rfl⟩ ?_ | refine R.condT rfl ?_ | refine R.condF rfl ?_ | refine R.bsl (f := fun n => [iD n]) [-1, 159, 160, -9223372036854775808] rfl rfl rfl rfl rfl ?_ | refine R.weak (Weak.freeze 19 rfl rfl) (R.callX (bor := false) [(11000, pin 0)] rfl c4 rfl rfl rfl rfl rfl ?_) | refine R.cond rfl (fun hc => ?_) (fun hc => ?_) | refine R.condN rfl (fun hc => ?_) (fun hc => ?_) | refine R.condB rfl (fun hc => ?_) (fun hc => ?_))
    all_goals refine R.done (R.nseq ?_)
    all_goals exact R.ret ⟨.inr rfl, R.outR rfl (.cons (R.cell rfl rfl T.ty30 (Nat.le_of_ble_eq_true rfl) rfl) (.cons (R.cell rfl rfl T.ty34 (Nat.le_of_ble_eq_true rfl) rfl) (.cons (R.tmp rfl) .nil))) rfl rfl rfl ⟨by show ¬ (3 = 1); omega, rfl⟩⟩
end Go.Proofs.Ytghpeccaknhjiaa
