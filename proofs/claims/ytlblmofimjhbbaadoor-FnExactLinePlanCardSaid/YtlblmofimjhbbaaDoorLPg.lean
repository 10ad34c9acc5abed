/- LpZ and LpZI and LpL. -/
import Derived.Test.YtlblmofimjhbbaaDoorLPa
import Derived.Test.YtlblmofimjhbbaaDoorLPf
import Derived.Test.YtlblmofimjhbbaaDoorLPe
import Derived.Test.YtlblmofimjhbbaaDoorLPc
namespace Go.Proofs.YtlblmofimjhbbaaDoor
open Go.RowKit
set_option maxRecDepth 100000 in
def S.s6 : SC := (.seq (.reg [⟨(.some 2), .none, .false, (.al 25 [(Go.Value.slice none 0 0), (Go.Value.slice none 0 0)])⟩, ⟨(.some 3), .none, .false, (.al 28 [(Go.Value.slice none 0 0)])⟩, ⟨(.some 4), .none, .false, (.mv (.const (Go.Value.int Go.IntKind.i64 0)))⟩]) (.seq (.seq (.reg [⟨(.some 12), .none, .false, (.mv (.tmp 0))⟩, ⟨(.some 13), .none, .false, (.call (.func 18) [(.tmp 12), (.const (Go.Value.int Go.IntKind.i64 1)), (.const (Go.Value.int Go.IntKind.i64 12))])⟩, ⟨(.some 14), .none, .false, (.not (.tmp 13))⟩]) (.cond (.tmp 14) (.seq (.reg [⟨(.some 15), .none, .false, (.bld [(Go.Value.slice none 0 0), (Go.Value.slice none 0 0)] [(0, 1), (1, 1)] [])⟩, ⟨(.some 16), .none, .false, (.bld [(Go.Value.slice none 0 0)] [(0, 1)] [])⟩, ⟨.none, .none, .false, (.sto 2 (.tmp 2) (.tmp 15))⟩, ⟨.none, .none, .false, (.sto 1 (.tmp 3) (.tmp 16))⟩, ⟨(.some 4), .none, .false, (.mv (.const (Go.Value.int Go.IntKind.i64 2)))⟩]) .ret) .skip)) (.seq (.reg [⟨(.some 17), .none, .false, (.mv (.tmp 0))⟩, ⟨(.some 18), .none, .false, (.bld [(Go.Value.int Go.IntKind.i64 0), (Go.Value.int Go.IntKind.i64 0), (Go.Value.int Go.IntKind.i64 0)] [(0, 1), (1, 1), (2, 1)] [(0, (.tmp 17)), (1, (.const (Go.Value.int Go.IntKind.i64 0))), (2, (.const (Go.Value.int Go.IntKind.i64 0)))])⟩, ⟨(.some 19), .none, .false, (.bsl (.mk 55 3) 1 [(0, (.tmp 18))])⟩, ⟨(.some 20), .none, .false, (.bsl (.mk 56 1) 1 [(0, (.tmp 19))])⟩, ⟨(.some 5), .none, .false, (.mv (.tmp 20))⟩]) (.seq (.block 0 (.loop (.seq (.seq (.reg [⟨(.some 21), .none, .false, (.mv (.tmp 5))⟩, ⟨(.some 22), .none, .false, (.ix (.mk 56 1) (.tmp 21) (.const (Go.Value.int Go.IntKind.i64 0)))⟩, ⟨(.some 23), .none, .false, (.ld .false 1 (.tmp 22))⟩, ⟨(.some 24), .none, .false, (.call (.func 19) [(.tmp 23), (.func 20)])⟩]) (.cond (.tmp 24) .skip (.exit 0))) (.block 1 (.reg [⟨(.some 25), .none, .false, (.mv (.tmp 5))⟩, ⟨(.some 26), .none, .false, (.mv (.tmp 5))⟩, ⟨(.some 27), .none, .false, (.ix (.mk 56 1) (.tmp 26) (.const (Go.Value.int Go.IntKind.i64 0)))⟩, ⟨(.some 28), .none, .false, (.ld .false 1 (.tmp 27))⟩, ⟨(.some 29), .none, .false, (.call (.func 22) [(.tmp 28)])⟩, ⟨(.some 30), .none, .false, (.bsl (.mk 56 1) 1 [(0, (.tmp 29))])⟩, ⟨(.some 31), .none, .false, (.call (.func 21) [(.tmp 25), (.const (Go.Value.int Go.IntKind.i64 0)), (.tmp 30)])⟩, ⟨(.some 5), .none, .false, (.mv (.tmp 31))⟩]))))) (.seq (.reg [⟨(.some 32), .none, .false, (.bld [(Go.Value.string { data := #[] }), (Go.Value.int Go.IntKind.i64 0)] [(0, 1), (1, 1)] [(0, (.const (Go.Value.string { data := #[97] }))), (1, (.const (Go.Value.int Go.IntKind.i64 1)))])⟩, ⟨(.some 33), .none, .false, (.bld [(Go.Value.string { data := #[] }), (Go.Value.int Go.IntKind.i64 0)] [(0, 1), (1, 1)] [(0, (.const (Go.Value.string { data := #[98] }))), (1, (.const (Go.Value.int Go.IntKind.i64 1)))])⟩, ⟨(.some 34), .none, .false, (.bld [(Go.Value.string { data := #[] }), (Go.Value.int Go.IntKind.i64 0)] [(0, 1), (1, 1)] [(0, (.const (Go.Value.string { data := #[99] }))), (1, (.const (Go.Value.int Go.IntKind.i64 1)))])⟩, ⟨(.some 35), .none, .false, (.bsl (.mk 47 2) 3 [(0, (.tmp 32)), (1, (.tmp 33)), (2, (.tmp 34))])⟩, ⟨(.some 36), .none, .false, (.bld [(Go.Value.slice none 0 0), (Go.Value.slice none 0 0)] [(0, 1), (1, 1)] [(0, (.tmp 35))])⟩, ⟨(.some 6), .none, .false, (.al 25 [(Go.Value.slice none 0 0), (Go.Value.slice none 0 0)])⟩, ⟨.none, .none, .false, (.sto 2 (.tmp 6) (.tmp 36))⟩]) (.seq (.reg [⟨(.some 7), .none, .false, (.mv (.const (Go.Value.slice none 0 0)))⟩]) (.seq (.seq (.reg [⟨(.some 37), .none, .false, (.mv (.tmp 5))⟩, ⟨(.some 38), .none, .false, (.ix (.mk 56 1) (.tmp 37) (.const (Go.Value.int Go.IntKind.i64 0)))⟩, ⟨(.some 39), .none, .false, (.ld .false 1 (.tmp 38))⟩, ⟨(.some 40), .none, .false, (.len (.tmp 39))⟩, ⟨(.some 41), .none, .false, (.mv (.const (Go.Value.int Go.IntKind.i64 0)))⟩]) (.block 2 (.loop (.seq (.reg [⟨(.some 42), .none, .false, (.bin .lss (.tmp 41) (.tmp 40))⟩]) (.seq (.cond (.tmp 42) .skip (.exit 2)) (.seq (.block 3 (.seq (.reg [⟨(.some 43), .none, .false, (.mv (.tmp 41))⟩, ⟨(.some 44), .none, .false, (.ix (.mk 55 3) (.tmp 39) (.tmp 41))⟩, ⟨(.some 45), .none, .false, (.ld .true 3 (.tmp 44))⟩, ⟨(.some 9), .none, .false, (.al 55 [(Go.Value.int Go.IntKind.i64 0), (Go.Value.int Go.IntKind.i64 0), (Go.Value.int Go.IntKind.i64 0)])⟩, ⟨(.some 8), .none, .false, (.mv (.tmp 43))⟩, ⟨.none, .none, .false, (.sto 3 (.tmp 9) (.tmp 45))⟩]) (.seq (.regZ [(⟨(.some 46), .none, .false, (.fa 1 (.tmp 6))⟩, []), (⟨(.some 47), .none, .false, (.ld .false 1 (.tmp 46))⟩, [0]), (⟨(.some 48), .none, .false, (.fa 1 (.tmp 9))⟩, []), (⟨(.some 49), .none, .false, (.ld .false 1 (.tmp 48))⟩, [2]), (⟨(.some 50), .none, .false, (.call (.func 23) [(.tmp 49)])⟩, [3]), (⟨(.some 51), .none, .false, (.bin .add (.const (Go.Value.string { data := #[108] })) (.tmp 50))⟩, [4]), (⟨(.some 52), .none, .false, (.fa 2 (.tmp 9))⟩, []), (⟨(.some 53), .none, .false, (.ld .false 1 (.tmp 52))⟩, [6]), (⟨(.some 54), .none, .false, (.call (.func 23) [(.tmp 53)])⟩, [7, 4]), (⟨(.some 55), .none, .false, (.bin .add (.tmp 51) (.tmp 54))⟩, [5, 8]), (⟨(.some 56), .none, .false, (.fa 2 (.tmp 9))⟩, []), (⟨(.some 57), .none, .false, (.ld .false 1 (.tmp 56))⟩, [10]), (⟨(.some 58), .none, .false, (.fa 1 (.tmp 9))⟩, []), (⟨(.some 59), .none, .false, (.ld .false 1 (.tmp 58))⟩, [12]), (⟨(.some 60), .none, .false, (.bsl (.mk 2 1) 4 [(0, (.const (Go.Value.int Go.IntKind.i64 0))), (1, (.tmp 57)), (2, (.const (Go.Value.int Go.IntKind.i64 0))), (3, (.tmp 59))])⟩, [11, 13]), (⟨(.some 61), .none, .false, (.bld [(Go.Value.string { data := #[] }), (Go.Value.slice none 0 0)] [(0, 1), (1, 1)] [(0, (.tmp 55)), (1, (.tmp 60))])⟩, [9, 14]), (⟨(.some 62), .none, .false, (.bsl (.mk 51 2) 1 [(0, (.tmp 61))])⟩, [15]), (⟨(.some 63), .none, .false, (.app (.mk 51 2) 40 (.tmp 47) (.tmp 62))⟩, [1, 16, 8]), (⟨(.some 64), .none, .false, (.fa 1 (.tmp 6))⟩, [0, 1, 2, 3, 4, 5, 6, 7, 8, 9, 10, 11, 12, 13, 14, 15, 16, 17]), (⟨.none, .none, .false, (.sto 1 (.tmp 64) (.tmp 63))⟩, [18, 17, 17, 0, 1, 2, 3, 4, 5, 6, 7, 8, 9, 10, 11, 12, 13, 14, 15, 16, 17])]) (.reg [⟨(.some 65), .none, .false, (.mv (.tmp 7))⟩, ⟨(.some 66), .none, .false, (.mv (.tmp 8))⟩, ⟨(.some 67), .none, .false, (.bsl (.mk 2 1) 1 [(0, (.tmp 66))])⟩, ⟨(.some 68), .none, .false, (.bld [(Go.Value.slice none 0 0), (Go.Value.slice none 0 0)] [(0, 1), (1, 1)] [(1, (.tmp 67))])⟩, ⟨(.some 69), .none, .false, (.bsl (.mk 53 2) 1 [(0, (.tmp 68))])⟩, ⟨(.some 70), .none, .false, (.app (.mk 53 2) 48 (.tmp 65) (.tmp 69))⟩, ⟨(.some 7), .none, .false, (.mv (.tmp 70))⟩])))) (.reg [⟨(.some 71), .none, .false, (.bin .add (.tmp 41) (.const (Go.Value.int Go.IntKind.i64 1)))⟩, ⟨(.some 41), .none, .false, (.mv (.tmp 71))⟩]))))))) (.seq (.reg [⟨(.some 72), .none, .false, (.mv (.tmp 7))⟩, ⟨(.some 73), .none, .false, (.bsl (.mk 43 1) 1 [(0, (.tmp 72))])⟩, ⟨(.some 74), .none, .false, (.bld [(Go.Value.slice none 0 0)] [(0, 1)] [(0, (.tmp 73))])⟩, ⟨(.some 10), .none, .false, (.al 28 [(Go.Value.slice none 0 0)])⟩, ⟨.none, .none, .false, (.sto 1 (.tmp 10) (.tmp 74))⟩]) (.seq (.seq (.reg [⟨(.some 11), .none, .false, (.mv (.const (Go.Value.int Go.IntKind.i64 1)))⟩]) (.block 4 (.loop (.seq (.seq (.reg [⟨(.some 75), .none, .false, (.mv (.tmp 11))⟩, ⟨(.some 76), .none, .false, (.mv (.tmp 5))⟩, ⟨(.some 77), .none, .false, (.len (.tmp 76))⟩, ⟨(.some 78), .none, .false, (.bin .lss (.tmp 75) (.tmp 77))⟩]) (.cond (.tmp 78) .skip (.exit 4))) (.seq (.block 5 (.regO (.take ⟨(.some 81), .none, .false, (.fa 0 (.tmp 10))⟩ (.take ⟨(.some 83), .none, .false, (.mv (.tmp 5))⟩ (.take ⟨(.some 84), .none, .false, (.mv (.tmp 11))⟩ (.take ⟨(.some 87), .none, .false, (.mv (.tmp 5))⟩ (.take ⟨(.some 88), .none, .false, (.mv (.tmp 11))⟩ (.both (.take ⟨(.some 82), .none, .false, (.ld .false 1 (.tmp 81))⟩ (.both (.take ⟨(.some 85), .none, .false, (.ix (.mk 56 1) (.tmp 83) (.tmp 84))⟩ (.both (.take ⟨(.some 86), .none, .false, (.ld .false 1 (.tmp 85))⟩ (.take ⟨(.some 89), .none, .false, (.bin .sub (.tmp 88) (.const (Go.Value.int Go.IntKind.i64 1)))⟩ (.both (.take ⟨(.some 90), .none, .false, (.ix (.mk 56 1) (.tmp 87) (.tmp 89))⟩ (.both (.take ⟨(.some 91), .none, .false, (.ld .false 1 (.tmp 90))⟩ (.take ⟨(.some 92), .none, .false, (.call (.func 24) [(.tmp 86), (.tmp 91)])⟩ (.take ⟨(.some 93), .none, .false, (.bsl (.mk 43 1) 1 [(0, (.tmp 92))])⟩ (.take ⟨(.some 94), .none, .false, (.app (.mk 43 1) 24 (.tmp 82) (.tmp 93))⟩ (.take ⟨(.some 95), .none, .false, (.fa 0 (.tmp 10))⟩ (.take ⟨.none, .none, .false, (.sto 1 (.tmp 95) (.tmp 94))⟩ .done)))))) .vac)) .vac))) (.take ⟨(.some 89), .none, .false, (.bin .sub (.tmp 88) (.const (Go.Value.int Go.IntKind.i64 1)))⟩ (.both (.take ⟨(.some 86), .none, .false, (.ld .false 1 (.tmp 85))⟩ (.both (.take ⟨(.some 90), .none, .false, (.ix (.mk 56 1) (.tmp 87) (.tmp 89))⟩ (.both (.take ⟨(.some 91), .none, .false, (.ld .false 1 (.tmp 90))⟩ (.take ⟨(.some 92), .none, .false, (.call (.func 24) [(.tmp 86), (.tmp 91)])⟩ (.take ⟨(.some 93), .none, .false, (.bsl (.mk 43 1) 1 [(0, (.tmp 92))])⟩ (.take ⟨(.some 94), .none, .false, (.app (.mk 43 1) 24 (.tmp 82) (.tmp 93))⟩ (.take ⟨(.some 95), .none, .false, (.fa 0 (.tmp 10))⟩ (.take ⟨.none, .none, .false, (.sto 1 (.tmp 95) (.tmp 94))⟩ .done)))))) .vac)) .vac)) (.both (.take ⟨(.some 90), .none, .false, (.ix (.mk 56 1) (.tmp 87) (.tmp 89))⟩ (.both (.take ⟨(.some 91), .none, .false, (.ld .false 1 (.tmp 90))⟩ .vac) .vac)) .vac))))) (.take ⟨(.some 89), .none, .false, (.bin .sub (.tmp 88) (.const (Go.Value.int Go.IntKind.i64 1)))⟩ (.both (.take ⟨(.some 85), .none, .false, (.ix (.mk 56 1) (.tmp 83) (.tmp 84))⟩ (.both (.take ⟨(.some 86), .none, .false, (.ld .false 1 (.tmp 85))⟩ (.both (.take ⟨(.some 90), .none, .false, (.ix (.mk 56 1) (.tmp 87) (.tmp 89))⟩ (.both (.take ⟨(.some 91), .none, .false, (.ld .false 1 (.tmp 90))⟩ (.take ⟨(.some 92), .none, .false, (.call (.func 24) [(.tmp 86), (.tmp 91)])⟩ (.take ⟨(.some 93), .none, .false, (.bsl (.mk 43 1) 1 [(0, (.tmp 92))])⟩ (.take ⟨(.some 94), .none, .false, (.app (.mk 43 1) 24 (.tmp 82) (.tmp 93))⟩ (.take ⟨(.some 95), .none, .false, (.fa 0 (.tmp 10))⟩ (.take ⟨.none, .none, .false, (.sto 1 (.tmp 95) (.tmp 94))⟩ .done)))))) .vac)) .vac)) (.both (.take ⟨(.some 90), .none, .false, (.ix (.mk 56 1) (.tmp 87) (.tmp 89))⟩ (.both (.take ⟨(.some 91), .none, .false, (.ld .false 1 (.tmp 90))⟩ .vac) .vac)) .vac))) (.both (.take ⟨(.some 90), .none, .false, (.ix (.mk 56 1) (.tmp 87) (.tmp 89))⟩ (.both (.take ⟨(.some 91), .none, .false, (.ld .false 1 (.tmp 90))⟩ .vac) .vac)) .vac))))) (.both (.take ⟨(.some 85), .none, .false, (.ix (.mk 56 1) (.tmp 83) (.tmp 84))⟩ (.both (.take ⟨(.some 86), .none, .false, (.ld .false 1 (.tmp 85))⟩ (.take ⟨(.some 89), .none, .false, (.bin .sub (.tmp 88) (.const (Go.Value.int Go.IntKind.i64 1)))⟩ (.both (.take ⟨(.some 82), .none, .false, (.ld .false 1 (.tmp 81))⟩ (.both (.take ⟨(.some 90), .none, .false, (.ix (.mk 56 1) (.tmp 87) (.tmp 89))⟩ (.both (.take ⟨(.some 91), .none, .false, (.ld .false 1 (.tmp 90))⟩ (.take ⟨(.some 92), .none, .false, (.call (.func 24) [(.tmp 86), (.tmp 91)])⟩ (.take ⟨(.some 93), .none, .false, (.bsl (.mk 43 1) 1 [(0, (.tmp 92))])⟩ (.take ⟨(.some 94), .none, .false, (.app (.mk 43 1) 24 (.tmp 82) (.tmp 93))⟩ (.take ⟨(.some 95), .none, .false, (.fa 0 (.tmp 10))⟩ (.take ⟨.none, .none, .false, (.sto 1 (.tmp 95) (.tmp 94))⟩ .done)))))) .vac)) .vac)) (.both (.take ⟨(.some 90), .none, .false, (.ix (.mk 56 1) (.tmp 87) (.tmp 89))⟩ (.both (.take ⟨(.some 91), .none, .false, (.ld .false 1 (.tmp 90))⟩ (.take ⟨(.some 92), .none, .false, (.call (.func 24) [(.tmp 86), (.tmp 91)])⟩ (.both (.take ⟨(.some 82), .none, .false, (.ld .false 1 (.tmp 81))⟩ (.take ⟨(.some 93), .none, .false, (.bsl (.mk 43 1) 1 [(0, (.tmp 92))])⟩ (.take ⟨(.some 94), .none, .false, (.app (.mk 43 1) 24 (.tmp 82) (.tmp 93))⟩ (.take ⟨(.some 95), .none, .false, (.fa 0 (.tmp 10))⟩ (.take ⟨.none, .none, .false, (.sto 1 (.tmp 95) (.tmp 94))⟩ .done))))) (.take ⟨(.some 93), .none, .false, (.bsl (.mk 43 1) 1 [(0, (.tmp 92))])⟩ (.both (.take ⟨(.some 82), .none, .false, (.ld .false 1 (.tmp 81))⟩ (.take ⟨(.some 94), .none, .false, (.app (.mk 43 1) 24 (.tmp 82) (.tmp 93))⟩ (.take ⟨(.some 95), .none, .false, (.fa 0 (.tmp 10))⟩ (.take ⟨.none, .none, .false, (.sto 1 (.tmp 95) (.tmp 94))⟩ .done)))) .vac))))) .vac)) .vac)))) (.take ⟨(.some 89), .none, .false, (.bin .sub (.tmp 88) (.const (Go.Value.int Go.IntKind.i64 1)))⟩ (.both (.take ⟨(.some 82), .none, .false, (.ld .false 1 (.tmp 81))⟩ (.both (.take ⟨(.some 86), .none, .false, (.ld .false 1 (.tmp 85))⟩ (.both (.take ⟨(.some 90), .none, .false, (.ix (.mk 56 1) (.tmp 87) (.tmp 89))⟩ (.both (.take ⟨(.some 91), .none, .false, (.ld .false 1 (.tmp 90))⟩ (.take ⟨(.some 92), .none, .false, (.call (.func 24) [(.tmp 86), (.tmp 91)])⟩ (.take ⟨(.some 93), .none, .false, (.bsl (.mk 43 1) 1 [(0, (.tmp 92))])⟩ (.take ⟨(.some 94), .none, .false, (.app (.mk 43 1) 24 (.tmp 82) (.tmp 93))⟩ (.take ⟨(.some 95), .none, .false, (.fa 0 (.tmp 10))⟩ (.take ⟨.none, .none, .false, (.sto 1 (.tmp 95) (.tmp 94))⟩ .done)))))) .vac)) .vac)) (.both (.take ⟨(.some 90), .none, .false, (.ix (.mk 56 1) (.tmp 87) (.tmp 89))⟩ (.both (.take ⟨(.some 91), .none, .false, (.ld .false 1 (.tmp 90))⟩ .vac) .vac)) .vac))) (.both (.take ⟨(.some 86), .none, .false, (.ld .false 1 (.tmp 85))⟩ (.both (.take ⟨(.some 90), .none, .false, (.ix (.mk 56 1) (.tmp 87) (.tmp 89))⟩ (.both (.take ⟨(.some 91), .none, .false, (.ld .false 1 (.tmp 90))⟩ (.take ⟨(.some 92), .none, .false, (.call (.func 24) [(.tmp 86), (.tmp 91)])⟩ (.both (.take ⟨(.some 82), .none, .false, (.ld .false 1 (.tmp 81))⟩ (.take ⟨(.some 93), .none, .false, (.bsl (.mk 43 1) 1 [(0, (.tmp 92))])⟩ (.take ⟨(.some 94), .none, .false, (.app (.mk 43 1) 24 (.tmp 82) (.tmp 93))⟩ (.take ⟨(.some 95), .none, .false, (.fa 0 (.tmp 10))⟩ (.take ⟨.none, .none, .false, (.sto 1 (.tmp 95) (.tmp 94))⟩ .done))))) (.take ⟨(.some 93), .none, .false, (.bsl (.mk 43 1) 1 [(0, (.tmp 92))])⟩ (.both (.take ⟨(.some 82), .none, .false, (.ld .false 1 (.tmp 81))⟩ (.take ⟨(.some 94), .none, .false, (.app (.mk 43 1) 24 (.tmp 82) (.tmp 93))⟩ (.take ⟨(.some 95), .none, .false, (.fa 0 (.tmp 10))⟩ (.take ⟨.none, .none, .false, (.sto 1 (.tmp 95) (.tmp 94))⟩ .done)))) .vac))))) .vac)) .vac)) (.both (.take ⟨(.some 90), .none, .false, (.ix (.mk 56 1) (.tmp 87) (.tmp 89))⟩ (.both (.take ⟨(.some 91), .none, .false, (.ld .false 1 (.tmp 90))⟩ .vac) .vac)) .vac)))))) (.take ⟨(.some 89), .none, .false, (.bin .sub (.tmp 88) (.const (Go.Value.int Go.IntKind.i64 1)))⟩ (.both (.take ⟨(.some 82), .none, .false, (.ld .false 1 (.tmp 81))⟩ (.both (.take ⟨(.some 85), .none, .false, (.ix (.mk 56 1) (.tmp 83) (.tmp 84))⟩ (.both (.take ⟨(.some 86), .none, .false, (.ld .false 1 (.tmp 85))⟩ (.both (.take ⟨(.some 90), .none, .false, (.ix (.mk 56 1) (.tmp 87) (.tmp 89))⟩ (.both (.take ⟨(.some 91), .none, .false, (.ld .false 1 (.tmp 90))⟩ (.take ⟨(.some 92), .none, .false, (.call (.func 24) [(.tmp 86), (.tmp 91)])⟩ (.take ⟨(.some 93), .none, .false, (.bsl (.mk 43 1) 1 [(0, (.tmp 92))])⟩ (.take ⟨(.some 94), .none, .false, (.app (.mk 43 1) 24 (.tmp 82) (.tmp 93))⟩ (.take ⟨(.some 95), .none, .false, (.fa 0 (.tmp 10))⟩ (.take ⟨.none, .none, .false, (.sto 1 (.tmp 95) (.tmp 94))⟩ .done)))))) .vac)) .vac)) (.both (.take ⟨(.some 90), .none, .false, (.ix (.mk 56 1) (.tmp 87) (.tmp 89))⟩ (.both (.take ⟨(.some 91), .none, .false, (.ld .false 1 (.tmp 90))⟩ .vac) .vac)) .vac))) (.both (.take ⟨(.some 90), .none, .false, (.ix (.mk 56 1) (.tmp 87) (.tmp 89))⟩ (.both (.take ⟨(.some 91), .none, .false, (.ld .false 1 (.tmp 90))⟩ .vac) .vac)) .vac))) (.both (.take ⟨(.some 85), .none, .false, (.ix (.mk 56 1) (.tmp 83) (.tmp 84))⟩ (.both (.take ⟨(.some 86), .none, .false, (.ld .false 1 (.tmp 85))⟩ (.both (.take ⟨(.some 90), .none, .false, (.ix (.mk 56 1) (.tmp 87) (.tmp 89))⟩ (.both (.take ⟨(.some 91), .none, .false, (.ld .false 1 (.tmp 90))⟩ (.take ⟨(.some 92), .none, .false, (.call (.func 24) [(.tmp 86), (.tmp 91)])⟩ (.both (.take ⟨(.some 82), .none, .false, (.ld .false 1 (.tmp 81))⟩ (.take ⟨(.some 93), .none, .false, (.bsl (.mk 43 1) 1 [(0, (.tmp 92))])⟩ (.take ⟨(.some 94), .none, .false, (.app (.mk 43 1) 24 (.tmp 82) (.tmp 93))⟩ (.take ⟨(.some 95), .none, .false, (.fa 0 (.tmp 10))⟩ (.take ⟨.none, .none, .false, (.sto 1 (.tmp 95) (.tmp 94))⟩ .done))))) (.take ⟨(.some 93), .none, .false, (.bsl (.mk 43 1) 1 [(0, (.tmp 92))])⟩ (.both (.take ⟨(.some 82), .none, .false, (.ld .false 1 (.tmp 81))⟩ (.take ⟨(.some 94), .none, .false, (.app (.mk 43 1) 24 (.tmp 82) (.tmp 93))⟩ (.take ⟨(.some 95), .none, .false, (.fa 0 (.tmp 10))⟩ (.take ⟨.none, .none, .false, (.sto 1 (.tmp 95) (.tmp 94))⟩ .done)))) .vac))))) .vac)) .vac)) (.both (.take ⟨(.some 90), .none, .false, (.ix (.mk 56 1) (.tmp 87) (.tmp 89))⟩ (.both (.take ⟨(.some 91), .none, .false, (.ld .false 1 (.tmp 90))⟩ .vac) .vac)) .vac))) (.both (.take ⟨(.some 90), .none, .false, (.ix (.mk 56 1) (.tmp 87) (.tmp 89))⟩ (.both (.take ⟨(.some 91), .none, .false, (.ld .false 1 (.tmp 90))⟩ .vac) .vac)) .vac))))))))))))) (.reg [⟨(.some 79), .none, .false, (.mv (.tmp 11))⟩, ⟨(.some 80), .none, .false, (.bin .add (.tmp 79) (.const (Go.Value.int Go.IntKind.i64 1)))⟩, ⟨(.some 11), .none, .false, (.mv (.tmp 80))⟩])))))) (.seq (.regO (.both (.take ⟨(.some 96), .none, .false, (.ld .true 2 (.tmp 6))⟩ (.both (.take ⟨(.some 97), .none, .false, (.ld .true 1 (.tmp 10))⟩ (.take ⟨.none, .none, .false, (.sto 2 (.tmp 2) (.tmp 96))⟩ (.take ⟨.none, .none, .false, (.sto 1 (.tmp 3) (.tmp 97))⟩ (.take ⟨(.some 4), .none, .false, (.mv (.const (Go.Value.int Go.IntKind.i64 0)))⟩ .done)))) (.take ⟨.none, .none, .false, (.sto 2 (.tmp 2) (.tmp 96))⟩ (.take ⟨(.some 97), .none, .false, (.ld .true 1 (.tmp 10))⟩ (.take ⟨.none, .none, .false, (.sto 1 (.tmp 3) (.tmp 97))⟩ (.take ⟨(.some 4), .none, .false, (.mv (.const (Go.Value.int Go.IntKind.i64 0)))⟩ .done)))))) (.take ⟨(.some 97), .none, .false, (.ld .true 1 (.tmp 10))⟩ (.take ⟨(.some 96), .none, .false, (.ld .true 2 (.tmp 6))⟩ (.take ⟨.none, .none, .false, (.sto 2 (.tmp 2) (.tmp 96))⟩ (.take ⟨.none, .none, .false, (.sto 1 (.tmp 3) (.tmp 97))⟩ (.take ⟨(.some 4), .none, .false, (.mv (.const (Go.Value.int Go.IntKind.i64 0)))⟩ .done))))))) .ret))))))))))
set_option maxRecDepth 100000 in
theorem S.ok6 : stripF Tryd.prog Tryd.f6 = some S.s6 := by kernel_rfl
set_option maxRecDepth 100000 in
def S.s20 : SC := (.seq (.reg [⟨(.some 1), .none, .false, (.box 55 (.tmp 0))⟩, ⟨(.some 2), .none, .false, (.mv (.const (Go.Value.bool false)))⟩]) (.seq (.reg [⟨(.some 3), .none, .false, (.fa 0 (.tmp 1))⟩, ⟨(.some 4), .none, .false, (.ld .false 1 (.tmp 3))⟩, ⟨(.some 5), .none, .false, (.bin .gtr (.tmp 4) (.const (Go.Value.int Go.IntKind.i64 1)))⟩, ⟨(.some 2), .none, .false, (.mv (.tmp 5))⟩]) .ret))
set_option maxRecDepth 100000 in
theorem S.ok20 : stripF Tryd.prog Tryd.f20 = some S.s20 := by kernel_rfl
set_option maxRecDepth 20000
set_option maxHeartbeats 8000000
section
variable {P : Program} {Q : Exit → St → Prop} {ks : List Fr} {st : St}
/-- One goal an operation. -/
def WZ (P : Program) (S : (Nat → Bool) → St) (hc : (Nat → Bool) → Prop) : Nat → List (SR × List Nat) → Prop
  | _, [] => True
  | k, (s, dp) :: rest => (∀ L : Nat → Bool, hc L → L k = false → (∀ j ∈ dp, L j = true) → WL P [s] [] (fun _ s' => Weak s' (S (setB L k))) (S L)) ∧ WZ P S hc (k + 1) rest
theorem WZ.get {S : (Nat → Bool) → St} {hc : (Nat → Bool) → Prop} : ∀ {l : List (SR × List Nat)} {k : Nat}, WZ P S hc k l → ∀ (i : Nat) s dp, l[i]? = some (s, dp) → ∀ L : Nat → Bool, hc L → L (k + i) = false → (∀ j ∈ dp, L j = true) → WL P [s] [] (fun _ s' => Weak s' (S (setB L (k + i)))) (S L)
  | [], _, _, i, s, dp, h => by simp at h
  | (s0, dp0) :: rest, k, ⟨h1, h2⟩, i, s, dp, h => by
    cases i with
    | zero => cases h; exact h1
    | succ i =>
      have := h2.get i s dp (by simpa using h)
      rwa [show k + 1 + i = k + (i + 1) by omega] at this
/-- What has been carried out had what it waits for. -/
def ZC (l : List (SR × List Nat)) (L : Nat → Bool) : Prop := ∀ i j s dp, l[i]? = some (s, dp) → L i = true → j ∈ dp → L j = true
theorem R.regZM {l : List (SR × List Nat)} {b : SC} (mid : St) (S : (Nat → Bool) → St) (h0 : ∀ L : Nat → Bool, (∀ i, i < l.length → L i = false) → Weak st (S L)) (h1 : WZ P S (ZC l) 0 l)
    (h2 : ∀ L : Nat → Bool, (∀ i, i < l.length → L i = true) → Weak (S L) mid) (k : WC P b ks Q mid) : WC P (.regZ l) (.seq b :: ks) Q st :=
  R.regZ S h0 (fun L k s dp q1 q2 q3 q4 => by
    have := h1.get k s dp q1 L q4
    rw [Nat.zero_add] at this
    exact this q2 q3) fun L hL => R.nseqW (h2 L hL) k
/-- A value, if it is there. -/
def cV (b : Bool) (v : AV) : AV := bif b then v else deadA
theorem cV_inK {b : Bool} {v : AV} {K : List Nat} (h : v.inK K = true) : (cV b v).inK K = true := by
  cases b with
  | true => exact h
  | false => rfl
theorem all_cons {α : Type} {f : α → Bool} {x : α} {l : List α} (h1 : f x = true) (h2 : l.all f = true) : (x :: l).all f = true := by rw [List.all_cons, h1, h2]; rfl
theorem R.zN {K : St → Prop} (h : K st) : WN P [] (fun _ s' => K s') st := by unfold WN; exact h
end
def tileS (s : TStrip) : TTile := ⟨bA ([108] ++ decL s.w ++ decL s.e), [0, s.e, 0, s.w]⟩
abbrev gl3 : List TGlue := [⟨bA [97], 1⟩, ⟨bA [98], 1⟩, ⟨bA [99], 1⟩]
/-- What is known while the operations of the region are carried out. -/
def zI (ss : List (List D)) (st : List TStrip) (i : Nat) (s : TStrip) (ms : List TMixture) (ts : List TTile) (b0 b1 b2 b3 b4 b5 b6 b7 b8 b9 b10 b11 b12 b13 b14 b15 b16 b17 b18 b19 : Bool) : St := ⟨frE ([(2, .v (.c (.ptr 2 0))), (3, .v (.c (.ptr 3 0))), (5, rdA kSS ss), (6, .v (.c (.ptr 6 0))), (7, .v (.c (.own 7))), (8, pvA (.int .i64 i)), (9, .v (.c (.ptr 9 0))), (39, rdA kSt (st.map enSt)), (40, pvA (.int .i64 st.length)), (41, pvA (.int .i64 i))] ++ [(46, cV b0 (.v (.c (.ptr 6 1)))), (47, cV (b1 && !b17) (.v (.c (.own 901)))), (48, cV b2 (.v (.c (.ptr 9 1)))), (49, cV b3 (pvA (.int .i64 s.w))), (50, cV b4 (pvA (.string (bA (decL s.w))))), (51, cV b5 (pvA (.string (bA ([108] ++ decL s.w))))), (52, cV b6 (.v (.c (.ptr 9 2)))), (53, cV b7 (pvA (.int .i64 s.e))), (54, cV b8 (pvA (.string (bA (decL s.e))))), (55, cV b9 (pvA (.string (bA ([108] ++ decL s.w ++ decL s.e))))), (56, cV b10 (.v (.c (.ptr 9 2)))), (57, cV b11 (pvA (.int .i64 s.e))), (58, cV b12 (.v (.c (.ptr 9 1)))), (59, cV b13 (pvA (.int .i64 s.w))), (60, cV (b14 && !b16) (.v (.c (.own 60)))), (61, cV b15 (.v (.agg [.d (sD (bA ([108] ++ decL s.w ++ decL s.e))), bif b14 && !b16 then .own 60 else .dead]))), (62, cV (b16 && !b17) (.v (.c (.own 62)))), (63, cV b17 (.v (.c (.own 901)))), (64, cV b18 (.v (.c (.ptr 6 1))))]), frO ([(2, .box 25 [nilB, nilB]), (3, .box 28 [nilB]), (6, .box 25 [.own 35, bif b17 && !b19 then .dead else .own 901]), (7, .arr kMixture (ms.map enMixture) []), (9, .box 55 ((enSt s).map B.d)), (35, .arr kGlue (gl3.map enGlue) []), (901, .arr kTile ((bif b17 then ts ++ [tileS s] else ts).map enTile) [])] ++ (bif b14 && !b16 then [(60, .arr kI (ints [0, s.e, 0, s.w]) [])] else []) ++ (bif b16 && !b17 then [(62, .arr kTile ([tileS s].map enTile) [])] else []))⟩
theorem zI_all (ss : List (List D)) (st : List TStrip) (i : Nat) (s : TStrip) (ms : List TMixture) (ts : List TTile) (hDw : Spec Tryd.prog 23 [vI s.w] (oS (bA (decL s.w)))) (hDe : Spec Tryd.prog 23 [vI s.e] (oS (bA (decL s.e)))) (hl1 : ([108] : List UInt8).length + (decL s.w).length ≤ 281474976710656) (hl2 : (([108] : List UInt8) ++ decL s.w).length + (decL s.e).length ≤ 281474976710656) (hap : (ts.length + [tileS s].length) * 40 ≤ 140737488355328 ∧ ts.length + [tileS s].length ≤ 140737488355328) : WZ Tryd.prog (fun L => zI ss st i s ms ts (L 0) (L 1) (L 2) (L 3) (L 4) (L 5) (L 6) (L 7) (L 8) (L 9) (L 10) (L 11) (L 12) (L 13) (L 14) (L 15) (L 16) (L 17) (L 18) (L 19)) (ZC ([(⟨(.some 46), .none, .false, (.fa 1 (.tmp 6))⟩, []), (⟨(.some 47), .none, .false, (.ld .false 1 (.tmp 46))⟩, [0]), (⟨(.some 48), .none, .false, (.fa 1 (.tmp 9))⟩, []), (⟨(.some 49), .none, .false, (.ld .false 1 (.tmp 48))⟩, [2]), (⟨(.some 50), .none, .false, (.call (.func 23) [(.tmp 49)])⟩, [3]), (⟨(.some 51), .none, .false, (.bin .add (.const (Go.Value.string { data := #[108] })) (.tmp 50))⟩, [4]), (⟨(.some 52), .none, .false, (.fa 2 (.tmp 9))⟩, []), (⟨(.some 53), .none, .false, (.ld .false 1 (.tmp 52))⟩, [6]), (⟨(.some 54), .none, .false, (.call (.func 23) [(.tmp 53)])⟩, [7, 4]), (⟨(.some 55), .none, .false, (.bin .add (.tmp 51) (.tmp 54))⟩, [5, 8]), (⟨(.some 56), .none, .false, (.fa 2 (.tmp 9))⟩, []), (⟨(.some 57), .none, .false, (.ld .false 1 (.tmp 56))⟩, [10]), (⟨(.some 58), .none, .false, (.fa 1 (.tmp 9))⟩, []), (⟨(.some 59), .none, .false, (.ld .false 1 (.tmp 58))⟩, [12]), (⟨(.some 60), .none, .false, (.bsl (.mk 2 1) 4 [(0, (.const (Go.Value.int Go.IntKind.i64 0))), (1, (.tmp 57)), (2, (.const (Go.Value.int Go.IntKind.i64 0))), (3, (.tmp 59))])⟩, [11, 13]), (⟨(.some 61), .none, .false, (.bld [(Go.Value.string { data := #[] }), (Go.Value.slice none 0 0)] [(0, 1), (1, 1)] [(0, (.tmp 55)), (1, (.tmp 60))])⟩, [9, 14]), (⟨(.some 62), .none, .false, (.bsl (.mk 51 2) 1 [(0, (.tmp 61))])⟩, [15]), (⟨(.some 63), .none, .false, (.app (.mk 51 2) 40 (.tmp 47) (.tmp 62))⟩, [1, 16, 8]), (⟨(.some 64), .none, .false, (.fa 1 (.tmp 6))⟩, [0, 1, 2, 3, 4, 5, 6, 7, 8, 9, 10, 11, 12, 13, 14, 15, 16, 17]), (⟨.none, .none, .false, (.sto 1 (.tmp 64) (.tmp 63))⟩, [18, 17, 17, 0, 1, 2, 3, 4, 5, 6, 7, 8, 9, 10, 11, 12, 13, 14, 15, 16, 17])] : List (SR × List Nat))) 0 ([(⟨(.some 46), .none, .false, (.fa 1 (.tmp 6))⟩, []), (⟨(.some 47), .none, .false, (.ld .false 1 (.tmp 46))⟩, [0]), (⟨(.some 48), .none, .false, (.fa 1 (.tmp 9))⟩, []), (⟨(.some 49), .none, .false, (.ld .false 1 (.tmp 48))⟩, [2]), (⟨(.some 50), .none, .false, (.call (.func 23) [(.tmp 49)])⟩, [3]), (⟨(.some 51), .none, .false, (.bin .add (.const (Go.Value.string { data := #[108] })) (.tmp 50))⟩, [4]), (⟨(.some 52), .none, .false, (.fa 2 (.tmp 9))⟩, []), (⟨(.some 53), .none, .false, (.ld .false 1 (.tmp 52))⟩, [6]), (⟨(.some 54), .none, .false, (.call (.func 23) [(.tmp 53)])⟩, [7, 4]), (⟨(.some 55), .none, .false, (.bin .add (.tmp 51) (.tmp 54))⟩, [5, 8]), (⟨(.some 56), .none, .false, (.fa 2 (.tmp 9))⟩, []), (⟨(.some 57), .none, .false, (.ld .false 1 (.tmp 56))⟩, [10]), (⟨(.some 58), .none, .false, (.fa 1 (.tmp 9))⟩, []), (⟨(.some 59), .none, .false, (.ld .false 1 (.tmp 58))⟩, [12]), (⟨(.some 60), .none, .false, (.bsl (.mk 2 1) 4 [(0, (.const (Go.Value.int Go.IntKind.i64 0))), (1, (.tmp 57)), (2, (.const (Go.Value.int Go.IntKind.i64 0))), (3, (.tmp 59))])⟩, [11, 13]), (⟨(.some 61), .none, .false, (.bld [(Go.Value.string { data := #[] }), (Go.Value.slice none 0 0)] [(0, 1), (1, 1)] [(0, (.tmp 55)), (1, (.tmp 60))])⟩, [9, 14]), (⟨(.some 62), .none, .false, (.bsl (.mk 51 2) 1 [(0, (.tmp 61))])⟩, [15]), (⟨(.some 63), .none, .false, (.app (.mk 51 2) 40 (.tmp 47) (.tmp 62))⟩, [1, 16, 8]), (⟨(.some 64), .none, .false, (.fa 1 (.tmp 6))⟩, [0, 1, 2, 3, 4, 5, 6, 7, 8, 9, 10, 11, 12, 13, 14, 15, 16, 17]), (⟨.none, .none, .false, (.sto 1 (.tmp 64) (.tmp 63))⟩, [18, 17, 17, 0, 1, 2, 3, 4, 5, 6, 7, 8, 9, 10, 11, 12, 13, 14, 15, 16, 17])] : List (SR × List Nat)) := by
  refine ⟨?z0, ?z1, ?z2, ?z3, ?z4, ?z5, ?z6, ?z7, ?z8, ?z9, ?z10, ?z11, ?z12, ?z13, ?z14, ?z15, ?z16, ?z17, ?z18, ?z19, trivial⟩
  case z0 =>
    intro L hc hk hd
    have f0 : L 0 = false := hk
    have f1 : L 1 = false := by cases h : L 1 with | false => rfl | true => have := hc 1 0 _ _ rfl h (by simp); rw [f0] at this; cases this
    have f17 : L 17 = false := by cases h : L 17 with | false => rfl | true => have := hc 17 1 _ _ rfl h (by simp); rw [f1] at this; cases this
    have f18 : L 18 = false := by cases h : L 18 with | false => rfl | true => have := hc 18 0 _ _ rfl h (by simp); rw [f0] at this; cases this
    have f19 : L 19 = false := by cases h : L 19 with | false => rfl | true => have := hc 19 0 _ _ rfl h (by simp); rw [f0] at this; cases this
    show WL _ _ [] (fun _ s' => Weak s' (zI ss st i s ms ts true (L 1) (L 2) (L 3) (L 4) (L 5) (L 6) (L 7) (L 8) (L 9) (L 10) (L 11) (L 12) (L 13) (L 14) (L 15) (L 16) (L 17) (L 18) (L 19))) (zI ss st i s ms ts (L 0) (L 1) (L 2) (L 3) (L 4) (L 5) (L 6) (L 7) (L 8) (L 9) (L 10) (L 11) (L 12) (L 13) (L 14) (L 15) (L 16) (L 17) (L 18) (L 19))
    rw [f0]
    rw [f1]
    rw [f17]
    rw [f18]
    rw [f19]
    generalize L 2 = b2
    generalize L 3 = b3
    generalize L 4 = b4
    generalize L 5 = b5
    generalize L 6 = b6
    generalize L 7 = b7
    generalize L 8 = b8
    generalize L 9 = b9
    generalize L 10 = b10
    generalize L 11 = b11
    generalize L 12 = b12
    generalize L 13 = b13
    generalize L 14 = b14
    generalize L 15 = b15
    generalize L 16 = b16
    clear f0 f1 f17 f18 f19 hd hk hc L
    cases b14 <;> cases b16 <;> (unfold zI; repeat' (first | refine R.mv rfl ?_ | refine R.fa rfl rfl ?_ | refine R.ld rfl rfl rfl ?_ | refine R.call (bor := false) rfl rfl hDw rfl rfl rfl ?_ | refine R.call (bor := false) rfl rfl hDe rfl rfl rfl ?_ | refine R.sadd (s := [108]) (t := decL s.w) rfl rfl hl1 ?_ | refine R.sadd (s := [108] ++ decL s.w) (t := decL s.e) rfl rfl hl2 ?_ | refine R.bsl (f := enI) [0, s.e, 0, s.w] rfl rfl rfl rfl rfl ?_ | refine R.bld rfl rfl ?_ | refine R.bslA (f := enTile) [tileS s] rfl rfl rfl rfl rfl rfl ?_ | refine R.appN (f := enTile) rfl rfl rfl rfl rfl hap ?_ | refine R.stoB rfl rfl rfl rfl ⟨rfl, rfl, Nat.le_of_ble_eq_true rfl⟩ rfl ?_); refine R.nil (R.zN (Weak.frame _ _ ?g1 ?g2 ?g3 ?g4)); (case g1 => exact ⟨rfl, rfl, rfl, rfl, rfl, rfl, rfl, rfl, rfl, rfl, rfl, rfl, rfl, rfl, rfl, rfl, rfl, rfl, rfl, rfl, rfl, rfl, rfl, rfl, rfl, rfl, rfl, rfl, rfl, trivial⟩); (case g2 => first | exact ⟨rfl, rfl, rfl, rfl, rfl, rfl, rfl, trivial⟩ | exact ⟨rfl, rfl, rfl, rfl, rfl, rfl, rfl, rfl, trivial⟩ | exact ⟨rfl, rfl, rfl, rfl, rfl, rfl, rfl, rfl, rfl, trivial⟩); (case g3 => repeat' (first | exact rfl | refine all_cons (cV_inK rfl) ?_ | refine all_cons rfl ?_)); (case g4 => exact rfl))
  case z1 =>
    intro L hc hk hd
    have f0 : L 0 = true := hd 0 (by simp)
    have f1 : L 1 = false := hk
    have f17 : L 17 = false := by cases h : L 17 with | false => rfl | true => have := hc 17 1 _ _ rfl h (by simp); rw [f1] at this; cases this
    have f18 : L 18 = false := by cases h : L 18 with | false => rfl | true => have := hc 18 1 _ _ rfl h (by simp); rw [f1] at this; cases this
    have f19 : L 19 = false := by cases h : L 19 with | false => rfl | true => have := hc 19 1 _ _ rfl h (by simp); rw [f1] at this; cases this
    show WL _ _ [] (fun _ s' => Weak s' (zI ss st i s ms ts (L 0) true (L 2) (L 3) (L 4) (L 5) (L 6) (L 7) (L 8) (L 9) (L 10) (L 11) (L 12) (L 13) (L 14) (L 15) (L 16) (L 17) (L 18) (L 19))) (zI ss st i s ms ts (L 0) (L 1) (L 2) (L 3) (L 4) (L 5) (L 6) (L 7) (L 8) (L 9) (L 10) (L 11) (L 12) (L 13) (L 14) (L 15) (L 16) (L 17) (L 18) (L 19))
    rw [f0]
    rw [f1]
    rw [f17]
    rw [f18]
    rw [f19]
    generalize L 2 = b2
    generalize L 3 = b3
    generalize L 4 = b4
    generalize L 5 = b5
    generalize L 6 = b6
    generalize L 7 = b7
    generalize L 8 = b8
    generalize L 9 = b9
    generalize L 10 = b10
    generalize L 11 = b11
    generalize L 12 = b12
    generalize L 13 = b13
    generalize L 14 = b14
    generalize L 15 = b15
    generalize L 16 = b16
    clear f0 f1 f17 f18 f19 hd hk hc L
    cases b14 <;> cases b16 <;> (unfold zI; repeat' (first | refine R.mv rfl ?_ | refine R.fa rfl rfl ?_ | refine R.ld rfl rfl rfl ?_ | refine R.call (bor := false) rfl rfl hDw rfl rfl rfl ?_ | refine R.call (bor := false) rfl rfl hDe rfl rfl rfl ?_ | refine R.sadd (s := [108]) (t := decL s.w) rfl rfl hl1 ?_ | refine R.sadd (s := [108] ++ decL s.w) (t := decL s.e) rfl rfl hl2 ?_ | refine R.bsl (f := enI) [0, s.e, 0, s.w] rfl rfl rfl rfl rfl ?_ | refine R.bld rfl rfl ?_ | refine R.bslA (f := enTile) [tileS s] rfl rfl rfl rfl rfl rfl ?_ | refine R.appN (f := enTile) rfl rfl rfl rfl rfl hap ?_ | refine R.stoB rfl rfl rfl rfl ⟨rfl, rfl, Nat.le_of_ble_eq_true rfl⟩ rfl ?_); refine R.nil (R.zN (Weak.frame _ _ ?g1 ?g2 ?g3 ?g4)); (case g1 => exact ⟨rfl, rfl, rfl, rfl, rfl, rfl, rfl, rfl, rfl, rfl, rfl, rfl, rfl, rfl, rfl, rfl, rfl, rfl, rfl, rfl, rfl, rfl, rfl, rfl, rfl, rfl, rfl, rfl, rfl, trivial⟩); (case g2 => first | exact ⟨rfl, rfl, rfl, rfl, rfl, rfl, rfl, trivial⟩ | exact ⟨rfl, rfl, rfl, rfl, rfl, rfl, rfl, rfl, trivial⟩ | exact ⟨rfl, rfl, rfl, rfl, rfl, rfl, rfl, rfl, rfl, trivial⟩); (case g3 => repeat' (first | exact rfl | refine all_cons (cV_inK rfl) ?_ | refine all_cons rfl ?_)); (case g4 => exact rfl))
  case z2 =>
    intro L hc hk hd
    have f2 : L 2 = false := hk
    have f3 : L 3 = false := by cases h : L 3 with | false => rfl | true => have := hc 3 2 _ _ rfl h (by simp); rw [f2] at this; cases this
    have f4 : L 4 = false := by cases h : L 4 with | false => rfl | true => have := hc 4 3 _ _ rfl h (by simp); rw [f3] at this; cases this
    have f5 : L 5 = false := by cases h : L 5 with | false => rfl | true => have := hc 5 4 _ _ rfl h (by simp); rw [f4] at this; cases this
    have f8 : L 8 = false := by cases h : L 8 with | false => rfl | true => have := hc 8 4 _ _ rfl h (by simp); rw [f4] at this; cases this
    have f9 : L 9 = false := by cases h : L 9 with | false => rfl | true => have := hc 9 5 _ _ rfl h (by simp); rw [f5] at this; cases this
    have f15 : L 15 = false := by cases h : L 15 with | false => rfl | true => have := hc 15 9 _ _ rfl h (by simp); rw [f9] at this; cases this
    have f16 : L 16 = false := by cases h : L 16 with | false => rfl | true => have := hc 16 15 _ _ rfl h (by simp); rw [f15] at this; cases this
    have f17 : L 17 = false := by cases h : L 17 with | false => rfl | true => have := hc 17 8 _ _ rfl h (by simp); rw [f8] at this; cases this
    have f18 : L 18 = false := by cases h : L 18 with | false => rfl | true => have := hc 18 2 _ _ rfl h (by simp); rw [f2] at this; cases this
    have f19 : L 19 = false := by cases h : L 19 with | false => rfl | true => have := hc 19 2 _ _ rfl h (by simp); rw [f2] at this; cases this
    show WL _ _ [] (fun _ s' => Weak s' (zI ss st i s ms ts (L 0) (L 1) true (L 3) (L 4) (L 5) (L 6) (L 7) (L 8) (L 9) (L 10) (L 11) (L 12) (L 13) (L 14) (L 15) (L 16) (L 17) (L 18) (L 19))) (zI ss st i s ms ts (L 0) (L 1) (L 2) (L 3) (L 4) (L 5) (L 6) (L 7) (L 8) (L 9) (L 10) (L 11) (L 12) (L 13) (L 14) (L 15) (L 16) (L 17) (L 18) (L 19))
    rw [f2]
    rw [f3]
    rw [f4]
    rw [f5]
    rw [f8]
    rw [f9]
    rw [f15]
    rw [f16]
    rw [f17]
    rw [f18]
    rw [f19]
    generalize L 0 = b0
    generalize L 1 = b1
    generalize L 6 = b6
    generalize L 7 = b7
    generalize L 10 = b10
    generalize L 11 = b11
    generalize L 12 = b12
    generalize L 13 = b13
    generalize L 14 = b14
    clear f2 f3 f4 f5 f8 f9 f15 f16 f17 f18 f19 hd hk hc L
    cases b14 <;> (unfold zI; repeat' (first | refine R.mv rfl ?_ | refine R.fa rfl rfl ?_ | refine R.ld rfl rfl rfl ?_ | refine R.call (bor := false) rfl rfl hDw rfl rfl rfl ?_ | refine R.call (bor := false) rfl rfl hDe rfl rfl rfl ?_ | refine R.sadd (s := [108]) (t := decL s.w) rfl rfl hl1 ?_ | refine R.sadd (s := [108] ++ decL s.w) (t := decL s.e) rfl rfl hl2 ?_ | refine R.bsl (f := enI) [0, s.e, 0, s.w] rfl rfl rfl rfl rfl ?_ | refine R.bld rfl rfl ?_ | refine R.bslA (f := enTile) [tileS s] rfl rfl rfl rfl rfl rfl ?_ | refine R.appN (f := enTile) rfl rfl rfl rfl rfl hap ?_ | refine R.stoB rfl rfl rfl rfl ⟨rfl, rfl, Nat.le_of_ble_eq_true rfl⟩ rfl ?_); refine R.nil (R.zN (Weak.frame _ _ ?g1 ?g2 ?g3 ?g4)); (case g1 => exact ⟨rfl, rfl, rfl, rfl, rfl, rfl, rfl, rfl, rfl, rfl, rfl, rfl, rfl, rfl, rfl, rfl, rfl, rfl, rfl, rfl, rfl, rfl, rfl, rfl, rfl, rfl, rfl, rfl, rfl, trivial⟩); (case g2 => first | exact ⟨rfl, rfl, rfl, rfl, rfl, rfl, rfl, trivial⟩ | exact ⟨rfl, rfl, rfl, rfl, rfl, rfl, rfl, rfl, trivial⟩ | exact ⟨rfl, rfl, rfl, rfl, rfl, rfl, rfl, rfl, rfl, trivial⟩); (case g3 => repeat' (first | exact rfl | refine all_cons (cV_inK rfl) ?_ | refine all_cons rfl ?_)); (case g4 => exact rfl))
  case z3 =>
    intro L hc hk hd
    have f2 : L 2 = true := hd 2 (by simp)
    have f3 : L 3 = false := hk
    have f4 : L 4 = false := by cases h : L 4 with | false => rfl | true => have := hc 4 3 _ _ rfl h (by simp); rw [f3] at this; cases this
    have f5 : L 5 = false := by cases h : L 5 with | false => rfl | true => have := hc 5 4 _ _ rfl h (by simp); rw [f4] at this; cases this
    have f8 : L 8 = false := by cases h : L 8 with | false => rfl | true => have := hc 8 4 _ _ rfl h (by simp); rw [f4] at this; cases this
    have f9 : L 9 = false := by cases h : L 9 with | false => rfl | true => have := hc 9 5 _ _ rfl h (by simp); rw [f5] at this; cases this
    have f15 : L 15 = false := by cases h : L 15 with | false => rfl | true => have := hc 15 9 _ _ rfl h (by simp); rw [f9] at this; cases this
    have f16 : L 16 = false := by cases h : L 16 with | false => rfl | true => have := hc 16 15 _ _ rfl h (by simp); rw [f15] at this; cases this
    have f17 : L 17 = false := by cases h : L 17 with | false => rfl | true => have := hc 17 8 _ _ rfl h (by simp); rw [f8] at this; cases this
    have f18 : L 18 = false := by cases h : L 18 with | false => rfl | true => have := hc 18 3 _ _ rfl h (by simp); rw [f3] at this; cases this
    have f19 : L 19 = false := by cases h : L 19 with | false => rfl | true => have := hc 19 3 _ _ rfl h (by simp); rw [f3] at this; cases this
    show WL _ _ [] (fun _ s' => Weak s' (zI ss st i s ms ts (L 0) (L 1) (L 2) true (L 4) (L 5) (L 6) (L 7) (L 8) (L 9) (L 10) (L 11) (L 12) (L 13) (L 14) (L 15) (L 16) (L 17) (L 18) (L 19))) (zI ss st i s ms ts (L 0) (L 1) (L 2) (L 3) (L 4) (L 5) (L 6) (L 7) (L 8) (L 9) (L 10) (L 11) (L 12) (L 13) (L 14) (L 15) (L 16) (L 17) (L 18) (L 19))
    rw [f2]
    rw [f3]
    rw [f4]
    rw [f5]
    rw [f8]
    rw [f9]
    rw [f15]
    rw [f16]
    rw [f17]
    rw [f18]
    rw [f19]
    generalize L 0 = b0
    generalize L 1 = b1
    generalize L 6 = b6
    generalize L 7 = b7
    generalize L 10 = b10
    generalize L 11 = b11
    generalize L 12 = b12
    generalize L 13 = b13
    generalize L 14 = b14
    clear f2 f3 f4 f5 f8 f9 f15 f16 f17 f18 f19 hd hk hc L
    cases b14 <;> (unfold zI; repeat' (first | refine R.mv rfl ?_ | refine R.fa rfl rfl ?_ | refine R.ld rfl rfl rfl ?_ | refine R.call (bor := false) rfl rfl hDw rfl rfl rfl ?_ | refine R.call (bor := false) rfl rfl hDe rfl rfl rfl ?_ | refine R.sadd (s := [108]) (t := decL s.w) rfl rfl hl1 ?_ | refine R.sadd (s := [108] ++ decL s.w) (t := decL s.e) rfl rfl hl2 ?_ | refine R.bsl (f := enI) [0, s.e, 0, s.w] rfl rfl rfl rfl rfl ?_ | refine R.bld rfl rfl ?_ | refine R.bslA (f := enTile) [tileS s] rfl rfl rfl rfl rfl rfl ?_ | refine R.appN (f := enTile) rfl rfl rfl rfl rfl hap ?_ | refine R.stoB rfl rfl rfl rfl ⟨rfl, rfl, Nat.le_of_ble_eq_true rfl⟩ rfl ?_); refine R.nil (R.zN (Weak.frame _ _ ?g1 ?g2 ?g3 ?g4)); (case g1 => exact ⟨rfl, rfl, rfl, rfl, rfl, rfl, rfl, rfl, rfl, rfl, rfl, rfl, rfl, rfl, rfl, rfl, rfl, rfl, rfl, rfl, rfl, rfl, rfl, rfl, rfl, rfl, rfl, rfl, rfl, trivial⟩); (case g2 => first | exact ⟨rfl, rfl, rfl, rfl, rfl, rfl, rfl, trivial⟩ | exact ⟨rfl, rfl, rfl, rfl, rfl, rfl, rfl, rfl, trivial⟩ | exact ⟨rfl, rfl, rfl, rfl, rfl, rfl, rfl, rfl, rfl, trivial⟩); (case g3 => repeat' (first | exact rfl | refine all_cons (cV_inK rfl) ?_ | refine all_cons rfl ?_)); (case g4 => exact rfl))
  case z4 =>
    intro L hc hk hd
    have f3 : L 3 = true := hd 3 (by simp)
    have f2 : L 2 = true := hc 3 2 _ _ rfl f3 (by simp)
    have f4 : L 4 = false := hk
    have f5 : L 5 = false := by cases h : L 5 with | false => rfl | true => have := hc 5 4 _ _ rfl h (by simp); rw [f4] at this; cases this
    have f8 : L 8 = false := by cases h : L 8 with | false => rfl | true => have := hc 8 4 _ _ rfl h (by simp); rw [f4] at this; cases this
    have f9 : L 9 = false := by cases h : L 9 with | false => rfl | true => have := hc 9 5 _ _ rfl h (by simp); rw [f5] at this; cases this
    have f15 : L 15 = false := by cases h : L 15 with | false => rfl | true => have := hc 15 9 _ _ rfl h (by simp); rw [f9] at this; cases this
    have f16 : L 16 = false := by cases h : L 16 with | false => rfl | true => have := hc 16 15 _ _ rfl h (by simp); rw [f15] at this; cases this
    have f17 : L 17 = false := by cases h : L 17 with | false => rfl | true => have := hc 17 8 _ _ rfl h (by simp); rw [f8] at this; cases this
    have f18 : L 18 = false := by cases h : L 18 with | false => rfl | true => have := hc 18 4 _ _ rfl h (by simp); rw [f4] at this; cases this
    have f19 : L 19 = false := by cases h : L 19 with | false => rfl | true => have := hc 19 4 _ _ rfl h (by simp); rw [f4] at this; cases this
    show WL _ _ [] (fun _ s' => Weak s' (zI ss st i s ms ts (L 0) (L 1) (L 2) (L 3) true (L 5) (L 6) (L 7) (L 8) (L 9) (L 10) (L 11) (L 12) (L 13) (L 14) (L 15) (L 16) (L 17) (L 18) (L 19))) (zI ss st i s ms ts (L 0) (L 1) (L 2) (L 3) (L 4) (L 5) (L 6) (L 7) (L 8) (L 9) (L 10) (L 11) (L 12) (L 13) (L 14) (L 15) (L 16) (L 17) (L 18) (L 19))
    rw [f2]
    rw [f3]
    rw [f4]
    rw [f5]
    rw [f8]
    rw [f9]
    rw [f15]
    rw [f16]
    rw [f17]
    rw [f18]
    rw [f19]
    generalize L 0 = b0
    generalize L 1 = b1
    generalize L 6 = b6
    generalize L 7 = b7
    generalize L 10 = b10
    generalize L 11 = b11
    generalize L 12 = b12
    generalize L 13 = b13
    generalize L 14 = b14
    clear f2 f3 f4 f5 f8 f9 f15 f16 f17 f18 f19 hd hk hc L
    cases b14 <;> (unfold zI; repeat' (first | refine R.mv rfl ?_ | refine R.fa rfl rfl ?_ | refine R.ld rfl rfl rfl ?_ | refine R.call (bor := false) rfl rfl hDw rfl rfl rfl ?_ | refine R.call (bor := false) rfl rfl hDe rfl rfl rfl ?_ | refine R.sadd (s := [108]) (t := decL s.w) rfl rfl hl1 ?_ | refine R.sadd (s := [108] ++ decL s.w) (t := decL s.e) rfl rfl hl2 ?_ | refine R.bsl (f := enI) [0, s.e, 0, s.w] rfl rfl rfl rfl rfl ?_ | refine R.bld rfl rfl ?_ | refine R.bslA (f := enTile) [tileS s] rfl rfl rfl rfl rfl rfl ?_ | refine R.appN (f := enTile) rfl rfl rfl rfl rfl hap ?_ | refine R.stoB rfl rfl rfl rfl ⟨rfl, rfl, Nat.le_of_ble_eq_true rfl⟩ rfl ?_); refine R.nil (R.zN (Weak.frame _ _ ?g1 ?g2 ?g3 ?g4)); (case g1 => exact ⟨rfl, rfl, rfl, rfl, rfl, rfl, rfl, rfl, rfl, rfl, rfl, rfl, rfl, rfl, rfl, rfl, rfl, rfl, rfl, rfl, rfl, rfl, rfl, rfl, rfl, rfl, rfl, rfl, rfl, trivial⟩); (case g2 => first | exact ⟨rfl, rfl, rfl, rfl, rfl, rfl, rfl, trivial⟩ | exact ⟨rfl, rfl, rfl, rfl, rfl, rfl, rfl, rfl, trivial⟩ | exact ⟨rfl, rfl, rfl, rfl, rfl, rfl, rfl, rfl, rfl, trivial⟩); (case g3 => repeat' (first | exact rfl | refine all_cons (cV_inK rfl) ?_ | refine all_cons rfl ?_)); (case g4 => exact rfl))
  case z5 =>
    intro L hc hk hd
    have f4 : L 4 = true := hd 4 (by simp)
    have f3 : L 3 = true := hc 4 3 _ _ rfl f4 (by simp)
    have f2 : L 2 = true := hc 3 2 _ _ rfl f3 (by simp)
    have f5 : L 5 = false := hk
    have f9 : L 9 = false := by cases h : L 9 with | false => rfl | true => have := hc 9 5 _ _ rfl h (by simp); rw [f5] at this; cases this
    have f15 : L 15 = false := by cases h : L 15 with | false => rfl | true => have := hc 15 9 _ _ rfl h (by simp); rw [f9] at this; cases this
    have f16 : L 16 = false := by cases h : L 16 with | false => rfl | true => have := hc 16 15 _ _ rfl h (by simp); rw [f15] at this; cases this
    have f17 : L 17 = false := by cases h : L 17 with | false => rfl | true => have := hc 17 16 _ _ rfl h (by simp); rw [f16] at this; cases this
    have f18 : L 18 = false := by cases h : L 18 with | false => rfl | true => have := hc 18 5 _ _ rfl h (by simp); rw [f5] at this; cases this
    have f19 : L 19 = false := by cases h : L 19 with | false => rfl | true => have := hc 19 5 _ _ rfl h (by simp); rw [f5] at this; cases this
    show WL _ _ [] (fun _ s' => Weak s' (zI ss st i s ms ts (L 0) (L 1) (L 2) (L 3) (L 4) true (L 6) (L 7) (L 8) (L 9) (L 10) (L 11) (L 12) (L 13) (L 14) (L 15) (L 16) (L 17) (L 18) (L 19))) (zI ss st i s ms ts (L 0) (L 1) (L 2) (L 3) (L 4) (L 5) (L 6) (L 7) (L 8) (L 9) (L 10) (L 11) (L 12) (L 13) (L 14) (L 15) (L 16) (L 17) (L 18) (L 19))
    rw [f2]
    rw [f3]
    rw [f4]
    rw [f5]
    rw [f9]
    rw [f15]
    rw [f16]
    rw [f17]
    rw [f18]
    rw [f19]
    generalize L 0 = b0
    generalize L 1 = b1
    generalize L 6 = b6
    generalize L 7 = b7
    generalize L 8 = b8
    generalize L 10 = b10
    generalize L 11 = b11
    generalize L 12 = b12
    generalize L 13 = b13
    generalize L 14 = b14
    clear f2 f3 f4 f5 f9 f15 f16 f17 f18 f19 hd hk hc L
    cases b14 <;> (unfold zI; repeat' (first | refine R.mv rfl ?_ | refine R.fa rfl rfl ?_ | refine R.ld rfl rfl rfl ?_ | refine R.call (bor := false) rfl rfl hDw rfl rfl rfl ?_ | refine R.call (bor := false) rfl rfl hDe rfl rfl rfl ?_ | refine R.sadd (s := [108]) (t := decL s.w) rfl rfl hl1 ?_ | refine R.sadd (s := [108] ++ decL s.w) (t := decL s.e) rfl rfl hl2 ?_ | refine R.bsl (f := enI) [0, s.e, 0, s.w] rfl rfl rfl rfl rfl ?_ | refine R.bld rfl rfl ?_ | refine R.bslA (f := enTile) [tileS s] rfl rfl rfl rfl rfl rfl ?_ | refine R.appN (f := enTile) rfl rfl rfl rfl rfl hap ?_ | refine R.stoB rfl rfl rfl rfl ⟨rfl, rfl, Nat.le_of_ble_eq_true rfl⟩ rfl ?_); refine R.nil (R.zN (Weak.frame _ _ ?g1 ?g2 ?g3 ?g4)); (case g1 => exact ⟨rfl, rfl, rfl, rfl, rfl, rfl, rfl, rfl, rfl, rfl, rfl, rfl, rfl, rfl, rfl, rfl, rfl, rfl, rfl, rfl, rfl, rfl, rfl, rfl, rfl, rfl, rfl, rfl, rfl, trivial⟩); (case g2 => first | exact ⟨rfl, rfl, rfl, rfl, rfl, rfl, rfl, trivial⟩ | exact ⟨rfl, rfl, rfl, rfl, rfl, rfl, rfl, rfl, trivial⟩ | exact ⟨rfl, rfl, rfl, rfl, rfl, rfl, rfl, rfl, rfl, trivial⟩); (case g3 => repeat' (first | exact rfl | refine all_cons (cV_inK rfl) ?_ | refine all_cons rfl ?_)); (case g4 => exact rfl))
  case z6 =>
    intro L hc hk hd
    have f6 : L 6 = false := hk
    have f7 : L 7 = false := by cases h : L 7 with | false => rfl | true => have := hc 7 6 _ _ rfl h (by simp); rw [f6] at this; cases this
    have f8 : L 8 = false := by cases h : L 8 with | false => rfl | true => have := hc 8 7 _ _ rfl h (by simp); rw [f7] at this; cases this
    have f9 : L 9 = false := by cases h : L 9 with | false => rfl | true => have := hc 9 8 _ _ rfl h (by simp); rw [f8] at this; cases this
    have f15 : L 15 = false := by cases h : L 15 with | false => rfl | true => have := hc 15 9 _ _ rfl h (by simp); rw [f9] at this; cases this
    have f16 : L 16 = false := by cases h : L 16 with | false => rfl | true => have := hc 16 15 _ _ rfl h (by simp); rw [f15] at this; cases this
    have f17 : L 17 = false := by cases h : L 17 with | false => rfl | true => have := hc 17 8 _ _ rfl h (by simp); rw [f8] at this; cases this
    have f18 : L 18 = false := by cases h : L 18 with | false => rfl | true => have := hc 18 6 _ _ rfl h (by simp); rw [f6] at this; cases this
    have f19 : L 19 = false := by cases h : L 19 with | false => rfl | true => have := hc 19 6 _ _ rfl h (by simp); rw [f6] at this; cases this
    show WL _ _ [] (fun _ s' => Weak s' (zI ss st i s ms ts (L 0) (L 1) (L 2) (L 3) (L 4) (L 5) true (L 7) (L 8) (L 9) (L 10) (L 11) (L 12) (L 13) (L 14) (L 15) (L 16) (L 17) (L 18) (L 19))) (zI ss st i s ms ts (L 0) (L 1) (L 2) (L 3) (L 4) (L 5) (L 6) (L 7) (L 8) (L 9) (L 10) (L 11) (L 12) (L 13) (L 14) (L 15) (L 16) (L 17) (L 18) (L 19))
    rw [f6]
    rw [f7]
    rw [f8]
    rw [f9]
    rw [f15]
    rw [f16]
    rw [f17]
    rw [f18]
    rw [f19]
    generalize L 0 = b0
    generalize L 1 = b1
    generalize L 2 = b2
    generalize L 3 = b3
    generalize L 4 = b4
    generalize L 5 = b5
    generalize L 10 = b10
    generalize L 11 = b11
    generalize L 12 = b12
    generalize L 13 = b13
    generalize L 14 = b14
    clear f6 f7 f8 f9 f15 f16 f17 f18 f19 hd hk hc L
    cases b14 <;> (unfold zI; repeat' (first | refine R.mv rfl ?_ | refine R.fa rfl rfl ?_ | refine R.ld rfl rfl rfl ?_ | refine R.call (bor := false) rfl rfl hDw rfl rfl rfl ?_ | refine R.call (bor := false) rfl rfl hDe rfl rfl rfl ?_ | refine R.sadd (s := [108]) (t := decL s.w) rfl rfl hl1 ?_ | refine R.sadd (s := [108] ++ decL s.w) (t := decL s.e) rfl rfl hl2 ?_ | refine R.bsl (f := enI) [0, s.e, 0, s.w] rfl rfl rfl rfl rfl ?_ | refine R.bld rfl rfl ?_ | refine R.bslA (f := enTile) [tileS s] rfl rfl rfl rfl rfl rfl ?_ | refine R.appN (f := enTile) rfl rfl rfl rfl rfl hap ?_ | refine R.stoB rfl rfl rfl rfl ⟨rfl, rfl, Nat.le_of_ble_eq_true rfl⟩ rfl ?_); refine R.nil (R.zN (Weak.frame _ _ ?g1 ?g2 ?g3 ?g4)); (case g1 => exact ⟨rfl, rfl, rfl, rfl, rfl, rfl, rfl, rfl, rfl, rfl, rfl, rfl, rfl, rfl, rfl, rfl, rfl, rfl, rfl, rfl, rfl, rfl, rfl, rfl, rfl, rfl, rfl, rfl, rfl, trivial⟩); (case g2 => first | exact ⟨rfl, rfl, rfl, rfl, rfl, rfl, rfl, trivial⟩ | exact ⟨rfl, rfl, rfl, rfl, rfl, rfl, rfl, rfl, trivial⟩ | exact ⟨rfl, rfl, rfl, rfl, rfl, rfl, rfl, rfl, rfl, trivial⟩); (case g3 => repeat' (first | exact rfl | refine all_cons (cV_inK rfl) ?_ | refine all_cons rfl ?_)); (case g4 => exact rfl))
  case z7 =>
    intro L hc hk hd
    have f6 : L 6 = true := hd 6 (by simp)
    have f7 : L 7 = false := hk
    have f8 : L 8 = false := by cases h : L 8 with | false => rfl | true => have := hc 8 7 _ _ rfl h (by simp); rw [f7] at this; cases this
    have f9 : L 9 = false := by cases h : L 9 with | false => rfl | true => have := hc 9 8 _ _ rfl h (by simp); rw [f8] at this; cases this
    have f15 : L 15 = false := by cases h : L 15 with | false => rfl | true => have := hc 15 9 _ _ rfl h (by simp); rw [f9] at this; cases this
    have f16 : L 16 = false := by cases h : L 16 with | false => rfl | true => have := hc 16 15 _ _ rfl h (by simp); rw [f15] at this; cases this
    have f17 : L 17 = false := by cases h : L 17 with | false => rfl | true => have := hc 17 8 _ _ rfl h (by simp); rw [f8] at this; cases this
    have f18 : L 18 = false := by cases h : L 18 with | false => rfl | true => have := hc 18 7 _ _ rfl h (by simp); rw [f7] at this; cases this
    have f19 : L 19 = false := by cases h : L 19 with | false => rfl | true => have := hc 19 7 _ _ rfl h (by simp); rw [f7] at this; cases this
    show WL _ _ [] (fun _ s' => Weak s' (zI ss st i s ms ts (L 0) (L 1) (L 2) (L 3) (L 4) (L 5) (L 6) true (L 8) (L 9) (L 10) (L 11) (L 12) (L 13) (L 14) (L 15) (L 16) (L 17) (L 18) (L 19))) (zI ss st i s ms ts (L 0) (L 1) (L 2) (L 3) (L 4) (L 5) (L 6) (L 7) (L 8) (L 9) (L 10) (L 11) (L 12) (L 13) (L 14) (L 15) (L 16) (L 17) (L 18) (L 19))
    rw [f6]
    rw [f7]
    rw [f8]
    rw [f9]
    rw [f15]
    rw [f16]
    rw [f17]
    rw [f18]
    rw [f19]
    generalize L 0 = b0
    generalize L 1 = b1
    generalize L 2 = b2
    generalize L 3 = b3
    generalize L 4 = b4
    generalize L 5 = b5
    generalize L 10 = b10
    generalize L 11 = b11
    generalize L 12 = b12
    generalize L 13 = b13
    generalize L 14 = b14
    clear f6 f7 f8 f9 f15 f16 f17 f18 f19 hd hk hc L
    cases b14 <;> (unfold zI; repeat' (first | refine R.mv rfl ?_ | refine R.fa rfl rfl ?_ | refine R.ld rfl rfl rfl ?_ | refine R.call (bor := false) rfl rfl hDw rfl rfl rfl ?_ | refine R.call (bor := false) rfl rfl hDe rfl rfl rfl ?_ | refine R.sadd (s := [108]) (t := decL s.w) rfl rfl hl1 ?_ | refine R.sadd (s := [108] ++ decL s.w) (t := decL s.e) rfl rfl hl2 ?_ | refine R.bsl (f := enI) [0, s.e, 0, s.w] rfl rfl rfl rfl rfl ?_ | refine R.bld rfl rfl ?_ | refine R.bslA (f := enTile) [tileS s] rfl rfl rfl rfl rfl rfl ?_ | refine R.appN (f := enTile) rfl rfl rfl rfl rfl hap ?_ | refine R.stoB rfl rfl rfl rfl ⟨rfl, rfl, Nat.le_of_ble_eq_true rfl⟩ rfl ?_); refine R.nil (R.zN (Weak.frame _ _ ?g1 ?g2 ?g3 ?g4)); (case g1 => exact ⟨rfl, rfl, rfl, rfl, rfl, rfl, rfl, rfl, rfl, rfl, rfl, rfl, rfl, rfl, rfl, rfl, rfl, rfl, rfl, rfl, rfl, rfl, rfl, rfl, rfl, rfl, rfl, rfl, rfl, trivial⟩); (case g2 => first | exact ⟨rfl, rfl, rfl, rfl, rfl, rfl, rfl, trivial⟩ | exact ⟨rfl, rfl, rfl, rfl, rfl, rfl, rfl, rfl, trivial⟩ | exact ⟨rfl, rfl, rfl, rfl, rfl, rfl, rfl, rfl, rfl, trivial⟩); (case g3 => repeat' (first | exact rfl | refine all_cons (cV_inK rfl) ?_ | refine all_cons rfl ?_)); (case g4 => exact rfl))
  case z8 =>
    intro L hc hk hd
    have f4 : L 4 = true := hd 4 (by simp)
    have f7 : L 7 = true := hd 7 (by simp)
    have f6 : L 6 = true := hc 7 6 _ _ rfl f7 (by simp)
    have f3 : L 3 = true := hc 4 3 _ _ rfl f4 (by simp)
    have f2 : L 2 = true := hc 3 2 _ _ rfl f3 (by simp)
    have f8 : L 8 = false := hk
    have f9 : L 9 = false := by cases h : L 9 with | false => rfl | true => have := hc 9 8 _ _ rfl h (by simp); rw [f8] at this; cases this
    have f15 : L 15 = false := by cases h : L 15 with | false => rfl | true => have := hc 15 9 _ _ rfl h (by simp); rw [f9] at this; cases this
    have f16 : L 16 = false := by cases h : L 16 with | false => rfl | true => have := hc 16 15 _ _ rfl h (by simp); rw [f15] at this; cases this
    have f17 : L 17 = false := by cases h : L 17 with | false => rfl | true => have := hc 17 8 _ _ rfl h (by simp); rw [f8] at this; cases this
    have f18 : L 18 = false := by cases h : L 18 with | false => rfl | true => have := hc 18 8 _ _ rfl h (by simp); rw [f8] at this; cases this
    have f19 : L 19 = false := by cases h : L 19 with | false => rfl | true => have := hc 19 8 _ _ rfl h (by simp); rw [f8] at this; cases this
    show WL _ _ [] (fun _ s' => Weak s' (zI ss st i s ms ts (L 0) (L 1) (L 2) (L 3) (L 4) (L 5) (L 6) (L 7) true (L 9) (L 10) (L 11) (L 12) (L 13) (L 14) (L 15) (L 16) (L 17) (L 18) (L 19))) (zI ss st i s ms ts (L 0) (L 1) (L 2) (L 3) (L 4) (L 5) (L 6) (L 7) (L 8) (L 9) (L 10) (L 11) (L 12) (L 13) (L 14) (L 15) (L 16) (L 17) (L 18) (L 19))
    rw [f2]
    rw [f3]
    rw [f4]
    rw [f6]
    rw [f7]
    rw [f8]
    rw [f9]
    rw [f15]
    rw [f16]
    rw [f17]
    rw [f18]
    rw [f19]
    generalize L 0 = b0
    generalize L 1 = b1
    generalize L 5 = b5
    generalize L 10 = b10
    generalize L 11 = b11
    generalize L 12 = b12
    generalize L 13 = b13
    generalize L 14 = b14
    clear f2 f3 f4 f6 f7 f8 f9 f15 f16 f17 f18 f19 hd hk hc L
    cases b14 <;> (unfold zI; repeat' (first | refine R.mv rfl ?_ | refine R.fa rfl rfl ?_ | refine R.ld rfl rfl rfl ?_ | refine R.call (bor := false) rfl rfl hDw rfl rfl rfl ?_ | refine R.call (bor := false) rfl rfl hDe rfl rfl rfl ?_ | refine R.sadd (s := [108]) (t := decL s.w) rfl rfl hl1 ?_ | refine R.sadd (s := [108] ++ decL s.w) (t := decL s.e) rfl rfl hl2 ?_ | refine R.bsl (f := enI) [0, s.e, 0, s.w] rfl rfl rfl rfl rfl ?_ | refine R.bld rfl rfl ?_ | refine R.bslA (f := enTile) [tileS s] rfl rfl rfl rfl rfl rfl ?_ | refine R.appN (f := enTile) rfl rfl rfl rfl rfl hap ?_ | refine R.stoB rfl rfl rfl rfl ⟨rfl, rfl, Nat.le_of_ble_eq_true rfl⟩ rfl ?_); refine R.nil (R.zN (Weak.frame _ _ ?g1 ?g2 ?g3 ?g4)); (case g1 => exact ⟨rfl, rfl, rfl, rfl, rfl, rfl, rfl, rfl, rfl, rfl, rfl, rfl, rfl, rfl, rfl, rfl, rfl, rfl, rfl, rfl, rfl, rfl, rfl, rfl, rfl, rfl, rfl, rfl, rfl, trivial⟩); (case g2 => first | exact ⟨rfl, rfl, rfl, rfl, rfl, rfl, rfl, trivial⟩ | exact ⟨rfl, rfl, rfl, rfl, rfl, rfl, rfl, rfl, trivial⟩ | exact ⟨rfl, rfl, rfl, rfl, rfl, rfl, rfl, rfl, rfl, trivial⟩); (case g3 => repeat' (first | exact rfl | refine all_cons (cV_inK rfl) ?_ | refine all_cons rfl ?_)); (case g4 => exact rfl))
  case z9 =>
    intro L hc hk hd
    have f5 : L 5 = true := hd 5 (by simp)
    have f8 : L 8 = true := hd 8 (by simp)
    have f7 : L 7 = true := hc 8 7 _ _ rfl f8 (by simp)
    have f6 : L 6 = true := hc 7 6 _ _ rfl f7 (by simp)
    have f4 : L 4 = true := hc 8 4 _ _ rfl f8 (by simp)
    have f3 : L 3 = true := hc 4 3 _ _ rfl f4 (by simp)
    have f2 : L 2 = true := hc 3 2 _ _ rfl f3 (by simp)
    have f9 : L 9 = false := hk
    have f15 : L 15 = false := by cases h : L 15 with | false => rfl | true => have := hc 15 9 _ _ rfl h (by simp); rw [f9] at this; cases this
    have f16 : L 16 = false := by cases h : L 16 with | false => rfl | true => have := hc 16 15 _ _ rfl h (by simp); rw [f15] at this; cases this
    have f17 : L 17 = false := by cases h : L 17 with | false => rfl | true => have := hc 17 16 _ _ rfl h (by simp); rw [f16] at this; cases this
    have f18 : L 18 = false := by cases h : L 18 with | false => rfl | true => have := hc 18 9 _ _ rfl h (by simp); rw [f9] at this; cases this
    have f19 : L 19 = false := by cases h : L 19 with | false => rfl | true => have := hc 19 9 _ _ rfl h (by simp); rw [f9] at this; cases this
    show WL _ _ [] (fun _ s' => Weak s' (zI ss st i s ms ts (L 0) (L 1) (L 2) (L 3) (L 4) (L 5) (L 6) (L 7) (L 8) true (L 10) (L 11) (L 12) (L 13) (L 14) (L 15) (L 16) (L 17) (L 18) (L 19))) (zI ss st i s ms ts (L 0) (L 1) (L 2) (L 3) (L 4) (L 5) (L 6) (L 7) (L 8) (L 9) (L 10) (L 11) (L 12) (L 13) (L 14) (L 15) (L 16) (L 17) (L 18) (L 19))
    rw [f2]
    rw [f3]
    rw [f4]
    rw [f5]
    rw [f6]
    rw [f7]
    rw [f8]
    rw [f9]
    rw [f15]
    rw [f16]
    rw [f17]
    rw [f18]
    rw [f19]
    generalize L 0 = b0
    generalize L 1 = b1
    generalize L 10 = b10
    generalize L 11 = b11
    generalize L 12 = b12
    generalize L 13 = b13
    generalize L 14 = b14
    clear f2 f3 f4 f5 f6 f7 f8 f9 f15 f16 f17 f18 f19 hd hk hc L
    cases b14 <;> (unfold zI; repeat' (first | refine R.mv rfl ?_ | refine R.fa rfl rfl ?_ | refine R.ld rfl rfl rfl ?_ | refine R.call (bor := false) rfl rfl hDw rfl rfl rfl ?_ | refine R.call (bor := false) rfl rfl hDe rfl rfl rfl ?_ | refine R.sadd (s := [108]) (t := decL s.w) rfl rfl hl1 ?_ | refine R.sadd (s := [108] ++ decL s.w) (t := decL s.e) rfl rfl hl2 ?_ | refine R.bsl (f := enI) [0, s.e, 0, s.w] rfl rfl rfl rfl rfl ?_ | refine R.bld rfl rfl ?_ | refine R.bslA (f := enTile) [tileS s] rfl rfl rfl rfl rfl rfl ?_ | refine R.appN (f := enTile) rfl rfl rfl rfl rfl hap ?_ | refine R.stoB rfl rfl rfl rfl ⟨rfl, rfl, Nat.le_of_ble_eq_true rfl⟩ rfl ?_); refine R.nil (R.zN (Weak.frame _ _ ?g1 ?g2 ?g3 ?g4)); (case g1 => exact ⟨rfl, rfl, rfl, rfl, rfl, rfl, rfl, rfl, rfl, rfl, rfl, rfl, rfl, rfl, rfl, rfl, rfl, rfl, rfl, rfl, rfl, rfl, rfl, rfl, rfl, rfl, rfl, rfl, rfl, trivial⟩); (case g2 => first | exact ⟨rfl, rfl, rfl, rfl, rfl, rfl, rfl, trivial⟩ | exact ⟨rfl, rfl, rfl, rfl, rfl, rfl, rfl, rfl, trivial⟩ | exact ⟨rfl, rfl, rfl, rfl, rfl, rfl, rfl, rfl, rfl, trivial⟩); (case g3 => repeat' (first | exact rfl | refine all_cons (cV_inK rfl) ?_ | refine all_cons rfl ?_)); (case g4 => exact rfl))
  case z10 =>
    intro L hc hk hd
    have f10 : L 10 = false := hk
    have f11 : L 11 = false := by cases h : L 11 with | false => rfl | true => have := hc 11 10 _ _ rfl h (by simp); rw [f10] at this; cases this
    have f14 : L 14 = false := by cases h : L 14 with | false => rfl | true => have := hc 14 11 _ _ rfl h (by simp); rw [f11] at this; cases this
    have f15 : L 15 = false := by cases h : L 15 with | false => rfl | true => have := hc 15 14 _ _ rfl h (by simp); rw [f14] at this; cases this
    have f16 : L 16 = false := by cases h : L 16 with | false => rfl | true => have := hc 16 15 _ _ rfl h (by simp); rw [f15] at this; cases this
    have f17 : L 17 = false := by cases h : L 17 with | false => rfl | true => have := hc 17 16 _ _ rfl h (by simp); rw [f16] at this; cases this
    have f18 : L 18 = false := by cases h : L 18 with | false => rfl | true => have := hc 18 10 _ _ rfl h (by simp); rw [f10] at this; cases this
    have f19 : L 19 = false := by cases h : L 19 with | false => rfl | true => have := hc 19 10 _ _ rfl h (by simp); rw [f10] at this; cases this
    show WL _ _ [] (fun _ s' => Weak s' (zI ss st i s ms ts (L 0) (L 1) (L 2) (L 3) (L 4) (L 5) (L 6) (L 7) (L 8) (L 9) true (L 11) (L 12) (L 13) (L 14) (L 15) (L 16) (L 17) (L 18) (L 19))) (zI ss st i s ms ts (L 0) (L 1) (L 2) (L 3) (L 4) (L 5) (L 6) (L 7) (L 8) (L 9) (L 10) (L 11) (L 12) (L 13) (L 14) (L 15) (L 16) (L 17) (L 18) (L 19))
    rw [f10]
    rw [f11]
    rw [f14]
    rw [f15]
    rw [f16]
    rw [f17]
    rw [f18]
    rw [f19]
    generalize L 0 = b0
    generalize L 1 = b1
    generalize L 2 = b2
    generalize L 3 = b3
    generalize L 4 = b4
    generalize L 5 = b5
    generalize L 6 = b6
    generalize L 7 = b7
    generalize L 8 = b8
    generalize L 9 = b9
    generalize L 12 = b12
    generalize L 13 = b13
    clear f10 f11 f14 f15 f16 f17 f18 f19 hd hk hc L
    (unfold zI; repeat' (first | refine R.mv rfl ?_ | refine R.fa rfl rfl ?_ | refine R.ld rfl rfl rfl ?_ | refine R.call (bor := false) rfl rfl hDw rfl rfl rfl ?_ | refine R.call (bor := false) rfl rfl hDe rfl rfl rfl ?_ | refine R.sadd (s := [108]) (t := decL s.w) rfl rfl hl1 ?_ | refine R.sadd (s := [108] ++ decL s.w) (t := decL s.e) rfl rfl hl2 ?_ | refine R.bsl (f := enI) [0, s.e, 0, s.w] rfl rfl rfl rfl rfl ?_ | refine R.bld rfl rfl ?_ | refine R.bslA (f := enTile) [tileS s] rfl rfl rfl rfl rfl rfl ?_ | refine R.appN (f := enTile) rfl rfl rfl rfl rfl hap ?_ | refine R.stoB rfl rfl rfl rfl ⟨rfl, rfl, Nat.le_of_ble_eq_true rfl⟩ rfl ?_); refine R.nil (R.zN (Weak.frame _ _ ?g1 ?g2 ?g3 ?g4)); (case g1 => exact ⟨rfl, rfl, rfl, rfl, rfl, rfl, rfl, rfl, rfl, rfl, rfl, rfl, rfl, rfl, rfl, rfl, rfl, rfl, rfl, rfl, rfl, rfl, rfl, rfl, rfl, rfl, rfl, rfl, rfl, trivial⟩); (case g2 => first | exact ⟨rfl, rfl, rfl, rfl, rfl, rfl, rfl, trivial⟩ | exact ⟨rfl, rfl, rfl, rfl, rfl, rfl, rfl, rfl, trivial⟩ | exact ⟨rfl, rfl, rfl, rfl, rfl, rfl, rfl, rfl, rfl, trivial⟩); (case g3 => repeat' (first | exact rfl | refine all_cons (cV_inK rfl) ?_ | refine all_cons rfl ?_)); (case g4 => exact rfl))
  case z11 =>
    intro L hc hk hd
    have f10 : L 10 = true := hd 10 (by simp)
    have f11 : L 11 = false := hk
    have f14 : L 14 = false := by cases h : L 14 with | false => rfl | true => have := hc 14 11 _ _ rfl h (by simp); rw [f11] at this; cases this
    have f15 : L 15 = false := by cases h : L 15 with | false => rfl | true => have := hc 15 14 _ _ rfl h (by simp); rw [f14] at this; cases this
    have f16 : L 16 = false := by cases h : L 16 with | false => rfl | true => have := hc 16 15 _ _ rfl h (by simp); rw [f15] at this; cases this
    have f17 : L 17 = false := by cases h : L 17 with | false => rfl | true => have := hc 17 16 _ _ rfl h (by simp); rw [f16] at this; cases this
    have f18 : L 18 = false := by cases h : L 18 with | false => rfl | true => have := hc 18 11 _ _ rfl h (by simp); rw [f11] at this; cases this
    have f19 : L 19 = false := by cases h : L 19 with | false => rfl | true => have := hc 19 11 _ _ rfl h (by simp); rw [f11] at this; cases this
    show WL _ _ [] (fun _ s' => Weak s' (zI ss st i s ms ts (L 0) (L 1) (L 2) (L 3) (L 4) (L 5) (L 6) (L 7) (L 8) (L 9) (L 10) true (L 12) (L 13) (L 14) (L 15) (L 16) (L 17) (L 18) (L 19))) (zI ss st i s ms ts (L 0) (L 1) (L 2) (L 3) (L 4) (L 5) (L 6) (L 7) (L 8) (L 9) (L 10) (L 11) (L 12) (L 13) (L 14) (L 15) (L 16) (L 17) (L 18) (L 19))
    rw [f10]
    rw [f11]
    rw [f14]
    rw [f15]
    rw [f16]
    rw [f17]
    rw [f18]
    rw [f19]
    generalize L 0 = b0
    generalize L 1 = b1
    generalize L 2 = b2
    generalize L 3 = b3
    generalize L 4 = b4
    generalize L 5 = b5
    generalize L 6 = b6
    generalize L 7 = b7
    generalize L 8 = b8
    generalize L 9 = b9
    generalize L 12 = b12
    generalize L 13 = b13
    clear f10 f11 f14 f15 f16 f17 f18 f19 hd hk hc L
    (unfold zI; repeat' (first | refine R.mv rfl ?_ | refine R.fa rfl rfl ?_ | refine R.ld rfl rfl rfl ?_ | refine R.call (bor := false) rfl rfl hDw rfl rfl rfl ?_ | refine R.call (bor := false) rfl rfl hDe rfl rfl rfl ?_ | refine R.sadd (s := [108]) (t := decL s.w) rfl rfl hl1 ?_ | refine R.sadd (s := [108] ++ decL s.w) (t := decL s.e) rfl rfl hl2 ?_ | refine R.bsl (f := enI) [0, s.e, 0, s.w] rfl rfl rfl rfl rfl ?_ | refine R.bld rfl rfl ?_ | refine R.bslA (f := enTile) [tileS s] rfl rfl rfl rfl rfl rfl ?_ | refine R.appN (f := enTile) rfl rfl rfl rfl rfl hap ?_ | refine R.stoB rfl rfl rfl rfl ⟨rfl, rfl, Nat.le_of_ble_eq_true rfl⟩ rfl ?_); refine R.nil (R.zN (Weak.frame _ _ ?g1 ?g2 ?g3 ?g4)); (case g1 => exact ⟨rfl, rfl, rfl, rfl, rfl, rfl, rfl, rfl, rfl, rfl, rfl, rfl, rfl, rfl, rfl, rfl, rfl, rfl, rfl, rfl, rfl, rfl, rfl, rfl, rfl, rfl, rfl, rfl, rfl, trivial⟩); (case g2 => first | exact ⟨rfl, rfl, rfl, rfl, rfl, rfl, rfl, trivial⟩ | exact ⟨rfl, rfl, rfl, rfl, rfl, rfl, rfl, rfl, trivial⟩ | exact ⟨rfl, rfl, rfl, rfl, rfl, rfl, rfl, rfl, rfl, trivial⟩); (case g3 => repeat' (first | exact rfl | refine all_cons (cV_inK rfl) ?_ | refine all_cons rfl ?_)); (case g4 => exact rfl))
  case z12 =>
    intro L hc hk hd
    have f12 : L 12 = false := hk
    have f13 : L 13 = false := by cases h : L 13 with | false => rfl | true => have := hc 13 12 _ _ rfl h (by simp); rw [f12] at this; cases this
    have f14 : L 14 = false := by cases h : L 14 with | false => rfl | true => have := hc 14 13 _ _ rfl h (by simp); rw [f13] at this; cases this
    have f15 : L 15 = false := by cases h : L 15 with | false => rfl | true => have := hc 15 14 _ _ rfl h (by simp); rw [f14] at this; cases this
    have f16 : L 16 = false := by cases h : L 16 with | false => rfl | true => have := hc 16 15 _ _ rfl h (by simp); rw [f15] at this; cases this
    have f17 : L 17 = false := by cases h : L 17 with | false => rfl | true => have := hc 17 16 _ _ rfl h (by simp); rw [f16] at this; cases this
    have f18 : L 18 = false := by cases h : L 18 with | false => rfl | true => have := hc 18 12 _ _ rfl h (by simp); rw [f12] at this; cases this
    have f19 : L 19 = false := by cases h : L 19 with | false => rfl | true => have := hc 19 12 _ _ rfl h (by simp); rw [f12] at this; cases this
    show WL _ _ [] (fun _ s' => Weak s' (zI ss st i s ms ts (L 0) (L 1) (L 2) (L 3) (L 4) (L 5) (L 6) (L 7) (L 8) (L 9) (L 10) (L 11) true (L 13) (L 14) (L 15) (L 16) (L 17) (L 18) (L 19))) (zI ss st i s ms ts (L 0) (L 1) (L 2) (L 3) (L 4) (L 5) (L 6) (L 7) (L 8) (L 9) (L 10) (L 11) (L 12) (L 13) (L 14) (L 15) (L 16) (L 17) (L 18) (L 19))
    rw [f12]
    rw [f13]
    rw [f14]
    rw [f15]
    rw [f16]
    rw [f17]
    rw [f18]
    rw [f19]
    generalize L 0 = b0
    generalize L 1 = b1
    generalize L 2 = b2
    generalize L 3 = b3
    generalize L 4 = b4
    generalize L 5 = b5
    generalize L 6 = b6
    generalize L 7 = b7
    generalize L 8 = b8
    generalize L 9 = b9
    generalize L 10 = b10
    generalize L 11 = b11
    clear f12 f13 f14 f15 f16 f17 f18 f19 hd hk hc L
    (unfold zI; repeat' (first | refine R.mv rfl ?_ | refine R.fa rfl rfl ?_ | refine R.ld rfl rfl rfl ?_ | refine R.call (bor := false) rfl rfl hDw rfl rfl rfl ?_ | refine R.call (bor := false) rfl rfl hDe rfl rfl rfl ?_ | refine R.sadd (s := [108]) (t := decL s.w) rfl rfl hl1 ?_ | refine R.sadd (s := [108] ++ decL s.w) (t := decL s.e) rfl rfl hl2 ?_ | refine R.bsl (f := enI) [0, s.e, 0, s.w] rfl rfl rfl rfl rfl ?_ | refine R.bld rfl rfl ?_ | refine R.bslA (f := enTile) [tileS s] rfl rfl rfl rfl rfl rfl ?_ | refine R.appN (f := enTile) rfl rfl rfl rfl rfl hap ?_ | refine R.stoB rfl rfl rfl rfl ⟨rfl, rfl, Nat.le_of_ble_eq_true rfl⟩ rfl ?_); refine R.nil (R.zN (Weak.frame _ _ ?g1 ?g2 ?g3 ?g4)); (case g1 => exact ⟨rfl, rfl, rfl, rfl, rfl, rfl, rfl, rfl, rfl, rfl, rfl, rfl, rfl, rfl, rfl, rfl, rfl, rfl, rfl, rfl, rfl, rfl, rfl, rfl, rfl, rfl, rfl, rfl, rfl, trivial⟩); (case g2 => first | exact ⟨rfl, rfl, rfl, rfl, rfl, rfl, rfl, trivial⟩ | exact ⟨rfl, rfl, rfl, rfl, rfl, rfl, rfl, rfl, trivial⟩ | exact ⟨rfl, rfl, rfl, rfl, rfl, rfl, rfl, rfl, rfl, trivial⟩); (case g3 => repeat' (first | exact rfl | refine all_cons (cV_inK rfl) ?_ | refine all_cons rfl ?_)); (case g4 => exact rfl))
  case z13 =>
    intro L hc hk hd
    have f12 : L 12 = true := hd 12 (by simp)
    have f13 : L 13 = false := hk
    have f14 : L 14 = false := by cases h : L 14 with | false => rfl | true => have := hc 14 13 _ _ rfl h (by simp); rw [f13] at this; cases this
    have f15 : L 15 = false := by cases h : L 15 with | false => rfl | true => have := hc 15 14 _ _ rfl h (by simp); rw [f14] at this; cases this
    have f16 : L 16 = false := by cases h : L 16 with | false => rfl | true => have := hc 16 15 _ _ rfl h (by simp); rw [f15] at this; cases this
    have f17 : L 17 = false := by cases h : L 17 with | false => rfl | true => have := hc 17 16 _ _ rfl h (by simp); rw [f16] at this; cases this
    have f18 : L 18 = false := by cases h : L 18 with | false => rfl | true => have := hc 18 13 _ _ rfl h (by simp); rw [f13] at this; cases this
    have f19 : L 19 = false := by cases h : L 19 with | false => rfl | true => have := hc 19 13 _ _ rfl h (by simp); rw [f13] at this; cases this
    show WL _ _ [] (fun _ s' => Weak s' (zI ss st i s ms ts (L 0) (L 1) (L 2) (L 3) (L 4) (L 5) (L 6) (L 7) (L 8) (L 9) (L 10) (L 11) (L 12) true (L 14) (L 15) (L 16) (L 17) (L 18) (L 19))) (zI ss st i s ms ts (L 0) (L 1) (L 2) (L 3) (L 4) (L 5) (L 6) (L 7) (L 8) (L 9) (L 10) (L 11) (L 12) (L 13) (L 14) (L 15) (L 16) (L 17) (L 18) (L 19))
    rw [f12]
    rw [f13]
    rw [f14]
    rw [f15]
    rw [f16]
    rw [f17]
    rw [f18]
    rw [f19]
    generalize L 0 = b0
    generalize L 1 = b1
    generalize L 2 = b2
    generalize L 3 = b3
    generalize L 4 = b4
    generalize L 5 = b5
    generalize L 6 = b6
    generalize L 7 = b7
    generalize L 8 = b8
    generalize L 9 = b9
    generalize L 10 = b10
    generalize L 11 = b11
    clear f12 f13 f14 f15 f16 f17 f18 f19 hd hk hc L
    (unfold zI; repeat' (first | refine R.mv rfl ?_ | refine R.fa rfl rfl ?_ | refine R.ld rfl rfl rfl ?_ | refine R.call (bor := false) rfl rfl hDw rfl rfl rfl ?_ | refine R.call (bor := false) rfl rfl hDe rfl rfl rfl ?_ | refine R.sadd (s := [108]) (t := decL s.w) rfl rfl hl1 ?_ | refine R.sadd (s := [108] ++ decL s.w) (t := decL s.e) rfl rfl hl2 ?_ | refine R.bsl (f := enI) [0, s.e, 0, s.w] rfl rfl rfl rfl rfl ?_ | refine R.bld rfl rfl ?_ | refine R.bslA (f := enTile) [tileS s] rfl rfl rfl rfl rfl rfl ?_ | refine R.appN (f := enTile) rfl rfl rfl rfl rfl hap ?_ | refine R.stoB rfl rfl rfl rfl ⟨rfl, rfl, Nat.le_of_ble_eq_true rfl⟩ rfl ?_); refine R.nil (R.zN (Weak.frame _ _ ?g1 ?g2 ?g3 ?g4)); (case g1 => exact ⟨rfl, rfl, rfl, rfl, rfl, rfl, rfl, rfl, rfl, rfl, rfl, rfl, rfl, rfl, rfl, rfl, rfl, rfl, rfl, rfl, rfl, rfl, rfl, rfl, rfl, rfl, rfl, rfl, rfl, trivial⟩); (case g2 => first | exact ⟨rfl, rfl, rfl, rfl, rfl, rfl, rfl, trivial⟩ | exact ⟨rfl, rfl, rfl, rfl, rfl, rfl, rfl, rfl, trivial⟩ | exact ⟨rfl, rfl, rfl, rfl, rfl, rfl, rfl, rfl, rfl, trivial⟩); (case g3 => repeat' (first | exact rfl | refine all_cons (cV_inK rfl) ?_ | refine all_cons rfl ?_)); (case g4 => exact rfl))
  case z14 =>
    intro L hc hk hd
    have f11 : L 11 = true := hd 11 (by simp)
    have f13 : L 13 = true := hd 13 (by simp)
    have f12 : L 12 = true := hc 13 12 _ _ rfl f13 (by simp)
    have f10 : L 10 = true := hc 11 10 _ _ rfl f11 (by simp)
    have f14 : L 14 = false := hk
    have f15 : L 15 = false := by cases h : L 15 with | false => rfl | true => have := hc 15 14 _ _ rfl h (by simp); rw [f14] at this; cases this
    have f16 : L 16 = false := by cases h : L 16 with | false => rfl | true => have := hc 16 15 _ _ rfl h (by simp); rw [f15] at this; cases this
    have f17 : L 17 = false := by cases h : L 17 with | false => rfl | true => have := hc 17 16 _ _ rfl h (by simp); rw [f16] at this; cases this
    have f18 : L 18 = false := by cases h : L 18 with | false => rfl | true => have := hc 18 14 _ _ rfl h (by simp); rw [f14] at this; cases this
    have f19 : L 19 = false := by cases h : L 19 with | false => rfl | true => have := hc 19 14 _ _ rfl h (by simp); rw [f14] at this; cases this
    show WL _ _ [] (fun _ s' => Weak s' (zI ss st i s ms ts (L 0) (L 1) (L 2) (L 3) (L 4) (L 5) (L 6) (L 7) (L 8) (L 9) (L 10) (L 11) (L 12) (L 13) true (L 15) (L 16) (L 17) (L 18) (L 19))) (zI ss st i s ms ts (L 0) (L 1) (L 2) (L 3) (L 4) (L 5) (L 6) (L 7) (L 8) (L 9) (L 10) (L 11) (L 12) (L 13) (L 14) (L 15) (L 16) (L 17) (L 18) (L 19))
    rw [f10]
    rw [f11]
    rw [f12]
    rw [f13]
    rw [f14]
    rw [f15]
    rw [f16]
    rw [f17]
    rw [f18]
    rw [f19]
    generalize L 0 = b0
    generalize L 1 = b1
    generalize L 2 = b2
    generalize L 3 = b3
    generalize L 4 = b4
    generalize L 5 = b5
    generalize L 6 = b6
    generalize L 7 = b7
    generalize L 8 = b8
    generalize L 9 = b9
    clear f10 f11 f12 f13 f14 f15 f16 f17 f18 f19 hd hk hc L
    (unfold zI; repeat' (first | refine R.mv rfl ?_ | refine R.fa rfl rfl ?_ | refine R.ld rfl rfl rfl ?_ | refine R.call (bor := false) rfl rfl hDw rfl rfl rfl ?_ | refine R.call (bor := false) rfl rfl hDe rfl rfl rfl ?_ | refine R.sadd (s := [108]) (t := decL s.w) rfl rfl hl1 ?_ | refine R.sadd (s := [108] ++ decL s.w) (t := decL s.e) rfl rfl hl2 ?_ | refine R.bsl (f := enI) [0, s.e, 0, s.w] rfl rfl rfl rfl rfl ?_ | refine R.bld rfl rfl ?_ | refine R.bslA (f := enTile) [tileS s] rfl rfl rfl rfl rfl rfl ?_ | refine R.appN (f := enTile) rfl rfl rfl rfl rfl hap ?_ | refine R.stoB rfl rfl rfl rfl ⟨rfl, rfl, Nat.le_of_ble_eq_true rfl⟩ rfl ?_); refine R.nil (R.zN (Weak.frame _ _ ?g1 ?g2 ?g3 ?g4)); (case g1 => exact ⟨rfl, rfl, rfl, rfl, rfl, rfl, rfl, rfl, rfl, rfl, rfl, rfl, rfl, rfl, rfl, rfl, rfl, rfl, rfl, rfl, rfl, rfl, rfl, rfl, rfl, rfl, rfl, rfl, rfl, trivial⟩); (case g2 => first | exact ⟨rfl, rfl, rfl, rfl, rfl, rfl, rfl, trivial⟩ | exact ⟨rfl, rfl, rfl, rfl, rfl, rfl, rfl, rfl, trivial⟩ | exact ⟨rfl, rfl, rfl, rfl, rfl, rfl, rfl, rfl, rfl, trivial⟩); (case g3 => repeat' (first | exact rfl | refine all_cons (cV_inK rfl) ?_ | refine all_cons rfl ?_)); (case g4 => exact rfl))
  case z15 =>
    intro L hc hk hd
    have f9 : L 9 = true := hd 9 (by simp)
    have f14 : L 14 = true := hd 14 (by simp)
    have f13 : L 13 = true := hc 14 13 _ _ rfl f14 (by simp)
    have f12 : L 12 = true := hc 13 12 _ _ rfl f13 (by simp)
    have f11 : L 11 = true := hc 14 11 _ _ rfl f14 (by simp)
    have f10 : L 10 = true := hc 11 10 _ _ rfl f11 (by simp)
    have f8 : L 8 = true := hc 9 8 _ _ rfl f9 (by simp)
    have f7 : L 7 = true := hc 8 7 _ _ rfl f8 (by simp)
    have f6 : L 6 = true := hc 7 6 _ _ rfl f7 (by simp)
    have f5 : L 5 = true := hc 9 5 _ _ rfl f9 (by simp)
    have f4 : L 4 = true := hc 8 4 _ _ rfl f8 (by simp)
    have f3 : L 3 = true := hc 4 3 _ _ rfl f4 (by simp)
    have f2 : L 2 = true := hc 3 2 _ _ rfl f3 (by simp)
    have f15 : L 15 = false := hk
    have f16 : L 16 = false := by cases h : L 16 with | false => rfl | true => have := hc 16 15 _ _ rfl h (by simp); rw [f15] at this; cases this
    have f17 : L 17 = false := by cases h : L 17 with | false => rfl | true => have := hc 17 16 _ _ rfl h (by simp); rw [f16] at this; cases this
    have f18 : L 18 = false := by cases h : L 18 with | false => rfl | true => have := hc 18 15 _ _ rfl h (by simp); rw [f15] at this; cases this
    have f19 : L 19 = false := by cases h : L 19 with | false => rfl | true => have := hc 19 15 _ _ rfl h (by simp); rw [f15] at this; cases this
    show WL _ _ [] (fun _ s' => Weak s' (zI ss st i s ms ts (L 0) (L 1) (L 2) (L 3) (L 4) (L 5) (L 6) (L 7) (L 8) (L 9) (L 10) (L 11) (L 12) (L 13) (L 14) true (L 16) (L 17) (L 18) (L 19))) (zI ss st i s ms ts (L 0) (L 1) (L 2) (L 3) (L 4) (L 5) (L 6) (L 7) (L 8) (L 9) (L 10) (L 11) (L 12) (L 13) (L 14) (L 15) (L 16) (L 17) (L 18) (L 19))
    rw [f2]
    rw [f3]
    rw [f4]
    rw [f5]
    rw [f6]
    rw [f7]
    rw [f8]
    rw [f9]
    rw [f10]
    rw [f11]
    rw [f12]
    rw [f13]
    rw [f14]
    rw [f15]
    rw [f16]
    rw [f17]
    rw [f18]
    rw [f19]
    generalize L 0 = b0
    generalize L 1 = b1
    clear f2 f3 f4 f5 f6 f7 f8 f9 f10 f11 f12 f13 f14 f15 f16 f17 f18 f19 hd hk hc L
    (unfold zI; repeat' (first | refine R.mv rfl ?_ | refine R.fa rfl rfl ?_ | refine R.ld rfl rfl rfl ?_ | refine R.call (bor := false) rfl rfl hDw rfl rfl rfl ?_ | refine R.call (bor := false) rfl rfl hDe rfl rfl rfl ?_ | refine R.sadd (s := [108]) (t := decL s.w) rfl rfl hl1 ?_ | refine R.sadd (s := [108] ++ decL s.w) (t := decL s.e) rfl rfl hl2 ?_ | refine R.bsl (f := enI) [0, s.e, 0, s.w] rfl rfl rfl rfl rfl ?_ | refine R.bld rfl rfl ?_ | refine R.bslA (f := enTile) [tileS s] rfl rfl rfl rfl rfl rfl ?_ | refine R.appN (f := enTile) rfl rfl rfl rfl rfl hap ?_ | refine R.stoB rfl rfl rfl rfl ⟨rfl, rfl, Nat.le_of_ble_eq_true rfl⟩ rfl ?_); refine R.nil (R.zN (Weak.frame _ _ ?g1 ?g2 ?g3 ?g4)); (case g1 => exact ⟨rfl, rfl, rfl, rfl, rfl, rfl, rfl, rfl, rfl, rfl, rfl, rfl, rfl, rfl, rfl, rfl, rfl, rfl, rfl, rfl, rfl, rfl, rfl, rfl, rfl, rfl, rfl, rfl, rfl, trivial⟩); (case g2 => first | exact ⟨rfl, rfl, rfl, rfl, rfl, rfl, rfl, trivial⟩ | exact ⟨rfl, rfl, rfl, rfl, rfl, rfl, rfl, rfl, trivial⟩ | exact ⟨rfl, rfl, rfl, rfl, rfl, rfl, rfl, rfl, rfl, trivial⟩); (case g3 => repeat' (first | exact rfl | refine all_cons (cV_inK rfl) ?_ | refine all_cons rfl ?_)); (case g4 => exact rfl))
  case z16 =>
    intro L hc hk hd
    have f15 : L 15 = true := hd 15 (by simp)
    have f14 : L 14 = true := hc 15 14 _ _ rfl f15 (by simp)
    have f13 : L 13 = true := hc 14 13 _ _ rfl f14 (by simp)
    have f12 : L 12 = true := hc 13 12 _ _ rfl f13 (by simp)
    have f11 : L 11 = true := hc 14 11 _ _ rfl f14 (by simp)
    have f10 : L 10 = true := hc 11 10 _ _ rfl f11 (by simp)
    have f9 : L 9 = true := hc 15 9 _ _ rfl f15 (by simp)
    have f8 : L 8 = true := hc 9 8 _ _ rfl f9 (by simp)
    have f7 : L 7 = true := hc 8 7 _ _ rfl f8 (by simp)
    have f6 : L 6 = true := hc 7 6 _ _ rfl f7 (by simp)
    have f5 : L 5 = true := hc 9 5 _ _ rfl f9 (by simp)
    have f4 : L 4 = true := hc 8 4 _ _ rfl f8 (by simp)
    have f3 : L 3 = true := hc 4 3 _ _ rfl f4 (by simp)
    have f2 : L 2 = true := hc 3 2 _ _ rfl f3 (by simp)
    have f16 : L 16 = false := hk
    have f17 : L 17 = false := by cases h : L 17 with | false => rfl | true => have := hc 17 16 _ _ rfl h (by simp); rw [f16] at this; cases this
    have f18 : L 18 = false := by cases h : L 18 with | false => rfl | true => have := hc 18 16 _ _ rfl h (by simp); rw [f16] at this; cases this
    have f19 : L 19 = false := by cases h : L 19 with | false => rfl | true => have := hc 19 16 _ _ rfl h (by simp); rw [f16] at this; cases this
    show WL _ _ [] (fun _ s' => Weak s' (zI ss st i s ms ts (L 0) (L 1) (L 2) (L 3) (L 4) (L 5) (L 6) (L 7) (L 8) (L 9) (L 10) (L 11) (L 12) (L 13) (L 14) (L 15) true (L 17) (L 18) (L 19))) (zI ss st i s ms ts (L 0) (L 1) (L 2) (L 3) (L 4) (L 5) (L 6) (L 7) (L 8) (L 9) (L 10) (L 11) (L 12) (L 13) (L 14) (L 15) (L 16) (L 17) (L 18) (L 19))
    rw [f2]
    rw [f3]
    rw [f4]
    rw [f5]
    rw [f6]
    rw [f7]
    rw [f8]
    rw [f9]
    rw [f10]
    rw [f11]
    rw [f12]
    rw [f13]
    rw [f14]
    rw [f15]
    rw [f16]
    rw [f17]
    rw [f18]
    rw [f19]
    generalize L 0 = b0
    generalize L 1 = b1
    clear f2 f3 f4 f5 f6 f7 f8 f9 f10 f11 f12 f13 f14 f15 f16 f17 f18 f19 hd hk hc L
    cases b0 <;> cases b1 <;> (unfold zI; repeat' (first | refine R.mv rfl ?_ | refine R.fa rfl rfl ?_ | refine R.ld rfl rfl rfl ?_ | refine R.call (bor := false) rfl rfl hDw rfl rfl rfl ?_ | refine R.call (bor := false) rfl rfl hDe rfl rfl rfl ?_ | refine R.sadd (s := [108]) (t := decL s.w) rfl rfl hl1 ?_ | refine R.sadd (s := [108] ++ decL s.w) (t := decL s.e) rfl rfl hl2 ?_ | refine R.bsl (f := enI) [0, s.e, 0, s.w] rfl rfl rfl rfl rfl ?_ | refine R.bld rfl rfl ?_ | refine R.bslA (f := enTile) [tileS s] rfl rfl rfl rfl rfl rfl ?_ | refine R.appN (f := enTile) rfl rfl rfl rfl rfl hap ?_ | refine R.stoB rfl rfl rfl rfl ⟨rfl, rfl, Nat.le_of_ble_eq_true rfl⟩ rfl ?_); refine R.nil (R.zN (Weak.frame _ _ ?g1 ?g2 ?g3 ?g4)); (case g1 => exact ⟨rfl, rfl, rfl, rfl, rfl, rfl, rfl, rfl, rfl, rfl, rfl, rfl, rfl, rfl, rfl, rfl, rfl, rfl, rfl, rfl, rfl, rfl, rfl, rfl, rfl, rfl, rfl, rfl, rfl, trivial⟩); (case g2 => first | exact ⟨rfl, rfl, rfl, rfl, rfl, rfl, rfl, trivial⟩ | exact ⟨rfl, rfl, rfl, rfl, rfl, rfl, rfl, rfl, trivial⟩ | exact ⟨rfl, rfl, rfl, rfl, rfl, rfl, rfl, rfl, rfl, trivial⟩); (case g3 => repeat' (first | exact rfl | refine all_cons (cV_inK rfl) ?_ | refine all_cons rfl ?_)); (case g4 => exact rfl))
  case z17 =>
    intro L hc hk hd
    have f1 : L 1 = true := hd 1 (by simp)
    have f8 : L 8 = true := hd 8 (by simp)
    have f16 : L 16 = true := hd 16 (by simp)
    have f15 : L 15 = true := hc 16 15 _ _ rfl f16 (by simp)
    have f14 : L 14 = true := hc 15 14 _ _ rfl f15 (by simp)
    have f13 : L 13 = true := hc 14 13 _ _ rfl f14 (by simp)
    have f12 : L 12 = true := hc 13 12 _ _ rfl f13 (by simp)
    have f11 : L 11 = true := hc 14 11 _ _ rfl f14 (by simp)
    have f10 : L 10 = true := hc 11 10 _ _ rfl f11 (by simp)
    have f9 : L 9 = true := hc 15 9 _ _ rfl f15 (by simp)
    have f7 : L 7 = true := hc 8 7 _ _ rfl f8 (by simp)
    have f6 : L 6 = true := hc 7 6 _ _ rfl f7 (by simp)
    have f5 : L 5 = true := hc 9 5 _ _ rfl f9 (by simp)
    have f4 : L 4 = true := hc 8 4 _ _ rfl f8 (by simp)
    have f3 : L 3 = true := hc 4 3 _ _ rfl f4 (by simp)
    have f2 : L 2 = true := hc 3 2 _ _ rfl f3 (by simp)
    have f0 : L 0 = true := hc 1 0 _ _ rfl f1 (by simp)
    have f17 : L 17 = false := hk
    have f18 : L 18 = false := by cases h : L 18 with | false => rfl | true => have := hc 18 17 _ _ rfl h (by simp); rw [f17] at this; cases this
    have f19 : L 19 = false := by cases h : L 19 with | false => rfl | true => have := hc 19 17 _ _ rfl h (by simp); rw [f17] at this; cases this
    show WL _ _ [] (fun _ s' => Weak s' (zI ss st i s ms ts (L 0) (L 1) (L 2) (L 3) (L 4) (L 5) (L 6) (L 7) (L 8) (L 9) (L 10) (L 11) (L 12) (L 13) (L 14) (L 15) (L 16) true (L 18) (L 19))) (zI ss st i s ms ts (L 0) (L 1) (L 2) (L 3) (L 4) (L 5) (L 6) (L 7) (L 8) (L 9) (L 10) (L 11) (L 12) (L 13) (L 14) (L 15) (L 16) (L 17) (L 18) (L 19))
    rw [f0]
    rw [f1]
    rw [f2]
    rw [f3]
    rw [f4]
    rw [f5]
    rw [f6]
    rw [f7]
    rw [f8]
    rw [f9]
    rw [f10]
    rw [f11]
    rw [f12]
    rw [f13]
    rw [f14]
    rw [f15]
    rw [f16]
    rw [f17]
    rw [f18]
    rw [f19]
    clear f0 f1 f2 f3 f4 f5 f6 f7 f8 f9 f10 f11 f12 f13 f14 f15 f16 f17 f18 f19 hd hk hc L
    (unfold zI; repeat' (first | refine R.mv rfl ?_ | refine R.fa rfl rfl ?_ | refine R.ld rfl rfl rfl ?_ | refine R.call (bor := false) rfl rfl hDw rfl rfl rfl ?_ | refine R.call (bor := false) rfl rfl hDe rfl rfl rfl ?_ | refine R.sadd (s := [108]) (t := decL s.w) rfl rfl hl1 ?_ | refine R.sadd (s := [108] ++ decL s.w) (t := decL s.e) rfl rfl hl2 ?_ | refine R.bsl (f := enI) [0, s.e, 0, s.w] rfl rfl rfl rfl rfl ?_ | refine R.bld rfl rfl ?_ | refine R.bslA (f := enTile) [tileS s] rfl rfl rfl rfl rfl rfl ?_ | refine R.appN (f := enTile) rfl rfl rfl rfl rfl hap ?_ | refine R.stoB rfl rfl rfl rfl ⟨rfl, rfl, Nat.le_of_ble_eq_true rfl⟩ rfl ?_); refine R.nil (R.zN (Weak.frame _ _ ?g1 ?g2 ?g3 ?g4)); (case g1 => exact ⟨rfl, rfl, rfl, rfl, rfl, rfl, rfl, rfl, rfl, rfl, rfl, rfl, rfl, rfl, rfl, rfl, rfl, rfl, rfl, rfl, rfl, rfl, rfl, rfl, rfl, rfl, rfl, rfl, rfl, trivial⟩); (case g2 => first | exact ⟨rfl, rfl, rfl, rfl, rfl, rfl, rfl, trivial⟩ | exact ⟨rfl, rfl, rfl, rfl, rfl, rfl, rfl, rfl, trivial⟩ | exact ⟨rfl, rfl, rfl, rfl, rfl, rfl, rfl, rfl, rfl, trivial⟩); (case g3 => repeat' (first | exact rfl | refine all_cons (cV_inK rfl) ?_ | refine all_cons rfl ?_)); (case g4 => exact rfl))
  case z18 =>
    intro L hc hk hd
    have f0 : L 0 = true := hd 0 (by simp)
    have f1 : L 1 = true := hd 1 (by simp)
    have f2 : L 2 = true := hd 2 (by simp)
    have f3 : L 3 = true := hd 3 (by simp)
    have f4 : L 4 = true := hd 4 (by simp)
    have f5 : L 5 = true := hd 5 (by simp)
    have f6 : L 6 = true := hd 6 (by simp)
    have f7 : L 7 = true := hd 7 (by simp)
    have f8 : L 8 = true := hd 8 (by simp)
    have f9 : L 9 = true := hd 9 (by simp)
    have f10 : L 10 = true := hd 10 (by simp)
    have f11 : L 11 = true := hd 11 (by simp)
    have f12 : L 12 = true := hd 12 (by simp)
    have f13 : L 13 = true := hd 13 (by simp)
    have f14 : L 14 = true := hd 14 (by simp)
    have f15 : L 15 = true := hd 15 (by simp)
    have f16 : L 16 = true := hd 16 (by simp)
    have f17 : L 17 = true := hd 17 (by simp)
    have f18 : L 18 = false := hk
    have f19 : L 19 = false := by cases h : L 19 with | false => rfl | true => have := hc 19 18 _ _ rfl h (by simp); rw [f18] at this; cases this
    show WL _ _ [] (fun _ s' => Weak s' (zI ss st i s ms ts (L 0) (L 1) (L 2) (L 3) (L 4) (L 5) (L 6) (L 7) (L 8) (L 9) (L 10) (L 11) (L 12) (L 13) (L 14) (L 15) (L 16) (L 17) true (L 19))) (zI ss st i s ms ts (L 0) (L 1) (L 2) (L 3) (L 4) (L 5) (L 6) (L 7) (L 8) (L 9) (L 10) (L 11) (L 12) (L 13) (L 14) (L 15) (L 16) (L 17) (L 18) (L 19))
    rw [f0]
    rw [f1]
    rw [f2]
    rw [f3]
    rw [f4]
    rw [f5]
    rw [f6]
    rw [f7]
    rw [f8]
    rw [f9]
    rw [f10]
    rw [f11]
    rw [f12]
    rw [f13]
    rw [f14]
    rw [f15]
    rw [f16]
    rw [f17]
    rw [f18]
    rw [f19]
    clear f0 f1 f2 f3 f4 f5 f6 f7 f8 f9 f10 f11 f12 f13 f14 f15 f16 f17 f18 f19 hd hk hc L
    (unfold zI; repeat' (first | refine R.mv rfl ?_ | refine R.fa rfl rfl ?_ | refine R.ld rfl rfl rfl ?_ | refine R.call (bor := false) rfl rfl hDw rfl rfl rfl ?_ | refine R.call (bor := false) rfl rfl hDe rfl rfl rfl ?_ | refine R.sadd (s := [108]) (t := decL s.w) rfl rfl hl1 ?_ | refine R.sadd (s := [108] ++ decL s.w) (t := decL s.e) rfl rfl hl2 ?_ | refine R.bsl (f := enI) [0, s.e, 0, s.w] rfl rfl rfl rfl rfl ?_ | refine R.bld rfl rfl ?_ | refine R.bslA (f := enTile) [tileS s] rfl rfl rfl rfl rfl rfl ?_ | refine R.appN (f := enTile) rfl rfl rfl rfl rfl hap ?_ | refine R.stoB rfl rfl rfl rfl ⟨rfl, rfl, Nat.le_of_ble_eq_true rfl⟩ rfl ?_); refine R.nil (R.zN (Weak.frame _ _ ?g1 ?g2 ?g3 ?g4)); (case g1 => exact ⟨rfl, rfl, rfl, rfl, rfl, rfl, rfl, rfl, rfl, rfl, rfl, rfl, rfl, rfl, rfl, rfl, rfl, rfl, rfl, rfl, rfl, rfl, rfl, rfl, rfl, rfl, rfl, rfl, rfl, trivial⟩); (case g2 => first | exact ⟨rfl, rfl, rfl, rfl, rfl, rfl, rfl, trivial⟩ | exact ⟨rfl, rfl, rfl, rfl, rfl, rfl, rfl, rfl, trivial⟩ | exact ⟨rfl, rfl, rfl, rfl, rfl, rfl, rfl, rfl, rfl, trivial⟩); (case g3 => repeat' (first | exact rfl | refine all_cons (cV_inK rfl) ?_ | refine all_cons rfl ?_)); (case g4 => exact rfl))
  case z19 =>
    intro L hc hk hd
    have f0 : L 0 = true := hd 0 (by simp)
    have f1 : L 1 = true := hd 1 (by simp)
    have f2 : L 2 = true := hd 2 (by simp)
    have f3 : L 3 = true := hd 3 (by simp)
    have f4 : L 4 = true := hd 4 (by simp)
    have f5 : L 5 = true := hd 5 (by simp)
    have f6 : L 6 = true := hd 6 (by simp)
    have f7 : L 7 = true := hd 7 (by simp)
    have f8 : L 8 = true := hd 8 (by simp)
    have f9 : L 9 = true := hd 9 (by simp)
    have f10 : L 10 = true := hd 10 (by simp)
    have f11 : L 11 = true := hd 11 (by simp)
    have f12 : L 12 = true := hd 12 (by simp)
    have f13 : L 13 = true := hd 13 (by simp)
    have f14 : L 14 = true := hd 14 (by simp)
    have f15 : L 15 = true := hd 15 (by simp)
    have f16 : L 16 = true := hd 16 (by simp)
    have f17 : L 17 = true := hd 17 (by simp)
    have f18 : L 18 = true := hd 18 (by simp)
    have f19 : L 19 = false := hk
    show WL _ _ [] (fun _ s' => Weak s' (zI ss st i s ms ts (L 0) (L 1) (L 2) (L 3) (L 4) (L 5) (L 6) (L 7) (L 8) (L 9) (L 10) (L 11) (L 12) (L 13) (L 14) (L 15) (L 16) (L 17) (L 18) true)) (zI ss st i s ms ts (L 0) (L 1) (L 2) (L 3) (L 4) (L 5) (L 6) (L 7) (L 8) (L 9) (L 10) (L 11) (L 12) (L 13) (L 14) (L 15) (L 16) (L 17) (L 18) (L 19))
    rw [f0]
    rw [f1]
    rw [f2]
    rw [f3]
    rw [f4]
    rw [f5]
    rw [f6]
    rw [f7]
    rw [f8]
    rw [f9]
    rw [f10]
    rw [f11]
    rw [f12]
    rw [f13]
    rw [f14]
    rw [f15]
    rw [f16]
    rw [f17]
    rw [f18]
    rw [f19]
    clear f0 f1 f2 f3 f4 f5 f6 f7 f8 f9 f10 f11 f12 f13 f14 f15 f16 f17 f18 f19 hd hk hc L
    (unfold zI; repeat' (first | refine R.mv rfl ?_ | refine R.fa rfl rfl ?_ | refine R.ld rfl rfl rfl ?_ | refine R.call (bor := false) rfl rfl hDw rfl rfl rfl ?_ | refine R.call (bor := false) rfl rfl hDe rfl rfl rfl ?_ | refine R.sadd (s := [108]) (t := decL s.w) rfl rfl hl1 ?_ | refine R.sadd (s := [108] ++ decL s.w) (t := decL s.e) rfl rfl hl2 ?_ | refine R.bsl (f := enI) [0, s.e, 0, s.w] rfl rfl rfl rfl rfl ?_ | refine R.bld rfl rfl ?_ | refine R.bslA (f := enTile) [tileS s] rfl rfl rfl rfl rfl rfl ?_ | refine R.appN (f := enTile) rfl rfl rfl rfl rfl hap ?_ | refine R.stoB rfl rfl rfl rfl ⟨rfl, rfl, Nat.le_of_ble_eq_true rfl⟩ rfl ?_); refine R.nil (R.zN (Weak.frame _ _ ?g1 ?g2 ?g3 ?g4)); (case g1 => exact ⟨rfl, rfl, rfl, rfl, rfl, rfl, rfl, rfl, rfl, rfl, rfl, rfl, rfl, rfl, rfl, rfl, rfl, rfl, rfl, rfl, rfl, rfl, rfl, rfl, rfl, rfl, rfl, rfl, rfl, trivial⟩); (case g2 => first | exact ⟨rfl, rfl, rfl, rfl, rfl, rfl, rfl, trivial⟩ | exact ⟨rfl, rfl, rfl, rfl, rfl, rfl, rfl, rfl, trivial⟩ | exact ⟨rfl, rfl, rfl, rfl, rfl, rfl, rfl, rfl, rfl, trivial⟩); (case g3 => repeat' (first | exact rfl | refine all_cons (cV_inK rfl) ?_ | refine all_cons rfl ?_)); (case g4 => exact rfl))
theorem Weak.reifyAgg {st : St} (d i p : Nat) (κ : Ky) {cs : List B} (hd : st.env d = .v (.agg cs)) (hi : cs[i]? = some nilB) (hp : freeO st.objs p) : Weak st ⟨upd st.env d (.v (.agg (cs.set i (.own p)))), upd st.objs p (some (.arr κ [] []))⟩ := fun F R ι φ a w hs => by
  obtain ⟨hp1, hp2⟩ := hp.none
  have h1 := hs.new (d := p) (u := .slice none 0 0) (S := []) (x := .arr κ [] []) (w' := w) hp1 hp2 (Below.refl _ _) (RArr.nil w _ _ κ) (fun g hg => by cases hg)
  refine ⟨R, _, _, h1.below, h1.rlt, h1.rsub, h1.rnew, h1.size, h1.defers, fun t => ?_, h1.objs, h1.mine, h1.apart, h1.pin⟩
  by_cases ht : t = d
  · subst ht
    have := h1.env t
    rw [show (⟨st.env, upd st.objs p (some (.arr κ [] []))⟩ : St).env t = .v (.agg cs) from hd] at this
    obtain ⟨vs, e1, q5⟩ := this
    obtain ⟨u, hu, hr⟩ := q5.get hi
    have hr : RD w R u (.pv (.slice none 0 0)) := hr
    have hu' : u = .slice none 0 0 := by cases hr; rfl
    have h2 : RB w R (upd ι p (.slice none 0 0)) (St.dom ⟨st.env, upd st.objs p (some (.arr κ [] []))⟩) (.slice none 0 0) (.own p) := ⟨⟨.arr κ [] [], by simp [upd_same]⟩, by rw [upd_same]⟩
    have h3 := q5.set i h2
    rw [set_same (hu' ▸ hu)] at h3
    simp only [upd_same]
    exact ⟨vs, e1, h3⟩
  · simp only [upd_ne _ _ ht]
    exact h1.env t
theorem Weak.hideRowsM {st : St} {α : Type} (j q : Nat) {κ : Ky} (g : List α) (fv : α → Value) (fd : α → D) {l : List (Value × D)} (h : st.env j = .v (.c (.d (.rd κ (g.map fun x => [.pv (fv x)]))))) (hq : st.objs q = some (.val l)) (hm : ∀ x ∈ g, (fv x, fd x) ∈ l) : Weak st ⟨upd st.env j (.v (.c (.d (.rd κ (g.map fun x => [fd x]))))), st.objs⟩ :=
  Weak.env1 j _ fun R ι φ w u ho he => by
    rw [h] at he
    have he : RD w R u (.rd κ (g.map fun x => [.pv (fv x)])) := he
    refine RD.rows he (by simp) fun i es' hi => ?_
    rw [List.getElem?_map, Option.map_eq_some_iff] at hi
    obtain ⟨x, hx, rfl⟩ := hi
    refine ⟨[.pv (fv x)], by rw [List.getElem?_map, hx]; rfl, rfl, fun k d' hk => ?_⟩
    cases k with
    | zero =>
      cases hk
      refine ⟨_, rfl, fun u hu => ?_⟩
      cases hu
      exact (ho q _ hq).2.2 _ (hm x (List.mem_of_getElem? hx))
    | succ k => cases hk
/-- The stages, the last one in front. -/
def stgs (n : Int) : Nat → List (List TStrip)
  | 0 => [stg n 0]
  | k + 1 => stg n (k + 1) :: stgs n k
def mixes (n : Int) : Nat → List (List TMixture)
  | 0 => []
  | k + 1 => mixS (stg n (k + 1)) (stg n k) :: mixes n k
def frst (l : Nat) : List TMixture := (List.range l).map fun i : Nat => (⟨[], [(i : Int)]⟩ : TMixture)
def lpSet (n : Int) : TTileSet := ⟨gl3, (stg n (stN n)).map tileS⟩
def lpPlan (n : Int) : TPlan := ⟨frst (stg n (stN n)).length :: mixes n (stN n)⟩
theorem stgs_len (n : Int) : ∀ k, (stgs n k).length = k + 1
  | 0 => rfl
  | k + 1 => by rw [stgs, List.length_cons, stgs_len n k]
theorem stgs_get (n : Int) : ∀ (k i : Nat), i ≤ k → (stgs n k)[i]? = some (stg n (k - i))
  | 0, i, h => by obtain rfl : i = 0 := by omega
                  rfl
  | k + 1, 0, _ => rfl
  | k + 1, i + 1, h => by
    rw [stgs, List.getElem?_cons_succ, stgs_get n k i (by omega)]
    congr 2
    omega
theorem mixes_len (n : Int) : ∀ k, (mixes n k).length = k
  | 0 => rfl
  | k + 1 => by rw [mixes, List.length_cons, mixes_len n k]
theorem mixes_get (n : Int) : ∀ (k i : Nat), i < k → (mixes n k)[i]? = some (mixS (stg n (k - i)) (stg n (k - i - 1)))
  | k + 1, 0, _ => rfl
  | k + 1, i + 1, h => by
    rw [mixes, List.getElem?_cons_succ, mixes_get n k i (by omega), show k + 1 - (i + 1) = k - i by omega]
theorem frst_snoc (i : Nat) : frst (i + 1) = frst i ++ [⟨[], [(i : Int)]⟩] := by
  unfold frst
  rw [List.range_succ, List.map_append]
  rfl
theorem frst_len (i : Nat) : (frst i).length = i := by unfold frst; rw [List.length_map, List.length_range]
theorem stN_le (n : Int) : stN n ≤ 4 := by
  unfold stN
  repeat' split
  all_goals omega
theorem stg_ok {n : Int} (hn : 1 ≤ n ∧ n ≤ 12) {k : Nat} (hk : k ≤ stN n) : big (stg n k) = decide (k < stN n) ∧ (stg n k).length ≤ 12 ∧ 1 ≤ (stg n k).length ∧ ∀ s ∈ stg n k, okSt s := by
  obtain ⟨m, rfl⟩ : ∃ m : Nat, n = m := ⟨n.toNat, by omega⟩
  have h4 := stN_le (m : Int)
  have := stg_facts ⟨m, by omega⟩ (by show 1 ≤ m; omega) ⟨k, by omega⟩ hk
  obtain ⟨q1, q2, q3, q4⟩ := this
  exact ⟨q1, q2, q3, fun s hs => ⟨(q4 s hs).1, (q4 s hs).2.1, (q4 s hs).2.2.1⟩⟩
theorem mem_fold : ∀ {ps l : List TStrip} {p : TStrip}, (p ∈ l ∨ p ∈ ps) → p ∈ ps.foldl putS l
  | [], l, p, h => h.elim id fun h => by cases h
  | q :: ps, l, p, h => by
    rw [List.foldl_cons]
    refine mem_fold ?_
    rcases h with h | h
    · left
      unfold putS
      split
      · exact h
      · exact List.mem_append_left _ h
    · rcases List.mem_cons.1 h with rfl | h
      · left
        unfold putS
        split
        · assumption
        · simp
      · exact .inr h
theorem mem_bef {st : List TStrip} {s p : TStrip} (hs : s ∈ st) (hp : p ∈ prt s) : p ∈ bef st := mem_fold (.inr (List.mem_flatMap.2 ⟨s, hs, hp⟩))
abbrev enSS (l : List TStrip) : List D := [.rd kSt (l.map enSt)]
theorem iMore (s : TStrip) : Spec Tryd.prog 20 [.agg (enSt s)] (oB (decide (1 < s.m))) := by
  refine Spec.walk T.mixed Tryd.func20 S.ok20 (by simp [Tryd.f20]) fun hk => ?_
  clear hk
  unfold S.s20
  repeat' (first | refine R.mv rfl ?_ | refine R.reg ?_ | refine R.nil ?_ | refine R.seq ?_ | refine R.nseq ?_ | refine R.nblk ?_ | refine R.skip ?_ | refine R.blk ?_ | refine R.exit rfl ?_ | refine R.ldEp rfl rfl (by assumption) rfl rfl ?_ | refine R.ldaEp rfl rfl (by assumption) (Nat.le_of_ble_eq_true rfl) rfl rfl ?_ | refine R.ld rfl rfl rfl ?_ | refine R.lda rfl rfl (Nat.le_of_ble_eq_true rfl) rfl ?_ | refine R.fa rfl rfl ?_ | refine R.gtr rfl rfl ?_ | refine R.box rfl rfl rfl ?_ | refine R.condT rfl ?_ | refine R.condF rfl ?_ | refine R.cond rfl (fun hc => ?_) (fun hc => ?_) | refine R.condN rfl (fun hc => ?_) (fun hc => ?_) | refine R.condB rfl (fun hc => ?_) (fun hc => ?_))
  all_goals exact R.ret ⟨.inr rfl, R.outB rfl rfl rfl⟩
theorem iPlan (n : Int) (hn : 1 ≤ n ∧ n ≤ 12) : Spec Tryd.prog 6 [vI n] (.tup [.agg [.nw kGlue ((lpSet n).fGlues.map enGlue), .nw kTile ((lpSet n).fTiles.map enTile)], .agg [.nw kRMixture ((lpPlan n).fStages.map enRMixture)], cI 0]) := by
  have hW := iWithin n 1 12
  rw [show inB n 1 12 = true by simp [inB]; omega] at hW
  have hN4 := stN_le n
  refine Spec.walk T.mixed Tryd.func6 S.ok6 (by simp [Tryd.f6]) fun hk => ?_
  clear hk
  unfold S.s6
  repeat' (first | refine R.weak (Weak.trans (Weak.freeze 19 rfl rfl) (Weak.regNew 7777 rfl)) ?_ | refine R.revealC 19 7777 rfl rfl (fun c => ?_) | refine R.mv rfl ?_ | refine R.reg ?_ | refine R.tk ?_ | refine R.tkN ?_ | exact R.vac | refine R.both ?_ ?_ | refine R.nil ?_ | refine R.seq ?_ | refine R.nseq ?_ | refine R.nblk ?_ | refine R.skip ?_ | refine R.blk ?_ | refine R.exit rfl ?_ | refine R.ldEp rfl rfl (by assumption) rfl rfl ?_ | refine R.ldaEp rfl rfl (by assumption) (Nat.le_of_ble_eq_true rfl) rfl rfl ?_ | refine R.ld rfl rfl rfl ?_ | refine R.lda rfl rfl (Nat.le_of_ble_eq_true rfl) rfl ?_ | refine R.fa rfl rfl ?_ | refine R.lenM rfl ?_ | refine R.lenO rfl rfl ?_ | refine R.len rfl rfl ?_ | refine R.lss rfl rfl ?_ | refine R.add rfl rfl (by omega) ?_ | refine R.sub rfl rfl (by omega) ?_ | refine R.ixN rfl rfl rfl (by omega) (fun a ha => ?_) | refine R.ixM rfl rfl rfl (by omega) (fun a ha => ?_) | refine R.ixON rfl rfl rfl (by first | omega | (simp; omega)) (fun a' ha' => ?_) | refine R.ixO rfl rfl rfl (by first | omega | (simp; omega)) (fun a' ha' => ?_) | refine R.not rfl ?_ | refine R.al rfl ?_ | refine R.stoB rfl rfl rfl rfl ⟨rfl, rfl, Nat.le_of_ble_eq_true rfl⟩ rfl ?_ | refine R.stoE _ rfl rfl rfl rfl rfl (by assumption) rfl ⟨rfl, rfl, Nat.le_of_ble_eq_true rfl⟩ ?_ | refine R.bld rfl rfl ?_ | refine R.condT rfl ?_ | refine R.condF rfl ?_ | refine R.call (bor := false) rfl rfl (hW) rfl rfl rfl ?_ | refine R.call (bor := true) rfl rfl (hW) rfl rfl rfl ?_ | refine R.fcal (bor := false) rfl rfl (hW) rfl rfl rfl ?_ | refine R.fcal (bor := true) rfl rfl (hW) rfl rfl rfl ?_ | refine R.bsl (f := enSt) [(⟨n, 0, 0⟩ : TStrip)] rfl rfl rfl rfl rfl ?_ | refine R.bsl (f := enW) [c] rfl rfl rfl rfl rfl ?_ | refine R.cond rfl (fun hc => ?_) (fun hc => ?_) | refine R.condN rfl (fun hc => ?_) (fun hc => ?_) | refine R.condB rfl (fun hc => ?_) (fun hc => ?_))
  all_goals first | (exfalso; omega) | skip
  refine R.loop (G := List (CV × List TStrip)) (fun _ => [(2, .v (.c (.ptr 2 0))), (3, .v (.c (.ptr 3 0))), (5, .v (.c (.own 20)))]) (fun g => [(2, .box 25 [nilB, nilB]), (3, .box 28 [nilB]), (20, .arr kSS ((g.map (·.1)).map enW) []), (7777, .val (g.reverse.map fun p => (p.1.v, .rd kSt (p.2.map enSt))))]) (fun g => ∃ k, k ≤ stN n ∧ g.map (·.2) = stgs n k) (fun g => stN n + 1 - g.length) [(c, [⟨n, 0, 0⟩])] ⟨0, Nat.zero_le _, rfl⟩ (Weak.frame _ _ ⟨rfl, rfl, rfl, trivial⟩ ⟨rfl, rfl, rfl, rfl, trivial⟩ rfl rfl) fun g hg => ?_
  obtain ⟨k, hkN, hgk⟩ := hg
  have hgl : g.length = k + 1 := by have := congrArg List.length hgk; rwa [List.length_map, stgs_len] at this
  obtain ⟨⟨c1, l1⟩, g1, rfl⟩ : ∃ p g1, g = p :: g1 := by
    cases g with
    | nil => simp at hgl
    | cons p g1 => exact ⟨p, g1, rfl⟩
  have hl1 : l1 = stg n k := by
    have h0 := stgs_get n k 0 (Nat.zero_le _)
    rw [← hgk] at h0
    simpa using h0
  obtain ⟨hbig, hlen12, hlen1, hok⟩ := stg_ok hn hkN
  have hm : (c1.v, D.rd kSt (l1.map enSt)) ∈ ((c1, l1) :: g1).reverse.map (fun p => (p.1.v, D.rd kSt (p.2.map enSt))) := List.mem_map.2 ⟨(c1, l1), by simp, rfl⟩
  have hcv0 : (((c1, l1) :: g1).map (·.1))[0]? = some c1 := rfl
  have hCo := lib_anyStrip (l := l1) (g := 20) (caps := []) (p := fun s => decide (1 < s.m)) fun a _ => iMore a
  rw [show (l1.any fun s => decide (1 < s.m)) = decide (k < stN n) by rw [hl1]; exact hbig] at hCo
  by_cases hkl : k < stN n
  · rw [decide_eq_true hkl] at hCo
    have hB := iBefore l1 (by rw [hl1]; exact hok) (by rw [hl1]; omega)
    have hIns := fun q : CV => lib_insCV (l := ((c1, l1) :: g1).map (·.1)) (q := q) (i := 0) (Nat.zero_le _) (by rw [List.length_map, hgl]; omega)
    repeat' (first | refine R.ixOK c1 hcv0 rfl rfl rfl ?_ | refine R.weak (Weak.hide 23 7777 rfl rfl hm) ?_ | refine R.weak (Weak.hide 28 7777 rfl rfl hm) ?_ | refine R.weak (Weak.freeze 31000 rfl rfl) ?_ | refine R.revealC 29 7777 rfl rfl (fun c2 => ?_) | refine R.mv rfl ?_ | refine R.reg ?_ | refine R.tk ?_ | refine R.tkN ?_ | exact R.vac | refine R.both ?_ ?_ | refine R.nil ?_ | refine R.seq ?_ | refine R.nseq ?_ | refine R.nblk ?_ | refine R.skip ?_ | refine R.blk ?_ | refine R.exit rfl ?_ | refine R.ldEp rfl rfl (by assumption) rfl rfl ?_ | refine R.ldaEp rfl rfl (by assumption) (Nat.le_of_ble_eq_true rfl) rfl rfl ?_ | refine R.ld rfl rfl rfl ?_ | refine R.lda rfl rfl (Nat.le_of_ble_eq_true rfl) rfl ?_ | refine R.fa rfl rfl ?_ | refine R.lenM rfl ?_ | refine R.lenO rfl rfl ?_ | refine R.len rfl rfl ?_ | refine R.lss rfl rfl ?_ | refine R.add rfl rfl (by omega) ?_ | refine R.sub rfl rfl (by omega) ?_ | refine R.ixN rfl rfl rfl (by omega) (fun a ha => ?_) | refine R.ixM rfl rfl rfl (by omega) (fun a ha => ?_) | refine R.ixON rfl rfl rfl (by first | omega | (simp; omega)) (fun a' ha' => ?_) | refine R.ixO rfl rfl rfl (by first | omega | (simp; omega)) (fun a' ha' => ?_) | refine R.not rfl ?_ | refine R.al rfl ?_ | refine R.stoB rfl rfl rfl rfl ⟨rfl, rfl, Nat.le_of_ble_eq_true rfl⟩ rfl ?_ | refine R.stoE _ rfl rfl rfl rfl rfl (by assumption) rfl ⟨rfl, rfl, Nat.le_of_ble_eq_true rfl⟩ ?_ | refine R.bld rfl rfl ?_ | refine R.condT rfl ?_ | refine R.condF rfl ?_ | refine R.call (bor := false) rfl rfl (hCo) rfl rfl rfl ?_ | refine R.call (bor := true) rfl rfl (hCo) rfl rfl rfl ?_ | refine R.fcal (bor := false) rfl rfl (hCo) rfl rfl rfl ?_ | refine R.fcal (bor := true) rfl rfl (hCo) rfl rfl rfl ?_ | refine R.callN1 (bor := false) rfl rfl (hB) rfl rfl ?_ | refine R.callN1 (bor := true) rfl rfl (hB) rfl rfl ?_ | refine R.callN (bor := false) rfl rfl (hB) rfl rfl rfl rfl rfl ?_ | refine R.callN (bor := true) rfl rfl (hB) rfl rfl rfl rfl rfl ?_ | refine R.bsl (f := enW) [c2] rfl rfl rfl rfl rfl ?_ | refine R.callX (bor := false) [(20, pin 0), (30, pin 1)] rfl (hIns c2) rfl rfl rfl rfl rfl ?_ | refine R.cond rfl (fun hc => ?_) (fun hc => ?_) | refine R.condN rfl (fun hc => ?_) (fun hc => ?_) | refine R.condB rfl (fun hc => ?_) (fun hc => ?_))
    all_goals first
      | (exfalso; omega)
      | (exfalso; simp_all; done)
      | skip
    refine R.nloop ⟨(c2, bef l1) :: (c1, l1) :: g1, ⟨k + 1, by omega, by rw [List.map_cons, hgk, hl1]; rfl⟩, by simp only [List.length_cons] at hgl ⊢; omega, Weak.trans (Weak.swap 33000 20 rfl rfl) (Weak.frame _ _ ⟨rfl, rfl, rfl, trivial⟩ ⟨rfl, rfl, ?g1, ?g2, trivial⟩ rfl rfl)⟩
    case g1 => exact arr_eq (by simp)
    case g2 =>
      rw [show ((c2, bef l1) :: (c1, l1) :: g1).reverse.map (fun p => (p.1.v, D.rd kSt (p.2.map enSt))) = ((c1, l1) :: g1).reverse.map (fun p => (p.1.v, D.rd kSt (p.2.map enSt))) ++ [(c2.v, D.rd kSt ((bef l1).map enSt))] by rw [List.reverse_cons, List.map_append]; rfl]
      rfl
  obtain rfl : k = stN n := by omega
  rw [decide_eq_false hkl] at hCo
  have hl12 : l1.length ≤ 12 := by rw [hl1]; exact hlen12
  have hm39 : ∀ x ∈ ((c1, l1) :: g1), (x.1.v, D.rd kSt (x.2.map enSt)) ∈ ((c1, l1) :: g1).reverse.map (fun p => (p.1.v, D.rd kSt (p.2.map enSt))) := fun x hx => List.mem_map.2 ⟨x, List.mem_reverse.2 hx, rfl⟩
  have hrow : ((c1, l1) :: g1).map (fun x => [D.rd kSt (x.2.map enSt)]) = (stgs n (stN n)).map enSS := by rw [← hgk, List.map_map]; rfl
  repeat' (first | refine R.ixOK c1 hcv0 rfl rfl rfl ?_ | refine R.weak (Weak.hide 23 7777 rfl rfl hm) ?_ | refine R.weak (Weak.hide 39 7777 rfl rfl hm) ?_ | refine R.mv rfl ?_ | refine R.reg ?_ | refine R.tk ?_ | refine R.tkN ?_ | exact R.vac | refine R.both ?_ ?_ | refine R.nil ?_ | refine R.seq ?_ | refine R.nseq ?_ | refine R.nblk ?_ | refine R.skip ?_ | refine R.blk ?_ | refine R.exit rfl ?_ | refine R.ldEp rfl rfl (by assumption) rfl rfl ?_ | refine R.ldaEp rfl rfl (by assumption) (Nat.le_of_ble_eq_true rfl) rfl rfl ?_ | refine R.ld rfl rfl rfl ?_ | refine R.lda rfl rfl (Nat.le_of_ble_eq_true rfl) rfl ?_ | refine R.fa rfl rfl ?_ | refine R.lenM rfl ?_ | refine R.lenO rfl rfl ?_ | refine R.len rfl rfl ?_ | refine R.lss rfl rfl ?_ | refine R.add rfl rfl (by omega) ?_ | refine R.sub rfl rfl (by omega) ?_ | refine R.ixN rfl rfl rfl (by omega) (fun a ha => ?_) | refine R.ixM rfl rfl rfl (by omega) (fun a ha => ?_) | refine R.ixON rfl rfl rfl (by first | omega | (simp; omega)) (fun a' ha' => ?_) | refine R.ixO rfl rfl rfl (by first | omega | (simp; omega)) (fun a' ha' => ?_) | refine R.not rfl ?_ | refine R.al rfl ?_ | refine R.stoB rfl rfl rfl rfl ⟨rfl, rfl, Nat.le_of_ble_eq_true rfl⟩ rfl ?_ | refine R.stoE _ rfl rfl rfl rfl rfl (by assumption) rfl ⟨rfl, rfl, Nat.le_of_ble_eq_true rfl⟩ ?_ | refine R.bld rfl rfl ?_ | refine R.condT rfl ?_ | refine R.condF rfl ?_ | refine R.call (bor := false) rfl rfl (hCo) rfl rfl rfl ?_ | refine R.call (bor := true) rfl rfl (hCo) rfl rfl rfl ?_ | refine R.fcal (bor := false) rfl rfl (hCo) rfl rfl rfl ?_ | refine R.fcal (bor := true) rfl rfl (hCo) rfl rfl rfl ?_ | refine R.bsl (f := enGlue) gl3 rfl rfl rfl rfl rfl ?_ | refine R.cond rfl (fun hc => ?_) (fun hc => ?_) | refine R.condN rfl (fun hc => ?_) (fun hc => ?_) | refine R.condB rfl (fun hc => ?_) (fun hc => ?_))
  all_goals first | (exfalso; omega) | (exfalso; simp_all; done) | skip
  refine R.loop (G := Nat) (fun i => [(2, .v (.c (.ptr 2 0))), (3, .v (.c (.ptr 3 0))), (5, rdA kSS ((stgs n (stN n)).map enSS)), (6, .v (.c (.ptr 6 0))), (7, .v (.c (.own 7))), (39, rdA kSt (l1.map enSt)), (40, pvA (.int .i64 l1.length)), (41, pvA (.int .i64 i))]) (fun i => [(2, .box 25 [nilB, nilB]), (3, .box 28 [nilB]), (6, .box 25 [.own 35, .own 901]), (7, .arr kMixture ((frst i).map enMixture) []), (35, .arr kGlue (gl3.map enGlue) []), (901, .arr kTile (((l1.take i).map tileS).map enTile) [])]) (fun i => i ≤ l1.length) (fun i => l1.length - i) 0 (Nat.zero_le _) ?hw2 fun i hi => ?_
  case hw2 =>
    refine Weak.trans (Weak.freeze 20 rfl rfl) ?_
    refine Weak.trans (Weak.hideRowsM 5 7777 ((c1, l1) :: g1) (fun p => p.1.v) (fun p => D.rd kSt (p.2.map enSt)) (by rw [show (((c1, l1) :: g1).map fun x => [D.pv x.1.v]) = (((c1, l1) :: g1).map (·.1)).map enW from by rw [List.map_map]; rfl]; rfl) rfl hm39) ?_
    refine Weak.trans (Weak.reify 7 7 kMixture rfl rfl) ?_
    refine Weak.trans (Weak.reifyBox 6 1 901 kTile rfl rfl rfl) ?_
    exact Weak.frame _ _ ⟨rfl, rfl, by rw [← hrow]; rfl, rfl, rfl, rfl, rfl, rfl, trivial⟩ ⟨rfl, rfl, rfl, rfl, rfl, rfl, trivial⟩ rfl rfl
  have hfl := frst_len i
  have htl : ((l1.take i).map tileS).length ≤ i := by rw [List.length_map, List.length_take]; omega
  by_cases hil : i < l1.length
  · obtain ⟨s, hs⟩ : ∃ s, l1[i]? = some s := ⟨_, List.getElem?_eq_getElem hil⟩
    have hoks := hok s (by rw [← hl1]; exact List.mem_of_getElem? hs)
    have hDw := iDec s.w ⟨by have := hoks.2.1.1; omega, by have := hoks.2.1.2; omega⟩
    have hDe := iDec s.e ⟨by have := hoks.2.2.1; omega, by have := hoks.2.2.2; omega⟩
    have hlw := decL_len (n := s.w) ⟨by have := hoks.2.1.1; omega, by have := hoks.2.1.2; omega⟩
    have hle := decL_len (n := s.e) ⟨by have := hoks.2.2.1; omega, by have := hoks.2.2.2; omega⟩
    have htsn : (l1.take (i + 1)).map tileS = (l1.take i).map tileS ++ [tileS s] := by rw [take_snoc hs, List.map_append]; rfl
    have hfsn := frst_snoc i
    generalize (l1.take i).map tileS = ts at *
    generalize frst i = ms at *
    have hap1 : (ts.length + [tileS s].length) * 40 ≤ 140737488355328 ∧ ts.length + [tileS s].length ≤ 140737488355328 := by rw [List.length_singleton]; omega
    have hap2 : (ms.length + [(⟨[], [(i : Int)]⟩ : TMixture)].length) * 48 ≤ 140737488355328 ∧ ms.length + [(⟨[], [(i : Int)]⟩ : TMixture)].length ≤ 140737488355328 := by rw [List.length_singleton]; omega
    have hz := zI_all ((stgs n (stN n)).map enSS) l1 i s ms ts hDw hDe (by simp only [List.length_singleton]; omega) (by simp only [List.length_append, List.length_singleton]; omega) hap1
    repeat' (first | refine R.ixK s hs rfl rfl rfl ?_ | refine R.mv rfl ?_ | refine R.reg ?_ | refine R.tk ?_ | refine R.tkN ?_ | exact R.vac | refine R.both ?_ ?_ | refine R.nil ?_ | refine R.seq ?_ | refine R.nseq ?_ | refine R.nblk ?_ | refine R.skip ?_ | refine R.blk ?_ | refine R.exit rfl ?_ | refine R.ldEp rfl rfl (by assumption) rfl rfl ?_ | refine R.ldaEp rfl rfl (by assumption) (Nat.le_of_ble_eq_true rfl) rfl rfl ?_ | refine R.ld rfl rfl rfl ?_ | refine R.lda rfl rfl (Nat.le_of_ble_eq_true rfl) rfl ?_ | refine R.fa rfl rfl ?_ | refine R.lenM rfl ?_ | refine R.lenO rfl rfl ?_ | refine R.len rfl rfl ?_ | refine R.lss rfl rfl ?_ | refine R.add rfl rfl (by omega) ?_ | refine R.sub rfl rfl (by omega) ?_ | refine R.ixN rfl rfl rfl (by omega) (fun a ha => ?_) | refine R.ixM rfl rfl rfl (by omega) (fun a ha => ?_) | refine R.ixON rfl rfl rfl (by first | omega | (simp; omega)) (fun a' ha' => ?_) | refine R.ixO rfl rfl rfl (by first | omega | (simp; omega)) (fun a' ha' => ?_) | refine R.not rfl ?_ | refine R.al rfl ?_ | refine R.stoB rfl rfl rfl rfl ⟨rfl, rfl, Nat.le_of_ble_eq_true rfl⟩ rfl ?_ | refine R.stoE _ rfl rfl rfl rfl rfl (by assumption) rfl ⟨rfl, rfl, Nat.le_of_ble_eq_true rfl⟩ ?_ | refine R.bld rfl rfl ?_ | refine R.condT rfl ?_ | refine R.condF rfl ?_ | refine R.cond rfl (fun hc => ?_) (fun hc => ?_) | refine R.condN rfl (fun hc => ?_) (fun hc => ?_) | refine R.condB rfl (fun hc => ?_) (fun hc => ?_))
    all_goals first | (exfalso; omega) | skip
    refine R.regZM ⟨frE [(2, .v (.c (.ptr 2 0))), (3, .v (.c (.ptr 3 0))), (5, rdA kSS ((stgs n (stN n)).map enSS)), (6, .v (.c (.ptr 6 0))), (7, .v (.c (.own 7))), (8, pvA (.int .i64 i)), (39, rdA kSt (l1.map enSt)), (40, pvA (.int .i64 l1.length)), (41, pvA (.int .i64 i))], frO [(2, .box 25 [nilB, nilB]), (3, .box 28 [nilB]), (6, .box 25 [.own 35, .own 901]), (7, .arr kMixture (ms.map enMixture) []), (35, .arr kGlue (gl3.map enGlue) []), (901, .arr kTile ((ts ++ [tileS s]).map enTile) [])]⟩ (fun L => zI ((stgs n (stN n)).map enSS) l1 i s ms ts (L 0) (L 1) (L 2) (L 3) (L 4) (L 5) (L 6) (L 7) (L 8) (L 9) (L 10) (L 11) (L 12) (L 13) (L 14) (L 15) (L 16) (L 17) (L 18) (L 19)) ?h0 hz ?h2 ?_
    case h0 =>
      intro L hL
      have f0 := hL 0 (by show 0 < 20; omega); have f1 := hL 1 (by show 1 < 20; omega); have f2 := hL 2 (by show 2 < 20; omega); have f3 := hL 3 (by show 3 < 20; omega); have f4 := hL 4 (by show 4 < 20; omega); have f5 := hL 5 (by show 5 < 20; omega); have f6 := hL 6 (by show 6 < 20; omega); have f7 := hL 7 (by show 7 < 20; omega); have f8 := hL 8 (by show 8 < 20; omega); have f9 := hL 9 (by show 9 < 20; omega); have f10 := hL 10 (by show 10 < 20; omega); have f11 := hL 11 (by show 11 < 20; omega); have f12 := hL 12 (by show 12 < 20; omega); have f13 := hL 13 (by show 13 < 20; omega); have f14 := hL 14 (by show 14 < 20; omega); have f15 := hL 15 (by show 15 < 20; omega); have f16 := hL 16 (by show 16 < 20; omega); have f17 := hL 17 (by show 17 < 20; omega); have f18 := hL 18 (by show 18 < 20; omega); have f19 := hL 19 (by show 19 < 20; omega)
      show Weak _ (zI ((stgs n (stN n)).map enSS) l1 i s ms ts (L 0) (L 1) (L 2) (L 3) (L 4) (L 5) (L 6) (L 7) (L 8) (L 9) (L 10) (L 11) (L 12) (L 13) (L 14) (L 15) (L 16) (L 17) (L 18) (L 19))
      rw [f0, f1, f2, f3, f4, f5, f6, f7, f8, f9, f10, f11, f12, f13, f14, f15, f16, f17, f18, f19]
      unfold zI
      refine Weak.frame _ _ ?g1 ?g2 ?g3 ?g4
      (case g1 => exact ⟨rfl, rfl, rfl, rfl, rfl, rfl, rfl, rfl, rfl, rfl, rfl, rfl, rfl, rfl, rfl, rfl, rfl, rfl, rfl, rfl, rfl, rfl, rfl, rfl, rfl, rfl, rfl, rfl, rfl, trivial⟩)
      (case g2 => exact ⟨rfl, rfl, rfl, rfl, rfl, rfl, rfl, trivial⟩)
      (case g3 => repeat' (first | exact rfl | refine all_cons (cV_inK rfl) ?_ | refine all_cons rfl ?_))
      (case g4 => exact rfl)
    case h2 =>
      intro L hL
      have f0 := hL 0 (by show 0 < 20; omega); have f1 := hL 1 (by show 1 < 20; omega); have f2 := hL 2 (by show 2 < 20; omega); have f3 := hL 3 (by show 3 < 20; omega); have f4 := hL 4 (by show 4 < 20; omega); have f5 := hL 5 (by show 5 < 20; omega); have f6 := hL 6 (by show 6 < 20; omega); have f7 := hL 7 (by show 7 < 20; omega); have f8 := hL 8 (by show 8 < 20; omega); have f9 := hL 9 (by show 9 < 20; omega); have f10 := hL 10 (by show 10 < 20; omega); have f11 := hL 11 (by show 11 < 20; omega); have f12 := hL 12 (by show 12 < 20; omega); have f13 := hL 13 (by show 13 < 20; omega); have f14 := hL 14 (by show 14 < 20; omega); have f15 := hL 15 (by show 15 < 20; omega); have f16 := hL 16 (by show 16 < 20; omega); have f17 := hL 17 (by show 17 < 20; omega); have f18 := hL 18 (by show 18 < 20; omega); have f19 := hL 19 (by show 19 < 20; omega)
      show Weak (zI ((stgs n (stN n)).map enSS) l1 i s ms ts (L 0) (L 1) (L 2) (L 3) (L 4) (L 5) (L 6) (L 7) (L 8) (L 9) (L 10) (L 11) (L 12) (L 13) (L 14) (L 15) (L 16) (L 17) (L 18) (L 19)) _
      rw [f0, f1, f2, f3, f4, f5, f6, f7, f8, f9, f10, f11, f12, f13, f14, f15, f16, f17, f18, f19]
      unfold zI
      exact Weak.frame _ _ ⟨rfl, rfl, rfl, rfl, rfl, rfl, rfl, rfl, rfl, trivial⟩ ⟨rfl, rfl, rfl, rfl, rfl, rfl, trivial⟩ rfl rfl
    repeat' (first | refine R.weak (Weak.reifyAgg 68 0 902 kI rfl rfl rfl) ?_ | refine R.mv rfl ?_ | refine R.reg ?_ | refine R.tk ?_ | refine R.tkN ?_ | exact R.vac | refine R.both ?_ ?_ | refine R.nil ?_ | refine R.seq ?_ | refine R.nseq ?_ | refine R.nblk ?_ | refine R.skip ?_ | refine R.blk ?_ | refine R.exit rfl ?_ | refine R.ldEp rfl rfl (by assumption) rfl rfl ?_ | refine R.ldaEp rfl rfl (by assumption) (Nat.le_of_ble_eq_true rfl) rfl rfl ?_ | refine R.ld rfl rfl rfl ?_ | refine R.lda rfl rfl (Nat.le_of_ble_eq_true rfl) rfl ?_ | refine R.fa rfl rfl ?_ | refine R.lenM rfl ?_ | refine R.lenO rfl rfl ?_ | refine R.len rfl rfl ?_ | refine R.lss rfl rfl ?_ | refine R.add rfl rfl (by omega) ?_ | refine R.sub rfl rfl (by omega) ?_ | refine R.ixN rfl rfl rfl (by omega) (fun a ha => ?_) | refine R.ixM rfl rfl rfl (by omega) (fun a ha => ?_) | refine R.ixON rfl rfl rfl (by first | omega | (simp; omega)) (fun a' ha' => ?_) | refine R.ixO rfl rfl rfl (by first | omega | (simp; omega)) (fun a' ha' => ?_) | refine R.not rfl ?_ | refine R.al rfl ?_ | refine R.stoB rfl rfl rfl rfl ⟨rfl, rfl, Nat.le_of_ble_eq_true rfl⟩ rfl ?_ | refine R.stoE _ rfl rfl rfl rfl rfl (by assumption) rfl ⟨rfl, rfl, Nat.le_of_ble_eq_true rfl⟩ ?_ | refine R.bld rfl rfl ?_ | refine R.condT rfl ?_ | refine R.condF rfl ?_ | refine R.bsl (f := enI) [(i : Int)] rfl rfl rfl rfl rfl ?_ | refine R.bslA (f := enMixture) [(⟨[], [(i : Int)]⟩ : TMixture)] rfl rfl rfl rfl rfl rfl ?_ | refine R.appN (f := enMixture) rfl rfl rfl rfl rfl hap2 ?_ | refine R.cond rfl (fun hc => ?_) (fun hc => ?_) | refine R.condN rfl (fun hc => ?_) (fun hc => ?_) | refine R.condB rfl (fun hc => ?_) (fun hc => ?_))
    all_goals first
      | (exfalso; omega)
      | exact R.nloop (R.again (i + 1) (by omega) (by omega) ⟨rfl, rfl, rfl, rfl, rfl, rfl, rfl, rfl, trivial⟩ ⟨rfl, rfl, rfl, arr_eq (by rw [hfsn]), rfl, arr_eq (by rw [htsn]), trivial⟩ rfl rfl)
      | skip
  obtain rfl : i = l1.length := by omega
  rw [List.take_length, hl1]
  have hml := mixes_len n (stN n)
  have hsl := stgs_len n (stN n)
  rw [hl1] at hfl
  repeat' (first | refine R.mv rfl ?_ | refine R.reg ?_ | refine R.tk ?_ | refine R.tkN ?_ | exact R.vac | refine R.both ?_ ?_ | refine R.nil ?_ | refine R.seq ?_ | refine R.nseq ?_ | refine R.nblk ?_ | refine R.skip ?_ | refine R.blk ?_ | refine R.exit rfl ?_ | refine R.ldEp rfl rfl (by assumption) rfl rfl ?_ | refine R.ldaEp rfl rfl (by assumption) (Nat.le_of_ble_eq_true rfl) rfl rfl ?_ | refine R.ld rfl rfl rfl ?_ | refine R.lda rfl rfl (Nat.le_of_ble_eq_true rfl) rfl ?_ | refine R.fa rfl rfl ?_ | refine R.lenM rfl ?_ | refine R.lenO rfl rfl ?_ | refine R.len rfl rfl ?_ | refine R.lss rfl rfl ?_ | refine R.add rfl rfl (by omega) ?_ | refine R.sub rfl rfl (by omega) ?_ | refine R.ixN rfl rfl rfl (by omega) (fun a ha => ?_) | refine R.ixM rfl rfl rfl (by omega) (fun a ha => ?_) | refine R.ixON rfl rfl rfl (by first | omega | (simp; omega)) (fun a' ha' => ?_) | refine R.ixO rfl rfl rfl (by first | omega | (simp; omega)) (fun a' ha' => ?_) | refine R.not rfl ?_ | refine R.al rfl ?_ | refine R.stoB rfl rfl rfl rfl ⟨rfl, rfl, Nat.le_of_ble_eq_true rfl⟩ rfl ?_ | refine R.stoE _ rfl rfl rfl rfl rfl (by assumption) rfl ⟨rfl, rfl, Nat.le_of_ble_eq_true rfl⟩ ?_ | refine R.bld rfl rfl ?_ | refine R.condT rfl ?_ | refine R.condF rfl ?_ | refine R.bslA (f := enRMixture) [frst (stg n (stN n)).length] rfl rfl rfl rfl rfl rfl ?_ | refine R.cond rfl (fun hc => ?_) (fun hc => ?_) | refine R.condN rfl (fun hc => ?_) (fun hc => ?_) | refine R.condB rfl (fun hc => ?_) (fun hc => ?_))
  all_goals first | (exfalso; omega) | skip
  refine R.loop (G := Nat) (fun j => [(2, .v (.c (.ptr 2 0))), (3, .v (.c (.ptr 3 0))), (5, rdA kSS ((stgs n (stN n)).map enSS)), (6, .v (.c (.ptr 6 0))), (10, .v (.c (.ptr 10 0))), (11, pvA (.int .i64 ((j + 1 : Nat) : Int)))]) (fun j => [(2, .box 25 [nilB, nilB]), (3, .box 28 [nilB]), (6, .box 25 [.own 35, .own 901]), (10, .box 28 [.own 73]), (35, .arr kGlue (gl3.map enGlue) []), (73, .arr kRMixture ((frst (stg n (stN n)).length :: (mixes n (stN n)).take j).map enRMixture) []), (901, .arr kTile (((stg n (stN n)).map tileS).map enTile) [])]) (fun j => j ≤ stN n) (fun j => stN n - j) 0 (Nat.zero_le _) (Weak.frame _ _ ⟨rfl, rfl, rfl, rfl, rfl, rfl, trivial⟩ ⟨rfl, rfl, rfl, rfl, rfl, rfl, rfl, trivial⟩ rfl rfl) fun j hj => ?_
  by_cases hjl : j < stN n
  · have hg1 := stgs_get n (stN n) (j + 1) (by omega)
    have hg0 := stgs_get n (stN n) j (by omega)
    have hmg := mixes_get n (stN n) j hjl
    have hk1 := stg_ok hn (k := stN n - j - 1) (by omega)
    have hk0 := stg_ok hn (k := stN n - j) (by omega)
    have hbf : stg n (stN n - j) = bef (stg n (stN n - j - 1)) := by
      obtain ⟨q, hq⟩ : ∃ q, stN n - j = q + 1 := ⟨stN n - j - 1, by omega⟩
      rw [hq]
      rfl
    have hM := iMixtures (stg n (stN n - j - 1)) (stg n (stN n - j)) hk1.2.2.2 (by have := hk1.2.1; omega) (by have := hk0.2.1; omega) (fun s hs p hp => by rw [hbf]; exact mem_bef hs hp)
    rw [show stN n - (j + 1) = stN n - j - 1 by omega] at hg1
    have hsn : (mixes n (stN n)).take (j + 1) = (mixes n (stN n)).take j ++ [mixS (stg n (stN n - j)) (stg n (stN n - j - 1))] := take_snoc hmg
    have htk : ((mixes n (stN n)).take j).length ≤ 4 := by rw [List.length_take]; omega
    have hap : ((frst (stg n (stN n)).length :: (mixes n (stN n)).take j).length + [mixS (stg n (stN n - j)) (stg n (stN n - j - 1))].length) * 24 ≤ 140737488355328 ∧ (frst (stg n (stN n)).length :: (mixes n (stN n)).take j).length + [mixS (stg n (stN n - j)) (stg n (stN n - j - 1))].length ≤ 140737488355328 := by rw [List.length_cons, List.length_singleton]; omega
    repeat' (first | refine R.mv rfl ?_ | refine R.reg ?_ | refine R.tk ?_ | refine R.tkN ?_ | exact R.vac | refine R.both ?_ ?_ | refine R.nil ?_ | refine R.seq ?_ | refine R.nseq ?_ | refine R.nblk ?_ | refine R.skip ?_ | refine R.blk ?_ | refine R.exit rfl ?_ | refine R.ldEp rfl rfl (by assumption) rfl rfl ?_ | refine R.ldaEp rfl rfl (by assumption) (Nat.le_of_ble_eq_true rfl) rfl rfl ?_ | refine R.ld rfl rfl rfl ?_ | refine R.lda rfl rfl (Nat.le_of_ble_eq_true rfl) rfl ?_ | refine R.fa rfl rfl ?_ | refine R.lenM rfl ?_ | refine R.lenO rfl rfl ?_ | refine R.len rfl rfl ?_ | refine R.lss rfl rfl ?_ | refine R.add rfl rfl (by omega) ?_ | refine R.sub rfl rfl (by omega) ?_ | refine R.ixN rfl rfl rfl (by omega) (fun a ha => ?_) | refine R.ixM rfl rfl rfl (by omega) (fun a ha => ?_) | refine R.ixON rfl rfl rfl (by first | omega | (simp; omega)) (fun a' ha' => ?_) | refine R.ixO rfl rfl rfl (by first | omega | (simp; omega)) (fun a' ha' => ?_) | refine R.not rfl ?_ | refine R.al rfl ?_ | refine R.stoB rfl rfl rfl rfl ⟨rfl, rfl, Nat.le_of_ble_eq_true rfl⟩ rfl ?_ | refine R.stoE _ rfl rfl rfl rfl rfl (by assumption) rfl ⟨rfl, rfl, Nat.le_of_ble_eq_true rfl⟩ ?_ | refine R.bld rfl rfl ?_ | refine R.condT rfl ?_ | refine R.condF rfl ?_ | refine R.cond rfl (fun hc => ?_) (fun hc => ?_) | refine R.condN rfl (fun hc => ?_) (fun hc => ?_) | refine R.condB rfl (fun hc => ?_) (fun hc => ?_))
    all_goals first | (exfalso; omega) | skip
    refine R.regOB ⟨frE [(2, .v (.c (.ptr 2 0))), (3, .v (.c (.ptr 3 0))), (5, rdA kSS ((stgs n (stN n)).map enSS)), (6, .v (.c (.ptr 6 0))), (10, .v (.c (.ptr 10 0))), (11, pvA (.int .i64 ((j + 1 : Nat) : Int)))], frO [(2, .box 25 [nilB, nilB]), (3, .box 28 [nilB]), (6, .box 25 [.own 35, .own 901]), (10, .box 28 [.own 73]), (35, .arr kGlue (gl3.map enGlue) []), (73, .arr kRMixture ((frst (stg n (stN n)).length :: (mixes n (stN n)).take (j + 1)).map enRMixture) []), (901, .arr kTile (((stg n (stN n)).map tileS).map enTile) [])]⟩ ?_ ?_
    · repeat' (first | refine R.tk ?_ | refine R.tkN ?_ | refine R.both ?_ ?_ | exact R.vac | refine R.nil ?_ | refine R.mv rfl ?_ | refine R.fa rfl rfl ?_ | refine R.ld rfl rfl rfl ?_ | refine R.sub rfl rfl (by omega) ?_ | refine R.ixK _ hg1 rfl rfl rfl ?_ | refine R.ixK _ hg0 rfl rfl (congrArg (fun z => pvA (.int .i64 z)) (show ((j + 1 : Nat) : Int) - 1 = (j : Int) by omega)) ?_ | refine R.callN1 (bor := false) rfl rfl hM rfl rfl ?_ | refine R.callN (bor := false) rfl rfl hM rfl rfl rfl rfl rfl ?_ | refine R.bslA (f := enRMixture) [mixS (stg n (stN n - j)) (stg n (stN n - j - 1))] rfl rfl rfl rfl rfl rfl ?_ | refine R.appN (f := enRMixture) rfl rfl rfl rfl rfl hap ?_ | refine R.stoB rfl rfl rfl rfl ⟨rfl, rfl, Nat.le_of_ble_eq_true rfl⟩ rfl ?_)
      all_goals exact R.done (Weak.frame _ _ ⟨rfl, rfl, rfl, rfl, rfl, rfl, trivial⟩ ⟨rfl, rfl, rfl, rfl, rfl, arr_eq (by rw [hsn]; rfl), rfl, trivial⟩ rfl rfl)
    repeat' (first | refine R.mv rfl ?_ | refine R.reg ?_ | refine R.tk ?_ | refine R.tkN ?_ | exact R.vac | refine R.both ?_ ?_ | refine R.nil ?_ | refine R.seq ?_ | refine R.nseq ?_ | refine R.nblk ?_ | refine R.skip ?_ | refine R.blk ?_ | refine R.exit rfl ?_ | refine R.ldEp rfl rfl (by assumption) rfl rfl ?_ | refine R.ldaEp rfl rfl (by assumption) (Nat.le_of_ble_eq_true rfl) rfl rfl ?_ | refine R.ld rfl rfl rfl ?_ | refine R.lda rfl rfl (Nat.le_of_ble_eq_true rfl) rfl ?_ | refine R.fa rfl rfl ?_ | refine R.lenM rfl ?_ | refine R.lenO rfl rfl ?_ | refine R.len rfl rfl ?_ | refine R.lss rfl rfl ?_ | refine R.add rfl rfl (by omega) ?_ | refine R.sub rfl rfl (by omega) ?_ | refine R.ixN rfl rfl rfl (by omega) (fun a ha => ?_) | refine R.ixM rfl rfl rfl (by omega) (fun a ha => ?_) | refine R.ixON rfl rfl rfl (by first | omega | (simp; omega)) (fun a' ha' => ?_) | refine R.ixO rfl rfl rfl (by first | omega | (simp; omega)) (fun a' ha' => ?_) | refine R.not rfl ?_ | refine R.al rfl ?_ | refine R.stoB rfl rfl rfl rfl ⟨rfl, rfl, Nat.le_of_ble_eq_true rfl⟩ rfl ?_ | refine R.stoE _ rfl rfl rfl rfl rfl (by assumption) rfl ⟨rfl, rfl, Nat.le_of_ble_eq_true rfl⟩ ?_ | refine R.bld rfl rfl ?_ | refine R.condT rfl ?_ | refine R.condF rfl ?_ | refine R.cond rfl (fun hc => ?_) (fun hc => ?_) | refine R.condN rfl (fun hc => ?_) (fun hc => ?_) | refine R.condB rfl (fun hc => ?_) (fun hc => ?_))
    all_goals first
      | (exfalso; omega)
      | exact R.nloop (R.again (j + 1) (by omega) (by omega) ⟨rfl, rfl, rfl, rfl, rfl, (congrArg (fun z => pvA (.int .i64 z)) (show ((j + 1 : Nat) : Int) + 1 = ((j + 1 + 1 : Nat) : Int) by omega)), trivial⟩ ⟨rfl, rfl, rfl, rfl, rfl, rfl, rfl, trivial⟩ rfl rfl)
      | skip
  obtain rfl : j = stN n := by omega
  rw [show (mixes n (stN n)).take (stN n) = mixes n (stN n) from List.take_of_length_le (by omega)]
  repeat' (first | refine R.mv rfl ?_ | refine R.reg ?_ | refine R.tk ?_ | refine R.tkN ?_ | exact R.vac | refine R.both ?_ ?_ | refine R.nil ?_ | refine R.seq ?_ | refine R.nseq ?_ | refine R.nblk ?_ | refine R.skip ?_ | refine R.blk ?_ | refine R.exit rfl ?_ | refine R.ldEp rfl rfl (by assumption) rfl rfl ?_ | refine R.ldaEp rfl rfl (by assumption) (Nat.le_of_ble_eq_true rfl) rfl rfl ?_ | refine R.ld rfl rfl rfl ?_ | refine R.lda rfl rfl (Nat.le_of_ble_eq_true rfl) rfl ?_ | refine R.fa rfl rfl ?_ | refine R.lenM rfl ?_ | refine R.lenO rfl rfl ?_ | refine R.len rfl rfl ?_ | refine R.lss rfl rfl ?_ | refine R.add rfl rfl (by omega) ?_ | refine R.sub rfl rfl (by omega) ?_ | refine R.ixN rfl rfl rfl (by omega) (fun a ha => ?_) | refine R.ixM rfl rfl rfl (by omega) (fun a ha => ?_) | refine R.ixON rfl rfl rfl (by first | omega | (simp; omega)) (fun a' ha' => ?_) | refine R.ixO rfl rfl rfl (by first | omega | (simp; omega)) (fun a' ha' => ?_) | refine R.not rfl ?_ | refine R.al rfl ?_ | refine R.stoB rfl rfl rfl rfl ⟨rfl, rfl, Nat.le_of_ble_eq_true rfl⟩ rfl ?_ | refine R.stoE _ rfl rfl rfl rfl rfl (by assumption) rfl ⟨rfl, rfl, Nat.le_of_ble_eq_true rfl⟩ ?_ | refine R.bld rfl rfl ?_ | refine R.condT rfl ?_ | refine R.condF rfl ?_ | refine R.cond rfl (fun hc => ?_) (fun hc => ?_) | refine R.condN rfl (fun hc => ?_) (fun hc => ?_) | refine R.condB rfl (fun hc => ?_) (fun hc => ?_))
  all_goals first | (exfalso; omega) | skip
  refine R.regO ⟨frE [(2, .v (.c (.ptr 2 0))), (3, .v (.c (.ptr 3 0))), (4, pvA (.int .i64 0))], frO [(2, .box 25 [.own 35, .own 901]), (3, .box 28 [.own 73]), (35, .arr kGlue (gl3.map enGlue) []), (73, .arr kRMixture ((lpPlan n).fStages.map enRMixture) []), (901, .arr kTile ((lpSet n).fTiles.map enTile) [])]⟩ ?_ ?_
  · repeat' (first | refine R.tk ?_ | refine R.tkN ?_ | refine R.both ?_ ?_ | exact R.vac | refine R.nil ?_ | refine R.mv rfl ?_ | refine R.lda rfl rfl (Nat.le_of_ble_eq_true rfl) rfl ?_ | refine R.ld rfl rfl rfl ?_ | refine R.stoB rfl rfl rfl rfl ⟨rfl, rfl, Nat.le_of_ble_eq_true rfl⟩ rfl ?_)
    all_goals exact R.done (Weak.frame _ _ ⟨rfl, rfl, rfl, trivial⟩ ⟨rfl, rfl, rfl, rfl, rfl, trivial⟩ rfl rfl)
  exact R.ret ⟨.inr rfl, R.outR rfl (.cons (R.cell rfl rfl T.ty25 (Nat.le_of_ble_eq_true rfl) rfl) (.cons (R.cell rfl rfl T.ty28 (Nat.le_of_ble_eq_true rfl) rfl) (.cons (R.tmp rfl) .nil))) rfl rfl rfl ⟨by show ¬ (3 = 1); omega, rfl⟩⟩
def lpR (n : Int) : (TTileSet × TPlan) × Int := if 1 ≤ n ∧ n ≤ 12 then ((lpSet n, lpPlan n), 0) else ((⟨[], []⟩, ⟨[]⟩), 2)
abbrev oLP (n : Int) : RT := .tup [.agg [.nw kGlue ((lpR n).1.1.fGlues.map enGlue), .nw kTile ((lpR n).1.1.fTiles.map enTile)], .agg [.nw kRMixture ((lpR n).1.2.fStages.map enRMixture)], cI (lpR n).2]
theorem iLP (n : Int) : Spec Tryd.prog 6 [vI n] (oLP n) := by
  by_cases h : 1 ≤ n ∧ n ≤ 12
  · have := iPlan n h
    unfold oLP
    rw [show lpR n = ((lpSet n, lpPlan n), 0) from if_pos h]
    exact this
  unfold oLP
  rw [show lpR n = ((⟨[], []⟩, ⟨[]⟩), 2) from if_neg h]
  have hW := iWithin n 1 12
  rw [show inB n 1 12 = false by simp [inB]; omega] at hW
  refine Spec.walk T.mixed Tryd.func6 S.ok6 (by simp [Tryd.f6]) fun hk => ?_
  clear hk
  unfold S.s6
  repeat' (first | refine R.mv rfl ?_ | refine R.reg ?_ | refine R.tk ?_ | refine R.tkN ?_ | exact R.vac | refine R.both ?_ ?_ | refine R.nil ?_ | refine R.seq ?_ | refine R.nseq ?_ | refine R.nblk ?_ | refine R.skip ?_ | refine R.blk ?_ | refine R.exit rfl ?_ | refine R.ldEp rfl rfl (by assumption) rfl rfl ?_ | refine R.ldaEp rfl rfl (by assumption) (Nat.le_of_ble_eq_true rfl) rfl rfl ?_ | refine R.ld rfl rfl rfl ?_ | refine R.lda rfl rfl (Nat.le_of_ble_eq_true rfl) rfl ?_ | refine R.fa rfl rfl ?_ | refine R.lenM rfl ?_ | refine R.lenO rfl rfl ?_ | refine R.len rfl rfl ?_ | refine R.lss rfl rfl ?_ | refine R.add rfl rfl (by omega) ?_ | refine R.sub rfl rfl (by omega) ?_ | refine R.ixN rfl rfl rfl (by omega) (fun a ha => ?_) | refine R.ixM rfl rfl rfl (by omega) (fun a ha => ?_) | refine R.ixON rfl rfl rfl (by first | omega | (simp; omega)) (fun a' ha' => ?_) | refine R.ixO rfl rfl rfl (by first | omega | (simp; omega)) (fun a' ha' => ?_) | refine R.not rfl ?_ | refine R.al rfl ?_ | refine R.stoB rfl rfl rfl rfl ⟨rfl, rfl, Nat.le_of_ble_eq_true rfl⟩ rfl ?_ | refine R.stoE _ rfl rfl rfl rfl rfl (by assumption) rfl ⟨rfl, rfl, Nat.le_of_ble_eq_true rfl⟩ ?_ | refine R.bld rfl rfl ?_ | refine R.condT rfl ?_ | refine R.condF rfl ?_ | refine R.call (bor := false) rfl rfl (hW) rfl rfl rfl ?_ | refine R.call (bor := true) rfl rfl (hW) rfl rfl rfl ?_ | refine R.fcal (bor := false) rfl rfl (hW) rfl rfl rfl ?_ | refine R.fcal (bor := true) rfl rfl (hW) rfl rfl rfl ?_ | refine R.cond rfl (fun hc => ?_) (fun hc => ?_) | refine R.condN rfl (fun hc => ?_) (fun hc => ?_) | refine R.condB rfl (fun hc => ?_) (fun hc => ?_))
  all_goals first
    | (exfalso; omega)
    | exact R.ret ⟨.inr rfl, R.outW (Weak.trans (Weak.reifyBox 2 0 900000 kGlue rfl rfl rfl) (Weak.trans (Weak.reifyBox 2 1 900001 kTile rfl rfl rfl) (Weak.reifyBox 3 0 900002 kRMixture rfl rfl rfl))) (R.outR rfl (.cons (R.cell rfl rfl T.ty25 (Nat.le_of_ble_eq_true rfl) rfl) (.cons (R.cell rfl rfl T.ty28 (Nat.le_of_ble_eq_true rfl) rfl) (.cons (R.tmp rfl) .nil))) rfl rfl rfl ⟨by show ¬ (3 = 1); omega, rfl⟩)⟩
    | skip
end Go.Proofs.YtlblmofimjhbbaaDoor
