/- Texts of one proof, one behind the other. -/
import Derived.Test.YtehkaajakapkmaaGreatFB18
import Derived.Test.YtehkaajakapkmaaGreatFB19
import Derived.Test.YtehkaajakapkmaaGreatFB40
namespace Go.Proofs.YtehkaajakapkmaaGreat
section
open Go.RowKit
set_option maxRecDepth 100000 in
def S.s15 : SC := (.seq (.reg [⟨(.some 2), .none, .false, (.al 35 [(Go.Value.int Go.IntKind.i64 0), (Go.Value.slice none 0 0), (Go.Value.slice none 0 0)])⟩]) (.seq (.reg [⟨(.some 3), .none, .false, (.mv (.tmp 0))⟩, ⟨(.some 4), .none, .false, (.call (.func 46) [(.tmp 3)])⟩, ⟨(.some 5), .none, .false, (.call (.func 45) [(.tmp 4)])⟩, ⟨.none, .none, .false, (.sto 3 (.tmp 2) (.tmp 5))⟩]) .ret))
set_option maxRecDepth 100000 in
theorem S.ok15 : stripF Tryz.prog Tryz.f15 = some S.s15 := by kernel_rfl
set_option maxRecDepth 100000 in
def S.s45 : SC := (.seq (.reg [⟨(.some 2), .none, .false, (.al 35 [(Go.Value.int Go.IntKind.i64 0), (Go.Value.slice none 0 0), (Go.Value.slice none 0 0)])⟩]) (.seq (.reg [⟨(.some 9), .none, .false, (.mv (.tmp 0))⟩, ⟨(.some 10), .none, .false, (.call (.func 79) [(.tmp 9), (.const (Go.Value.int Go.IntKind.i64 4))])⟩, ⟨(.some 11), .none, .false, (.bin .add (.const (Go.Value.int Go.IntKind.i64 1)) (.tmp 10))⟩, ⟨(.some 12), .none, .false, (.bld [(Go.Value.int Go.IntKind.i64 0), (Go.Value.slice none 0 0), (Go.Value.slice none 0 0)] [(0, 1), (1, 1), (2, 1)] [(0, (.tmp 11))])⟩, ⟨(.some 3), .none, .false, (.al 35 [(Go.Value.int Go.IntKind.i64 0), (Go.Value.slice none 0 0), (Go.Value.slice none 0 0)])⟩, ⟨.none, .none, .false, (.sto 3 (.tmp 3) (.tmp 12))⟩]) (.seq (.seq (.reg [⟨(.some 13), .none, .false, (.mv (.tmp 0))⟩, ⟨(.some 14), .none, .false, (.call (.func 79) [(.tmp 13), (.const (Go.Value.int Go.IntKind.i64 8))])⟩, ⟨(.some 4), .none, .false, (.mv (.tmp 14))⟩]) (.block 0 (.loop (.seq (.seq (.reg [⟨(.some 15), .none, .false, (.mv (.tmp 4))⟩, ⟨(.some 16), .none, .false, (.bin .gtr (.tmp 15) (.const (Go.Value.int Go.IntKind.i64 0)))⟩]) (.cond (.tmp 16) .skip (.exit 0))) (.seq (.block 1 (.seq (.reg [⟨(.some 19), .none, .false, (.fa 0 (.tmp 3))⟩, ⟨(.some 20), .none, .false, (.ld .false 1 (.tmp 19))⟩, ⟨(.some 21), .none, .false, (.fa 1 (.tmp 3))⟩, ⟨(.some 22), .none, .false, (.ld .false 1 (.tmp 21))⟩, ⟨(.some 23), .none, .false, (.len (.tmp 22))⟩, ⟨(.some 24), .none, .false, (.bin .add (.tmp 20) (.tmp 23))⟩, ⟨(.some 5), .none, .false, (.mv (.tmp 24))⟩]) (.seq (.reg [⟨(.some 25), .none, .false, (.mv (.tmp 0))⟩, ⟨(.some 26), .none, .false, (.call (.func 79) [(.tmp 25), (.const (Go.Value.int Go.IntKind.i64 4))])⟩, ⟨(.some 27), .none, .false, (.bin .add (.const (Go.Value.int Go.IntKind.i64 1)) (.tmp 26))⟩, ⟨(.some 28), .none, .false, (.mv (.tmp 0))⟩, ⟨(.some 29), .none, .false, (.mv (.tmp 5))⟩, ⟨(.some 30), .none, .false, (.call (.func 79) [(.tmp 28), (.tmp 29)])⟩, ⟨(.some 31), .none, .false, (.bld [(Go.Value.int Go.IntKind.i64 0), (Go.Value.int Go.IntKind.i64 0), (Go.Value.int Go.IntKind.i64 0)] [(0, 1), (1, 1), (2, 1)] [(0, (.tmp 27)), (1, (.tmp 30))])⟩, ⟨(.some 6), .none, .false, (.al 91 [(Go.Value.int Go.IntKind.i64 0), (Go.Value.int Go.IntKind.i64 0), (Go.Value.int Go.IntKind.i64 0)])⟩, ⟨.none, .none, .false, (.sto 3 (.tmp 6) (.tmp 31))⟩]) (.seq (.reg [⟨(.some 32), .none, .false, (.mv (.tmp 0))⟩, ⟨(.some 33), .none, .false, (.mv (.tmp 5))⟩, ⟨(.some 34), .none, .false, (.call (.func 79) [(.tmp 32), (.tmp 33)])⟩, ⟨(.some 35), .none, .false, (.fa 2 (.tmp 6))⟩, ⟨.none, .none, .false, (.sto 1 (.tmp 35) (.tmp 34))⟩]) (.seq (.seq (.reg [⟨(.some 36), .none, .false, (.fa 0 (.tmp 6))⟩, ⟨(.some 37), .none, .false, (.ld .false 1 (.tmp 36))⟩, ⟨(.some 38), .none, .false, (.bin .eql (.tmp 37) (.const (Go.Value.int Go.IntKind.i64 1)))⟩]) (.cond (.tmp 38) (.reg [⟨(.some 39), .none, .false, (.fa 1 (.tmp 6))⟩, ⟨(.some 40), .none, .false, (.ld .false 1 (.tmp 39))⟩, ⟨(.some 41), .none, .false, (.fa 2 (.tmp 6))⟩, ⟨.none, .none, .false, (.sto 1 (.tmp 41) (.tmp 40))⟩]) .skip)) (.reg [⟨(.some 42), .none, .false, (.fa 1 (.tmp 3))⟩, ⟨(.some 43), .none, .false, (.ld .false 1 (.tmp 42))⟩, ⟨(.some 44), .none, .false, (.ld .true 3 (.tmp 6))⟩, ⟨(.some 45), .none, .false, (.bsl (.mk 91 3) 1 [(0, (.tmp 44))])⟩, ⟨(.some 46), .none, .false, (.app (.mk 91 3) 24 (.tmp 43) (.tmp 45))⟩, ⟨(.some 47), .none, .false, (.fa 1 (.tmp 3))⟩, ⟨.none, .none, .false, (.sto 1 (.tmp 47) (.tmp 46))⟩])))))) (.reg [⟨(.some 17), .none, .false, (.mv (.tmp 4))⟩, ⟨(.some 18), .none, .false, (.bin .sub (.tmp 17) (.const (Go.Value.int Go.IntKind.i64 1)))⟩, ⟨(.some 4), .none, .false, (.mv (.tmp 18))⟩])))))) (.seq (.reg [⟨(.some 48), .none, .false, (.fa 0 (.tmp 3))⟩, ⟨(.some 49), .none, .false, (.ld .false 1 (.tmp 48))⟩, ⟨(.some 50), .none, .false, (.fa 1 (.tmp 3))⟩, ⟨(.some 51), .none, .false, (.ld .false 1 (.tmp 50))⟩, ⟨(.some 52), .none, .false, (.len (.tmp 51))⟩, ⟨(.some 53), .none, .false, (.bin .add (.tmp 49) (.tmp 52))⟩, ⟨(.some 7), .none, .false, (.mv (.tmp 53))⟩]) (.seq (.seq (.reg [⟨(.some 54), .none, .false, (.mv (.tmp 0))⟩, ⟨(.some 55), .none, .false, (.call (.func 79) [(.tmp 54), (.const (Go.Value.int Go.IntKind.i64 2))])⟩, ⟨(.some 56), .none, .false, (.bin .add (.const (Go.Value.int Go.IntKind.i64 1)) (.tmp 55))⟩, ⟨(.some 8), .none, .false, (.mv (.tmp 56))⟩]) (.block 2 (.loop (.seq (.seq (.reg [⟨(.some 57), .none, .false, (.mv (.tmp 8))⟩, ⟨(.some 58), .none, .false, (.bin .gtr (.tmp 57) (.const (Go.Value.int Go.IntKind.i64 0)))⟩]) (.cond (.tmp 58) .skip (.exit 2))) (.seq (.block 3 (.regO (.take ⟨(.some 61), .none, .false, (.fa 2 (.tmp 3))⟩ (.take ⟨(.some 63), .none, .false, (.mv (.tmp 7))⟩ (.take ⟨(.some 65), .none, .false, (.mv (.tmp 0))⟩ (.take ⟨(.some 66), .none, .false, (.mv (.tmp 7))⟩ (.both (.take ⟨(.some 62), .none, .false, (.ld .false 1 (.tmp 61))⟩ (.both (.take ⟨(.some 64), .none, .false, (.bin .sub (.tmp 63) (.const (Go.Value.int Go.IntKind.i64 1)))⟩ (.take ⟨(.some 67), .none, .false, (.call (.func 80) [(.tmp 66), (.const (Go.Value.int Go.IntKind.i64 3))])⟩ (.take ⟨(.some 68), .none, .false, (.call (.func 79) [(.tmp 65), (.tmp 67)])⟩ (.take ⟨(.some 69), .none, .false, (.bin .sub (.tmp 64) (.tmp 68))⟩ (.take ⟨(.some 70), .none, .false, (.bsl (.mk 2 1) 1 [(0, (.tmp 69))])⟩ (.take ⟨(.some 71), .none, .false, (.app (.mk 2 1) 8 (.tmp 62) (.tmp 70))⟩ (.take ⟨(.some 72), .none, .false, (.fa 2 (.tmp 3))⟩ (.take ⟨.none, .none, .false, (.sto 1 (.tmp 72) (.tmp 71))⟩ .done)))))))) (.take ⟨(.some 67), .none, .false, (.call (.func 80) [(.tmp 66), (.const (Go.Value.int Go.IntKind.i64 3))])⟩ (.both (.take ⟨(.some 64), .none, .false, (.bin .sub (.tmp 63) (.const (Go.Value.int Go.IntKind.i64 1)))⟩ (.take ⟨(.some 68), .none, .false, (.call (.func 79) [(.tmp 65), (.tmp 67)])⟩ (.take ⟨(.some 69), .none, .false, (.bin .sub (.tmp 64) (.tmp 68))⟩ (.take ⟨(.some 70), .none, .false, (.bsl (.mk 2 1) 1 [(0, (.tmp 69))])⟩ (.take ⟨(.some 71), .none, .false, (.app (.mk 2 1) 8 (.tmp 62) (.tmp 70))⟩ (.take ⟨(.some 72), .none, .false, (.fa 2 (.tmp 3))⟩ (.take ⟨.none, .none, .false, (.sto 1 (.tmp 72) (.tmp 71))⟩ .done))))))) (.take ⟨(.some 68), .none, .false, (.call (.func 79) [(.tmp 65), (.tmp 67)])⟩ (.take ⟨(.some 64), .none, .false, (.bin .sub (.tmp 63) (.const (Go.Value.int Go.IntKind.i64 1)))⟩ (.take ⟨(.some 69), .none, .false, (.bin .sub (.tmp 64) (.tmp 68))⟩ (.take ⟨(.some 70), .none, .false, (.bsl (.mk 2 1) 1 [(0, (.tmp 69))])⟩ (.take ⟨(.some 71), .none, .false, (.app (.mk 2 1) 8 (.tmp 62) (.tmp 70))⟩ (.take ⟨(.some 72), .none, .false, (.fa 2 (.tmp 3))⟩ (.take ⟨.none, .none, .false, (.sto 1 (.tmp 72) (.tmp 71))⟩ .done))))))))))) (.both (.take ⟨(.some 64), .none, .false, (.bin .sub (.tmp 63) (.const (Go.Value.int Go.IntKind.i64 1)))⟩ (.both (.take ⟨(.some 62), .none, .false, (.ld .false 1 (.tmp 61))⟩ (.take ⟨(.some 67), .none, .false, (.call (.func 80) [(.tmp 66), (.const (Go.Value.int Go.IntKind.i64 3))])⟩ (.take ⟨(.some 68), .none, .false, (.call (.func 79) [(.tmp 65), (.tmp 67)])⟩ (.take ⟨(.some 69), .none, .false, (.bin .sub (.tmp 64) (.tmp 68))⟩ (.take ⟨(.some 70), .none, .false, (.bsl (.mk 2 1) 1 [(0, (.tmp 69))])⟩ (.take ⟨(.some 71), .none, .false, (.app (.mk 2 1) 8 (.tmp 62) (.tmp 70))⟩ (.take ⟨(.some 72), .none, .false, (.fa 2 (.tmp 3))⟩ (.take ⟨.none, .none, .false, (.sto 1 (.tmp 72) (.tmp 71))⟩ .done)))))))) (.take ⟨(.some 67), .none, .false, (.call (.func 80) [(.tmp 66), (.const (Go.Value.int Go.IntKind.i64 3))])⟩ (.both (.take ⟨(.some 62), .none, .false, (.ld .false 1 (.tmp 61))⟩ (.take ⟨(.some 68), .none, .false, (.call (.func 79) [(.tmp 65), (.tmp 67)])⟩ (.take ⟨(.some 69), .none, .false, (.bin .sub (.tmp 64) (.tmp 68))⟩ (.take ⟨(.some 70), .none, .false, (.bsl (.mk 2 1) 1 [(0, (.tmp 69))])⟩ (.take ⟨(.some 71), .none, .false, (.app (.mk 2 1) 8 (.tmp 62) (.tmp 70))⟩ (.take ⟨(.some 72), .none, .false, (.fa 2 (.tmp 3))⟩ (.take ⟨.none, .none, .false, (.sto 1 (.tmp 72) (.tmp 71))⟩ .done))))))) (.take ⟨(.some 68), .none, .false, (.call (.func 79) [(.tmp 65), (.tmp 67)])⟩ (.both (.take ⟨(.some 62), .none, .false, (.ld .false 1 (.tmp 61))⟩ (.take ⟨(.some 69), .none, .false, (.bin .sub (.tmp 64) (.tmp 68))⟩ (.take ⟨(.some 70), .none, .false, (.bsl (.mk 2 1) 1 [(0, (.tmp 69))])⟩ (.take ⟨(.some 71), .none, .false, (.app (.mk 2 1) 8 (.tmp 62) (.tmp 70))⟩ (.take ⟨(.some 72), .none, .false, (.fa 2 (.tmp 3))⟩ (.take ⟨.none, .none, .false, (.sto 1 (.tmp 72) (.tmp 71))⟩ .done)))))) (.take ⟨(.some 69), .none, .false, (.bin .sub (.tmp 64) (.tmp 68))⟩ (.both (.take ⟨(.some 62), .none, .false, (.ld .false 1 (.tmp 61))⟩ (.take ⟨(.some 70), .none, .false, (.bsl (.mk 2 1) 1 [(0, (.tmp 69))])⟩ (.take ⟨(.some 71), .none, .false, (.app (.mk 2 1) 8 (.tmp 62) (.tmp 70))⟩ (.take ⟨(.some 72), .none, .false, (.fa 2 (.tmp 3))⟩ (.take ⟨.none, .none, .false, (.sto 1 (.tmp 72) (.tmp 71))⟩ .done))))) (.take ⟨(.some 70), .none, .false, (.bsl (.mk 2 1) 1 [(0, (.tmp 69))])⟩ (.take ⟨(.some 62), .none, .false, (.ld .false 1 (.tmp 61))⟩ (.take ⟨(.some 71), .none, .false, (.app (.mk 2 1) 8 (.tmp 62) (.tmp 70))⟩ (.take ⟨(.some 72), .none, .false, (.fa 2 (.tmp 3))⟩ (.take ⟨.none, .none, .false, (.sto 1 (.tmp 72) (.tmp 71))⟩ .done))))))))))))) (.take ⟨(.some 67), .none, .false, (.call (.func 80) [(.tmp 66), (.const (Go.Value.int Go.IntKind.i64 3))])⟩ (.both (.take ⟨(.some 62), .none, .false, (.ld .false 1 (.tmp 61))⟩ (.both (.take ⟨(.some 64), .none, .false, (.bin .sub (.tmp 63) (.const (Go.Value.int Go.IntKind.i64 1)))⟩ (.take ⟨(.some 68), .none, .false, (.call (.func 79) [(.tmp 65), (.tmp 67)])⟩ (.take ⟨(.some 69), .none, .false, (.bin .sub (.tmp 64) (.tmp 68))⟩ (.take ⟨(.some 70), .none, .false, (.bsl (.mk 2 1) 1 [(0, (.tmp 69))])⟩ (.take ⟨(.some 71), .none, .false, (.app (.mk 2 1) 8 (.tmp 62) (.tmp 70))⟩ (.take ⟨(.some 72), .none, .false, (.fa 2 (.tmp 3))⟩ (.take ⟨.none, .none, .false, (.sto 1 (.tmp 72) (.tmp 71))⟩ .done))))))) (.take ⟨(.some 68), .none, .false, (.call (.func 79) [(.tmp 65), (.tmp 67)])⟩ (.take ⟨(.some 64), .none, .false, (.bin .sub (.tmp 63) (.const (Go.Value.int Go.IntKind.i64 1)))⟩ (.take ⟨(.some 69), .none, .false, (.bin .sub (.tmp 64) (.tmp 68))⟩ (.take ⟨(.some 70), .none, .false, (.bsl (.mk 2 1) 1 [(0, (.tmp 69))])⟩ (.take ⟨(.some 71), .none, .false, (.app (.mk 2 1) 8 (.tmp 62) (.tmp 70))⟩ (.take ⟨(.some 72), .none, .false, (.fa 2 (.tmp 3))⟩ (.take ⟨.none, .none, .false, (.sto 1 (.tmp 72) (.tmp 71))⟩ .done))))))))) (.both (.take ⟨(.some 64), .none, .false, (.bin .sub (.tmp 63) (.const (Go.Value.int Go.IntKind.i64 1)))⟩ (.both (.take ⟨(.some 62), .none, .false, (.ld .false 1 (.tmp 61))⟩ (.take ⟨(.some 68), .none, .false, (.call (.func 79) [(.tmp 65), (.tmp 67)])⟩ (.take ⟨(.some 69), .none, .false, (.bin .sub (.tmp 64) (.tmp 68))⟩ (.take ⟨(.some 70), .none, .false, (.bsl (.mk 2 1) 1 [(0, (.tmp 69))])⟩ (.take ⟨(.some 71), .none, .false, (.app (.mk 2 1) 8 (.tmp 62) (.tmp 70))⟩ (.take ⟨(.some 72), .none, .false, (.fa 2 (.tmp 3))⟩ (.take ⟨.none, .none, .false, (.sto 1 (.tmp 72) (.tmp 71))⟩ .done))))))) (.take ⟨(.some 68), .none, .false, (.call (.func 79) [(.tmp 65), (.tmp 67)])⟩ (.both (.take ⟨(.some 62), .none, .false, (.ld .false 1 (.tmp 61))⟩ (.take ⟨(.some 69), .none, .false, (.bin .sub (.tmp 64) (.tmp 68))⟩ (.take ⟨(.some 70), .none, .false, (.bsl (.mk 2 1) 1 [(0, (.tmp 69))])⟩ (.take ⟨(.some 71), .none, .false, (.app (.mk 2 1) 8 (.tmp 62) (.tmp 70))⟩ (.take ⟨(.some 72), .none, .false, (.fa 2 (.tmp 3))⟩ (.take ⟨.none, .none, .false, (.sto 1 (.tmp 72) (.tmp 71))⟩ .done)))))) (.take ⟨(.some 69), .none, .false, (.bin .sub (.tmp 64) (.tmp 68))⟩ (.both (.take ⟨(.some 62), .none, .false, (.ld .false 1 (.tmp 61))⟩ (.take ⟨(.some 70), .none, .false, (.bsl (.mk 2 1) 1 [(0, (.tmp 69))])⟩ (.take ⟨(.some 71), .none, .false, (.app (.mk 2 1) 8 (.tmp 62) (.tmp 70))⟩ (.take ⟨(.some 72), .none, .false, (.fa 2 (.tmp 3))⟩ (.take ⟨.none, .none, .false, (.sto 1 (.tmp 72) (.tmp 71))⟩ .done))))) (.take ⟨(.some 70), .none, .false, (.bsl (.mk 2 1) 1 [(0, (.tmp 69))])⟩ (.take ⟨(.some 62), .none, .false, (.ld .false 1 (.tmp 61))⟩ (.take ⟨(.some 71), .none, .false, (.app (.mk 2 1) 8 (.tmp 62) (.tmp 70))⟩ (.take ⟨(.some 72), .none, .false, (.fa 2 (.tmp 3))⟩ (.take ⟨.none, .none, .false, (.sto 1 (.tmp 72) (.tmp 71))⟩ .done))))))))))) (.take ⟨(.some 68), .none, .false, (.call (.func 79) [(.tmp 65), (.tmp 67)])⟩ (.both (.take ⟨(.some 62), .none, .false, (.ld .false 1 (.tmp 61))⟩ (.take ⟨(.some 64), .none, .false, (.bin .sub (.tmp 63) (.const (Go.Value.int Go.IntKind.i64 1)))⟩ (.take ⟨(.some 69), .none, .false, (.bin .sub (.tmp 64) (.tmp 68))⟩ (.take ⟨(.some 70), .none, .false, (.bsl (.mk 2 1) 1 [(0, (.tmp 69))])⟩ (.take ⟨(.some 71), .none, .false, (.app (.mk 2 1) 8 (.tmp 62) (.tmp 70))⟩ (.take ⟨(.some 72), .none, .false, (.fa 2 (.tmp 3))⟩ (.take ⟨.none, .none, .false, (.sto 1 (.tmp 72) (.tmp 71))⟩ .done))))))) (.take ⟨(.some 64), .none, .false, (.bin .sub (.tmp 63) (.const (Go.Value.int Go.IntKind.i64 1)))⟩ (.both (.take ⟨(.some 62), .none, .false, (.ld .false 1 (.tmp 61))⟩ (.take ⟨(.some 69), .none, .false, (.bin .sub (.tmp 64) (.tmp 68))⟩ (.take ⟨(.some 70), .none, .false, (.bsl (.mk 2 1) 1 [(0, (.tmp 69))])⟩ (.take ⟨(.some 71), .none, .false, (.app (.mk 2 1) 8 (.tmp 62) (.tmp 70))⟩ (.take ⟨(.some 72), .none, .false, (.fa 2 (.tmp 3))⟩ (.take ⟨.none, .none, .false, (.sto 1 (.tmp 72) (.tmp 71))⟩ .done)))))) (.take ⟨(.some 69), .none, .false, (.bin .sub (.tmp 64) (.tmp 68))⟩ (.both (.take ⟨(.some 62), .none, .false, (.ld .false 1 (.tmp 61))⟩ (.take ⟨(.some 70), .none, .false, (.bsl (.mk 2 1) 1 [(0, (.tmp 69))])⟩ (.take ⟨(.some 71), .none, .false, (.app (.mk 2 1) 8 (.tmp 62) (.tmp 70))⟩ (.take ⟨(.some 72), .none, .false, (.fa 2 (.tmp 3))⟩ (.take ⟨.none, .none, .false, (.sto 1 (.tmp 72) (.tmp 71))⟩ .done))))) (.take ⟨(.some 70), .none, .false, (.bsl (.mk 2 1) 1 [(0, (.tmp 69))])⟩ (.take ⟨(.some 62), .none, .false, (.ld .false 1 (.tmp 61))⟩ (.take ⟨(.some 71), .none, .false, (.app (.mk 2 1) 8 (.tmp 62) (.tmp 70))⟩ (.take ⟨(.some 72), .none, .false, (.fa 2 (.tmp 3))⟩ (.take ⟨.none, .none, .false, (.sto 1 (.tmp 72) (.tmp 71))⟩ .done)))))))))))))))))))))) (.reg [⟨(.some 59), .none, .false, (.mv (.tmp 8))⟩, ⟨(.some 60), .none, .false, (.bin .sub (.tmp 59) (.const (Go.Value.int Go.IntKind.i64 1)))⟩, ⟨(.some 8), .none, .false, (.mv (.tmp 60))⟩])))))) (.seq (.reg [⟨(.some 73), .none, .false, (.ld .true 3 (.tmp 3))⟩, ⟨.none, .none, .false, (.sto 3 (.tmp 2) (.tmp 73))⟩]) .ret))))))
set_option maxRecDepth 100000 in
theorem S.ok45 : stripF Tryz.prog Tryz.f45 = some S.s45 := by kernel_rfl
set_option maxRecDepth 10000
set_option maxHeartbeats 8000000
theorem pk_ex (s : Src) (n m : Int) (h : okSrc n s ∧ n ≤ 900000000) : ∃ p : Int × Src, (0 ≤ p.1 ∧ (p.1 < m ∨ p.1 = 0)) ∧ okSrc (n + 2) p.2 ∧ SpecM Tryz.prog 79 [srcV, .c (.d (iD m))] (srcOb s) (oI p.1).av (srcOb p.2) := by
  obtain ⟨v, s', h1, h2, h3⟩ := sPick s n h.1 h.2 m
  exact ⟨(v, s'), h1, h2, h3⟩
open Classical in
noncomputable def pk (s : Src) (n m : Int) : Int × Src := if h : okSrc n s ∧ n ≤ 900000000 then Classical.choose (pk_ex s n m h) else (0, s)
theorem pk_ok {s : Src} {n : Int} (m : Int) (h : okSrc n s) (hn : n ≤ 900000000) : (0 ≤ (pk s n m).1 ∧ ((pk s n m).1 < m ∨ (pk s n m).1 = 0)) ∧ okSrc (n + 2) (pk s n m).2 ∧ SpecM Tryz.prog 79 [srcV, .c (.d (iD m))] (srcOb s) (oI (pk s n m).1).av (srcOb (pk s n m).2) := by
  have hs := Classical.choose_spec (pk_ex s n m ⟨h, hn⟩)
  have e : pk s n m = Classical.choose (pk_ex s n m ⟨h, hn⟩) := dif_pos ⟨h, hn⟩
  rw [e]
  exact hs
noncomputable def g1 (_N n : Int) (s : Src) (i : Nat) : Int × Src := pk s (n + 6 * (i : Int)) 4
noncomputable def g2 (N n : Int) (s : Src) (i : Nat) : Int × Src := pk (g1 N n s i).2 (n + 6 * (i : Int) + 2) (N + i)
noncomputable def g3 (N n : Int) (s : Src) (i : Nat) : Int × Src := pk (g2 N n s i).2 (n + 6 * (i : Int) + 2 + 2) (N + i)
noncomputable def gSt (N n : Int) (s : Src) : Nat → Src
  | 0 => s
  | i + 1 => (g3 N n (gSt N n s i) i).2
noncomputable def gAt1 (N n : Int) (s : Src) (i : Nat) : TGate := ⟨1 + (g1 N n (gSt N n s i) i).1, (g2 N n (gSt N n s i) i).1, if 1 + (g1 N n (gSt N n s i) i).1 = 1 then (g2 N n (gSt N n s i) i).1 else (g3 N n (gSt N n s i) i).1⟩
theorem gSt_ok {N n : Int} {s : Src} (h : okSrc n s) (hn : n ≤ 1000) : ∀ i : Nat, i ≤ 20 → okSrc (n + 6 * (i : Int)) (gSt N n s i)
  | 0, _ => h.mono (by omega)
  | i + 1, hi => by
    have h0 := gSt_ok (N := N) h hn i (by omega)
    have h1 := (pk_ok 4 h0 (by omega)).2.1
    have h2 := (pk_ok (N + i) h1 (by omega)).2.1
    have h3 := (pk_ok (N + i) h2 (by omega)).2.1
    exact h3.mono (by omega)
noncomputable def oPk (m n : Int) (s : Src) (i : Nat) : Int × Src := pk s (n + 2 * (i : Int)) m
noncomputable def oSt (m n : Int) (s : Src) : Nat → Src
  | 0 => s
  | i + 1 => (oPk m n (oSt m n s i) i).2
theorem oSt_ok {m n : Int} {s : Src} (h : okSrc n s) (hn : n ≤ 1000) : ∀ i : Nat, i ≤ 20 → okSrc (n + 2 * (i : Int)) (oSt m n s i)
  | 0, _ => h.mono (by omega)
  | i + 1, hi => by
    have h0 := oSt_ok (m := m) h hn i (by omega)
    exact (pk_ok m h0 (by omega)).2.1.mono (by omega)
theorem mapR_snoc {α : Type} {f : Nat → α} {k : Nat} : (List.range (k + 1)).map f = (List.range k).map f ++ [f k] := by rw [List.range_succ, List.map_append]; rfl
theorem sDrawC (s : Src) (n : Int) (h : okSrc n s) (hn : n ≤ 100) : ∃ (c : TCircuit) (s' : Src), okC c ∧ SpecM Tryz.prog 45 [srcV] (srcOb s) (.v (.agg [.d (iD c.fInputs), .own 0, .own 1])) ((0, .arr kGate (c.fGates.map enGate) []) :: (1, .arr kI (ints c.fOutputs) []) :: srcOb s') := by
  have q1 := pk_ok 4 h (by omega)
  have q2 := pk_ok 8 q1.2.1 (by omega)
  obtain ⟨N, hN⟩ : ∃ N, N = 1 + (pk s n 4).1 := ⟨_, rfl⟩
  obtain ⟨k, hk⟩ : ∃ k : Nat, (pk (pk s n 4).2 (n + 2) 8).1 = k := ⟨(pk (pk s n 4).2 (n + 2) 8).1.toNat, by omega⟩
  have hN14 : 1 ≤ N ∧ N ≤ 4 := by omega
  have hk7 : k ≤ 7 := by omega
  have c1 := q1.2.2
  have c2 := q2.2.2
  have hS := gSt_ok (N := N) q2.2.1 (by omega)
  generalize (pk s n 4).1 = v1 at *
  generalize (pk (pk s n 4).2 (n + 2) 8).1 = v2 at *
  generalize (pk (pk s n 4).2 (n + 2) 8).2 = s2 at *
  generalize (pk s n 4).2 = s1 at *
  have hgs : gSt N (n + 2 + 2) s2 0 = s2 := rfl
  have hr : ∀ i : Nat, i < k → (1 ≤ (gAt1 N (n + 2 + 2) s2 i).fKind ∧ (gAt1 N (n + 2 + 2) s2 i).fKind ≤ 4) ∧ (0 ≤ (gAt1 N (n + 2 + 2) s2 i).fA ∧ (gAt1 N (n + 2 + 2) s2 i).fA ≤ N + i - 1) ∧ (0 ≤ (gAt1 N (n + 2 + 2) s2 i).fB ∧ (gAt1 N (n + 2 + 2) s2 i).fB ≤ N + i - 1) ∧ ((gAt1 N (n + 2 + 2) s2 i).fKind = 1 → (gAt1 N (n + 2 + 2) s2 i).fA = (gAt1 N (n + 2 + 2) s2 i).fB) := fun i hi => by
    have h0 := hS i (by omega)
    have p1 := pk_ok 4 h0 (by omega)
    have p2 := pk_ok (N + i) p1.2.1 (by omega)
    have p3 := pk_ok (N + i) p2.2.1 (by omega)
    have e1 := p1.1
    have e2 := p2.1
    have e3 := p3.1
    change 0 ≤ (g1 N (n + 2 + 2) (gSt N (n + 2 + 2) s2 i) i).1 ∧ _ at e1
    change 0 ≤ (g2 N (n + 2 + 2) (gSt N (n + 2 + 2) s2 i) i).1 ∧ _ at e2
    change 0 ≤ (g3 N (n + 2 + 2) (gSt N (n + 2 + 2) s2 i) i).1 ∧ _ at e3
    change _ ∧ ((g1 N (n + 2 + 2) (gSt N (n + 2 + 2) s2 i) i).1 < 4 ∨ (g1 N (n + 2 + 2) (gSt N (n + 2 + 2) s2 i) i).1 = 0) at e1
    change _ ∧ ((g2 N (n + 2 + 2) (gSt N (n + 2 + 2) s2 i) i).1 < N + i ∨ (g2 N (n + 2 + 2) (gSt N (n + 2 + 2) s2 i) i).1 = 0) at e2
    change _ ∧ ((g3 N (n + 2 + 2) (gSt N (n + 2 + 2) s2 i) i).1 < N + i ∨ (g3 N (n + 2 + 2) (gSt N (n + 2 + 2) s2 i) i).1 = 0) at e3
    refine ⟨⟨by show 1 ≤ 1 + _; omega, by show 1 + _ ≤ 4; omega⟩, ⟨by show 0 ≤ (g2 N (n + 2 + 2) (gSt N (n + 2 + 2) s2 i) i).1; omega, by show (g2 N (n + 2 + 2) (gSt N (n + 2 + 2) s2 i) i).1 ≤ _; omega⟩, ?_, fun hk1 => ?_⟩
    · show 0 ≤ (if 1 + (g1 N (n + 2 + 2) (gSt N (n + 2 + 2) s2 i) i).1 = 1 then (g2 N (n + 2 + 2) (gSt N (n + 2 + 2) s2 i) i).1 else (g3 N (n + 2 + 2) (gSt N (n + 2 + 2) s2 i) i).1) ∧ (if 1 + (g1 N (n + 2 + 2) (gSt N (n + 2 + 2) s2 i) i).1 = 1 then (g2 N (n + 2 + 2) (gSt N (n + 2 + 2) s2 i) i).1 else (g3 N (n + 2 + 2) (gSt N (n + 2 + 2) s2 i) i).1) ≤ _
      split <;> omega
    · exact (if_pos hk1).symm
  have q3 := pk_ok 2 (hS k (by omega)) (by omega)
  obtain ⟨m, hm⟩ : ∃ m : Nat, 1 + (pk (gSt N (n + 2 + 2) s2 k) (n + 2 + 2 + 6 * (k : Int)) 2).1 = m := ⟨(1 + (pk (gSt N (n + 2 + 2) s2 k) (n + 2 + 2 + 6 * (k : Int)) 2).1).toNat, by omega⟩
  have hm2 : 1 ≤ m ∧ m ≤ 2 := by omega
  have c3 := q3.2.2
  have hO := oSt_ok (m := min (N + k) 3) q3.2.1 (by omega)
  generalize (pk (gSt N (n + 2 + 2) s2 k) (n + 2 + 2 + 6 * (k : Int)) 2).1 = v3 at *
  generalize (pk (gSt N (n + 2 + 2) s2 k) (n + 2 + 2 + 6 * (k : Int)) 2).2 = s3 at *
  have hos : oSt (min (N + k) 3) (n + 2 + 2 + 6 * (k : Int) + 2) s3 0 = s3 := rfl
  have hro : ∀ i : Nat, i < m → (0 ≤ N + k - 1 - (oPk (min (N + k) 3) (n + 2 + 2 + 6 * (k : Int) + 2) (oSt (min (N + k) 3) (n + 2 + 2 + 6 * (k : Int) + 2) s3 i) i).1 ∧ N + k - 1 - (oPk (min (N + k) 3) (n + 2 + 2 + 6 * (k : Int) + 2) (oSt (min (N + k) 3) (n + 2 + 2 + 6 * (k : Int) + 2) s3 i) i).1 ≤ N + k - 1) ∧ SpecM Tryz.prog 79 [srcV, .c (.d (iD (min (N + k) 3)))] (srcOb (oSt (min (N + k) 3) (n + 2 + 2 + 6 * (k : Int) + 2) s3 i)) (oI (oPk (min (N + k) 3) (n + 2 + 2 + 6 * (k : Int) + 2) (oSt (min (N + k) 3) (n + 2 + 2 + 6 * (k : Int) + 2) s3 i) i).1).av (srcOb (oSt (min (N + k) 3) (n + 2 + 2 + 6 * (k : Int) + 2) s3 (i + 1))) := fun i hi => by
    have p := pk_ok (min (N + k) 3) (hO i (by omega)) (by omega)
    refine ⟨?_, p.2.2⟩
    have e := p.1
    change 0 ≤ (oPk (min (N + k) 3) (n + 2 + 2 + 6 * (k : Int) + 2) (oSt (min (N + k) 3) (n + 2 + 2 + 6 * (k : Int) + 2) s3 i) i).1 ∧ ((oPk (min (N + k) 3) (n + 2 + 2 + 6 * (k : Int) + 2) (oSt (min (N + k) 3) (n + 2 + 2 + 6 * (k : Int) + 2) s3 i) i).1 < min (N + k) 3 ∨ (oPk (min (N + k) 3) (n + 2 + 2 + 6 * (k : Int) + 2) (oSt (min (N + k) 3) (n + 2 + 2 + 6 * (k : Int) + 2) s3 i) i).1 = 0) at e
    omega
  refine ⟨⟨N, (List.range k).map (gAt1 N (n + 2 + 2) s2), (List.range m).map fun i => N + k - 1 - (oPk (min (N + k) 3) (n + 2 + 2 + 6 * (k : Int) + 2) (oSt (min (N + k) 3) (n + 2 + 2 + 6 * (k : Int) + 2) s3 i) i).1⟩, oSt (min (N + k) 3) (n + 2 + 2 + 6 * (k : Int) + 2) s3 m, ?_, ?_⟩
  · refine ⟨hN14, by simp; omega, by simp; omega, fun i g hg => ?_, fun w hw => ?_⟩
    · have hg : ((List.range k).map (gAt1 N (n + 2 + 2) s2))[i]? = some g := hg
      rw [List.getElem?_map, Option.map_eq_some_iff] at hg
      obtain ⟨j, hj, rfl⟩ := hg
      obtain ⟨hj1, rfl⟩ := List.getElem?_eq_some_iff.1 hj
      rw [List.length_range] at hj1
      rw [List.getElem_range]
      exact hr i hj1
    · obtain ⟨i, hi, rfl⟩ := List.mem_map.1 hw
      have := (hro i (List.mem_range.1 hi)).1
      show 0 ≤ _ ∧ _ ≤ N + ((List.range k).map (gAt1 N (n + 2 + 2) s2)).length - 1
      rw [List.length_map, List.length_range]
      exact this
  clear hr
  have hgc : ∀ i : Nat, i < k → SpecM Tryz.prog 79 [srcV, .c (.d (iD 4))] (srcOb (gSt N (n + 2 + 2) s2 i)) (oI (g1 N (n + 2 + 2) (gSt N (n + 2 + 2) s2 i) i).1).av (srcOb (g1 N (n + 2 + 2) (gSt N (n + 2 + 2) s2 i) i).2) ∧ SpecM Tryz.prog 79 [srcV, .c (.d (iD (N + i)))] (srcOb (g1 N (n + 2 + 2) (gSt N (n + 2 + 2) s2 i) i).2) (oI (g2 N (n + 2 + 2) (gSt N (n + 2 + 2) s2 i) i).1).av (srcOb (g2 N (n + 2 + 2) (gSt N (n + 2 + 2) s2 i) i).2) ∧ SpecM Tryz.prog 79 [srcV, .c (.d (iD (N + i)))] (srcOb (g2 N (n + 2 + 2) (gSt N (n + 2 + 2) s2 i) i).2) (oI (g3 N (n + 2 + 2) (gSt N (n + 2 + 2) s2 i) i).1).av (srcOb (g3 N (n + 2 + 2) (gSt N (n + 2 + 2) s2 i) i).2) ∧ (0 ≤ (g1 N (n + 2 + 2) (gSt N (n + 2 + 2) s2 i) i).1 ∧ (g1 N (n + 2 + 2) (gSt N (n + 2 + 2) s2 i) i).1 ≤ 3) := fun i hi => by
    have h0 := hS i (by omega)
    have p1 := pk_ok 4 h0 (by omega)
    have p2 := pk_ok (N + i) p1.2.1 (by omega)
    have p3 := pk_ok (N + i) p2.2.1 (by omega)
    have e1 := p1.1
    exact ⟨p1.2.2, p2.2.2, p3.2.2, by show 0 ≤ (pk _ _ _).1 ∧ (pk _ _ _).1 ≤ 3; omega⟩
  clear hS hO
  have hgst : ∀ i, gSt N (n + 2 + 2) s2 (i + 1) = (g3 N (n + 2 + 2) (gSt N (n + 2 + 2) s2 i) i).2 := fun i => rfl
  have hga : ∀ i, gAt1 N (n + 2 + 2) s2 i = ⟨1 + (g1 N (n + 2 + 2) (gSt N (n + 2 + 2) s2 i) i).1, (g2 N (n + 2 + 2) (gSt N (n + 2 + 2) s2 i) i).1, if 1 + (g1 N (n + 2 + 2) (gSt N (n + 2 + 2) s2 i) i).1 = 1 then (g2 N (n + 2 + 2) (gSt N (n + 2 + 2) s2 i) i).1 else (g3 N (n + 2 + 2) (gSt N (n + 2 + 2) s2 i) i).1⟩ := fun i => rfl
  generalize gSt N (n + 2 + 2) s2 = gs at *
  generalize gAt1 N (n + 2 + 2) s2 = ga at *
  generalize oSt (min (N + k) 3) (n + 2 + 2 + 6 * (k : Int) + 2) s3 = os at *
  refine SpecM.walk T.mixed Tryz.func45 S.ok45 (by simp [Tryz.f45]) fun hk' => ?_
  clear hk'
  unfold S.s45
  subst hgs
  subst hos
  repeat' (first|refine R.mv rfl ?_|refine R.reg ?_|refine R.nil ?_|refine R.seq ?_|refine R.nseq ?_|refine R.blk ?_|refine R.add rfl rfl (by omega) ?_|refine R.al rfl ?_|refine R.stoB rfl rfl rfl rfl ⟨rfl, rfl, Nat.le_of_ble_eq_true rfl⟩ rfl ?_|refine R.bld rfl rfl ?_|refine R.callX (bor := false) [(pin 0, pin 0)] rfl c1 rfl rfl rfl rfl rfl ?_|refine R.callX (bor := false) [(pin 0, pin 0)] rfl c2 rfl rfl rfl rfl rfl ?_)
  all_goals first | (exfalso; omega) | skip
  refine R.loop (G := Nat) (fun i => [(0, .v srcV), (2, .v (.c (.ptr 2 0))), (3, .v (.c (.ptr 3 0))), (4, pvA (.int .i64 ((k : Int) - (i : Int))))]) (fun i => (2, .box 35 [.d (iD 0), nilB, nilB]) :: (3, .box 35 [.d (iD N), .own 900, nilB]) :: (900, .arr kGate (((List.range i).map ga).map enGate) []) :: srcOb (gs i)) (fun i => i ≤ k) (fun i => k - i) 0 (Nat.zero_le _) ?hw1 fun i hi => ?_
  case hw1 =>
    refine Weak.trans (Weak.reifyBox 3 1 900 kGate rfl rfl rfl) ?_
    exact Weak.frame _ _ ⟨rfl, rfl, rfl, by rw [hk, show (k : Int) - ((0 : Nat) : Int) = k by omega]; rfl, trivial⟩ ⟨rfl, by rw [hN]; rfl, rfl, rfl, trivial⟩ rfl rfl
  have hll : ((List.range i).map ga).length = i := by simp
  by_cases hik : i < k
  · obtain ⟨p1, p2, p3, hb1⟩ := hgc i hik
    have hgi := hga i
    have hsi := hgst i
    generalize g1 N (n + 2 + 2) (gs i) i = y1 at *
    generalize g2 N (n + 2 + 2) (gs i) i = y2 at *
    generalize g3 N (n + 2 + 2) (gs i) i = y3 at *
    rw [show N + (i : Int) = N + (((List.range i).map ga).length : Int) by rw [hll]] at p2 p3
    have hap : ∀ g : TGate, (((List.range i).map ga).length + [g].length) * 24 ≤ 140737488355328 ∧ ((List.range i).map ga).length + [g].length ≤ 140737488355328 := fun g => by rw [hll, List.length_singleton]; omega
    by_cases h1 : 1 + y1.1 = 1
    · rw [if_pos h1] at hgi
      repeat' (first|refine R.mv rfl ?_|refine R.reg ?_|refine R.nil ?_|refine R.seq ?_|refine R.nseq ?_|refine R.nblk ?_|refine R.skip ?_|refine R.blk ?_|refine R.exit rfl ?_|refine R.ld rfl rfl rfl ?_|refine R.lda rfl rfl (lbT rfl) rfl ?_|refine R.fa rfl rfl ?_|refine R.lenO rfl rfl ?_|refine R.gtr rfl rfl ?_|refine R.eql rfl rfl ?_|refine R.add rfl rfl (by omega) ?_|refine R.sub rfl rfl (by omega) ?_|refine R.al rfl ?_|refine R.stoB rfl rfl rfl rfl ⟨rfl, rfl, Nat.le_of_ble_eq_true rfl⟩ rfl ?_|refine R.bld rfl rfl ?_|refine R.callX (bor := false) [(pin 0, pin 0)] rfl p1 rfl rfl rfl rfl rfl ?_|refine R.callX (bor := false) [(pin 0, pin 0)] rfl p2 rfl rfl rfl rfl rfl ?_|refine R.callX (bor := false) [(pin 0, pin 0)] rfl p3 rfl rfl rfl rfl rfl ?_|refine R.bsl (f := enGate) [(⟨1 + y1.1, y2.1, y2.1⟩ : TGate)] rfl rfl rfl rfl rfl ?_|refine R.app (f := enGate) (fun _ => rfl) rfl rfl rfl rfl rfl (hap _) ?_|refine R.cond rfl (fun hc => ?_) (fun hc => ?_))
      all_goals first
        | (exfalso; omega)
        | exact R.nloop (R.again (i + 1) (by omega) (by omega) ⟨rfl, rfl, rfl, by rw [show (k : Int) - ((i + 1 : Nat) : Int) = (k : Int) - (i : Int) - 1 by omega]; rfl, trivial⟩ ⟨rfl, rfl, arr_eq (by rw [mapR_snoc, hgi]), by rw [hsi]; rfl, trivial⟩ rfl rfl)
        | skip
    · rw [if_neg h1] at hgi
      repeat' (first|refine R.mv rfl ?_|refine R.reg ?_|refine R.nil ?_|refine R.seq ?_|refine R.nseq ?_|refine R.nblk ?_|refine R.skip ?_|refine R.blk ?_|refine R.exit rfl ?_|refine R.ld rfl rfl rfl ?_|refine R.lda rfl rfl (lbT rfl) rfl ?_|refine R.fa rfl rfl ?_|refine R.lenO rfl rfl ?_|refine R.gtr rfl rfl ?_|refine R.eql rfl rfl ?_|refine R.add rfl rfl (by omega) ?_|refine R.sub rfl rfl (by omega) ?_|refine R.al rfl ?_|refine R.stoB rfl rfl rfl rfl ⟨rfl, rfl, Nat.le_of_ble_eq_true rfl⟩ rfl ?_|refine R.bld rfl rfl ?_|refine R.callX (bor := false) [(pin 0, pin 0)] rfl p1 rfl rfl rfl rfl rfl ?_|refine R.callX (bor := false) [(pin 0, pin 0)] rfl p2 rfl rfl rfl rfl rfl ?_|refine R.callX (bor := false) [(pin 0, pin 0)] rfl p3 rfl rfl rfl rfl rfl ?_|refine R.bsl (f := enGate) [(⟨1 + y1.1, y2.1, y3.1⟩ : TGate)] rfl rfl rfl rfl rfl ?_|refine R.app (f := enGate) (fun _ => rfl) rfl rfl rfl rfl rfl (hap _) ?_|refine R.cond rfl (fun hc => ?_) (fun hc => ?_))
      all_goals first
        | (exfalso; omega)
        | exact R.nloop (R.again (i + 1) (by omega) (by omega) ⟨rfl, rfl, rfl, by rw [show (k : Int) - ((i + 1 : Nat) : Int) = (k : Int) - (i : Int) - 1 by omega]; rfl, trivial⟩ ⟨rfl, rfl, arr_eq (by rw [mapR_snoc, hgi]), by rw [hsi]; rfl, trivial⟩ rfl rfl)
        | skip
  obtain rfl : k = i := by omega
  repeat' (first|refine R.mv rfl ?_|refine R.reg ?_|refine R.nil ?_|refine R.seq ?_|refine R.nseq ?_|refine R.skip ?_|refine R.blk ?_|refine R.exit rfl ?_|refine R.ld rfl rfl rfl ?_|refine R.fa rfl rfl ?_|refine R.lenO rfl rfl ?_|refine R.gtr rfl rfl ?_|refine R.add rfl rfl (by omega) ?_|refine R.callX (bor := false) [(pin 0, pin 0)] rfl c3 rfl rfl rfl rfl rfl ?_|refine R.cond rfl (fun hc => ?_) (fun hc => ?_))
  all_goals first | (exfalso; omega) | skip
  have hlk : N + (((List.range k).map ga).length : Int) = N + (k : Int) := by rw [hll]
  refine R.loop (G := Nat) (fun j => [(0, .v srcV), (2, .v (.c (.ptr 2 0))), (3, .v (.c (.ptr 3 0))), (7, pvA (.int .i64 (N + (k : Int)))), (8, pvA (.int .i64 ((m : Int) - (j : Int))))]) (fun j => (2, .box 35 [.d (iD 0), nilB, nilB]) :: (3, .box 35 [.d (iD N), .own 900, .own 901]) :: (900, .arr kGate (((List.range k).map ga).map enGate) []) :: (901, .arr kI (ints ((List.range j).map fun i => N + k - 1 - (oPk (min (N + k) 3) (n + 2 + 2 + 6 * (k : Int) + 2) (os i) i).1)) []) :: srcOb (os j)) (fun j => j ≤ m) (fun j => m - j) 0 (Nat.zero_le _) ?hw2 fun j hj => ?_
  case hw2 =>
    refine Weak.trans (Weak.reifyBox 3 2 901 kI rfl rfl rfl) ?_
    exact Weak.frame _ _ ⟨rfl, rfl, rfl, by rw [← hlk]; rfl, by rw [show (m : Int) - ((0 : Nat) : Int) = 1 + v3 by omega]; rfl, trivial⟩ ⟨rfl, rfl, rfl, rfl, rfl, trivial⟩ rfl rfl
  have hjl : ((List.range j).map fun i => N + k - 1 - (oPk (min (N + k) 3) (n + 2 + 2 + 6 * (k : Int) + 2) (os i) i).1).length = j := by simp
  by_cases hjm : j < m
  · obtain ⟨hb, cj⟩ := hro j hjm
    have hsn : (List.range (j + 1)).map (fun i => N + k - 1 - (oPk (min (N + k) 3) (n + 2 + 2 + 6 * (k : Int) + 2) (os i) i).1) = (List.range j).map (fun i => N + k - 1 - (oPk (min (N + k) 3) (n + 2 + 2 + 6 * (k : Int) + 2) (os i) i).1) ++ [N + k - 1 - (oPk (min (N + k) 3) (n + 2 + 2 + 6 * (k : Int) + 2) (os j) j).1] := mapR_snoc
    generalize (oPk (min (N + k) 3) (n + 2 + 2 + 6 * (k : Int) + 2) (os j) j).1 = z at *
    generalize (List.range j).map (fun i => N + k - 1 - (oPk (min (N + k) 3) (n + 2 + 2 + 6 * (k : Int) + 2) (os i) i).1) = ol at *
    have hap : (ol.length + [N + (k : Int) - 1 - z].length) * 8 ≤ 140737488355328 ∧ ol.length + [N + (k : Int) - 1 - z].length ≤ 140737488355328 := by rw [List.length_singleton]; omega
    repeat' (first|refine R.mv rfl ?_|refine R.reg ?_|refine R.nil ?_|refine R.seq ?_|refine R.nseq ?_|refine R.skip ?_|refine R.blk ?_|refine R.exit rfl ?_|refine R.lda rfl rfl (lbT rfl) rfl ?_|refine R.gtr rfl rfl ?_|refine R.stoB rfl rfl rfl rfl ⟨rfl, rfl, Nat.le_of_ble_eq_true rfl⟩ rfl ?_|refine R.cond rfl (fun hc => ?_) (fun hc => ?_))
    all_goals first | (exfalso; omega) | skip
    refine R.regOB (⟨frE [(0, .v srcV), (2, .v (.c (.ptr 2 0))), (3, .v (.c (.ptr 3 0))), (7, pvA (.int .i64 (N + (k : Int)))), (8, pvA (.int .i64 ((m : Int) - (j : Int))))], frO ((2, .box 35 [.d (iD 0), nilB, nilB]) :: (3, .box 35 [.d (iD N), .own 900, .own 901]) :: (900, .arr kGate (((List.range k).map ga).map enGate) []) :: (901, .arr kI (ints (ol ++ [N + (k : Int) - 1 - z])) []) :: srcOb (os (j + 1)))⟩) ?_ ?_
    · repeat' (first|refine R.tk ?_|refine R.tkN ?_|refine R.both ?_ ?_|refine R.nil ?_|refine R.mv rfl ?_|refine R.fa rfl rfl ?_|refine R.ld rfl rfl rfl ?_|refine R.sub rfl rfl (by omega) ?_|refine R.call (bor := false) rfl rfl (sMin _ _) rfl rfl rfl ?_|refine R.callX (bor := false) [(pin 0, pin 0)] rfl cj rfl rfl rfl rfl rfl ?_|refine R.bsl (f := enI) [N + (k : Int) - 1 - z] rfl rfl rfl rfl rfl ?_|refine R.app (f := enI) (fun _ => rfl) rfl rfl rfl rfl rfl hap ?_|refine R.stoB rfl rfl rfl rfl ⟨rfl, rfl, Nat.le_of_ble_eq_true rfl⟩ rfl ?_)
      all_goals exact R.done (Weak.frame _ _ ⟨rfl, rfl, rfl, rfl, rfl, trivial⟩ ⟨rfl, rfl, rfl, rfl, rfl, trivial⟩ rfl rfl)
    repeat' (first|refine R.mv rfl ?_|refine R.reg ?_|refine R.nil ?_|refine R.sub rfl rfl (by omega) ?_)
    all_goals first
      | (exfalso; omega)
      | exact R.nloop (R.again (j + 1) (by omega) (by omega) ⟨rfl, rfl, rfl, rfl, by rw [show (m : Int) - ((j + 1 : Nat) : Int) = (m : Int) - (j : Int) - 1 by omega]; rfl, trivial⟩ ⟨rfl, rfl, rfl, arr_eq (by rw [hsn]), rfl, trivial⟩ rfl rfl)
      | skip
  obtain rfl : m = j := by omega
  repeat' (first|refine R.mv rfl ?_|refine R.reg ?_|refine R.nil ?_|refine R.seq ?_|refine R.nseq ?_|refine R.skip ?_|refine R.blk ?_|refine R.exit rfl ?_|refine R.lda rfl rfl (lbT rfl) rfl ?_|refine R.gtr rfl rfl ?_|refine R.stoB rfl rfl rfl rfl ⟨rfl, rfl, Nat.le_of_ble_eq_true rfl⟩ rfl ?_|refine R.cond rfl (fun hc => ?_) (fun hc => ?_))
  all_goals first
    | (exfalso; omega)
    | exact R.ret ⟨.inr rfl, R.outR rfl (.cons (R.cell rfl rfl T.ty35 (lbT rfl) rfl) .nil) rfl rfl rfl rfl⟩
    | skip
theorem sLawCircuit (l : List Int) (hl : ∀ c ∈ l, 0 ≤ c ∧ c ≤ 255) : ∃ c : TCircuit, okC c ∧ Spec Tryz.prog 15 [.c (.rd kU8s (l.map enB8))] (.v (.agg [.fz (iD c.fInputs), .nw kGate (c.fGates.map enGate), .nw kI (ints c.fOutputs)])) := by
  obtain ⟨c, s', hc, c1⟩ := sDrawC ⟨l, 0, 0⟩ 0 ⟨⟨by show (0 : Int) ≤ 0; omega, by show (0 : Int) ≤ 0; omega⟩, hl⟩ (by omega)
  have c0 := sFrom l
  refine ⟨c, hc, ?_⟩
  refine Spec.walk T.mixed Tryz.func15 S.ok15 (by simp [Tryz.f15]) fun hk => ?_
  clear hk
  unfold S.s15
  repeat' (first|refine R.mv rfl ?_|refine R.reg ?_|refine R.nil ?_|refine R.seq ?_|refine R.nseq ?_|refine R.al rfl ?_|refine R.stoB rfl rfl rfl rfl ⟨rfl, rfl, Nat.le_of_ble_eq_true rfl⟩ rfl ?_|refine R.callX (bor := false) [] rfl c0 rfl rfl rfl rfl rfl ?_|refine R.callX (bor := false) [(6000, pin 0)] rfl c1 rfl rfl rfl rfl rfl ?_)
  all_goals first
    | (exfalso; omega)
    | exact R.ret ⟨.inr rfl, R.outR rfl (.cons (R.cell rfl rfl T.ty35 (lbT rfl) rfl) .nil) rfl rfl rfl rfl⟩
    | skip
end
end Go.Proofs.YtehkaajakapkmaaGreat
