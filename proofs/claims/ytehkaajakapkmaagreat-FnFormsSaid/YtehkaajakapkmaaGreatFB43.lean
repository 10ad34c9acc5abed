/- Texts of one proof, one behind the other. -/
import Derived.Test.YtehkaajakapkmaaGreatFB36
import Derived.Test.YtehkaajakapkmaaGreatFB37
import Derived.Test.YtehkaajakapkmaaGreatFB39
import Derived.Test.YtehkaajakapkmaaGreatFB41
import Derived.Test.YtehkaajakapkmaaGreatFB42
namespace Go.Proofs.YtehkaajakapkmaaGreat
section
open Go.RowKit
set_option maxRecDepth 100000 in
def S.s4 : SC := (.seq (.reg [⟨(.some 2), .none, .false, (.mv (.const (Go.Value.bool false)))⟩]) (.seq (.seq (.reg [⟨(.some 26), .none, .false, (.mv (.tmp 0))⟩, ⟨(.some 27), .none, .false, (.call (.func 14) [(.tmp 26)])⟩]) (.cond (.tmp 27) (.seq (.reg [⟨(.some 2), .none, .false, (.mv (.const (Go.Value.bool true)))⟩]) .ret) .skip)) (.seq (.reg [⟨(.some 28), .none, .false, (.mv (.tmp 0))⟩, ⟨(.some 29), .none, .false, (.call (.func 15) [(.tmp 28)])⟩, ⟨(.some 3), .none, .false, (.al 35 [(Go.Value.int Go.IntKind.i64 0), (Go.Value.slice none 0 0), (Go.Value.slice none 0 0)])⟩, ⟨.none, .none, .false, (.sto 3 (.tmp 3) (.tmp 29))⟩]) (.seq (.reg [⟨(.some 31), .none, .false, (.ld .true 3 (.tmp 3))⟩, ⟨(.some 32), .none, .false, (.call (.func 8) [(.tmp 31)])⟩, ⟨(.some 30), .none, .false, (.mv (.tmp 32))⟩, ⟨(.some 33), .none, .false, (.ext (.tmp 30) 0)⟩, ⟨(.some 34), .none, .false, (.ext (.tmp 30) 1)⟩, ⟨(.some 4), .none, .false, (.al 30 [(Go.Value.int Go.IntKind.i64 0), (Go.Value.slice none 0 0), (Go.Value.slice none 0 0)])⟩, ⟨.none, .none, .false, (.sto 3 (.tmp 4) (.tmp 33))⟩, ⟨(.some 5), .none, .false, (.mv (.tmp 34))⟩]) (.seq (.reg [⟨(.some 36), .none, .false, (.ld .true 3 (.tmp 3))⟩, ⟨(.some 37), .none, .false, (.call (.func 6) [(.tmp 36)])⟩, ⟨(.some 35), .none, .false, (.mv (.tmp 37))⟩, ⟨(.some 38), .none, .false, (.ext (.tmp 35) 0)⟩, ⟨(.some 39), .none, .false, (.ext (.tmp 35) 1)⟩, ⟨(.some 6), .none, .false, (.al 30 [(Go.Value.int Go.IntKind.i64 0), (Go.Value.slice none 0 0), (Go.Value.slice none 0 0)])⟩, ⟨.none, .none, .false, (.sto 3 (.tmp 6) (.tmp 38))⟩, ⟨(.some 7), .none, .false, (.mv (.tmp 39))⟩]) (.seq (.reg [⟨(.some 41), .none, .false, (.ld .true 3 (.tmp 3))⟩, ⟨(.some 42), .none, .false, (.call (.func 16) [(.tmp 41)])⟩, ⟨(.some 40), .none, .false, (.mv (.tmp 42))⟩, ⟨(.some 43), .none, .false, (.ext (.tmp 40) 0)⟩, ⟨(.some 44), .none, .false, (.ext (.tmp 40) 1)⟩, ⟨(.some 8), .none, .false, (.mv (.tmp 43))⟩, ⟨(.some 9), .none, .false, (.mv (.tmp 44))⟩]) (.seq (.seq (.reg [⟨(.some 45), .none, .false, (.mv (.tmp 5))⟩, ⟨(.some 46), .none, .false, (.mv (.tmp 7))⟩, ⟨(.some 47), .none, .false, (.bin .neq (.tmp 45) (.tmp 46))⟩, ⟨(.some 48), .none, .false, (.mv (.tmp 47))⟩, ⟨(.some 49), (.some (48, .false)), .false, (.mv (.tmp 5))⟩, ⟨(.some 50), (.some (48, .false)), .false, (.bin .neq (.tmp 49) (.const (Go.Value.int Go.IntKind.i64 0)))⟩, ⟨(.some 51), .none, .false, (.pick (.tmp 48) (.const (Go.Value.bool true)) (.tmp 50))⟩, ⟨(.some 52), .none, .false, (.mv (.tmp 51))⟩, ⟨(.some 53), (.some (52, .false)), .false, (.fa 1 (.tmp 4))⟩, ⟨(.some 54), (.some (52, .false)), .false, (.ld .false 1 (.tmp 53))⟩, ⟨(.some 55), (.some (52, .false)), .false, (.len (.tmp 54))⟩, ⟨(.some 56), (.some (52, .false)), .false, (.fa 1 (.tmp 6))⟩, ⟨(.some 57), (.some (52, .false)), .false, (.ld .false 1 (.tmp 56))⟩, ⟨(.some 58), (.some (52, .false)), .false, (.len (.tmp 57))⟩, ⟨(.some 59), (.some (52, .false)), .false, (.bin .neq (.tmp 55) (.tmp 58))⟩, ⟨(.some 60), .none, .false, (.pick (.tmp 52) (.const (Go.Value.bool true)) (.tmp 59))⟩, ⟨(.some 61), .none, .false, (.mv (.tmp 60))⟩, ⟨(.some 62), (.some (61, .false)), .false, (.fa 2 (.tmp 4))⟩, ⟨(.some 63), (.some (61, .false)), .false, (.ld .false 1 (.tmp 62))⟩, ⟨(.some 64), (.some (61, .false)), .false, (.len (.tmp 63))⟩, ⟨(.some 65), (.some (61, .false)), .false, (.fa 2 (.tmp 6))⟩, ⟨(.some 66), (.some (61, .false)), .false, (.ld .false 1 (.tmp 65))⟩, ⟨(.some 67), (.some (61, .false)), .false, (.len (.tmp 66))⟩, ⟨(.some 68), (.some (61, .false)), .false, (.bin .neq (.tmp 64) (.tmp 67))⟩, ⟨(.some 69), .none, .false, (.pick (.tmp 61) (.const (Go.Value.bool true)) (.tmp 68))⟩, ⟨(.some 70), .none, .false, (.mv (.tmp 69))⟩, ⟨(.some 71), (.some (70, .false)), .false, (.mv (.tmp 9))⟩, ⟨(.some 72), (.some (70, .false)), .false, (.bin .neq (.tmp 71) (.const (Go.Value.int Go.IntKind.i64 0)))⟩, ⟨(.some 73), .none, .false, (.pick (.tmp 70) (.const (Go.Value.bool true)) (.tmp 72))⟩, ⟨(.some 74), .none, .false, (.mv (.tmp 73))⟩, ⟨(.some 75), (.some (74, .false)), .false, (.mv (.tmp 8))⟩, ⟨(.some 76), (.some (74, .false)), .false, (.len (.tmp 75))⟩, ⟨(.some 77), (.some (74, .false)), .false, (.fa 2 (.tmp 3))⟩, ⟨(.some 78), (.some (74, .false)), .false, (.ld .false 1 (.tmp 77))⟩, ⟨(.some 79), (.some (74, .false)), .false, (.len (.tmp 78))⟩, ⟨(.some 80), (.some (74, .false)), .false, (.bin .neq (.tmp 76) (.tmp 79))⟩, ⟨(.some 81), .none, .false, (.pick (.tmp 74) (.const (Go.Value.bool true)) (.tmp 80))⟩, ⟨(.some 82), .none, .false, (.mv (.tmp 81))⟩, ⟨(.some 83), (.some (82, .false)), .false, (.ld .true 3 (.tmp 4))⟩, ⟨(.some 84), (.some (82, .false)), .false, (.call (.func 17) [(.tmp 83)])⟩, ⟨(.some 85), (.some (82, .false)), .false, (.not (.tmp 84))⟩, ⟨(.some 86), .none, .false, (.pick (.tmp 82) (.const (Go.Value.bool true)) (.tmp 85))⟩]) (.cond (.tmp 86) (.seq (.reg [⟨(.some 2), .none, .false, (.mv (.const (Go.Value.bool false)))⟩]) .ret) .skip)) (.seq (.seq (.reg [⟨(.some 10), .none, .false, (.mv (.const (Go.Value.int Go.IntKind.i64 0)))⟩]) (.block 0 (.loop (.seq (.seq (.reg [⟨(.some 87), .none, .false, (.mv (.tmp 10))⟩, ⟨(.some 88), .none, .false, (.fa 0 (.tmp 3))⟩, ⟨(.some 89), .none, .false, (.ld .false 1 (.tmp 88))⟩, ⟨(.some 90), .none, .false, (.bin .shl (.const (Go.Value.int Go.IntKind.i64 1)) (.tmp 89))⟩, ⟨(.some 91), .none, .false, (.bin .lss (.tmp 87) (.tmp 90))⟩]) (.cond (.tmp 91) .skip (.exit 0))) (.seq (.block 1 (.seq (.reg [⟨(.some 94), .none, .false, (.bsl (.mk 2 1) 0 [])⟩, ⟨(.some 11), .none, .false, (.mv (.tmp 94))⟩]) (.seq (.seq (.reg [⟨(.some 12), .none, .false, (.mv (.const (Go.Value.int Go.IntKind.i64 0)))⟩]) (.block 2 (.loop (.seq (.seq (.reg [⟨(.some 95), .none, .false, (.mv (.tmp 12))⟩, ⟨(.some 96), .none, .false, (.fa 0 (.tmp 3))⟩, ⟨(.some 97), .none, .false, (.ld .false 1 (.tmp 96))⟩, ⟨(.some 98), .none, .false, (.bin .lss (.tmp 95) (.tmp 97))⟩]) (.cond (.tmp 98) .skip (.exit 2))) (.seq (.block 3 (.reg [⟨(.some 101), .none, .false, (.mv (.tmp 11))⟩, ⟨(.some 102), .none, .false, (.mv (.tmp 10))⟩, ⟨(.some 103), .none, .false, (.mv (.tmp 12))⟩, ⟨(.some 104), .none, .false, (.bin .shr (.tmp 102) (.tmp 103))⟩, ⟨(.some 105), .none, .false, (.bin .and (.tmp 104) (.const (Go.Value.int Go.IntKind.i64 1)))⟩, ⟨(.some 106), .none, .false, (.bsl (.mk 2 1) 1 [(0, (.tmp 105))])⟩, ⟨(.some 107), .none, .false, (.app (.mk 2 1) 8 (.tmp 101) (.tmp 106))⟩, ⟨(.some 11), .none, .false, (.mv (.tmp 107))⟩])) (.reg [⟨(.some 99), .none, .false, (.mv (.tmp 12))⟩, ⟨(.some 100), .none, .false, (.bin .add (.tmp 99) (.const (Go.Value.int Go.IntKind.i64 1)))⟩, ⟨(.some 12), .none, .false, (.mv (.tmp 100))⟩])))))) (.seq (.reg [⟨(.some 109), .none, .false, (.ld .true 3 (.tmp 3))⟩, ⟨(.some 110), .none, .false, (.mv (.tmp 11))⟩, ⟨(.some 111), .none, .false, (.call (.func 18) [(.tmp 109), (.tmp 110)])⟩, ⟨(.some 108), .none, .false, (.mv (.tmp 111))⟩, ⟨(.some 112), .none, .false, (.ext (.tmp 108) 0)⟩, ⟨(.some 113), .none, .false, (.ext (.tmp 108) 1)⟩, ⟨(.some 13), .none, .false, (.mv (.tmp 112))⟩, ⟨(.some 14), .none, .false, (.mv (.tmp 113))⟩]) (.seq (.reg [⟨(.some 115), .none, .false, (.ld .true 3 (.tmp 6))⟩, ⟨(.some 116), .none, .false, (.mv (.tmp 11))⟩, ⟨(.some 117), .none, .false, (.call (.func 19) [(.tmp 115), (.tmp 116)])⟩, ⟨(.some 114), .none, .false, (.mv (.tmp 117))⟩, ⟨(.some 118), .none, .false, (.ext (.tmp 114) 0)⟩, ⟨(.some 119), .none, .false, (.ext (.tmp 114) 1)⟩, ⟨(.some 15), .none, .false, (.mv (.tmp 118))⟩, ⟨(.some 16), .none, .false, (.mv (.tmp 119))⟩]) (.seq (.seq (.reg [⟨(.some 120), .none, .false, (.mv (.tmp 14))⟩, ⟨(.some 121), .none, .false, (.bin .neq (.tmp 120) (.const (Go.Value.int Go.IntKind.i64 0)))⟩, ⟨(.some 122), .none, .false, (.mv (.tmp 121))⟩, ⟨(.some 123), (.some (122, .false)), .false, (.mv (.tmp 16))⟩, ⟨(.some 124), (.some (122, .false)), .false, (.bin .neq (.tmp 123) (.const (Go.Value.int Go.IntKind.i64 0)))⟩, ⟨(.some 125), .none, .false, (.pick (.tmp 122) (.const (Go.Value.bool true)) (.tmp 124))⟩, ⟨(.some 126), .none, .false, (.mv (.tmp 125))⟩, ⟨(.some 127), (.some (126, .false)), .false, (.mv (.tmp 13))⟩, ⟨(.some 128), (.some (126, .false)), .false, (.mv (.tmp 15))⟩, ⟨(.some 129), (.some (126, .false)), .false, (.call (.func 20) [(.tmp 127), (.tmp 128)])⟩, ⟨(.some 130), (.some (126, .false)), .false, (.not (.tmp 129))⟩, ⟨(.some 131), .none, .false, (.pick (.tmp 126) (.const (Go.Value.bool true)) (.tmp 130))⟩, ⟨(.some 132), .none, .false, (.mv (.tmp 131))⟩, ⟨(.some 133), (.some (132, .false)), .false, (.mv (.tmp 13))⟩, ⟨(.some 134), (.some (132, .false)), .false, (.len (.tmp 133))⟩, ⟨(.some 135), (.some (132, .false)), .false, (.mv (.tmp 8))⟩, ⟨(.some 136), (.some (132, .false)), .false, (.len (.tmp 135))⟩, ⟨(.some 137), (.some (132, .false)), .false, (.bin .neq (.tmp 134) (.tmp 136))⟩, ⟨(.some 138), .none, .false, (.pick (.tmp 132) (.const (Go.Value.bool true)) (.tmp 137))⟩]) (.cond (.tmp 138) (.seq (.reg [⟨(.some 2), .none, .false, (.mv (.const (Go.Value.bool false)))⟩]) .ret) .skip)) (.seq (.reg [⟨(.some 17), .none, .false, (.mv (.const (Go.Value.int Go.IntKind.i64 0)))⟩]) (.block 4 (.loop (.seq (.seq (.reg [⟨(.some 139), .none, .false, (.mv (.tmp 17))⟩, ⟨(.some 140), .none, .false, (.mv (.tmp 13))⟩, ⟨(.some 141), .none, .false, (.len (.tmp 140))⟩, ⟨(.some 142), .none, .false, (.bin .lss (.tmp 139) (.tmp 141))⟩]) (.cond (.tmp 142) .skip (.exit 4))) (.seq (.block 5 (.seq (.reg [⟨(.some 145), .none, .true, (.mv (.tmp 8))⟩, ⟨(.some 146), .none, .true, (.mv (.tmp 17))⟩, ⟨(.some 147), .none, .true, (.ix (.mk 23 1) (.tmp 145) (.tmp 146))⟩, ⟨(.some 148), .none, .true, (.ld .false 1 (.tmp 147))⟩, ⟨(.some 149), .none, .true, (.len (.tmp 148))⟩, ⟨(.some 150), .none, .true, (.fa 0 (.tmp 3))⟩, ⟨(.some 151), .none, .true, (.ld .false 1 (.tmp 150))⟩, ⟨(.some 152), .none, .true, (.bin .shl (.const (Go.Value.int Go.IntKind.i64 1)) (.tmp 151))⟩, ⟨(.some 153), .none, .true, (.bin .neq (.tmp 149) (.tmp 152))⟩, ⟨(.some 154), .none, .true, (.mv (.tmp 153))⟩, ⟨(.some 155), (.some (154, .false)), .true, (.mv (.tmp 8))⟩, ⟨(.some 156), (.some (154, .false)), .true, (.mv (.tmp 17))⟩, ⟨(.some 157), (.some (154, .false)), .true, (.ix (.mk 23 1) (.tmp 155) (.tmp 156))⟩, ⟨(.some 158), (.some (154, .false)), .true, (.ld .false 1 (.tmp 157))⟩, ⟨(.some 159), (.some (154, .false)), .true, (.mv (.tmp 10))⟩, ⟨(.some 160), (.some (154, .false)), .true, (.ix (.mk 2 1) (.tmp 158) (.tmp 159))⟩, ⟨(.some 161), (.some (154, .false)), .true, (.ld .false 1 (.tmp 160))⟩, ⟨(.some 162), (.some (154, .false)), .true, (.mv (.tmp 13))⟩, ⟨(.some 163), (.some (154, .false)), .true, (.mv (.tmp 17))⟩, ⟨(.some 164), (.some (154, .false)), .true, (.ix (.mk 2 1) (.tmp 162) (.tmp 163))⟩, ⟨(.some 165), (.some (154, .false)), .true, (.ld .false 1 (.tmp 164))⟩, ⟨(.some 166), (.some (154, .false)), .true, (.bin .neq (.tmp 161) (.tmp 165))⟩, ⟨(.some 167), .none, .true, (.pick (.tmp 154) (.const (Go.Value.bool true)) (.tmp 166))⟩]) (.cond (.tmp 167) (.seq (.reg [⟨(.some 2), .none, .false, (.mv (.const (Go.Value.bool false)))⟩]) .ret) .skip))) (.reg [⟨(.some 143), .none, .false, (.mv (.tmp 17))⟩, ⟨(.some 144), .none, .false, (.bin .add (.tmp 143) (.const (Go.Value.int Go.IntKind.i64 1)))⟩, ⟨(.some 17), .none, .false, (.mv (.tmp 144))⟩])))))))))))) (.reg [⟨(.some 92), .none, .false, (.mv (.tmp 10))⟩, ⟨(.some 93), .none, .false, (.bin .add (.tmp 92) (.const (Go.Value.int Go.IntKind.i64 1)))⟩, ⟨(.some 10), .none, .false, (.mv (.tmp 93))⟩])))))) (.seq (.seq (.reg [⟨(.some 18), .none, .false, (.mv (.const (Go.Value.int Go.IntKind.i64 0)))⟩]) (.block 6 (.loop (.seq (.seq (.reg [⟨(.some 168), .none, .false, (.mv (.tmp 18))⟩, ⟨(.some 169), .none, .false, (.mv (.tmp 8))⟩, ⟨(.some 170), .none, .false, (.len (.tmp 169))⟩, ⟨(.some 171), .none, .false, (.bin .lss (.tmp 168) (.tmp 170))⟩]) (.cond (.tmp 171) .skip (.exit 6))) (.seq (.block 7 (.seq (.reg [⟨(.some 175), .none, .true, (.fa 0 (.tmp 3))⟩, ⟨(.some 176), .none, .true, (.ld .false 1 (.tmp 175))⟩, ⟨(.some 177), .none, .true, (.mv (.tmp 8))⟩, ⟨(.some 178), .none, .true, (.mv (.tmp 18))⟩, ⟨(.some 179), .none, .true, (.ix (.mk 23 1) (.tmp 177) (.tmp 178))⟩, ⟨(.some 180), .none, .true, (.ld .false 1 (.tmp 179))⟩, ⟨(.some 181), .none, .true, (.fcal (.func 21) [(.tmp 176), (.tmp 180)])⟩, ⟨(.some 174), .none, .true, (.mv (.tmp 181))⟩, ⟨(.some 182), .none, .true, (.ext (.tmp 174) 0)⟩, ⟨(.some 183), .none, .true, (.ext (.tmp 174) 1)⟩, ⟨(.some 19), .none, .true, (.mv (.tmp 182))⟩, ⟨(.some 20), .none, .true, (.mv (.tmp 183))⟩]) (.seq (.reg [⟨(.some 185), .none, .true, (.fa 0 (.tmp 3))⟩, ⟨(.some 186), .none, .true, (.ld .false 1 (.tmp 185))⟩, ⟨(.some 187), .none, .true, (.mv (.tmp 8))⟩, ⟨(.some 188), .none, .true, (.mv (.tmp 18))⟩, ⟨(.some 189), .none, .true, (.ix (.mk 23 1) (.tmp 187) (.tmp 188))⟩, ⟨(.some 190), .none, .true, (.ld .false 1 (.tmp 189))⟩, ⟨(.some 191), .none, .true, (.fcal (.func 22) [(.tmp 186), (.tmp 190)])⟩, ⟨(.some 184), .none, .true, (.mv (.tmp 191))⟩, ⟨(.some 192), .none, .true, (.ext (.tmp 184) 0)⟩, ⟨(.some 193), .none, .true, (.ext (.tmp 184) 1)⟩, ⟨(.some 21), .none, .true, (.mv (.tmp 192))⟩, ⟨(.some 22), .none, .true, (.mv (.tmp 193))⟩]) (.seq (.seq (.reg [⟨(.some 194), .none, .false, (.mv (.tmp 20))⟩, ⟨(.some 195), .none, .false, (.bin .neq (.tmp 194) (.const (Go.Value.int Go.IntKind.i64 0)))⟩, ⟨(.some 196), .none, .false, (.mv (.tmp 195))⟩, ⟨(.some 197), (.some (196, .false)), .false, (.mv (.tmp 22))⟩, ⟨(.some 198), (.some (196, .false)), .false, (.bin .neq (.tmp 197) (.const (Go.Value.int Go.IntKind.i64 0)))⟩, ⟨(.some 199), .none, .false, (.pick (.tmp 196) (.const (Go.Value.bool true)) (.tmp 198))⟩, ⟨(.some 200), .none, .false, (.mv (.tmp 199))⟩, ⟨(.some 201), (.some (200, .false)), .false, (.mv (.tmp 19))⟩, ⟨(.some 202), (.some (200, .false)), .false, (.len (.tmp 201))⟩, ⟨(.some 203), (.some (200, .false)), .false, (.mv (.tmp 8))⟩, ⟨(.some 204), (.some (200, .false)), .false, (.mv (.tmp 18))⟩, ⟨(.some 205), (.some (200, .false)), .false, (.ix (.mk 23 1) (.tmp 203) (.tmp 204))⟩, ⟨(.some 206), (.some (200, .false)), .false, (.ld .false 1 (.tmp 205))⟩, ⟨(.some 207), (.some (200, .false)), .false, (.call (.func 23) [(.tmp 206)])⟩, ⟨(.some 208), (.some (200, .false)), .false, (.bin .gtr (.tmp 202) (.tmp 207))⟩, ⟨(.some 209), .none, .false, (.pick (.tmp 200) (.const (Go.Value.bool true)) (.tmp 208))⟩, ⟨(.some 210), .none, .false, (.mv (.tmp 209))⟩, ⟨(.some 211), (.some (210, .false)), .false, (.mv (.tmp 19))⟩, ⟨(.some 212), (.some (210, .false)), .false, (.len (.tmp 211))⟩, ⟨(.some 213), (.some (210, .false)), .false, (.fa 2 (.tmp 6))⟩, ⟨(.some 214), (.some (210, .false)), .false, (.ld .false 1 (.tmp 213))⟩, ⟨(.some 215), (.some (210, .false)), .false, (.mv (.tmp 18))⟩, ⟨(.some 216), (.some (210, .false)), .false, (.ix (.mk 23 1) (.tmp 214) (.tmp 215))⟩, ⟨(.some 217), (.some (210, .false)), .false, (.ld .false 1 (.tmp 216))⟩, ⟨(.some 218), (.some (210, .false)), .false, (.len (.tmp 217))⟩, ⟨(.some 219), (.some (210, .false)), .false, (.bin .neq (.tmp 212) (.tmp 218))⟩, ⟨(.some 220), .none, .false, (.pick (.tmp 210) (.const (Go.Value.bool true)) (.tmp 219))⟩]) (.cond (.tmp 220) (.seq (.reg [⟨(.some 2), .none, .false, (.mv (.const (Go.Value.bool false)))⟩]) .ret) .skip)) (.seq (.reg [⟨(.some 23), .none, .false, (.mv (.const (Go.Value.int Go.IntKind.i64 0)))⟩]) (.block 8 (.loop (.seq (.seq (.reg [⟨(.some 221), .none, .false, (.mv (.tmp 23))⟩, ⟨(.some 222), .none, .false, (.mv (.tmp 19))⟩, ⟨(.some 223), .none, .false, (.len (.tmp 222))⟩, ⟨(.some 224), .none, .false, (.bin .lss (.tmp 221) (.tmp 223))⟩]) (.cond (.tmp 224) .skip (.exit 8))) (.seq (.block 9 (.seq (.reg [⟨(.some 24), .none, .false, (.mv (.const (Go.Value.bool false)))⟩]) (.seq (.seq (.reg [⟨(.some 25), .none, .false, (.mv (.const (Go.Value.int Go.IntKind.i64 0)))⟩]) (.block 10 (.loop (.seq (.seq (.reg [⟨(.some 227), .none, .false, (.mv (.tmp 25))⟩, ⟨(.some 228), .none, .false, (.mv (.tmp 21))⟩, ⟨(.some 229), .none, .false, (.len (.tmp 228))⟩, ⟨(.some 230), .none, .false, (.bin .lss (.tmp 227) (.tmp 229))⟩]) (.cond (.tmp 230) .skip (.exit 10))) (.seq (.block 11 (.reg [⟨(.some 233), .none, .true, (.mv (.tmp 24))⟩, ⟨(.some 234), .none, .true, (.mv (.tmp 233))⟩, ⟨(.some 235), (.some (234, .false)), .true, (.mv (.tmp 21))⟩, ⟨(.some 236), (.some (234, .false)), .true, (.mv (.tmp 25))⟩, ⟨(.some 237), (.some (234, .false)), .true, (.ix (.mk 56 2) (.tmp 235) (.tmp 236))⟩, ⟨(.some 238), (.some (234, .false)), .true, (.ld .true 2 (.tmp 237))⟩, ⟨(.some 239), (.some (234, .false)), .true, (.mv (.tmp 19))⟩, ⟨(.some 240), (.some (234, .false)), .true, (.mv (.tmp 23))⟩, ⟨(.some 241), (.some (234, .false)), .true, (.ix (.mk 56 2) (.tmp 239) (.tmp 240))⟩, ⟨(.some 242), (.some (234, .false)), .true, (.ld .true 2 (.tmp 241))⟩, ⟨(.some 243), (.some (234, .false)), .true, (.eqs .false [(.i .i64), (.i .i64)] (.tmp 238) (.tmp 242))⟩, ⟨(.some 244), .none, .true, (.pick (.tmp 234) (.const (Go.Value.bool true)) (.tmp 243))⟩, ⟨(.some 24), .none, .false, (.mv (.tmp 244))⟩])) (.reg [⟨(.some 231), .none, .false, (.mv (.tmp 25))⟩, ⟨(.some 232), .none, .false, (.bin .add (.tmp 231) (.const (Go.Value.int Go.IntKind.i64 1)))⟩, ⟨(.some 25), .none, .false, (.mv (.tmp 232))⟩])))))) (.seq (.reg [⟨(.some 245), .none, .true, (.mv (.tmp 24))⟩, ⟨(.some 246), .none, .true, (.not (.tmp 245))⟩, ⟨(.some 247), .none, .true, (.mv (.tmp 246))⟩, ⟨(.some 248), (.some (247, .false)), .true, (.fa 0 (.tmp 3))⟩, ⟨(.some 249), (.some (247, .false)), .true, (.ld .false 1 (.tmp 248))⟩, ⟨(.some 250), (.some (247, .false)), .true, (.mv (.tmp 19))⟩, ⟨(.some 251), (.some (247, .false)), .true, (.mv (.tmp 23))⟩, ⟨(.some 252), (.some (247, .false)), .true, (.ix (.mk 56 2) (.tmp 250) (.tmp 251))⟩, ⟨(.some 253), (.some (247, .false)), .true, (.ld .true 2 (.tmp 252))⟩, ⟨(.some 254), (.some (247, .false)), .true, (.fcal (.func 24) [(.tmp 249), (.tmp 253)])⟩, ⟨(.some 255), (.some (247, .false)), .true, (.slen (.tmp 254))⟩, ⟨(.some 256), (.some (247, .false)), .true, (.fa 0 (.tmp 3))⟩, ⟨(.some 257), (.some (247, .false)), .true, (.ld .false 1 (.tmp 256))⟩, ⟨(.some 258), (.some (247, .false)), .true, (.bin .neq (.tmp 255) (.tmp 257))⟩, ⟨(.some 259), .none, .true, (.pick (.tmp 247) (.const (Go.Value.bool true)) (.tmp 258))⟩]) (.cond (.tmp 259) (.seq (.reg [⟨(.some 2), .none, .false, (.mv (.const (Go.Value.bool false)))⟩]) .ret) .skip))))) (.reg [⟨(.some 225), .none, .false, (.mv (.tmp 23))⟩, ⟨(.some 226), .none, .false, (.bin .add (.tmp 225) (.const (Go.Value.int Go.IntKind.i64 1)))⟩, ⟨(.some 23), .none, .false, (.mv (.tmp 226))⟩])))))))))) (.reg [⟨(.some 172), .none, .false, (.mv (.tmp 18))⟩, ⟨(.some 173), .none, .false, (.bin .add (.tmp 172) (.const (Go.Value.int Go.IntKind.i64 1)))⟩, ⟨(.some 18), .none, .false, (.mv (.tmp 173))⟩])))))) (.seq (.reg [⟨(.some 2), .none, .false, (.mv (.const (Go.Value.bool true)))⟩]) .ret))))))))))
set_option maxRecDepth 100000 in
theorem S.ok4 : stripF Tryz.prog Tryz.f4 = some S.s4 := by kernel_rfl
set_option maxRecDepth 100000 in
def S.s14 : SC := (.seq (.reg [⟨(.some 2), .none, .false, (.mv (.const (Go.Value.bool false)))⟩]) (.seq (.reg [⟨(.some 3), .none, .false, (.mv (.tmp 0))⟩, ⟨(.some 4), .none, .false, (.len (.tmp 3))⟩, ⟨(.some 5), .none, .false, (.bin .gtr (.tmp 4) (.const (Go.Value.int Go.IntKind.i64 4096)))⟩, ⟨(.some 2), .none, .false, (.mv (.tmp 5))⟩]) .ret))
set_option maxRecDepth 100000 in
theorem S.ok14 : stripF Tryz.prog Tryz.f14 = some S.s14 := by kernel_rfl
set_option maxRecDepth 100000 in
def S.s20 : SC := (.seq (.reg [⟨(.some 4), .none, .false, (.mv (.const (Go.Value.bool false)))⟩]) (.seq (.seq (.reg [⟨(.some 6), .none, .false, (.mv (.tmp 0))⟩, ⟨(.some 7), .none, .false, (.len (.tmp 6))⟩, ⟨(.some 8), .none, .false, (.mv (.tmp 1))⟩, ⟨(.some 9), .none, .false, (.len (.tmp 8))⟩, ⟨(.some 10), .none, .false, (.bin .neq (.tmp 7) (.tmp 9))⟩]) (.cond (.tmp 10) (.seq (.reg [⟨(.some 4), .none, .false, (.mv (.const (Go.Value.bool false)))⟩]) .ret) .skip)) (.seq (.seq (.reg [⟨(.some 5), .none, .false, (.mv (.const (Go.Value.int Go.IntKind.i64 0)))⟩]) (.block 0 (.loop (.seq (.seq (.reg [⟨(.some 11), .none, .false, (.mv (.tmp 5))⟩, ⟨(.some 12), .none, .false, (.mv (.tmp 0))⟩, ⟨(.some 13), .none, .false, (.len (.tmp 12))⟩, ⟨(.some 14), .none, .false, (.bin .lss (.tmp 11) (.tmp 13))⟩]) (.cond (.tmp 14) .skip (.exit 0))) (.seq (.block 1 (.seq (.reg [⟨(.some 17), .none, .true, (.mv (.tmp 0))⟩, ⟨(.some 18), .none, .true, (.mv (.tmp 5))⟩, ⟨(.some 19), .none, .true, (.ix (.mk 2 1) (.tmp 17) (.tmp 18))⟩, ⟨(.some 20), .none, .true, (.ld .false 1 (.tmp 19))⟩, ⟨(.some 21), .none, .true, (.mv (.tmp 1))⟩, ⟨(.some 22), .none, .true, (.mv (.tmp 5))⟩, ⟨(.some 23), .none, .true, (.ix (.mk 2 1) (.tmp 21) (.tmp 22))⟩, ⟨(.some 24), .none, .true, (.ld .false 1 (.tmp 23))⟩, ⟨(.some 25), .none, .true, (.bin .neq (.tmp 20) (.tmp 24))⟩]) (.cond (.tmp 25) (.seq (.reg [⟨(.some 4), .none, .false, (.mv (.const (Go.Value.bool false)))⟩]) .ret) .skip))) (.reg [⟨(.some 15), .none, .false, (.mv (.tmp 5))⟩, ⟨(.some 16), .none, .false, (.bin .add (.tmp 15) (.const (Go.Value.int Go.IntKind.i64 1)))⟩, ⟨(.some 5), .none, .false, (.mv (.tmp 16))⟩])))))) (.seq (.reg [⟨(.some 4), .none, .false, (.mv (.const (Go.Value.bool true)))⟩]) .ret))))
set_option maxRecDepth 100000 in
theorem S.ok20 : stripF Tryz.prog Tryz.f20 = some S.s20 := by kernel_rfl
set_option maxRecDepth 100000 in
def S.s23 : SC := (.seq (.reg [⟨(.some 2), .none, .false, (.mv (.const (Go.Value.int Go.IntKind.i64 0)))⟩]) (.seq (.reg [⟨(.some 3), .none, .false, (.mv (.const (Go.Value.int Go.IntKind.i64 0)))⟩]) (.seq (.seq (.reg [⟨(.some 4), .none, .false, (.mv (.const (Go.Value.int Go.IntKind.i64 0)))⟩]) (.block 0 (.loop (.seq (.seq (.reg [⟨(.some 5), .none, .false, (.mv (.tmp 4))⟩, ⟨(.some 6), .none, .false, (.mv (.tmp 0))⟩, ⟨(.some 7), .none, .false, (.len (.tmp 6))⟩, ⟨(.some 8), .none, .false, (.bin .lss (.tmp 5) (.tmp 7))⟩]) (.cond (.tmp 8) .skip (.exit 0))) (.seq (.block 1 (.reg [⟨(.some 11), .none, .false, (.mv (.tmp 3))⟩, ⟨(.some 12), .none, .false, (.mv (.tmp 0))⟩, ⟨(.some 13), .none, .false, (.mv (.tmp 4))⟩, ⟨(.some 14), .none, .false, (.ix (.mk 2 1) (.tmp 12) (.tmp 13))⟩, ⟨(.some 15), .none, .false, (.ld .false 1 (.tmp 14))⟩, ⟨(.some 16), .none, .false, (.bin .add (.tmp 11) (.tmp 15))⟩, ⟨(.some 3), .none, .false, (.mv (.tmp 16))⟩])) (.reg [⟨(.some 9), .none, .false, (.mv (.tmp 4))⟩, ⟨(.some 10), .none, .false, (.bin .add (.tmp 9) (.const (Go.Value.int Go.IntKind.i64 1)))⟩, ⟨(.some 4), .none, .false, (.mv (.tmp 10))⟩])))))) (.seq (.reg [⟨(.some 17), .none, .false, (.mv (.tmp 3))⟩, ⟨(.some 2), .none, .false, (.mv (.tmp 17))⟩]) .ret))))
set_option maxRecDepth 100000 in
theorem S.ok23 : stripF Tryz.prog Tryz.f23 = some S.s23 := by kernel_rfl
set_option maxRecDepth 20000
set_option maxHeartbeats 8000000
theorem bytes_bd {κ : Ky} {l : List Int} (h : Known (.rd κ (l.map enB8))) : ∀ c ∈ l, 0 ≤ c ∧ c ≤ 255 := fun c hc => by
  have h1 := h.elem (enB8 c) (List.mem_map_of_mem hc) (.pv (.int .u8 c)) (by simp [enB8])
  have h2 := h1.wf
  simp [IntKind.min, IntKind.max, IntKind.signed, IntKind.bits] at h2
  omega
theorem big_ok (l : List Int) : Spec Tryz.prog 14 [vL kU8s (l.map enB8)] (oB (decide (4096 < (l.length : Int)))) := by
  refine Spec.walk T.mixed Tryz.func14 S.ok14 (by simp [Tryz.f14]) fun hk => ?_
  have hlen := (K.c hk 0 rfl).lenM
  unfold S.s14
  repeat' (first|refine R.mv rfl ?_|refine R.reg ?_|refine R.nil ?_|refine R.seq ?_|refine R.nseq ?_|refine R.lenM rfl ?_|refine R.gtr rfl rfl ?_)
  exact R.ret ⟨.inr rfl, R.outB rfl rfl rfl⟩
theorem ints_ok (l : List Int) (hl : l.length ≤ 1000) : Spec Tryz.prog 20 [vL kI (ints l), vL kI (ints l)] (oB true) := by
  refine Spec.walk T.mixed Tryz.func20 S.ok20 (by simp [Tryz.f20]) fun hk => ?_
  clear hk
  unfold S.s20
  repeat' (first|refine R.mv rfl ?_|refine R.reg ?_|refine R.nil ?_|refine R.seq ?_|refine R.nseq ?_|refine R.skip ?_|refine R.blk ?_|refine R.lenM rfl ?_|refine R.neq rfl rfl ?_|refine R.condN rfl (fun hc => ?_) (fun hc => ?_))
  all_goals first | (exfalso; omega) | skip
  refine R.loop (G := Nat) (fun i => [(0, rdA kI (ints l)), (1, rdA kI (ints l)), (5, pvA (.int .i64 i))]) (fun _ => []) (fun i => i ≤ l.length) (fun i => l.length - i) 0 (Nat.zero_le _) (Weak.frame _ _ ⟨rfl, rfl, rfl, trivial⟩ trivial rfl rfl) fun i hi => ?_
  by_cases hil : i < l.length
  · obtain ⟨v, hv⟩ : ∃ v, l[i]? = some v := ⟨_, List.getElem?_eq_getElem hil⟩
    repeat' (first|refine R.ixK v hv rfl rfl rfl ?_|refine R.mv rfl ?_|refine R.reg ?_|refine R.nil ?_|refine R.seq ?_|refine R.nseq ?_|refine R.nblk ?_|refine R.skip ?_|refine R.blk ?_|refine R.exit rfl ?_|refine R.ld rfl rfl rfl ?_|refine R.lenM rfl ?_|refine R.lss rfl rfl ?_|refine R.neq rfl rfl ?_|refine R.add rfl rfl (by omega) ?_|refine R.cond rfl (fun hc => ?_) (fun hc => ?_)|refine R.condN rfl (fun hc => ?_) (fun hc => ?_))
    all_goals first
      | (exfalso; omega)
      | exact R.nloop (R.again (i + 1) (by omega) (by omega) ⟨rfl, rfl, rfl, trivial⟩ trivial rfl rfl)
      | skip
  obtain rfl : i = l.length := by omega
  repeat' (first|refine R.mv rfl ?_|refine R.reg ?_|refine R.nil ?_|refine R.seq ?_|refine R.nseq ?_|refine R.nblk ?_|refine R.skip ?_|refine R.blk ?_|refine R.exit rfl ?_|refine R.ld rfl rfl rfl ?_|refine R.lenM rfl ?_|refine R.lss rfl rfl ?_|refine R.neq rfl rfl ?_|refine R.add rfl rfl (by omega) ?_|refine R.ixN rfl rfl rfl (by omega) (fun a ha => ?_)|refine R.cond rfl (fun hc => ?_) (fun hc => ?_)|refine R.condN rfl (fun hc => ?_) (fun hc => ?_))
  all_goals first | (exfalso; omega) | exact R.ret ⟨.inr rfl, R.outB rfl rfl rfl⟩ | skip
theorem sum_snoc (l : List Int) (v : Int) : (l ++ [v]).sum = l.sum + v := by rw [List.sum_append]; simp
theorem sum_bd : ∀ {l : List Int}, (∀ w ∈ l, 0 ≤ w ∧ w ≤ 1) → 0 ≤ l.sum ∧ l.sum ≤ l.length
  | [], _ => by simp
  | w :: l, h => by
    have h1 := sum_bd (l := l) fun x hx => h x (by simp [hx])
    have h2 := h w (by simp)
    rw [List.sum_cons, List.length_cons]
    omega
theorem sum_ok (l : List Int) (hl : l.length ≤ 1000) (h01 : ∀ w ∈ l, 0 ≤ w ∧ w ≤ 1) : Spec Tryz.prog 23 [vL kI (ints l)] (oI l.sum) := by
  refine Spec.walk T.mixed Tryz.func23 S.ok23 (by simp [Tryz.f23]) fun hk => ?_
  clear hk
  unfold S.s23
  repeat' (first|refine R.mv rfl ?_|refine R.reg ?_|refine R.nil ?_|refine R.seq ?_|refine R.nseq ?_|refine R.blk ?_)
  all_goals first | (exfalso; omega) | skip
  refine R.loop (G := Nat) (fun i => [(0, rdA kI (ints l)), (3, pvA (.int .i64 (l.take i).sum)), (4, pvA (.int .i64 i))]) (fun _ => []) (fun i => i ≤ l.length) (fun i => l.length - i) 0 (Nat.zero_le _) (Weak.frame _ _ ⟨rfl, rfl, rfl, trivial⟩ trivial rfl rfl) fun i hi => ?_
  have hb := sum_bd (l := l.take i) fun w hw => h01 w (List.mem_of_mem_take hw)
  have htl : (l.take i).length = i := by rw [List.length_take]; omega
  by_cases hil : i < l.length
  · obtain ⟨v, hv⟩ : ∃ v, l[i]? = some v := ⟨_, List.getElem?_eq_getElem hil⟩
    have hv01 := h01 v (List.mem_of_getElem? hv)
    have hsn : (l.take (i + 1)).sum = (l.take i).sum + v := by rw [take_snoc hv, sum_snoc]
    repeat' (first|refine R.ixK v hv rfl rfl rfl ?_|refine R.mv rfl ?_|refine R.reg ?_|refine R.nil ?_|refine R.seq ?_|refine R.nseq ?_|refine R.nblk ?_|refine R.skip ?_|refine R.blk ?_|refine R.exit rfl ?_|refine R.ld rfl rfl rfl ?_|refine R.lenM rfl ?_|refine R.lss rfl rfl ?_|refine R.add rfl rfl (by omega) ?_|refine R.cond rfl (fun hc => ?_) (fun hc => ?_))
    all_goals first
      | (exfalso; omega)
      | exact R.nloop (R.again (i + 1) (by omega) (by omega) ⟨rfl, by rw [hsn]; rfl, rfl, trivial⟩ trivial rfl rfl)
      | skip
  obtain rfl : i = l.length := by omega
  rw [List.take_length]
  repeat' (first|refine R.mv rfl ?_|refine R.reg ?_|refine R.nil ?_|refine R.seq ?_|refine R.nseq ?_|refine R.nblk ?_|refine R.skip ?_|refine R.blk ?_|refine R.exit rfl ?_|refine R.ld rfl rfl rfl ?_|refine R.lenM rfl ?_|refine R.lss rfl rfl ?_|refine R.add rfl rfl (by omega) ?_|refine R.ixN rfl rfl rfl (by omega) (fun a ha => ?_)|refine R.cond rfl (fun hc => ?_) (fun hc => ?_))
  all_goals first | (exfalso; omega) | exact R.ret ⟨.inr rfl, R.outI rfl rfl rfl⟩ | skip
theorem text_len {n : Int} {q : TCube} (hn : 1 ≤ n ∧ n ≤ 4) (h : okQ n q) : ((fText n q).size : Int) = n := by
  rw [show fText n q = bsOf (txtQ q n.toNat) from if_pos ⟨hn, h⟩]
  have := txtQ_len (q := q) (n := n.toNat)
  simp [bsOf, ByteArray.size, this]
  omega
theorem sum_card {t : List Int} {m : Int} (h : inK t m) : t.sum = ((ones t).length : Int) := by
  rw [sum_ones h.2]
  have e : ∀ (l : List Int) (a : Nat), ((l.filter fun w => decide (w = 1)).length : Int) = (((List.range' a l.length).filter fun i => decide (l[i - a]? = some 1)).length : Int) := by
    intro l
    induction l with
    | nil => intro a; rfl
    | cons w l ih =>
      intro a
      rw [List.length_cons, List.range'_succ, List.filter_cons, List.filter_cons]
      have ih := ih (a + 1)
      have hc : (List.range' (a + 1) l.length).filter (fun i => decide ((w :: l)[i - a]? = some 1)) = (List.range' (a + 1) l.length).filter (fun i => decide (l[i - (a + 1)]? = some 1)) := by
        refine List.filter_congr fun i hi => ?_
        rw [List.mem_range'_1] at hi
        rw [show i - a = (i - (a + 1)) + 1 by omega, List.getElem?_cons_succ]
      rw [hc, Nat.sub_self, List.getElem?_cons_zero]
      by_cases h1 : w = 1
      · rw [if_pos (by simpa using h1), if_pos (by simpa using h1), List.length_cons, List.length_cons]
        omega
      · rw [if_neg (by simpa using h1), if_neg (by simpa using h1)]
        exact ih
  have := e t 0
  rw [this]
  unfold ones oneQ
  rw [List.range_eq_range']
  rfl
theorem forms_law (l : List Int) (hbig : ¬ 4096 < (l.length : Int)) (c : TCircuit) (hcx : okC c)
    (hD : Spec Tryz.prog 15 [.c (.rd kU8s (l.map enB8))] (.v (.agg [.fz (iD c.fInputs), .nw kGate (c.fGates.map enGate), .nw kI (ints c.fOutputs)]))) : Spec Tryz.prog 4 [vL kU8s (l.map enB8)] (oB true) := by
  have h0 := big_ok l
  rw [decide_eq_false hbig] at h0
  have hF1 := iFormOf c
  have hF2 := sFormOf c
  rw [show fFO c = (⟨c.fInputs, cubF c, sumsF c⟩, 0) from if_pos hcx] at hF1 hF2
  have hT := iTruthTable c
  rw [show fTabT c = (tabT c (2 ^ c.fInputs.toNat) 0, 0) from if_pos hcx] at hT
  have hfo := form_ok hcx
  have hV := iForT hfo
  have hn := hcx.1
  have h16 := q16 hn
  have h16c := q16c (n := c.fInputs)
  have hO := hcx.2.2.1
  have htl := tabT_len (c := c) (k := 2 ^ c.fInputs.toNat) (j := 0)
  have hsl := sumsF_len (c := c)
  have hcl := cubF_len hcx
  have hK := tab_inK hcx
  have hE : ∀ k : Nat, k < 2 ^ c.fInputs.toNat → Spec Tryz.prog 18 [.agg (enCircuit c), vL kI (ints (inp c.fInputs k c.fInputs.toNat))] (.tup [cN kI (ints (evC c (inp c.fInputs k c.fInputs.toNat))), cI 0]) := fun k hk => by
    have := iEvalCircuit c (inp c.fInputs k c.fInputs.toNat)
    rwa [show fEvC c (inp c.fInputs k c.fInputs.toNat) = (evC c (inp c.fInputs k c.fInputs.toNat), 0) from (if_pos hcx).trans (if_pos (inp_ok hn.1))] at this
  have hW : ∀ k : Nat, k < 2 ^ c.fInputs.toNat → Spec Tryz.prog 19 [.agg (enForm ⟨c.fInputs, cubF c, sumsF c⟩), vL kI (ints (inp c.fInputs k c.fInputs.toNat))] (.tup [cN kI (ints (evC c (inp c.fInputs k c.fInputs.toNat))), cI 0]) := fun k hk => by
    have := iEvalForm ⟨c.fInputs, cubF c, sumsF c⟩ (inp c.fInputs k c.fInputs.toNat)
    rwa [show fEval ⟨c.fInputs, cubF c, sumsF c⟩ (inp c.fInputs k c.fInputs.toNat) = (evC c (inp c.fInputs k c.fInputs.toNat), 0) from (if_pos hfo).trans ((if_pos (inp_ok hn.1)).trans (by rw [form_val hcx hk]))] at this
  have hrow : ∀ (i : Nat) t, (tabT c (2 ^ c.fInputs.toNat) 0)[i]? = some t → t.length = 2 ^ c.fInputs.toNat ∧ inK t (2 ^ c.fInputs.toNat) ∧ ∀ k : Nat, k < 2 ^ c.fInputs.toNat → ∃ v, t[k]? = some v ∧ (evC c (inp c.fInputs k c.fInputs.toNat))[i]? = some v := fun i t ht => by
    have hi : i < c.fOutputs.length := by rw [← htl]; exact (List.getElem?_eq_some_iff.1 ht).1
    have h1 := hK t (List.mem_of_getElem? ht)
    refine ⟨inK_len h1, h1, fun k hk => ?_⟩
    obtain ⟨v, hv⟩ : ∃ v, (evC c (inp c.fInputs k c.fInputs.toNat))[i]? = some v := ⟨_, List.getElem?_eq_getElem (by rw [evC_len]; exact hi)⟩
    refine ⟨v, ?_, hv⟩
    have ht2 : t = rowT c i (2 ^ c.fInputs.toNat) := by
      unfold tabT at ht
      rw [List.getElem?_map, List.getElem?_range hi] at ht
      simpa using ht.symm
    rw [ht2]
    unfold rowT
    rw [List.getElem?_map, List.getElem?_range hk]
    show some ((evC c (inp c.fInputs k c.fInputs.toNat)).getD i 0) = some v
    rw [List.getD_eq_getElem?_getD, hv]
    rfl
  have hLC : ∀ t, inK t (2 ^ c.fInputs.toNat) → Spec Tryz.prog 21 [vI c.fInputs, vL kI (ints t)] (.tup [cN kCube ((cov c.fInputs t).map enCube), cI 0]) := fun t ht => by
    have := iLeastCover c.fInputs t
    rwa [show fLC c.fInputs t = (cov c.fInputs t, 0) from if_pos ⟨hn, ht⟩] at this
  have hPr : ∀ t, inK t (2 ^ c.fInputs.toNat) → Spec Tryz.prog 22 [vI c.fInputs, vL kI (ints t)] (.tup [cN kCube ((tabQ c.fInputs.toNat t (2 ^ c.fInputs.toNat)).map enCube), cI 0]) := fun t ht => by
    have := iPrimesOf c.fInputs t
    rwa [show fPrimes c.fInputs t = (tabQ c.fInputs.toNat t (2 ^ c.fInputs.toNat), 0) from if_pos ⟨hn, ht⟩] at this
  have hSum : ∀ t, inK t (2 ^ c.fInputs.toNat) → Spec Tryz.prog 23 [vL kI (ints t)] (oI t.sum) := fun t ht => sum_ok t (by rw [inK_len ht]; omega) ht.2
  have hTx : ∀ q, Spec Tryz.prog 24 [vI c.fInputs, .agg (enCube q)] (oS (fText c.fInputs q)) := fun q => iCubeText c.fInputs q
  have hcs : ∀ (i : Nat) t, (tabT c (2 ^ c.fInputs.toNat) 0)[i]? = some t → ∃ s, (sumsF c)[i]? = some s ∧ s.length = (cov c.fInputs t).length ∧ ((cov c.fInputs t).length : Int) ≤ t.sum ∧ (tabQ c.fInputs.toNat t (2 ^ c.fInputs.toNat)).length ≤ 256 ∧ (cov c.fInputs t).length ≤ 256 ∧ ∀ q ∈ cov c.fInputs t, q ∈ tabQ c.fInputs.toNat t (2 ^ c.fInputs.toNat) ∧ okQ c.fInputs q := fun i t ht => by
    have hcv := covs_get ht
    have hin := List.mem_of_getElem? hcv
    have h1 := hK t (List.mem_of_getElem? ht)
    refine ⟨sumK (cubF c) (cov c.fInputs t) (cubF c).length, by unfold sumsF; rw [List.getElem?_map, hcv]; rfl, ?_, ?_, tab_len (by omega), cov_len hn h1, fun q hq => ⟨cov_mem hn h1 hq, cubF_okQ hcx (cubF_mem.2 ⟨_, hin, hq⟩)⟩⟩
    · have := (sum_perm (cubF_pw c) (cv := cov c.fInputs t) fun q hq => cubF_mem.2 ⟨_, hin, hq⟩).length_eq
      rw [List.length_map] at this
      exact this.symm
    · rw [sum_card h1]
      have := cov_few hn h1
      omega
  dsimp only at hF1 hF2 hT
  generalize tabT c (2 ^ c.fInputs.toNat) 0 = tb at *
  generalize cubF c = cs at *
  generalize sumsF c = sm at *
  refine Spec.walk T.mixed Tryz.func4 S.ok4 (by simp [Tryz.f4]) fun hk => ?_
  clear hk
  unfold S.s4
  repeat' (first|refine R.mv rfl ?_|refine R.reg ?_|refine R.nil ?_|refine R.seq ?_|refine R.nseq ?_|refine R.skip ?_|refine R.blk ?_|refine R.gRun rfl ?_|refine R.gSkip rfl ?_|refine R.ld rfl rfl rfl ?_|refine R.lda rfl rfl (lbT rfl) rfl ?_|refine R.fa rfl rfl ?_|refine R.lenM rfl ?_|refine R.neq rfl rfl ?_|refine R.pickT rfl rfl ?_|refine R.pickF rfl rfl ?_|refine R.not rfl ?_|refine R.mvU rfl ?_|refine R.ext rfl rfl ?_|refine R.al rfl ?_|refine R.stoB rfl rfl rfl rfl ⟨rfl, rfl, Nat.le_of_ble_eq_true rfl⟩ rfl ?_|refine R.condT rfl ?_|refine R.condF rfl ?_|refine R.call (bor := false) rfl rfl (h0) rfl rfl rfl ?_|refine R.call (bor := false) rfl rfl (hD) rfl rfl rfl ?_|refine R.call (bor := false) rfl rfl (hF1) rfl rfl rfl ?_|refine R.call (bor := false) rfl rfl (hF2) rfl rfl rfl ?_|refine R.call (bor := false) rfl rfl (hT) rfl rfl rfl ?_|refine R.call (bor := false) rfl rfl (hV) rfl rfl rfl ?_|refine R.gN rfl (fun hc => ?_) (fun hc => ?_))
  all_goals first | (exfalso; omega) | skip
  refine R.loop (G := Nat) (fun k => [(3, .v (.c (.ptr 3 0))), (6, .v (.c (.ptr 6 0))), (8, rdA kR (tb.map enR)), (10, pvA (.int .i64 k))]) (fun _ => [(3, .box 35 ((enCircuit c).map B.d)), (6, .box 30 ((enForm ⟨c.fInputs, cs, sm⟩).map B.d))]) (fun k => k ≤ 2 ^ c.fInputs.toNat) (fun k => 2 ^ c.fInputs.toNat - k) 0 (Nat.zero_le _) (Weak.frame _ _ ⟨rfl, rfl, rfl, rfl, trivial⟩ ⟨rfl, rfl, trivial⟩ rfl rfl) fun k hk => ?_
  by_cases hkl : k < 2 ^ c.fInputs.toNat
  · have hEk := hE k hkl
    have hWk := hW k hkl
    have hel := evC_len (c := c) (l := inp c.fInputs k c.fInputs.toNat)
    have hIk := ints_ok (evC c (inp c.fInputs k c.fInputs.toNat)) (by omega)
    have hrk := fun i t ht => (hrow i t ht).2.2 k hkl
    repeat' (first|refine R.mv rfl ?_|refine R.reg ?_|refine R.nil ?_|refine R.seq ?_|refine R.nseq ?_|refine R.skip ?_|refine R.blk ?_|refine R.exit rfl ?_|refine R.ld rfl rfl rfl ?_|refine R.fa rfl rfl ?_|refine R.lss rfl rfl ?_|refine R.shl1 rfl rfl (by omega) (fun hp => ?_)|refine R.bsl (f := enI) ([] : List Int) rfl rfl rfl rfl rfl ?_|refine R.cond rfl (fun hc => ?_) (fun hc => ?_))
    all_goals first | (exfalso; omega) | skip
    refine R.loop (G := Nat) (fun i => [(3, .v (.c (.ptr 3 0))), (6, .v (.c (.ptr 6 0))), (8, rdA kR (tb.map enR)), (10, pvA (.int .i64 k)), (11, .v (.c (.own 94))), (12, pvA (.int .i64 i))]) (fun i => [(3, .box 35 ((enCircuit c).map B.d)), (6, .box 30 ((enForm ⟨c.fInputs, cs, sm⟩).map B.d)), (94, .arr kI (ints (inp c.fInputs k i)) [])]) (fun i => i ≤ c.fInputs.toNat) (fun i => c.fInputs.toNat - i) 0 (Nat.zero_le _) (Weak.frame _ _ ⟨rfl, rfl, rfl, rfl, rfl, rfl, trivial⟩ ⟨rfl, rfl, rfl, trivial⟩ rfl rfl) fun i hi => ?_
    have hil := inp_len (n := c.fInputs) (k := k) (i := i)
    by_cases hin : i < c.fInputs.toNat
    · repeat' (first|refine R.mv rfl ?_|refine R.reg ?_|refine R.nil ?_|refine R.seq ?_|refine R.nseq ?_|refine R.nblk ?_|refine R.skip ?_|refine R.blk ?_|refine R.exit rfl ?_|refine R.ld rfl rfl rfl ?_|refine R.lda rfl rfl (lbT rfl) rfl ?_|refine R.fa rfl rfl ?_|refine R.lss rfl rfl ?_|refine R.add rfl rfl (by omega) ?_|refine R.and rfl rfl ?_|refine R.shr rfl rfl (by omega) ?_|refine R.bsl (f := enI) [andI ((k : Int) / 2 ^ i) 1] rfl rfl rfl rfl rfl ?_|refine R.app (f := enI) (fun _ => rfl) rfl rfl rfl rfl rfl ⟨by simp only [List.length_singleton]; omega, by simp only [List.length_singleton]; omega⟩ ?_|refine R.cond rfl (fun hc => ?_) (fun hc => ?_))
      all_goals first
        | (exfalso; omega)
        | exact R.nloop (R.again (i + 1) (by omega) (by omega) ⟨rfl, rfl, rfl, rfl, rfl, rfl, trivial⟩ ⟨rfl, rfl, arr_eq (by rw [inp_succ]), trivial⟩ rfl rfl)
        | skip
    obtain rfl : i = c.fInputs.toNat := by omega
    repeat' (first|refine R.weak (Weak.freeze 94 rfl rfl) (R.call (bor := false) rfl rfl hEk rfl rfl rfl ?_)|refine R.mv rfl ?_|refine R.reg ?_|refine R.nil ?_|refine R.seq ?_|refine R.nseq ?_|refine R.skip ?_|refine R.blk ?_|refine R.exit rfl ?_|refine R.gRun rfl ?_|refine R.ld rfl rfl rfl ?_|refine R.lda rfl rfl (lbT rfl) rfl ?_|refine R.fa rfl rfl ?_|refine R.lenM rfl ?_|refine R.lss rfl rfl ?_|refine R.neq rfl rfl ?_|refine R.pickF rfl rfl ?_|refine R.not rfl ?_|refine R.mvU rfl ?_|refine R.ext rfl rfl ?_|refine R.and rfl rfl ?_|refine R.shr rfl rfl (by omega) ?_|refine R.call (bor := false) rfl rfl (hWk) rfl rfl rfl ?_|refine R.call (bor := false) rfl rfl (hIk) rfl rfl rfl ?_|refine R.cond rfl (fun hc => ?_) (fun hc => ?_)|refine R.condN rfl (fun hc => ?_) (fun hc => ?_))
    all_goals first | (exfalso; omega) | skip
    generalize evC c (inp c.fInputs k c.fInputs.toNat) = xs at *
    refine R.loop (G := Nat) (fun i => [(3, .v (.c (.ptr 3 0))), (6, .v (.c (.ptr 6 0))), (8, rdA kR (tb.map enR)), (10, pvA (.int .i64 k)), (13, rdA kI (ints xs)), (17, pvA (.int .i64 i))]) (fun _ => [(3, .box 35 ((enCircuit c).map B.d)), (6, .box 30 ((enForm ⟨c.fInputs, cs, sm⟩).map B.d))]) (fun i => i ≤ xs.length) (fun i => xs.length - i) 0 (Nat.zero_le _) (Weak.frame _ _ ⟨rfl, rfl, rfl, rfl, rfl, rfl, trivial⟩ ⟨rfl, rfl, trivial⟩ rfl rfl) fun i hi => ?_
    by_cases hix : i < xs.length
    · obtain ⟨t, ht⟩ : ∃ t, tb[i]? = some t := ⟨_, List.getElem?_eq_getElem (by omega)⟩
      obtain ⟨v, hv1, hv2⟩ := hrk i t ht
      have htl2 := (hrow i t ht).1
      repeat' (first|refine R.ixK t ht rfl rfl rfl ?_|refine R.ixK v hv1 rfl rfl rfl ?_|refine R.ixK v hv2 rfl rfl rfl ?_|refine R.mv rfl ?_|refine R.reg ?_|refine R.nil ?_|refine R.seq ?_|refine R.nseq ?_|refine R.nblk ?_|refine R.skip ?_|refine R.blk ?_|refine R.exit rfl ?_|refine R.gRun rfl ?_|refine R.gSkip rfl ?_|refine R.ld rfl rfl rfl ?_|refine R.fa rfl rfl ?_|refine R.lenM rfl ?_|refine R.lss rfl rfl ?_|refine R.neq rfl rfl ?_|refine R.add rfl rfl (by omega) ?_|refine R.pickT rfl rfl ?_|refine R.pickF rfl rfl ?_|refine R.shl1 rfl rfl (by omega) (fun hp => ?_)|refine R.condT rfl ?_|refine R.cond rfl (fun hc => ?_) (fun hc => ?_)|refine R.condN rfl (fun hc => ?_) (fun hc => ?_)|refine R.gN rfl (fun hc => ?_) (fun hc => ?_))
      all_goals first
        | (exfalso; omega)
        | exact R.nloop (R.again (i + 1) (by omega) (by omega) ⟨rfl, rfl, rfl, rfl, rfl, rfl, trivial⟩ ⟨rfl, rfl, trivial⟩ rfl rfl)
        | skip
    obtain rfl : i = xs.length := by omega
    repeat' (first|refine R.mv rfl ?_|refine R.reg ?_|refine R.nil ?_|refine R.seq ?_|refine R.nseq ?_|refine R.nblk ?_|refine R.skip ?_|refine R.blk ?_|refine R.exit rfl ?_|refine R.gRun rfl ?_|refine R.gSkip rfl ?_|refine R.ld rfl rfl rfl ?_|refine R.fa rfl rfl ?_|refine R.lenM rfl ?_|refine R.lss rfl rfl ?_|refine R.neq rfl rfl ?_|refine R.add rfl rfl (by omega) ?_|refine R.ixN rfl rfl rfl (by omega) (fun a ha => ?_)|refine R.pickT rfl rfl ?_|refine R.pickF rfl rfl ?_|refine R.shl1 rfl rfl (by omega) (fun hp => ?_)|refine R.condT rfl ?_|refine R.cond rfl (fun hc => ?_) (fun hc => ?_)|refine R.condN rfl (fun hc => ?_) (fun hc => ?_)|refine R.gN rfl (fun hc => ?_) (fun hc => ?_))
    all_goals first
      | (exfalso; omega)
      | exact R.nloop (R.again (k + 1) (by omega) (by omega) ⟨rfl, rfl, rfl, rfl, trivial⟩ ⟨rfl, rfl, trivial⟩ rfl rfl)
      | skip
  obtain rfl : k = 2 ^ c.fInputs.toNat := by omega
  repeat' (first|refine R.mv rfl ?_|refine R.reg ?_|refine R.nil ?_|refine R.seq ?_|refine R.nseq ?_|refine R.skip ?_|refine R.blk ?_|refine R.exit rfl ?_|refine R.ld rfl rfl rfl ?_|refine R.fa rfl rfl ?_|refine R.lss rfl rfl ?_|refine R.shl1 rfl rfl (by omega) (fun hp => ?_)|refine R.cond rfl (fun hc => ?_) (fun hc => ?_))
  all_goals first | (exfalso; omega) | skip
  refine R.loop (G := Nat) (fun i => [(3, .v (.c (.ptr 3 0))), (6, .v (.c (.ptr 6 0))), (8, rdA kR (tb.map enR)), (18, pvA (.int .i64 i))]) (fun _ => [(3, .box 35 ((enCircuit c).map B.d)), (6, .box 30 ((enForm ⟨c.fInputs, cs, sm⟩).map B.d))]) (fun i => i ≤ tb.length) (fun i => tb.length - i) 0 (Nat.zero_le _) (Weak.frame _ _ ⟨rfl, rfl, rfl, rfl, trivial⟩ ⟨rfl, rfl, trivial⟩ rfl rfl) fun i hi => ?_
  by_cases hit : i < tb.length
  · obtain ⟨t, ht⟩ : ∃ t, tb[i]? = some t := ⟨_, List.getElem?_eq_getElem hit⟩
    obtain ⟨htl2, hKt, _⟩ := hrow i t ht
    obtain ⟨sr, hs1, hs2, hs3, hs4, hs5, hs6⟩ := hcs i t ht
    have hLt := hLC t hKt
    have hPt := hPr t hKt
    have hSt := hSum t hKt
    generalize cov c.fInputs t = cv at *
    generalize tabQ c.fInputs.toNat t (2 ^ c.fInputs.toNat) = ps at *
    repeat' (first|refine R.ixK t ht rfl rfl rfl ?_|refine R.ixK sr hs1 rfl rfl rfl ?_|refine R.mv rfl ?_|refine R.reg ?_|refine R.nil ?_|refine R.seq ?_|refine R.nseq ?_|refine R.skip ?_|refine R.blk ?_|refine R.exit rfl ?_|refine R.gRun rfl ?_|refine R.gSkip rfl ?_|refine R.ld rfl rfl rfl ?_|refine R.fa rfl rfl ?_|refine R.lenM rfl ?_|refine R.lss rfl rfl ?_|refine R.gtr rfl rfl ?_|refine R.neq rfl rfl ?_|refine R.pickT rfl rfl ?_|refine R.pickF rfl rfl ?_|refine R.mvU rfl ?_|refine R.ext rfl rfl ?_|refine R.condT rfl ?_|refine R.fcal (bor := false) rfl rfl (hLt) rfl rfl rfl ?_|refine R.fcal (bor := false) rfl rfl (hPt) rfl rfl rfl ?_|refine R.call (bor := false) rfl rfl (hSt) rfl rfl rfl ?_|refine R.cond rfl (fun hc => ?_) (fun hc => ?_)|refine R.condN rfl (fun hc => ?_) (fun hc => ?_)|refine R.gP rfl (fun hc => ?_) (fun hc => ?_))
    all_goals first | (exfalso; omega) | skip
    refine R.loop (G := Nat) (fun k => [(3, .v (.c (.ptr 3 0))), (6, .v (.c (.ptr 6 0))), (8, rdA kR (tb.map enR)), (18, pvA (.int .i64 i)), (19, rdA kCube (cv.map enCube)), (21, rdA kCube (ps.map enCube)), (23, pvA (.int .i64 k))]) (fun _ => [(3, .box 35 ((enCircuit c).map B.d)), (6, .box 30 ((enForm ⟨c.fInputs, cs, sm⟩).map B.d))]) (fun k => k ≤ cv.length) (fun k => cv.length - k) 0 (Nat.zero_le _) (Weak.frame _ _ ⟨rfl, rfl, rfl, rfl, rfl, rfl, rfl, trivial⟩ ⟨rfl, rfl, trivial⟩ rfl rfl) fun k hk => ?_
    by_cases hkl : k < cv.length
    · obtain ⟨q, hq⟩ : ∃ q, cv[k]? = some q := ⟨_, List.getElem?_eq_getElem hkl⟩
      obtain ⟨hq1, hq2⟩ := hs6 q (List.mem_of_getElem? hq)
      have hTq := hTx q
      have hTl := text_len hn hq2
      have hany : (ps.any fun p => decide (p = q)) = true := List.any_eq_true.2 ⟨q, hq1, by simp⟩
      repeat' (first|refine R.mv rfl ?_|refine R.reg ?_|refine R.nil ?_|refine R.seq ?_|refine R.nseq ?_|refine R.nblk ?_|refine R.skip ?_|refine R.blk ?_|refine R.exit rfl ?_|refine R.lenM rfl ?_|refine R.lss rfl rfl ?_|refine R.add rfl rfl (by omega) ?_|refine R.cond rfl (fun hc => ?_) (fun hc => ?_))
      all_goals first | (exfalso; omega) | skip
      refine R.loop (G := Nat) (fun j => [(3, .v (.c (.ptr 3 0))), (6, .v (.c (.ptr 6 0))), (8, rdA kR (tb.map enR)), (18, pvA (.int .i64 i)), (19, rdA kCube (cv.map enCube)), (21, rdA kCube (ps.map enCube)), (23, pvA (.int .i64 k)), (24, pvA (.bool ((ps.take j).any fun p => decide (p = q)))), (25, pvA (.int .i64 j))]) (fun _ => [(3, .box 35 ((enCircuit c).map B.d)), (6, .box 30 ((enForm ⟨c.fInputs, cs, sm⟩).map B.d))]) (fun j => j ≤ ps.length) (fun j => ps.length - j) 0 (Nat.zero_le _) (Weak.frame _ _ ⟨rfl, rfl, rfl, rfl, rfl, rfl, rfl, rfl, rfl, trivial⟩ ⟨rfl, rfl, trivial⟩ rfl rfl) fun j hj => ?_
      by_cases hjl : j < ps.length
      · obtain ⟨p, hp⟩ : ∃ p, ps[j]? = some p := ⟨_, List.getElem?_eq_getElem hjl⟩
        have hsn : ((ps.take (j + 1)).any fun p => decide (p = q)) = (((ps.take j).any fun p => decide (p = q)) || decide (p = q)) := by rw [take_snoc hp, List.any_append]; simp
        have heq : eqVs [.int .i64 p.fCare, .int .i64 p.fValue] [.int .i64 q.fCare, .int .i64 q.fValue] = decide (p = q) := by
          obtain ⟨x1, x2⟩ := p
          obtain ⟨y1, y2⟩ := q
          simp [eqVs, eqV, Bool.decide_and]
        cases hb : (ps.take j).any fun p => decide (p = q) with
        | true =>
          rw [hb, Bool.true_or] at hsn
          repeat' (first|refine R.ixK q hq rfl rfl rfl ?_|refine R.mv rfl ?_|refine R.reg ?_|refine R.nil ?_|refine R.seq ?_|refine R.nseq ?_|refine R.nblk ?_|refine R.skip ?_|refine R.blk ?_|refine R.exit rfl ?_|refine R.gRun rfl ?_|refine R.gSkip rfl ?_|refine R.ld rfl rfl rfl ?_|refine R.lda rfl rfl (lbT rfl) rfl ?_|refine R.fa rfl rfl ?_|refine R.lenM rfl ?_|refine R.lss rfl rfl ?_|refine R.add rfl rfl (by omega) ?_|refine R.pickT rfl rfl ?_|refine R.not rfl ?_|refine R.cond rfl (fun hc => ?_) (fun hc => ?_))
          all_goals first
            | (exfalso; omega)
            | exact R.nloop (R.again (j + 1) (by omega) (by omega) ⟨rfl, rfl, rfl, rfl, rfl, rfl, rfl, by rw [hsn]; rfl, rfl, trivial⟩ ⟨rfl, rfl, trivial⟩ rfl rfl)
            | skip
        | false =>
          rw [hb, Bool.false_or] at hsn
          repeat' (first|refine R.ixK p hp rfl rfl rfl ?_|refine R.ixK q hq rfl rfl rfl ?_|refine R.mv rfl ?_|refine R.reg ?_|refine R.nil ?_|refine R.seq ?_|refine R.nseq ?_|refine R.nblk ?_|refine R.skip ?_|refine R.blk ?_|refine R.exit rfl ?_|refine R.gRun rfl ?_|refine R.gSkip rfl ?_|refine R.lda rfl rfl (lbT rfl) rfl ?_|refine R.lenM rfl ?_|refine R.lss rfl rfl ?_|refine R.add rfl rfl (by omega) ?_|refine R.pickT rfl rfl ?_|refine R.pickF rfl rfl ?_|refine R.not rfl ?_|refine R.eqs rfl rfl rfl rfl rfl ?_|refine R.condT rfl ?_|refine R.cond rfl (fun hc => ?_) (fun hc => ?_))
          all_goals first
            | (exfalso; omega)
            | exact R.nloop (R.again (j + 1) (by omega) (by omega) ⟨rfl, rfl, rfl, rfl, rfl, rfl, rfl, by rw [hsn, ← heq]; rfl, rfl, trivial⟩ ⟨rfl, rfl, trivial⟩ rfl rfl)
            | skip
      obtain rfl : j = ps.length := by omega
      rw [List.take_length, hany]
      repeat' (first|refine R.ixK q hq rfl rfl rfl ?_|refine R.mv rfl ?_|refine R.reg ?_|refine R.nil ?_|refine R.seq ?_|refine R.nseq ?_|refine R.nblk ?_|refine R.skip ?_|refine R.blk ?_|refine R.exit rfl ?_|refine R.gRun rfl ?_|refine R.gSkip rfl ?_|refine R.ld rfl rfl rfl ?_|refine R.lda rfl rfl (lbT rfl) rfl ?_|refine R.fa rfl rfl ?_|refine R.lenM rfl ?_|refine R.slen rfl ?_|refine R.lss rfl rfl ?_|refine R.neq rfl rfl ?_|refine R.add rfl rfl (by omega) ?_|refine R.pickT rfl rfl ?_|refine R.pickF rfl rfl ?_|refine R.not rfl ?_|refine R.fcal (bor := false) rfl rfl (hTq) rfl rfl rfl ?_|refine R.cond rfl (fun hc => ?_) (fun hc => ?_)|refine R.condN rfl (fun hc => ?_) (fun hc => ?_))
      all_goals first
        | (exfalso; omega)
        | exact R.nloop (R.again (k + 1) (by omega) (by omega) ⟨rfl, rfl, rfl, rfl, rfl, rfl, rfl, trivial⟩ ⟨rfl, rfl, trivial⟩ rfl rfl)
        | skip
    obtain rfl : k = cv.length := by omega
    repeat' (first|refine R.mv rfl ?_|refine R.reg ?_|refine R.nil ?_|refine R.seq ?_|refine R.nseq ?_|refine R.nblk ?_|refine R.skip ?_|refine R.blk ?_|refine R.exit rfl ?_|refine R.lenM rfl ?_|refine R.lss rfl rfl ?_|refine R.add rfl rfl (by omega) ?_|refine R.cond rfl (fun hc => ?_) (fun hc => ?_))
    all_goals first
      | (exfalso; omega)
      | exact R.nloop (R.again (i + 1) (by omega) (by omega) ⟨rfl, rfl, rfl, rfl, trivial⟩ ⟨rfl, rfl, trivial⟩ rfl rfl)
      | skip
  obtain rfl : i = tb.length := by omega
  repeat' (first|refine R.mv rfl ?_|refine R.reg ?_|refine R.nil ?_|refine R.seq ?_|refine R.nseq ?_|refine R.skip ?_|refine R.blk ?_|refine R.exit rfl ?_|refine R.ld rfl rfl rfl ?_|refine R.fa rfl rfl ?_|refine R.lenM rfl ?_|refine R.lss rfl rfl ?_|refine R.ixN rfl rfl rfl (by omega) (fun a ha => ?_)|refine R.cond rfl (fun hc => ?_) (fun hc => ?_))
  all_goals first
    | (exfalso; omega)
    | exact R.ret ⟨.inr rfl, R.outB rfl rfl rfl⟩
    | skip
theorem law_FnForms (l : List Int) : Spec Tryz.prog 4 [vL kU8s (l.map enB8)] (oB true) := by
  by_cases hb : ∀ c ∈ l, 0 ≤ c ∧ c ≤ 255
  · by_cases hbig : 4096 < (l.length : Int)
    · refine Spec.walk T.mixed Tryz.func4 S.ok4 (by simp [Tryz.f4]) fun hk => ?_
      clear hk
      unfold S.s4
      have h0 := big_ok l
      rw [decide_eq_true hbig] at h0
      repeat' (first|refine R.mv rfl ?_|refine R.reg ?_|refine R.nil ?_|refine R.seq ?_|refine R.nseq ?_|refine R.condT rfl ?_|refine R.call (bor := false) rfl rfl (h0) rfl rfl rfl ?_)
      all_goals first
        | (exfalso; omega)
        | exact R.ret ⟨.inr rfl, R.outB rfl rfl rfl⟩
        | skip
    · obtain ⟨c, hcx, hD⟩ := sLawCircuit l hb
      exact forms_law l hbig c hcx hD
  · refine Spec.walk T.mixed Tryz.func4 S.ok4 (by simp [Tryz.f4]) fun hk => ?_
    exact absurd (bytes_bd (K.c hk 0 rfl)) hb
end
end Go.Proofs.YtehkaajakapkmaaGreat
