/- Texts of one proof, one behind the other. -/
import Derived.Test.YtehkaajakapkmaaGreatFB22
namespace Go.Proofs.YtehkaajakapkmaaGreat
section
open Go.RowKit
def S.t67_0 : OT SR := .take ⟨(.some 125), .none, .false, (.call (.func 67) [(.tmp 110), (.tmp 112), (.tmp 124)])⟩ .done
def S.t67_1 : OT SR := .take ⟨(.some 124), .none, .false, (.app (.mk 56 2) 16 (.tmp 115) (.tmp 123))⟩ S.t67_0
def S.t67_2 : OT SR := .take ⟨(.some 123), .none, .false, (.bsl (.mk 56 2) 1 [(0, (.tmp 122))])⟩ S.t67_1
def S.t67_3 : OT SR := .take ⟨(.some 115), .none, .false, (.app (.mk 56 2) 16 (.tmp 113) (.tmp 114))⟩ S.t67_2
def S.t67_4 : OT SR := .take ⟨(.some 115), .none, .false, (.app (.mk 56 2) 16 (.tmp 113) (.tmp 114))⟩ S.t67_1
def S.t67_5 : OT SR := .take ⟨(.some 123), .none, .false, (.bsl (.mk 56 2) 1 [(0, (.tmp 122))])⟩ S.t67_4
def S.t67_6 : OT SR := .both S.t67_3 S.t67_5
def S.t67_7 : OT SR := .take ⟨(.some 113), .none, .false, (.bsl (.mk 56 2) 0 [])⟩ S.t67_6
def S.t67_8 : OT SR := .take ⟨(.some 113), .none, .false, (.bsl (.mk 56 2) 0 [])⟩ S.t67_4
def S.t67_9 : OT SR := .take ⟨(.some 123), .none, .false, (.bsl (.mk 56 2) 1 [(0, (.tmp 122))])⟩ S.t67_8
def S.t67_10 : OT SR := .both S.t67_7 S.t67_9
def S.t67_11 : OT SR := .take ⟨(.some 112), .none, .false, (.bin .add (.tmp 111) (.const (Go.Value.int Go.IntKind.i64 1)))⟩ S.t67_10
def S.t67_12 : OT SR := .take ⟨(.some 112), .none, .false, (.bin .add (.tmp 111) (.const (Go.Value.int Go.IntKind.i64 1)))⟩ S.t67_6
def S.t67_13 : OT SR := .take ⟨(.some 112), .none, .false, (.bin .add (.tmp 111) (.const (Go.Value.int Go.IntKind.i64 1)))⟩ S.t67_2
def S.t67_14 : OT SR := .take ⟨(.some 112), .none, .false, (.bin .add (.tmp 111) (.const (Go.Value.int Go.IntKind.i64 1)))⟩ S.t67_1
def S.t67_15 : OT SR := .take ⟨(.some 112), .none, .false, (.bin .add (.tmp 111) (.const (Go.Value.int Go.IntKind.i64 1)))⟩ S.t67_0
def S.t67_16 : OT SR := .take ⟨(.some 124), .none, .false, (.app (.mk 56 2) 16 (.tmp 115) (.tmp 123))⟩ S.t67_15
def S.t67_17 : OT SR := .both S.t67_14 S.t67_16
def S.t67_18 : OT SR := .take ⟨(.some 123), .none, .false, (.bsl (.mk 56 2) 1 [(0, (.tmp 122))])⟩ S.t67_17
def S.t67_19 : OT SR := .both S.t67_13 S.t67_18
def S.t67_20 : OT SR := .take ⟨(.some 115), .none, .false, (.app (.mk 56 2) 16 (.tmp 113) (.tmp 114))⟩ S.t67_19
def S.t67_21 : OT SR := .take ⟨(.some 112), .none, .false, (.bin .add (.tmp 111) (.const (Go.Value.int Go.IntKind.i64 1)))⟩ S.t67_4
def S.t67_22 : OT SR := .take ⟨(.some 115), .none, .false, (.app (.mk 56 2) 16 (.tmp 113) (.tmp 114))⟩ S.t67_17
def S.t67_23 : OT SR := .both S.t67_21 S.t67_22
def S.t67_24 : OT SR := .take ⟨(.some 123), .none, .false, (.bsl (.mk 56 2) 1 [(0, (.tmp 122))])⟩ S.t67_23
def S.t67_25 : OT SR := .both S.t67_20 S.t67_24
def S.t67_26 : OT SR := .both S.t67_12 S.t67_25
def S.t67_27 : OT SR := .take ⟨(.some 113), .none, .false, (.bsl (.mk 56 2) 0 [])⟩ S.t67_26
def S.t67_28 : OT SR := .take ⟨(.some 112), .none, .false, (.bin .add (.tmp 111) (.const (Go.Value.int Go.IntKind.i64 1)))⟩ S.t67_8
def S.t67_29 : OT SR := .take ⟨(.some 113), .none, .false, (.bsl (.mk 56 2) 0 [])⟩ S.t67_23
def S.t67_30 : OT SR := .both S.t67_28 S.t67_29
def S.t67_31 : OT SR := .take ⟨(.some 123), .none, .false, (.bsl (.mk 56 2) 1 [(0, (.tmp 122))])⟩ S.t67_30
def S.t67_32 : OT SR := .both S.t67_27 S.t67_31
def S.t67_33 : OT SR := .both S.t67_11 S.t67_32
def S.t67_34 : OT SR := .take ⟨(.some 122), .none, .false, (.ld .true 2 (.tmp 121))⟩ S.t67_33
def S.t67_35 : OT SR := .take ⟨(.some 122), .none, .false, (.ld .true 2 (.tmp 121))⟩ S.t67_10
def S.t67_36 : OT SR := .take ⟨(.some 122), .none, .false, (.ld .true 2 (.tmp 121))⟩ S.t67_6
def S.t67_37 : OT SR := .take ⟨(.some 122), .none, .false, (.ld .true 2 (.tmp 121))⟩ S.t67_2
def S.t67_38 : OT SR := .both S.t67_37 .vac
def S.t67_39 : OT SR := .take ⟨(.some 115), .none, .false, (.app (.mk 56 2) 16 (.tmp 113) (.tmp 114))⟩ S.t67_38
def S.t67_40 : OT SR := .both S.t67_36 S.t67_39
def S.t67_41 : OT SR := .take ⟨(.some 113), .none, .false, (.bsl (.mk 56 2) 0 [])⟩ S.t67_40
def S.t67_42 : OT SR := .both S.t67_35 S.t67_41
def S.t67_43 : OT SR := .take ⟨(.some 112), .none, .false, (.bin .add (.tmp 111) (.const (Go.Value.int Go.IntKind.i64 1)))⟩ S.t67_42
def S.t67_44 : OT SR := .take ⟨(.some 122), .none, .false, (.ld .true 2 (.tmp 121))⟩ S.t67_26
def S.t67_45 : OT SR := .take ⟨(.some 112), .none, .false, (.bin .add (.tmp 111) (.const (Go.Value.int Go.IntKind.i64 1)))⟩ S.t67_40
def S.t67_46 : OT SR := .take ⟨(.some 122), .none, .false, (.ld .true 2 (.tmp 121))⟩ S.t67_19
def S.t67_47 : OT SR := .take ⟨(.some 112), .none, .false, (.bin .add (.tmp 111) (.const (Go.Value.int Go.IntKind.i64 1)))⟩ S.t67_38
def S.t67_48 : OT SR := .both S.t67_46 S.t67_47
def S.t67_49 : OT SR := .take ⟨(.some 115), .none, .false, (.app (.mk 56 2) 16 (.tmp 113) (.tmp 114))⟩ S.t67_48
def S.t67_50 : OT SR := .both S.t67_45 S.t67_49
def S.t67_51 : OT SR := .both S.t67_44 S.t67_50
def S.t67_52 : OT SR := .take ⟨(.some 113), .none, .false, (.bsl (.mk 56 2) 0 [])⟩ S.t67_51
def S.t67_53 : OT SR := .both S.t67_43 S.t67_52
def S.t67_54 : OT SR := .both S.t67_34 S.t67_53
def S.t67_55 : OT SR := .take ⟨(.some 121), .none, .false, (.ix (.mk 56 2) (.tmp 119) (.tmp 120))⟩ S.t67_54
def S.t67_56 : OT SR := .take ⟨(.some 121), .none, .false, (.ix (.mk 56 2) (.tmp 119) (.tmp 120))⟩ S.t67_42
def S.t67_57 : OT SR := .take ⟨(.some 121), .none, .false, (.ix (.mk 56 2) (.tmp 119) (.tmp 120))⟩ S.t67_40
def S.t67_58 : OT SR := .take ⟨(.some 121), .none, .false, (.ix (.mk 56 2) (.tmp 119) (.tmp 120))⟩ S.t67_38
def S.t67_59 : OT SR := .both S.t67_58 .vac
def S.t67_60 : OT SR := .take ⟨(.some 115), .none, .false, (.app (.mk 56 2) 16 (.tmp 113) (.tmp 114))⟩ S.t67_59
def S.t67_61 : OT SR := .both S.t67_57 S.t67_60
def S.t67_62 : OT SR := .take ⟨(.some 113), .none, .false, (.bsl (.mk 56 2) 0 [])⟩ S.t67_61
def S.t67_63 : OT SR := .both S.t67_56 S.t67_62
def S.t67_64 : OT SR := .take ⟨(.some 112), .none, .false, (.bin .add (.tmp 111) (.const (Go.Value.int Go.IntKind.i64 1)))⟩ S.t67_63
def S.t67_65 : OT SR := .take ⟨(.some 121), .none, .false, (.ix (.mk 56 2) (.tmp 119) (.tmp 120))⟩ S.t67_51
def S.t67_66 : OT SR := .take ⟨(.some 112), .none, .false, (.bin .add (.tmp 111) (.const (Go.Value.int Go.IntKind.i64 1)))⟩ S.t67_61
def S.t67_67 : OT SR := .take ⟨(.some 121), .none, .false, (.ix (.mk 56 2) (.tmp 119) (.tmp 120))⟩ S.t67_48
def S.t67_68 : OT SR := .take ⟨(.some 112), .none, .false, (.bin .add (.tmp 111) (.const (Go.Value.int Go.IntKind.i64 1)))⟩ S.t67_59
def S.t67_69 : OT SR := .both S.t67_67 S.t67_68
def S.t67_70 : OT SR := .take ⟨(.some 115), .none, .false, (.app (.mk 56 2) 16 (.tmp 113) (.tmp 114))⟩ S.t67_69
def S.t67_71 : OT SR := .both S.t67_66 S.t67_70
def S.t67_72 : OT SR := .both S.t67_65 S.t67_71
def S.t67_73 : OT SR := .take ⟨(.some 113), .none, .false, (.bsl (.mk 56 2) 0 [])⟩ S.t67_72
def S.t67_74 : OT SR := .both S.t67_64 S.t67_73
def S.t67_75 : OT SR := .both S.t67_55 S.t67_74
def S.t67_76 : OT SR := .take ⟨(.some 119), .none, .false, (.ld .false 1 (.tmp 118))⟩ S.t67_75
def S.t67_77 : OT SR := .take ⟨(.some 119), .none, .false, (.ld .false 1 (.tmp 118))⟩ S.t67_63
def S.t67_78 : OT SR := .take ⟨(.some 119), .none, .false, (.ld .false 1 (.tmp 118))⟩ S.t67_61
def S.t67_79 : OT SR := .take ⟨(.some 119), .none, .false, (.ld .false 1 (.tmp 118))⟩ S.t67_59
def S.t67_80 : OT SR := .both S.t67_79 .vac
def S.t67_81 : OT SR := .take ⟨(.some 115), .none, .false, (.app (.mk 56 2) 16 (.tmp 113) (.tmp 114))⟩ S.t67_80
def S.t67_82 : OT SR := .both S.t67_78 S.t67_81
def S.t67_83 : OT SR := .take ⟨(.some 113), .none, .false, (.bsl (.mk 56 2) 0 [])⟩ S.t67_82
def S.t67_84 : OT SR := .both S.t67_77 S.t67_83
def S.t67_85 : OT SR := .take ⟨(.some 112), .none, .false, (.bin .add (.tmp 111) (.const (Go.Value.int Go.IntKind.i64 1)))⟩ S.t67_84
def S.t67_86 : OT SR := .take ⟨(.some 119), .none, .false, (.ld .false 1 (.tmp 118))⟩ S.t67_72
def S.t67_87 : OT SR := .take ⟨(.some 112), .none, .false, (.bin .add (.tmp 111) (.const (Go.Value.int Go.IntKind.i64 1)))⟩ S.t67_82
def S.t67_88 : OT SR := .take ⟨(.some 119), .none, .false, (.ld .false 1 (.tmp 118))⟩ S.t67_69
def S.t67_89 : OT SR := .take ⟨(.some 112), .none, .false, (.bin .add (.tmp 111) (.const (Go.Value.int Go.IntKind.i64 1)))⟩ S.t67_80
def S.t67_90 : OT SR := .both S.t67_88 S.t67_89
def S.t67_91 : OT SR := .take ⟨(.some 115), .none, .false, (.app (.mk 56 2) 16 (.tmp 113) (.tmp 114))⟩ S.t67_90
def S.t67_92 : OT SR := .both S.t67_87 S.t67_91
def S.t67_93 : OT SR := .both S.t67_86 S.t67_92
def S.t67_94 : OT SR := .take ⟨(.some 113), .none, .false, (.bsl (.mk 56 2) 0 [])⟩ S.t67_93
def S.t67_95 : OT SR := .both S.t67_85 S.t67_94
def S.t67_96 : OT SR := .both S.t67_76 S.t67_95
def S.t67_97 : OT SR := .take ⟨(.some 118), .none, .false, (.fa 1 (.tmp 117))⟩ S.t67_96
def S.t67_98 : OT SR := .take ⟨(.some 117), .none, .false, (.nc (.tmp 116))⟩ S.t67_97
def S.t67_99 : OT SR := .take ⟨(.some 118), .none, .false, (.fa 1 (.tmp 117))⟩ S.t67_84
def S.t67_100 : OT SR := .take ⟨(.some 117), .none, .false, (.nc (.tmp 116))⟩ S.t67_99
def S.t67_101 : OT SR := .take ⟨(.some 118), .none, .false, (.fa 1 (.tmp 117))⟩ S.t67_82
def S.t67_102 : OT SR := .take ⟨(.some 117), .none, .false, (.nc (.tmp 116))⟩ S.t67_101
def S.t67_103 : OT SR := .take ⟨(.some 118), .none, .false, (.fa 1 (.tmp 117))⟩ S.t67_80
def S.t67_104 : OT SR := .take ⟨(.some 117), .none, .false, (.nc (.tmp 116))⟩ S.t67_103
def S.t67_105 : OT SR := .both S.t67_104 .vac
def S.t67_106 : OT SR := .take ⟨(.some 115), .none, .false, (.app (.mk 56 2) 16 (.tmp 113) (.tmp 114))⟩ S.t67_105
def S.t67_107 : OT SR := .both S.t67_102 S.t67_106
def S.t67_108 : OT SR := .take ⟨(.some 113), .none, .false, (.bsl (.mk 56 2) 0 [])⟩ S.t67_107
def S.t67_109 : OT SR := .both S.t67_100 S.t67_108
def S.t67_110 : OT SR := .take ⟨(.some 112), .none, .false, (.bin .add (.tmp 111) (.const (Go.Value.int Go.IntKind.i64 1)))⟩ S.t67_109
def S.t67_111 : OT SR := .take ⟨(.some 118), .none, .false, (.fa 1 (.tmp 117))⟩ S.t67_93
def S.t67_112 : OT SR := .take ⟨(.some 117), .none, .false, (.nc (.tmp 116))⟩ S.t67_111
def S.t67_113 : OT SR := .take ⟨(.some 112), .none, .false, (.bin .add (.tmp 111) (.const (Go.Value.int Go.IntKind.i64 1)))⟩ S.t67_107
def S.t67_114 : OT SR := .take ⟨(.some 118), .none, .false, (.fa 1 (.tmp 117))⟩ S.t67_90
def S.t67_115 : OT SR := .take ⟨(.some 117), .none, .false, (.nc (.tmp 116))⟩ S.t67_114
def S.t67_116 : OT SR := .take ⟨(.some 112), .none, .false, (.bin .add (.tmp 111) (.const (Go.Value.int Go.IntKind.i64 1)))⟩ S.t67_105
def S.t67_117 : OT SR := .both S.t67_115 S.t67_116
def S.t67_118 : OT SR := .take ⟨(.some 115), .none, .false, (.app (.mk 56 2) 16 (.tmp 113) (.tmp 114))⟩ S.t67_117
def S.t67_119 : OT SR := .both S.t67_113 S.t67_118
def S.t67_120 : OT SR := .both S.t67_112 S.t67_119
def S.t67_121 : OT SR := .take ⟨(.some 113), .none, .false, (.bsl (.mk 56 2) 0 [])⟩ S.t67_120
def S.t67_122 : OT SR := .both S.t67_110 S.t67_121
def S.t67_123 : OT SR := .both S.t67_98 S.t67_122
def S.t67_124 : OT SR := .take ⟨(.some 120), .none, .false, (.mv (.tmp 10))⟩ S.t67_123
def S.t67_125 : OT SR := .take ⟨(.some 116), .none, .false, (.mv (.tmp 0))⟩ S.t67_124
def S.t67_126 : OT SR := .take ⟨(.some 114), .none, .false, (.mv (.tmp 2))⟩ S.t67_125
def S.t67_127 : OT SR := .take ⟨(.some 111), .none, .false, (.mv (.tmp 10))⟩ S.t67_126
def S.t67_128 : OT SR := .take ⟨(.some 110), .none, .false, (.mv (.tmp 0))⟩ S.t67_127
set_option maxRecDepth 100000 in
def S.s67 : SC := (.seq (.seq (.reg [⟨(.some 11), .none, .false, (.mv (.tmp 0))⟩, ⟨(.some 12), .none, .false, (.nc (.tmp 11))⟩, ⟨(.some 13), .none, .false, (.fa 3 (.tmp 12))⟩, ⟨(.some 14), .none, .false, (.ld .false 1 (.tmp 13))⟩, ⟨(.some 15), .none, .false, (.mv (.tmp 14))⟩, ⟨(.some 16), (.some (15, .true)), .false, (.mv (.tmp 2))⟩, ⟨(.some 17), (.some (15, .true)), .false, (.len (.tmp 16))⟩, ⟨(.some 18), (.some (15, .true)), .false, (.mv (.tmp 0))⟩, ⟨(.some 19), (.some (15, .true)), .false, (.nc (.tmp 18))⟩, ⟨(.some 20), (.some (15, .true)), .false, (.fa 2 (.tmp 19))⟩, ⟨(.some 21), (.some (15, .true)), .false, (.ld .false 1 (.tmp 20))⟩, ⟨(.some 22), (.some (15, .true)), .false, (.len (.tmp 21))⟩, ⟨(.some 23), (.some (15, .true)), .false, (.bin .gtr (.tmp 17) (.tmp 22))⟩, ⟨(.some 24), .none, .false, (.pick (.tmp 15) (.tmp 23) (.const (Go.Value.bool false)))⟩]) (.cond (.tmp 24) .ret .skip)) (.seq (.reg [⟨(.some 6), .none, .false, (.mv (.const (Go.Value.int Go.IntKind.i64 (-1))))⟩]) (.seq (.seq (.reg [⟨(.some 7), .none, .false, (.mv (.const (Go.Value.int Go.IntKind.i64 0)))⟩]) (.block 0 (.loop (.seq (.seq (.reg [⟨(.some 25), .none, .false, (.mv (.tmp 7))⟩, ⟨(.some 26), .none, .false, (.mv (.tmp 0))⟩, ⟨(.some 27), .none, .false, (.nc (.tmp 26))⟩, ⟨(.some 28), .none, .false, (.fa 0 (.tmp 27))⟩, ⟨(.some 29), .none, .false, (.ld .false 1 (.tmp 28))⟩, ⟨(.some 30), .none, .false, (.len (.tmp 29))⟩, ⟨(.some 31), .none, .false, (.bin .lss (.tmp 25) (.tmp 30))⟩, ⟨(.some 32), .none, .false, (.mv (.tmp 31))⟩, ⟨(.some 33), (.some (32, .true)), .false, (.mv (.tmp 6))⟩, ⟨(.some 34), (.some (32, .true)), .false, (.bin .lss (.tmp 33) (.const (Go.Value.int Go.IntKind.i64 0)))⟩, ⟨(.some 35), .none, .false, (.pick (.tmp 32) (.tmp 34) (.const (Go.Value.bool false)))⟩]) (.cond (.tmp 35) .skip (.exit 0))) (.seq (.block 1 (.seq (.reg [⟨(.some 38), .none, .false, (.mv (.tmp 0))⟩, ⟨(.some 39), .none, .false, (.nc (.tmp 38))⟩, ⟨(.some 40), .none, .false, (.fa 0 (.tmp 39))⟩, ⟨(.some 41), .none, .false, (.ld .false 1 (.tmp 40))⟩, ⟨(.some 42), .none, .false, (.mv (.tmp 7))⟩, ⟨(.some 43), .none, .false, (.ix (.mk 2 1) (.tmp 41) (.tmp 42))⟩, ⟨(.some 44), .none, .false, (.ld .false 1 (.tmp 43))⟩, ⟨(.some 45), .none, .false, (.bin .eql (.tmp 44) (.const (Go.Value.int Go.IntKind.i64 0)))⟩, ⟨(.some 8), .none, .false, (.mv (.tmp 45))⟩]) (.seq (.seq (.reg [⟨(.some 9), .none, .false, (.mv (.const (Go.Value.int Go.IntKind.i64 0)))⟩]) (.block 2 (.loop (.seq (.seq (.reg [⟨(.some 46), .none, .false, (.mv (.tmp 9))⟩, ⟨(.some 47), .none, .false, (.mv (.tmp 2))⟩, ⟨(.some 48), .none, .false, (.len (.tmp 47))⟩, ⟨(.some 49), .none, .false, (.bin .lss (.tmp 46) (.tmp 48))⟩]) (.cond (.tmp 49) .skip (.exit 2))) (.seq (.block 3 (.reg [⟨(.some 52), .none, .false, (.mv (.tmp 8))⟩, ⟨(.some 53), .none, .false, (.mv (.tmp 52))⟩, ⟨(.some 54), (.some (53, .false)), .false, (.mv (.tmp 2))⟩, ⟨(.some 55), (.some (53, .false)), .false, (.mv (.tmp 9))⟩, ⟨(.some 56), (.some (53, .false)), .false, (.ix (.mk 56 2) (.tmp 54) (.tmp 55))⟩, ⟨(.some 57), (.some (53, .false)), .false, (.ld .true 2 (.tmp 56))⟩, ⟨(.some 58), (.some (53, .false)), .false, (.mv (.tmp 7))⟩, ⟨(.some 59), (.some (53, .false)), .false, (.call (.func 96) [(.tmp 57), (.tmp 58)])⟩, ⟨(.some 60), .none, .false, (.pick (.tmp 53) (.const (Go.Value.bool true)) (.tmp 59))⟩, ⟨(.some 8), .none, .false, (.mv (.tmp 60))⟩])) (.reg [⟨(.some 50), .none, .false, (.mv (.tmp 9))⟩, ⟨(.some 51), .none, .false, (.bin .add (.tmp 50) (.const (Go.Value.int Go.IntKind.i64 1)))⟩, ⟨(.some 9), .none, .false, (.mv (.tmp 51))⟩])))))) (.seq (.reg [⟨(.some 61), .none, .false, (.mv (.tmp 8))⟩, ⟨(.some 62), .none, .false, (.not (.tmp 61))⟩]) (.cond (.tmp 62) (.reg [⟨(.some 63), .none, .false, (.mv (.tmp 7))⟩, ⟨(.some 6), .none, .false, (.mv (.tmp 63))⟩]) .skip))))) (.reg [⟨(.some 36), .none, .false, (.mv (.tmp 7))⟩, ⟨(.some 37), .none, .false, (.bin .add (.tmp 36) (.const (Go.Value.int Go.IntKind.i64 1)))⟩, ⟨(.some 7), .none, .false, (.mv (.tmp 37))⟩])))))) (.seq (.seq (.reg [⟨(.some 64), .none, .false, (.mv (.tmp 6))⟩, ⟨(.some 65), .none, .false, (.bin .lss (.tmp 64) (.const (Go.Value.int Go.IntKind.i64 0)))⟩]) (.cond (.tmp 65) (.seq (.seq (.reg [⟨(.some 66), .none, .true, (.mv (.tmp 0))⟩, ⟨(.some 67), .none, .true, (.nc (.tmp 66))⟩, ⟨(.some 68), .none, .true, (.fa 3 (.tmp 67))⟩, ⟨(.some 69), .none, .true, (.ld .false 1 (.tmp 68))⟩, ⟨(.some 70), .none, .true, (.not (.tmp 69))⟩, ⟨(.some 71), .none, .true, (.mv (.tmp 70))⟩, ⟨(.some 72), (.some (71, .false)), .true, (.mv (.tmp 2))⟩, ⟨(.some 73), (.some (71, .false)), .true, (.len (.tmp 72))⟩, ⟨(.some 74), (.some (71, .false)), .true, (.mv (.tmp 0))⟩, ⟨(.some 75), (.some (71, .false)), .true, (.nc (.tmp 74))⟩, ⟨(.some 76), (.some (71, .false)), .true, (.fa 2 (.tmp 75))⟩, ⟨(.some 77), (.some (71, .false)), .true, (.ld .false 1 (.tmp 76))⟩, ⟨(.some 78), (.some (71, .false)), .true, (.len (.tmp 77))⟩, ⟨(.some 79), (.some (71, .false)), .true, (.bin .lss (.tmp 73) (.tmp 78))⟩, ⟨(.some 80), .none, .true, (.pick (.tmp 71) (.const (Go.Value.bool true)) (.tmp 79))⟩, ⟨(.some 81), .none, .true, (.mv (.tmp 80))⟩, ⟨(.some 82), (.some (81, .false)), .true, (.mv (.tmp 2))⟩, ⟨(.some 83), (.some (81, .false)), .true, (.fcal (.func 97) [(.tmp 82)])⟩, ⟨(.some 84), (.some (81, .false)), .true, (.mv (.tmp 0))⟩, ⟨(.some 85), (.some (81, .false)), .true, (.nc (.tmp 84))⟩, ⟨(.some 86), (.some (81, .false)), .true, (.fa 2 (.tmp 85))⟩, ⟨(.some 87), (.some (81, .false)), .true, (.ld .false 1 (.tmp 86))⟩, ⟨(.some 88), (.some (81, .false)), .false, (.call (.func 97) [(.tmp 87)])⟩, ⟨(.some 89), (.some (81, .false)), .false, (.bin .lss (.tmp 83) (.tmp 88))⟩, ⟨(.some 90), .none, .false, (.pick (.tmp 81) (.const (Go.Value.bool true)) (.tmp 89))⟩]) (.cond (.tmp 90) (.seq (.reg [⟨(.some 91), .none, .false, (.mv (.tmp 0))⟩, ⟨(.some 92), .none, .false, (.bsl (.mk 56 2) 0 [])⟩, ⟨(.some 93), .none, .false, (.mv (.tmp 2))⟩, ⟨(.some 94), .none, .false, (.app (.mk 56 2) 16 (.tmp 92) (.tmp 93))⟩, ⟨(.some 95), .none, .false, (.nc (.tmp 91))⟩, ⟨(.some 96), .none, .false, (.fa 2 (.tmp 95))⟩, ⟨.none, .none, .false, (.sto 1 (.tmp 96) (.tmp 94))⟩]) (.reg [⟨(.some 97), .none, .false, (.mv (.tmp 0))⟩, ⟨(.some 98), .none, .false, (.nc (.tmp 97))⟩, ⟨(.some 99), .none, .false, (.fa 3 (.tmp 98))⟩, ⟨.none, .none, .false, (.sto 1 (.tmp 99) (.const (Go.Value.bool true)))⟩])) .skip)) .ret) .skip)) (.seq (.reg [⟨(.some 100), .none, .false, (.mv (.tmp 1))⟩, ⟨(.some 10), .none, .false, (.mv (.tmp 100))⟩]) (.block 4 (.loop (.seq (.seq (.reg [⟨(.some 101), .none, .false, (.mv (.tmp 10))⟩, ⟨(.some 102), .none, .false, (.mv (.tmp 0))⟩, ⟨(.some 103), .none, .false, (.nc (.tmp 102))⟩, ⟨(.some 104), .none, .false, (.fa 1 (.tmp 103))⟩, ⟨(.some 105), .none, .false, (.ld .false 1 (.tmp 104))⟩, ⟨(.some 106), .none, .false, (.len (.tmp 105))⟩, ⟨(.some 107), .none, .false, (.bin .lss (.tmp 101) (.tmp 106))⟩]) (.cond (.tmp 107) .skip (.exit 4))) (.seq (.block 5 (.regO S.t67_128)) (.reg [⟨(.some 108), .none, .false, (.mv (.tmp 10))⟩, ⟨(.some 109), .none, .false, (.bin .add (.tmp 108) (.const (Go.Value.int Go.IntKind.i64 1)))⟩, ⟨(.some 10), .none, .false, (.mv (.tmp 109))⟩]))))))))))
set_option maxRecDepth 100000 in
theorem S.ok67 : stripF Tryz.prog Tryz.f67 = some S.s67 := by kernel_rfl
set_option maxRecDepth 10000
set_option maxHeartbeats 40000000
def tl2 : SC → SC
  | .seq _ b => b
  | s => s
theorem tryRest (tb : List Int) (ps : List TCube) (hps : ps.length ≤ 1000) (htb : tb.length ≤ 1000) (h01 : ∀ (i : Nat) (v : Int), tb[i]? = some v → v = 0 ∨ v = 1) (hcare : careOk ps) (f : Nat) (ih : (∀ (m : Nat), m < f → ∀ (i0 : Nat) (ch : List Nat) (b : Option (List Nat)), i0 + m = ps.length → rise 0 i0 ch → okB ps b → SpecM Tryz.prog 67 [.c (.ptr (pin 0) 0), .c (.d (iD i0)), .c (.d (.rd kCube ((cubs ps ch).map enCube)))] [(pin 0, .box 96 (boxT tb ps b))] (.tup []) [(pin 0, .box 96 (boxT tb ps (tryB (cvQ tb ps) (costQ ps) m i0 ch b)))])) (i0 : Nat) (ch : List Nat) (b : Option (List Nat)) (hf : i0 + f = ps.length) (hch : rise 0 i0 ch) (hb : okB ps b) (hbig : ∀ x, b = some x → ch.length ≤ x.length) : WC Tryz.prog (tl2 S.s67) [] (fun e st => (e = Exit.normal ∨ e = Exit.ret) ∧ RetOk Tryz.prog Tryz.f67.results.toList (.tup []) [(pin 0, .box 96 (boxT tb ps (if cvQ tb ps ch then updS (costQ ps) b ch else loopB (cvQ tb ps) (costQ ps) f i0 ch b)))] st) ⟨frE [(0, .v (.c (.ptr (pin 0) 0))), (1, pvA (.int .i64 i0)), (2, rdA kCube ((cubs ps ch).map enCube))], frO [(pin 0, .box 96 (boxT tb ps b))]⟩ := by
  have hchl := rise_len hch
  have hcl := cubs_len ps ch
  have hapb : ((([] : List TCube).length + (cubs ps ch).length) * 16 ≤ 140737488355328 ∧ ([] : List TCube).length + (cubs ps ch).length ≤ 140737488355328) := by rw [List.length_nil, hcl]; omega
  have hchb : ∀ k ∈ ch, k < ps.length := rise_lt (rise_up hch (by omega))
  have hbl : ∀ x, b = some x → x.length ≤ 1000 ∧ (cubs ps x).length = x.length := fun x hx => ⟨by have := rise_len (hb x hx); omega, cubs_len ps x⟩
  unfold S.s67
  dsimp only [tl2]
  repeat' (first|refine R.mv rfl ?_|refine R.reg ?_|refine R.nil ?_|refine R.seq ?_|refine R.nseq ?_|refine R.blk ?_)
  all_goals first | (exfalso; omega) | skip
  refine R.loop (G := Nat × Bool) (fun g => [(0, .v (.c (.ptr (pin 0) 0))), (1, pvA (.int .i64 i0)), (2, rdA kCube ((cubs ps ch).map enCube)), (6, pvA (.int .i64 (if g.2 then (g.1 : Int) - 1 else -1))), (7, pvA (.int .i64 g.1))]) (fun _ => [(pin 0, .box 96 (boxT tb ps b))]) (fun g => g.1 ≤ tb.length ∧ (g.2 = false → ∀ i, i < g.1 → oneQ tb i = true → anyQ ps ch i = true) ∧ (g.2 = true → 0 < g.1 ∧ ¬ cvQ tb ps ch)) (fun g => tb.length - g.1) (0, false) ⟨by omega, fun _ i hi => by omega, fun h => by cases h⟩ (Weak.frame _ _ ⟨rfl, rfl, rfl, rfl, rfl, trivial⟩ ⟨rfl, trivial⟩ rfl rfl) fun g hg => ?_
  obtain ⟨n, stp⟩ := g
  obtain ⟨hn, hg1, hg2⟩ := hg
  dsimp only at hn hg1 hg2
  cases stp with
  | true =>
    change WC Tryz.prog _ _ _ ⟨frE [(0, .v (.c (.ptr (pin 0) 0))), (1, pvA (.int .i64 i0)), (2, rdA kCube ((cubs ps ch).map enCube)), (6, pvA (.int .i64 ((n : Int) - 1))), (7, pvA (.int .i64 n))], frO [(pin 0, .box 96 (boxT tb ps b))]⟩
    obtain ⟨hn0, hncv⟩ := hg2 rfl
    rw [if_neg hncv]
    repeat' (first|refine R.mv rfl ?_|refine R.reg ?_|refine R.nil ?_|refine R.seq ?_|refine R.nseq ?_|refine R.skip ?_|refine R.blk ?_|refine R.exit rfl ?_|refine R.gRun rfl ?_|refine R.gSkip rfl ?_|refine R.ld rfl rfl rfl ?_|refine R.fa rfl rfl ?_|refine R.lenM rfl ?_|refine R.lss rfl rfl ?_|refine R.eql rfl rfl ?_|refine R.ixN rfl rfl rfl (by omega) (fun a ha => ?_)|refine R.pickT rfl rfl ?_|refine R.pickF rfl rfl ?_|refine R.not rfl ?_|refine R.nc rfl rfl ?_|refine R.condT rfl ?_|refine R.condF rfl ?_|refine R.cond rfl (fun hc => ?_) (fun hc => ?_)|refine R.gP rfl (fun hc => ?_) (fun hc => ?_)|refine R.gB rfl (fun hc => ?_) (fun hc => ?_))
    all_goals first | (exfalso; omega) | skip
    all_goals
      refine R.loop (G := Nat × Option (List Nat)) (fun g => [(0, .v (.c (.ptr (pin 0) 0))), (2, rdA kCube ((cubs ps ch).map enCube)), (10, pvA (.int .i64 g.1))]) (fun g => [(pin 0, .box 96 (boxT tb ps g.2))]) (fun g => i0 ≤ g.1 ∧ g.1 ≤ ps.length ∧ okB ps g.2 ∧ loopB (cvQ tb ps) (costQ ps) (ps.length - g.1) g.1 ch g.2 = loopB (cvQ tb ps) (costQ ps) f i0 ch b) (fun g => ps.length - g.1) (i0, b) ⟨Nat.le_refl _, by omega, hb, by rw [show ps.length - i0 = f by omega]⟩ (Weak.frame _ _ ⟨rfl, rfl, rfl, trivial⟩ ⟨rfl, trivial⟩ rfl rfl) fun g hg => ?_
      obtain ⟨k, b'⟩ := g
      change WC Tryz.prog _ _ _ ⟨frE [(0, .v (.c (.ptr (pin 0) 0))), (2, rdA kCube ((cubs ps ch).map enCube)), (10, pvA (.int .i64 k))], frO [(pin 0, .box 96 (boxT tb ps b'))]⟩
      obtain ⟨hik, hkn, hb', hlp⟩ := hg
      dsimp only at hik hkn hb' hlp
      by_cases hkl : k < ps.length
      · obtain ⟨q, hq⟩ : ∃ q, ps[k]? = some q := ⟨_, List.getElem?_eq_getElem hkl⟩
        have hr2 := rise_snoc (b := k + 1) (rise_up hch hik) (Nat.zero_le _) (by omega)
        have hgd : ps.getD k ⟨0, 0⟩ = q := by rw [List.getD_eq_getElem?_getD, hq]; rfl
        have hT := ih (ps.length - (k + 1)) (by omega) (k + 1) (ch ++ [k]) b' (by omega) hr2 hb'
        have hok2 := try_ok (cvQ tb ps) (costQ ps) (ps.length - (k + 1)) (k + 1) (ch ++ [k]) b' (by omega) hr2 hb'
        have hst : loopB (cvQ tb ps) (costQ ps) (ps.length - (k + 1)) (k + 1) ch (tryB (cvQ tb ps) (costQ ps) (ps.length - (k + 1)) (k + 1) (ch ++ [k]) b') = loopB (cvQ tb ps) (costQ ps) f i0 ch b := by
          rw [← hlp, show ps.length - k = (ps.length - (k + 1)) + 1 by omega]
          rfl
        rw [cubs_snoc, hgd] at hT
        generalize tryB (cvQ tb ps) (costQ ps) (ps.length - (k + 1)) (k + 1) (ch ++ [k]) b' = b2 at *
        have he : ((k + 1 : Nat) : Int) = (k : Int) + 1 := by omega
        rw [he] at hT
        have hapb2 : (((([] : List TCube) ++ cubs ps ch).length + [q].length) * 16 ≤ 140737488355328 ∧ (([] : List TCube) ++ cubs ps ch).length + [q].length ≤ 140737488355328) := by rw [List.nil_append, List.length_singleton, hcl]; omega
        repeat' (first|refine R.mv rfl ?_|refine R.reg ?_|refine R.nil ?_|refine R.seq ?_|refine R.nseq ?_|refine R.skip ?_|refine R.blk ?_|refine R.exit rfl ?_|refine R.ld rfl rfl rfl ?_|refine R.fa rfl rfl ?_|refine R.lenM rfl ?_|refine R.lss rfl rfl ?_|refine R.nc rfl rfl ?_|refine R.cond rfl (fun hc => ?_) (fun hc => ?_))
        all_goals first | (exfalso; omega) | skip
        refine R.regOB (⟨frE [(0, .v (.c (.ptr (pin 0) 0))), (2, rdA kCube ((cubs ps ch).map enCube)), (10, pvA (.int .i64 k))], frO [(pin 0, .box 96 (boxT tb ps b2))]⟩) ?_ ?_
        · repeat' (first|refine R.tk ?_|refine R.tkN ?_|refine R.both ?_ ?_|exact R.vac|refine R.nil ?_|refine R.mv rfl ?_|refine R.nc rfl rfl ?_|refine R.fa rfl rfl ?_|refine R.ld rfl rfl rfl ?_|refine R.ixK (i := k) q hq rfl rfl rfl ?_|refine R.lda rfl rfl (lbT rfl) rfl ?_|refine R.add rfl rfl ⟨by omega, by omega⟩ ?_|refine R.bsl (f := enCube) ([] : List TCube) rfl rfl rfl rfl rfl ?_|refine R.bsl (f := enCube) [q] rfl rfl rfl rfl rfl ?_|refine R.app (f := enCube) (fun _ => rfl) rfl rfl rfl rfl rfl hapb ?_|refine R.app (f := enCube) (fun _ => rfl) rfl rfl rfl rfl rfl hapb2 ?_|refine R.weak (Weak.freeze 113 rfl rfl) (R.callX (bor := false) [(pin 0, pin 0)] rfl hT rfl rfl rfl rfl rfl ?_))
          all_goals exact R.done (Weak.frame _ _ ⟨rfl, rfl, rfl, trivial⟩ ⟨rfl, trivial⟩ rfl rfl)
        repeat' (first|refine R.mv rfl ?_|refine R.reg ?_|refine R.nil ?_|refine R.add rfl rfl (by omega) ?_)
        all_goals first
          | (exfalso; omega)
          | exact R.nloop (R.again (k + 1, b2) ⟨by omega, by omega, hok2, hst⟩ (by show ps.length - (k + 1) < ps.length - k; omega) ⟨rfl, rfl, by rw [he]; rfl, trivial⟩ ⟨rfl, trivial⟩ rfl rfl)
          | skip
      · obtain rfl : k = ps.length := by omega
        rw [Nat.sub_self] at hlp
        rw [← hlp]
        repeat' (first|refine R.mv rfl ?_|refine R.reg ?_|refine R.nil ?_|refine R.seq ?_|refine R.nseq ?_|refine R.skip ?_|refine R.blk ?_|refine R.exit rfl ?_|refine R.ld rfl rfl rfl ?_|refine R.fa rfl rfl ?_|refine R.lenM rfl ?_|refine R.lss rfl rfl ?_|refine R.nc rfl rfl ?_|refine R.cond rfl (fun hc => ?_) (fun hc => ?_))
        all_goals first
          | (exfalso; omega)
          | exact R.nend ⟨.inl rfl, R.outR rfl .nil rfl rfl rfl ⟨by show ¬ (0 = 1); omega, rfl⟩⟩
          | skip
  | false =>
    change WC Tryz.prog _ _ _ ⟨frE [(0, .v (.c (.ptr (pin 0) 0))), (1, pvA (.int .i64 i0)), (2, rdA kCube ((cubs ps ch).map enCube)), (6, pvA (.int .i64 (-1))), (7, pvA (.int .i64 n))], frO [(pin 0, .box 96 (boxT tb ps b))]⟩
    have hcov := hg1 rfl
    by_cases hnl : n < tb.length
    · obtain ⟨v, hv⟩ : ∃ v, tb[n]? = some v := ⟨_, List.getElem?_eq_getElem hnl⟩
      repeat' (first|refine R.ixK v hv rfl rfl rfl ?_|refine R.mv rfl ?_|refine R.reg ?_|refine R.nil ?_|refine R.seq ?_|refine R.nseq ?_|refine R.skip ?_|refine R.blk ?_|refine R.exit rfl ?_|refine R.gRun rfl ?_|refine R.gSkip rfl ?_|refine R.ld rfl rfl rfl ?_|refine R.fa rfl rfl ?_|refine R.lenM rfl ?_|refine R.lss rfl rfl ?_|refine R.eql rfl rfl ?_|refine R.pickT rfl rfl ?_|refine R.pickF rfl rfl ?_|refine R.not rfl ?_|refine R.nc rfl rfl ?_|refine R.condT rfl ?_|refine R.condF rfl ?_|refine R.gP rfl (fun hc => ?_) (fun hc => ?_)|refine R.gB rfl (fun hc => ?_) (fun hc => ?_))
      all_goals first | (exfalso; omega) | skip
      refine R.loop (G := Nat) (fun j => [(0, .v (.c (.ptr (pin 0) 0))), (1, pvA (.int .i64 i0)), (2, rdA kCube ((cubs ps ch).map enCube)), (6, pvA (.int .i64 (-1))), (7, pvA (.int .i64 n)), (8, pvA (.bool (inJ (cubs ps ch) v n j))), (9, pvA (.int .i64 j))]) (fun _ => [(pin 0, .box 96 (boxT tb ps b))]) (fun j => j ≤ ch.length) (fun j => ch.length - j) 0 (by omega) (Weak.frame _ _ ⟨rfl, rfl, rfl, rfl, rfl, rfl, rfl, trivial⟩ ⟨rfl, trivial⟩ rfl rfl) fun j hj => ?_
      by_cases hjl : j < ch.length
      · obtain ⟨cq, hcq⟩ : ∃ cq, (cubs ps ch)[j]? = some cq := ⟨_, List.getElem?_eq_getElem (by omega)⟩
        have hsu := inJ_succ (v := v) (i := n) hcq
        cases hin : inJ (cubs ps ch) v n j with
        | true =>
          rw [hin, Bool.true_or] at hsu
          repeat' (first|refine R.mv rfl ?_|refine R.reg ?_|refine R.nil ?_|refine R.seq ?_|refine R.nseq ?_|refine R.nblk ?_|refine R.skip ?_|refine R.blk ?_|refine R.exit rfl ?_|refine R.gSkip rfl ?_|refine R.lenM rfl ?_|refine R.lss rfl rfl ?_|refine R.add rfl rfl (by omega) ?_|refine R.pickT rfl rfl ?_|refine R.not rfl ?_|refine R.condF rfl ?_|refine R.cond rfl (fun hc => ?_) (fun hc => ?_))
          all_goals first
            | (exfalso; omega)
            | exact R.nloop (R.again (j + 1) (by omega) (by omega) ⟨rfl, rfl, rfl, rfl, rfl, by rw [hsu]; rfl, rfl, trivial⟩ ⟨rfl, trivial⟩ rfl rfl)
            | skip
        | false =>
          rw [hin, Bool.false_or] at hsu
          repeat' (first|refine R.ixK cq hcq rfl rfl rfl ?_|refine R.mv rfl ?_|refine R.reg ?_|refine R.nil ?_|refine R.seq ?_|refine R.nseq ?_|refine R.nblk ?_|refine R.skip ?_|refine R.blk ?_|refine R.exit rfl ?_|refine R.gRun rfl ?_|refine R.lda rfl rfl (lbT rfl) rfl ?_|refine R.lenM rfl ?_|refine R.lss rfl rfl ?_|refine R.add rfl rfl (by omega) ?_|refine R.pickF rfl rfl ?_|refine R.not rfl ?_|refine R.condT rfl ?_|refine R.call (bor := false) rfl rfl (sHas cq n) rfl rfl rfl ?_|refine R.cond rfl (fun hc => ?_) (fun hc => ?_))
          all_goals first
            | (exfalso; omega)
            | exact R.nloop (R.again (j + 1) (by omega) (by omega) ⟨rfl, rfl, rfl, rfl, rfl, by rw [hsu]; rfl, rfl, trivial⟩ ⟨rfl, trivial⟩ rfl rfl)
            | skip
      obtain rfl : j = ch.length := by omega
      have hfull : inJ (cubs ps ch) v n ch.length = (anyQ ps ch n || decide (v = 0)) := by unfold inJ; rw [← hcl, List.take_length, anyQ_cubs hchb]
      cases hin : inJ (cubs ps ch) v n ch.length with
      | true =>
        rw [hin] at hfull
        have hnew : ∀ i, i < n + 1 → oneQ tb i = true → anyQ ps ch i = true := fun i hi h1 => by
          by_cases hin2 : i = n
          · subst hin2
            have hv1 : v = 1 := by have := of_decide_eq_true h1; rw [hv] at this; cases this; rfl
            rw [hv1] at hfull
            simpa using hfull.symm
          · exact hcov i (by omega) h1
        repeat' (first|refine R.mv rfl ?_|refine R.reg ?_|refine R.nil ?_|refine R.seq ?_|refine R.nseq ?_|refine R.nblk ?_|refine R.skip ?_|refine R.blk ?_|refine R.exit rfl ?_|refine R.gSkip rfl ?_|refine R.lenM rfl ?_|refine R.lss rfl rfl ?_|refine R.add rfl rfl (by omega) ?_|refine R.pickT rfl rfl ?_|refine R.not rfl ?_|refine R.condF rfl ?_|refine R.cond rfl (fun hc => ?_) (fun hc => ?_))
        all_goals first
          | (exfalso; omega)
          | exact R.nloop (R.again (n + 1, false) ⟨by show n + 1 ≤ tb.length; omega, fun _ => hnew, fun h => by cases h⟩ (by show tb.length - (n + 1) < tb.length - n; omega) ⟨rfl, rfl, rfl, rfl, rfl, trivial⟩ ⟨rfl, trivial⟩ rfl rfl)
          | skip
      | false =>
        rw [hin] at hfull
        have hncv : ¬ cvQ tb ps ch := fun h => by
          have h2 := (Bool.or_eq_false_iff.1 hfull.symm)
          have hv1 : v = 1 := (h01 n v hv).resolve_left (of_decide_eq_false h2.2)
          have := h n hnl (decide_eq_true (by rw [hv, hv1]))
          rw [h2.1] at this
          cases this
        have he1 : ((n + 1 : Nat) : Int) - 1 = (n : Int) := by omega
        repeat' (first|refine R.mv rfl ?_|refine R.reg ?_|refine R.nil ?_|refine R.seq ?_|refine R.nseq ?_|refine R.nblk ?_|refine R.skip ?_|refine R.blk ?_|refine R.exit rfl ?_|refine R.gRun rfl ?_|refine R.lda rfl rfl (lbT rfl) rfl ?_|refine R.lenM rfl ?_|refine R.lss rfl rfl ?_|refine R.add rfl rfl (by omega) ?_|refine R.ixN rfl rfl rfl (by omega) (fun a ha => ?_)|refine R.not rfl ?_|refine R.condT rfl ?_|refine R.cond rfl (fun hc => ?_) (fun hc => ?_))
        all_goals first
          | (exfalso; omega)
          | exact R.nloop (R.again (n + 1, true) ⟨by show n + 1 ≤ tb.length; omega, fun h => (by cases h), fun _ => ⟨Nat.succ_pos _, hncv⟩⟩ (by show tb.length - (n + 1) < tb.length - n; omega) ⟨rfl, rfl, rfl, by show _ = pvA (.int .i64 (((n + 1 : Nat) : Int) - 1)); rw [he1]; rfl, rfl, trivial⟩ ⟨rfl, trivial⟩ rfl rfl)
          | skip
    · obtain rfl : n = tb.length := by omega
      have hcv : cvQ tb ps ch := fun i hi h1 => hcov i hi h1
      rw [if_pos hcv]
      cases b with
      | none =>
        have hu : updS (costQ ps) none ch = some ch := if_pos fun x hx => by cases hx
        rw [hu]
        repeat' (first|refine R.mv rfl ?_|refine R.reg ?_|refine R.nil ?_|refine R.seq ?_|refine R.nseq ?_|refine R.skip ?_|refine R.blk ?_|refine R.exit rfl ?_|refine R.gRun rfl ?_|refine R.gSkip rfl ?_|refine R.ld rfl rfl rfl ?_|refine R.fa rfl rfl ?_|refine R.lenM rfl ?_|refine R.lss rfl rfl ?_|refine R.eql rfl rfl ?_|refine R.ixN rfl rfl rfl (by omega) (fun a ha => ?_)|refine R.pickT rfl rfl ?_|refine R.pickF rfl rfl ?_|refine R.not rfl ?_|refine R.nc rfl rfl ?_|refine R.stoB rfl rfl rfl rfl ⟨rfl, rfl, Nat.le_of_ble_eq_true rfl⟩ rfl ?_|refine R.condT rfl ?_|refine R.condF rfl ?_|refine R.bsl (f := enCube) ([] : List TCube) rfl rfl rfl rfl rfl ?_|refine R.app (f := enCube) (fun _ => rfl) rfl rfl rfl rfl rfl hapb ?_|refine R.gP rfl (fun hc => ?_) (fun hc => ?_))
        all_goals first
          | (exfalso; omega)
          | exact R.ret ⟨.inr rfl, R.outW (Weak.freeze 92 rfl rfl) (R.outR rfl .nil rfl rfl rfl ⟨by show ¬ (0 = 1); omega, rfl⟩)⟩
          | skip
      | some x =>
        obtain ⟨hx1000, hxl⟩ := hbl x rfl
        have hle := hbig x rfl
        have e1 := litS_cubs ps ch
        have e2 := litS_cubs ps x
        have hxl2 : (cubs ps ((some x).getD [])).length = x.length := hxl
        have e22 : litS (cubs ps ((some x).getD [])) = costQ ps x := e2
        by_cases hlt : ch.length < x.length
        · have hu : updS (costQ ps) (some x) ch = some ch := if_pos fun y hy => by cases hy; exact .inl hlt
          rw [hu]
          repeat' (first|refine R.mv rfl ?_|refine R.reg ?_|refine R.nil ?_|refine R.seq ?_|refine R.nseq ?_|refine R.skip ?_|refine R.blk ?_|refine R.exit rfl ?_|refine R.gRun rfl ?_|refine R.gSkip rfl ?_|refine R.ld rfl rfl rfl ?_|refine R.fa rfl rfl ?_|refine R.lenM rfl ?_|refine R.lss rfl rfl ?_|refine R.eql rfl rfl ?_|refine R.ixN rfl rfl rfl (by omega) (fun a ha => ?_)|refine R.pickT rfl rfl ?_|refine R.pickF rfl rfl ?_|refine R.not rfl ?_|refine R.nc rfl rfl ?_|refine R.stoB rfl rfl rfl rfl ⟨rfl, rfl, Nat.le_of_ble_eq_true rfl⟩ rfl ?_|refine R.condT rfl ?_|refine R.condF rfl ?_|refine R.call (bor := false) rfl rfl (sLits _ (by omega) (cubs_ok hcare _)) rfl rfl rfl ?_|refine R.fcal (bor := false) rfl rfl (sLits _ (by omega) (cubs_ok hcare _)) rfl rfl rfl ?_|refine R.bsl (f := enCube) ([] : List TCube) rfl rfl rfl rfl rfl ?_|refine R.app (f := enCube) (fun _ => rfl) rfl rfl rfl rfl rfl hapb ?_|refine R.cond rfl (fun hc => ?_) (fun hc => ?_)|refine R.gP rfl (fun hc => ?_) (fun hc => ?_))
          all_goals first
            | (exfalso; omega)
            | exact R.ret ⟨.inr rfl, R.outW (Weak.freeze 92 rfl rfl) (R.outR rfl .nil rfl rfl rfl ⟨by show ¬ (0 = 1); omega, rfl⟩)⟩
            | skip
        by_cases hls : costQ ps ch < costQ ps x
        · have hu : updS (costQ ps) (some x) ch = some ch := if_pos fun y hy => by cases hy; exact .inr hls
          rw [hu]
          repeat' (first|refine R.mv rfl ?_|refine R.reg ?_|refine R.nil ?_|refine R.seq ?_|refine R.nseq ?_|refine R.skip ?_|refine R.blk ?_|refine R.exit rfl ?_|refine R.gRun rfl ?_|refine R.gSkip rfl ?_|refine R.ld rfl rfl rfl ?_|refine R.fa rfl rfl ?_|refine R.lenM rfl ?_|refine R.lss rfl rfl ?_|refine R.eql rfl rfl ?_|refine R.ixN rfl rfl rfl (by omega) (fun a ha => ?_)|refine R.pickT rfl rfl ?_|refine R.pickF rfl rfl ?_|refine R.not rfl ?_|refine R.nc rfl rfl ?_|refine R.stoB rfl rfl rfl rfl ⟨rfl, rfl, Nat.le_of_ble_eq_true rfl⟩ rfl ?_|refine R.condT rfl ?_|refine R.condF rfl ?_|refine R.call (bor := false) rfl rfl (sLits _ (by omega) (cubs_ok hcare _)) rfl rfl rfl ?_|refine R.fcal (bor := false) rfl rfl (sLits _ (by omega) (cubs_ok hcare _)) rfl rfl rfl ?_|refine R.bsl (f := enCube) ([] : List TCube) rfl rfl rfl rfl rfl ?_|refine R.app (f := enCube) (fun _ => rfl) rfl rfl rfl rfl rfl hapb ?_|refine R.cond rfl (fun hc => ?_) (fun hc => ?_)|refine R.gP rfl (fun hc => ?_) (fun hc => ?_))
          all_goals first
            | (exfalso; omega)
            | exact R.ret ⟨.inr rfl, R.outW (Weak.freeze 92 rfl rfl) (R.outR rfl .nil rfl rfl rfl ⟨by show ¬ (0 = 1); omega, rfl⟩)⟩
            | skip
        · have hu : updS (costQ ps) (some x) ch = some x := if_neg fun h => (h x rfl).elim hlt hls
          rw [hu]
          repeat' (first|refine R.mv rfl ?_|refine R.reg ?_|refine R.nil ?_|refine R.seq ?_|refine R.nseq ?_|refine R.skip ?_|refine R.blk ?_|refine R.exit rfl ?_|refine R.gRun rfl ?_|refine R.gSkip rfl ?_|refine R.ld rfl rfl rfl ?_|refine R.fa rfl rfl ?_|refine R.lenM rfl ?_|refine R.lss rfl rfl ?_|refine R.eql rfl rfl ?_|refine R.ixN rfl rfl rfl (by omega) (fun a ha => ?_)|refine R.pickT rfl rfl ?_|refine R.pickF rfl rfl ?_|refine R.not rfl ?_|refine R.nc rfl rfl ?_|refine R.condT rfl ?_|refine R.condF rfl ?_|refine R.call (bor := false) rfl rfl (sLits _ (by omega) (cubs_ok hcare _)) rfl rfl rfl ?_|refine R.fcal (bor := false) rfl rfl (sLits _ (by omega) (cubs_ok hcare _)) rfl rfl rfl ?_|refine R.cond rfl (fun hc => ?_) (fun hc => ?_)|refine R.gP rfl (fun hc => ?_) (fun hc => ?_))
          all_goals first
            | (exfalso; omega)
            | exact R.ret ⟨.inr rfl, R.outR rfl .nil rfl rfl rfl ⟨by show ¬ (0 = 1); omega, rfl⟩⟩
            | skip
theorem sTry (tb : List Int) (ps : List TCube) (hps : ps.length ≤ 1000) (htb : tb.length ≤ 1000) (h01 : ∀ (i : Nat) (v : Int), tb[i]? = some v → v = 0 ∨ v = 1) (hcare : careOk ps) : ∀ (f i0 : Nat) (ch : List Nat) (b : Option (List Nat)), i0 + f = ps.length → rise 0 i0 ch → okB ps b → SpecM Tryz.prog 67 [.c (.ptr (pin 0) 0), .c (.d (iD i0)), .c (.d (.rd kCube ((cubs ps ch).map enCube)))] [(pin 0, .box 96 (boxT tb ps b))] (.tup []) [(pin 0, .box 96 (boxT tb ps (tryB (cvQ tb ps) (costQ ps) f i0 ch b)))] := by
  intro f
  induction f using Nat.strongRecOn with
  | _ f ih =>
  intro i0 ch b hf hch hb
  have hchl := rise_len hch
  have hcl := cubs_len ps ch
  have hapb : ((([] : List TCube).length + (cubs ps ch).length) * 16 ≤ 140737488355328 ∧ ([] : List TCube).length + (cubs ps ch).length ≤ 140737488355328) := by rw [List.length_nil, hcl]; omega
  have hchb : ∀ k ∈ ch, k < ps.length := rise_lt (rise_up hch (by omega))
  have hbl : ∀ x, b = some x → x.length ≤ 1000 ∧ (cubs ps x).length = x.length := fun x hx => ⟨by have := rise_len (hb x hx); omega, cubs_len ps x⟩
  by_cases hbig : ∀ x, b = some x → ch.length ≤ x.length
  case neg =>
    have hr : tryB (cvQ tb ps) (costQ ps) f i0 ch b = b := if_neg hbig
    rw [hr]
    obtain ⟨x, rfl, hx⟩ : ∃ x, b = some x ∧ x.length < ch.length := by
      cases b with
      | none => exact absurd (fun x hx => by cases hx) hbig
      | some x => exact ⟨x, rfl, Classical.byContradiction fun h => hbig fun y hy => by cases hy; omega⟩
    have hxl := cubs_len ps x
    have hxl2 : (cubs ps ((some x).getD [])).length = x.length := hxl
    refine SpecM.walk T.mixed Tryz.func67 S.ok67 (by simp [Tryz.f67]) fun hk => ?_
    clear hk ih
    unfold S.s67
    repeat' (first|refine R.mv rfl ?_|refine R.reg ?_|refine R.nil ?_|refine R.seq ?_|refine R.nseq ?_|refine R.skip ?_|refine R.blk ?_|refine R.gRun rfl ?_|refine R.ld rfl rfl rfl ?_|refine R.fa rfl rfl ?_|refine R.lenM rfl ?_|refine R.gtr rfl rfl ?_|refine R.pickT rfl rfl ?_|refine R.nc rfl rfl ?_|refine R.cond rfl (fun hc => ?_) (fun hc => ?_))
    all_goals first
      | (exfalso; omega)
      | exact R.ret ⟨.inr rfl, R.outR rfl .nil rfl rfl rfl ⟨by show ¬ (0 = 1); omega, rfl⟩⟩
      | skip
  have hfin : tryB (cvQ tb ps) (costQ ps) f i0 ch b = if cvQ tb ps ch then updS (costQ ps) b ch else loopB (cvQ tb ps) (costQ ps) f i0 ch b := if_pos hbig
  rw [hfin]
  have hrest := tryRest tb ps hps htb h01 hcare f ih i0 ch b hf hch hb hbig
  refine SpecM.walk T.mixed Tryz.func67 S.ok67 (by simp [Tryz.f67]) fun hk => ?_
  clear hk hfin ih
  unfold S.s67 at hrest ⊢
  dsimp only [tl2] at hrest
  cases b with
  | none =>
    repeat' (first|(refine R.nseqW ?_ hrest; exact Weak.frame _ _ ⟨rfl, rfl, rfl, trivial⟩ ⟨rfl, trivial⟩ rfl rfl)|refine R.mv rfl ?_|refine R.reg ?_|refine R.nil ?_|refine R.seq ?_|refine R.nseq ?_|refine R.skip ?_|refine R.gSkip rfl ?_|refine R.ld rfl rfl rfl ?_|refine R.fa rfl rfl ?_|refine R.pickF rfl rfl ?_|refine R.nc rfl rfl ?_|refine R.condF rfl ?_)
    all_goals first
      | (exfalso; omega)
      | skip
  | some x =>
    obtain ⟨hx1000, hxl⟩ := hbl x rfl
    have hle := hbig x rfl
    have hxl2 : (cubs ps ((some x).getD [])).length = x.length := hxl
    repeat' (first|(refine R.nseqW ?_ hrest; exact Weak.frame _ _ ⟨rfl, rfl, rfl, trivial⟩ ⟨rfl, trivial⟩ rfl rfl)|refine R.mv rfl ?_|refine R.reg ?_|refine R.nil ?_|refine R.seq ?_|refine R.nseq ?_|refine R.skip ?_|refine R.gRun rfl ?_|refine R.ld rfl rfl rfl ?_|refine R.fa rfl rfl ?_|refine R.lenM rfl ?_|refine R.gtr rfl rfl ?_|refine R.pickT rfl rfl ?_|refine R.nc rfl rfl ?_|refine R.cond rfl (fun hc => ?_) (fun hc => ?_))
    all_goals first
      | (exfalso; omega)
      | skip
end
end Go.Proofs.YtehkaajakapkmaaGreat
