/- Laws. -/
import Derived.Test.YtghpeccaknhjiaaPut2
import Derived.Test.YtghpeccaknhjiaaCnt2
namespace Go.Proofs.Ytghpeccaknhjiaa
open Go.RowKit
def S.t3_0 : OT SR := .take ⟨(.some 9), .none, .false, (.mv (.tmp 31))⟩ .done
def S.t3_1 : OT SR := .take ⟨.none, .none, .false, (.sto 1 (.tmp 8) (.tmp 30))⟩ S.t3_0
def S.t3_2 : OT SR := .take ⟨(.some 8), .none, .false, (.al 30 [(Go.Value.slice none 0 0)])⟩ S.t3_1
def S.t3_3 : OT SR := .take ⟨(.some 31), .none, .false, (.ext (.tmp 23) 1)⟩ S.t3_2
def S.t3_4 : OT SR := .take ⟨(.some 31), .none, .false, (.ext (.tmp 23) 1)⟩ S.t3_1
def S.t3_5 : OT SR := .take ⟨(.some 31), .none, .false, (.ext (.tmp 23) 1)⟩ S.t3_0
def S.t3_6 : OT SR := .take ⟨.none, .none, .false, (.sto 1 (.tmp 8) (.tmp 30))⟩ S.t3_5
def S.t3_7 : OT SR := .both S.t3_4 S.t3_6
def S.t3_8 : OT SR := .take ⟨(.some 8), .none, .false, (.al 30 [(Go.Value.slice none 0 0)])⟩ S.t3_7
def S.t3_9 : OT SR := .both S.t3_3 S.t3_8
def S.t3_10 : OT SR := .take ⟨(.some 30), .none, .false, (.ext (.tmp 23) 0)⟩ S.t3_9
def S.t3_11 : OT SR := .take ⟨(.some 30), .none, .false, (.ext (.tmp 23) 0)⟩ S.t3_2
def S.t3_12 : OT SR := .take ⟨(.some 30), .none, .false, (.ext (.tmp 23) 0)⟩ S.t3_1
def S.t3_13 : OT SR := .take ⟨(.some 8), .none, .false, (.al 30 [(Go.Value.slice none 0 0)])⟩ S.t3_12
def S.t3_14 : OT SR := .both S.t3_11 S.t3_13
def S.t3_15 : OT SR := .take ⟨(.some 31), .none, .false, (.ext (.tmp 23) 1)⟩ S.t3_14
def S.t3_16 : OT SR := .take ⟨(.some 30), .none, .false, (.ext (.tmp 23) 0)⟩ S.t3_7
def S.t3_17 : OT SR := .take ⟨(.some 31), .none, .false, (.ext (.tmp 23) 1)⟩ S.t3_12
def S.t3_18 : OT SR := .both S.t3_16 S.t3_17
def S.t3_19 : OT SR := .take ⟨(.some 8), .none, .false, (.al 30 [(Go.Value.slice none 0 0)])⟩ S.t3_18
def S.t3_20 : OT SR := .both S.t3_15 S.t3_19
def S.t3_21 : OT SR := .both S.t3_10 S.t3_20
def S.t3_22 : OT SR := .take ⟨(.some 23), .none, .false, (.mv (.tmp 29))⟩ S.t3_21
def S.t3_23 : OT SR := .take ⟨(.some 29), .none, .false, (.call (.func 7) [(.tmp 25), (.tmp 27), (.tmp 28)])⟩ S.t3_22
def S.t3_24 : OT SR := .take ⟨(.some 23), .none, .false, (.mv (.tmp 29))⟩ S.t3_18
def S.t3_25 : OT SR := .take ⟨(.some 29), .none, .false, (.call (.func 7) [(.tmp 25), (.tmp 27), (.tmp 28)])⟩ S.t3_24
def S.t3_26 : OT SR := .take ⟨(.some 8), .none, .false, (.al 30 [(Go.Value.slice none 0 0)])⟩ S.t3_25
def S.t3_27 : OT SR := .both S.t3_23 S.t3_26
def S.t3_28 : OT SR := .take ⟨(.some 27), .none, .false, (.call (.func 9) [(.tmp 26)])⟩ S.t3_27
def S.t3_29 : OT SR := .take ⟨(.some 27), .none, .false, (.call (.func 9) [(.tmp 26)])⟩ S.t3_25
def S.t3_30 : OT SR := .take ⟨(.some 8), .none, .false, (.al 30 [(Go.Value.slice none 0 0)])⟩ S.t3_29
def S.t3_31 : OT SR := .both S.t3_28 S.t3_30
def S.t3_32 : OT SR := .take ⟨(.some 25), .none, .false, (.call (.func 8) [(.tmp 24)])⟩ S.t3_31
def S.t3_33 : OT SR := .take ⟨(.some 25), .none, .false, (.call (.func 8) [(.tmp 24)])⟩ S.t3_29
def S.t3_34 : OT SR := .take ⟨(.some 8), .none, .false, (.al 30 [(Go.Value.slice none 0 0)])⟩ S.t3_33
def S.t3_35 : OT SR := .both S.t3_32 S.t3_34
def S.t3_36 : OT SR := .take ⟨(.some 26), .none, .false, (.ld .true 2 (.tmp 4))⟩ S.t3_35
def S.t3_37 : OT SR := .take ⟨(.some 26), .none, .false, (.ld .true 2 (.tmp 4))⟩ S.t3_31
def S.t3_38 : OT SR := .take ⟨(.some 26), .none, .false, (.ld .true 2 (.tmp 4))⟩ S.t3_29
def S.t3_39 : OT SR := .both S.t3_38 .vac
def S.t3_40 : OT SR := .take ⟨(.some 8), .none, .false, (.al 30 [(Go.Value.slice none 0 0)])⟩ S.t3_39
def S.t3_41 : OT SR := .both S.t3_37 S.t3_40
def S.t3_42 : OT SR := .take ⟨(.some 25), .none, .false, (.call (.func 8) [(.tmp 24)])⟩ S.t3_41
def S.t3_43 : OT SR := .take ⟨(.some 26), .none, .false, (.ld .true 2 (.tmp 4))⟩ S.t3_33
def S.t3_44 : OT SR := .take ⟨(.some 25), .none, .false, (.call (.func 8) [(.tmp 24)])⟩ S.t3_39
def S.t3_45 : OT SR := .both S.t3_43 S.t3_44
def S.t3_46 : OT SR := .take ⟨(.some 8), .none, .false, (.al 30 [(Go.Value.slice none 0 0)])⟩ S.t3_45
def S.t3_47 : OT SR := .both S.t3_42 S.t3_46
def S.t3_48 : OT SR := .both S.t3_36 S.t3_47
def S.t3_49 : OT SR := .take ⟨(.some 24), .none, .false, (.ld .true 1 (.tmp 3))⟩ S.t3_48
def S.t3_50 : OT SR := .take ⟨(.some 24), .none, .false, (.ld .true 1 (.tmp 3))⟩ S.t3_33
def S.t3_51 : OT SR := .both S.t3_50 .vac
def S.t3_52 : OT SR := .take ⟨(.some 8), .none, .false, (.al 30 [(Go.Value.slice none 0 0)])⟩ S.t3_51
def S.t3_53 : OT SR := .take ⟨(.some 26), .none, .false, (.ld .true 2 (.tmp 4))⟩ S.t3_52
def S.t3_54 : OT SR := .take ⟨(.some 24), .none, .false, (.ld .true 1 (.tmp 3))⟩ S.t3_45
def S.t3_55 : OT SR := .take ⟨(.some 26), .none, .false, (.ld .true 2 (.tmp 4))⟩ .vac
def S.t3_56 : OT SR := .both S.t3_55 .vac
def S.t3_57 : OT SR := .both S.t3_54 S.t3_56
def S.t3_58 : OT SR := .take ⟨(.some 8), .none, .false, (.al 30 [(Go.Value.slice none 0 0)])⟩ S.t3_57
def S.t3_59 : OT SR := .both S.t3_53 S.t3_58
def S.t3_60 : OT SR := .both S.t3_49 S.t3_59
def S.t3_61 : OT SR := .take ⟨(.some 28), .none, .false, (.mv (.tmp 2))⟩ S.t3_60
def S.t3_62 : OT SR := .take ⟨(.some 12), .none, .false, (.mv (.tmp 41))⟩ .done
def S.t3_63 : OT SR := .take ⟨.none, .none, .false, (.sto 1 (.tmp 11) (.tmp 40))⟩ S.t3_62
def S.t3_64 : OT SR := .take ⟨(.some 11), .none, .false, (.al 30 [(Go.Value.slice none 0 0)])⟩ S.t3_63
def S.t3_65 : OT SR := .take ⟨(.some 41), .none, .false, (.ext (.tmp 34) 1)⟩ S.t3_64
def S.t3_66 : OT SR := .take ⟨(.some 41), .none, .false, (.ext (.tmp 34) 1)⟩ S.t3_63
def S.t3_67 : OT SR := .take ⟨(.some 41), .none, .false, (.ext (.tmp 34) 1)⟩ S.t3_62
def S.t3_68 : OT SR := .take ⟨.none, .none, .false, (.sto 1 (.tmp 11) (.tmp 40))⟩ S.t3_67
def S.t3_69 : OT SR := .both S.t3_66 S.t3_68
def S.t3_70 : OT SR := .take ⟨(.some 11), .none, .false, (.al 30 [(Go.Value.slice none 0 0)])⟩ S.t3_69
def S.t3_71 : OT SR := .both S.t3_65 S.t3_70
def S.t3_72 : OT SR := .take ⟨(.some 40), .none, .false, (.ext (.tmp 34) 0)⟩ S.t3_71
def S.t3_73 : OT SR := .take ⟨(.some 40), .none, .false, (.ext (.tmp 34) 0)⟩ S.t3_64
def S.t3_74 : OT SR := .take ⟨(.some 40), .none, .false, (.ext (.tmp 34) 0)⟩ S.t3_63
def S.t3_75 : OT SR := .take ⟨(.some 11), .none, .false, (.al 30 [(Go.Value.slice none 0 0)])⟩ S.t3_74
def S.t3_76 : OT SR := .both S.t3_73 S.t3_75
def S.t3_77 : OT SR := .take ⟨(.some 41), .none, .false, (.ext (.tmp 34) 1)⟩ S.t3_76
def S.t3_78 : OT SR := .take ⟨(.some 40), .none, .false, (.ext (.tmp 34) 0)⟩ S.t3_69
def S.t3_79 : OT SR := .take ⟨(.some 41), .none, .false, (.ext (.tmp 34) 1)⟩ S.t3_74
def S.t3_80 : OT SR := .both S.t3_78 S.t3_79
def S.t3_81 : OT SR := .take ⟨(.some 11), .none, .false, (.al 30 [(Go.Value.slice none 0 0)])⟩ S.t3_80
def S.t3_82 : OT SR := .both S.t3_77 S.t3_81
def S.t3_83 : OT SR := .both S.t3_72 S.t3_82
def S.t3_84 : OT SR := .take ⟨(.some 34), .none, .false, (.mv (.tmp 39))⟩ S.t3_83
def S.t3_85 : OT SR := .take ⟨(.some 39), .none, .false, (.call (.func 10) [(.tmp 35), (.tmp 37), (.tmp 38)])⟩ S.t3_84
def S.t3_86 : OT SR := .take ⟨(.some 34), .none, .false, (.mv (.tmp 39))⟩ S.t3_80
def S.t3_87 : OT SR := .take ⟨(.some 39), .none, .false, (.call (.func 10) [(.tmp 35), (.tmp 37), (.tmp 38)])⟩ S.t3_86
def S.t3_88 : OT SR := .take ⟨(.some 11), .none, .false, (.al 30 [(Go.Value.slice none 0 0)])⟩ S.t3_87
def S.t3_89 : OT SR := .both S.t3_85 S.t3_88
def S.t3_90 : OT SR := .take ⟨(.some 37), .none, .false, (.call (.func 9) [(.tmp 36)])⟩ S.t3_89
def S.t3_91 : OT SR := .take ⟨(.some 37), .none, .false, (.call (.func 9) [(.tmp 36)])⟩ S.t3_87
def S.t3_92 : OT SR := .take ⟨(.some 11), .none, .false, (.al 30 [(Go.Value.slice none 0 0)])⟩ S.t3_91
def S.t3_93 : OT SR := .both S.t3_90 S.t3_92
def S.t3_94 : OT SR := .take ⟨(.some 36), .none, .false, (.ld .true 2 (.tmp 4))⟩ S.t3_93
def S.t3_95 : OT SR := .take ⟨(.some 36), .none, .false, (.ld .true 2 (.tmp 4))⟩ S.t3_91
def S.t3_96 : OT SR := .both S.t3_95 .vac
def S.t3_97 : OT SR := .take ⟨(.some 11), .none, .false, (.al 30 [(Go.Value.slice none 0 0)])⟩ S.t3_96
def S.t3_98 : OT SR := .both S.t3_94 S.t3_97
def S.t3_99 : OT SR := .take ⟨(.some 35), .none, .false, (.ld .true 1 (.tmp 10))⟩ S.t3_98
def S.t3_100 : OT SR := .take ⟨(.some 35), .none, .false, (.ld .true 1 (.tmp 10))⟩ S.t3_89
def S.t3_101 : OT SR := .take ⟨(.some 35), .none, .false, (.ld .true 1 (.tmp 10))⟩ S.t3_87
def S.t3_102 : OT SR := .both S.t3_101 .vac
def S.t3_103 : OT SR := .take ⟨(.some 11), .none, .false, (.al 30 [(Go.Value.slice none 0 0)])⟩ S.t3_102
def S.t3_104 : OT SR := .both S.t3_100 S.t3_103
def S.t3_105 : OT SR := .take ⟨(.some 37), .none, .false, (.call (.func 9) [(.tmp 36)])⟩ S.t3_104
def S.t3_106 : OT SR := .take ⟨(.some 35), .none, .false, (.ld .true 1 (.tmp 10))⟩ S.t3_91
def S.t3_107 : OT SR := .take ⟨(.some 37), .none, .false, (.call (.func 9) [(.tmp 36)])⟩ S.t3_102
def S.t3_108 : OT SR := .both S.t3_106 S.t3_107
def S.t3_109 : OT SR := .take ⟨(.some 11), .none, .false, (.al 30 [(Go.Value.slice none 0 0)])⟩ S.t3_108
def S.t3_110 : OT SR := .both S.t3_105 S.t3_109
def S.t3_111 : OT SR := .take ⟨(.some 36), .none, .false, (.ld .true 2 (.tmp 4))⟩ S.t3_110
def S.t3_112 : OT SR := .take ⟨(.some 35), .none, .false, (.ld .true 1 (.tmp 10))⟩ S.t3_96
def S.t3_113 : OT SR := .take ⟨(.some 36), .none, .false, (.ld .true 2 (.tmp 4))⟩ S.t3_107
def S.t3_114 : OT SR := .both S.t3_113 .vac
def S.t3_115 : OT SR := .both S.t3_112 S.t3_114
def S.t3_116 : OT SR := .take ⟨(.some 11), .none, .false, (.al 30 [(Go.Value.slice none 0 0)])⟩ S.t3_115
def S.t3_117 : OT SR := .both S.t3_111 S.t3_116
def S.t3_118 : OT SR := .both S.t3_99 S.t3_117
def S.t3_119 : OT SR := .take ⟨(.some 38), .none, .false, (.mv (.tmp 2))⟩ S.t3_118
def S.t3_120 : OT SR := .take ⟨(.some 17), .none, .false, (.mv (.tmp 91))⟩ .done
def S.t3_121 : OT SR := .take ⟨.none, .none, .false, (.sto 1 (.tmp 16) (.tmp 90))⟩ S.t3_120
def S.t3_122 : OT SR := .take ⟨(.some 16), .none, .false, (.al 30 [(Go.Value.slice none 0 0)])⟩ S.t3_121
def S.t3_123 : OT SR := .take ⟨(.some 91), .none, .false, (.ext (.tmp 83) 1)⟩ S.t3_122
def S.t3_124 : OT SR := .take ⟨(.some 91), .none, .false, (.ext (.tmp 83) 1)⟩ S.t3_121
def S.t3_125 : OT SR := .take ⟨(.some 91), .none, .false, (.ext (.tmp 83) 1)⟩ S.t3_120
def S.t3_126 : OT SR := .take ⟨.none, .none, .false, (.sto 1 (.tmp 16) (.tmp 90))⟩ S.t3_125
def S.t3_127 : OT SR := .both S.t3_124 S.t3_126
def S.t3_128 : OT SR := .take ⟨(.some 16), .none, .false, (.al 30 [(Go.Value.slice none 0 0)])⟩ S.t3_127
def S.t3_129 : OT SR := .both S.t3_123 S.t3_128
def S.t3_130 : OT SR := .take ⟨(.some 90), .none, .false, (.ext (.tmp 83) 0)⟩ S.t3_129
def S.t3_131 : OT SR := .take ⟨(.some 90), .none, .false, (.ext (.tmp 83) 0)⟩ S.t3_122
def S.t3_132 : OT SR := .take ⟨(.some 90), .none, .false, (.ext (.tmp 83) 0)⟩ S.t3_121
def S.t3_133 : OT SR := .take ⟨(.some 16), .none, .false, (.al 30 [(Go.Value.slice none 0 0)])⟩ S.t3_132
def S.t3_134 : OT SR := .both S.t3_131 S.t3_133
def S.t3_135 : OT SR := .take ⟨(.some 91), .none, .false, (.ext (.tmp 83) 1)⟩ S.t3_134
def S.t3_136 : OT SR := .take ⟨(.some 90), .none, .false, (.ext (.tmp 83) 0)⟩ S.t3_127
def S.t3_137 : OT SR := .take ⟨(.some 91), .none, .false, (.ext (.tmp 83) 1)⟩ S.t3_132
def S.t3_138 : OT SR := .both S.t3_136 S.t3_137
def S.t3_139 : OT SR := .take ⟨(.some 16), .none, .false, (.al 30 [(Go.Value.slice none 0 0)])⟩ S.t3_138
def S.t3_140 : OT SR := .both S.t3_135 S.t3_139
def S.t3_141 : OT SR := .both S.t3_130 S.t3_140
def S.t3_142 : OT SR := .take ⟨(.some 83), .none, .false, (.mv (.tmp 89))⟩ S.t3_141
def S.t3_143 : OT SR := .take ⟨(.some 89), .none, .false, (.call (.func 10) [(.tmp 85), (.tmp 87), (.tmp 88)])⟩ S.t3_142
def S.t3_144 : OT SR := .take ⟨(.some 83), .none, .false, (.mv (.tmp 89))⟩ S.t3_138
def S.t3_145 : OT SR := .take ⟨(.some 89), .none, .false, (.call (.func 10) [(.tmp 85), (.tmp 87), (.tmp 88)])⟩ S.t3_144
def S.t3_146 : OT SR := .take ⟨(.some 16), .none, .false, (.al 30 [(Go.Value.slice none 0 0)])⟩ S.t3_145
def S.t3_147 : OT SR := .both S.t3_143 S.t3_146
def S.t3_148 : OT SR := .take ⟨(.some 87), .none, .false, (.call (.func 9) [(.tmp 86)])⟩ S.t3_147
def S.t3_149 : OT SR := .take ⟨(.some 87), .none, .false, (.call (.func 9) [(.tmp 86)])⟩ S.t3_145
def S.t3_150 : OT SR := .take ⟨(.some 16), .none, .false, (.al 30 [(Go.Value.slice none 0 0)])⟩ S.t3_149
def S.t3_151 : OT SR := .both S.t3_148 S.t3_150
def S.t3_152 : OT SR := .take ⟨(.some 85), .none, .false, (.call (.func 8) [(.tmp 84)])⟩ S.t3_151
def S.t3_153 : OT SR := .take ⟨(.some 85), .none, .false, (.call (.func 8) [(.tmp 84)])⟩ S.t3_149
def S.t3_154 : OT SR := .take ⟨(.some 16), .none, .false, (.al 30 [(Go.Value.slice none 0 0)])⟩ S.t3_153
def S.t3_155 : OT SR := .both S.t3_152 S.t3_154
def S.t3_156 : OT SR := .take ⟨(.some 86), .none, .false, (.ld .true 2 (.tmp 4))⟩ S.t3_155
def S.t3_157 : OT SR := .take ⟨(.some 86), .none, .false, (.ld .true 2 (.tmp 4))⟩ S.t3_151
def S.t3_158 : OT SR := .take ⟨(.some 86), .none, .false, (.ld .true 2 (.tmp 4))⟩ S.t3_149
def S.t3_159 : OT SR := .both S.t3_158 .vac
def S.t3_160 : OT SR := .take ⟨(.some 16), .none, .false, (.al 30 [(Go.Value.slice none 0 0)])⟩ S.t3_159
def S.t3_161 : OT SR := .both S.t3_157 S.t3_160
def S.t3_162 : OT SR := .take ⟨(.some 85), .none, .false, (.call (.func 8) [(.tmp 84)])⟩ S.t3_161
def S.t3_163 : OT SR := .take ⟨(.some 86), .none, .false, (.ld .true 2 (.tmp 4))⟩ S.t3_153
def S.t3_164 : OT SR := .take ⟨(.some 85), .none, .false, (.call (.func 8) [(.tmp 84)])⟩ S.t3_159
def S.t3_165 : OT SR := .both S.t3_163 S.t3_164
def S.t3_166 : OT SR := .take ⟨(.some 16), .none, .false, (.al 30 [(Go.Value.slice none 0 0)])⟩ S.t3_165
def S.t3_167 : OT SR := .both S.t3_162 S.t3_166
def S.t3_168 : OT SR := .both S.t3_156 S.t3_167
def S.t3_169 : OT SR := .take ⟨(.some 84), .none, .false, (.ld .true 1 (.tmp 3))⟩ S.t3_168
def S.t3_170 : OT SR := .take ⟨(.some 84), .none, .false, (.ld .true 1 (.tmp 3))⟩ S.t3_153
def S.t3_171 : OT SR := .both S.t3_170 .vac
def S.t3_172 : OT SR := .take ⟨(.some 16), .none, .false, (.al 30 [(Go.Value.slice none 0 0)])⟩ S.t3_171
def S.t3_173 : OT SR := .take ⟨(.some 86), .none, .false, (.ld .true 2 (.tmp 4))⟩ S.t3_172
def S.t3_174 : OT SR := .take ⟨(.some 84), .none, .false, (.ld .true 1 (.tmp 3))⟩ S.t3_165
def S.t3_175 : OT SR := .take ⟨(.some 86), .none, .false, (.ld .true 2 (.tmp 4))⟩ .vac
def S.t3_176 : OT SR := .both S.t3_175 .vac
def S.t3_177 : OT SR := .both S.t3_174 S.t3_176
def S.t3_178 : OT SR := .take ⟨(.some 16), .none, .false, (.al 30 [(Go.Value.slice none 0 0)])⟩ S.t3_177
def S.t3_179 : OT SR := .both S.t3_173 S.t3_178
def S.t3_180 : OT SR := .both S.t3_169 S.t3_179
def S.t3_181 : OT SR := .take ⟨(.some 88), .none, .false, (.mv (.tmp 2))⟩ S.t3_180
set_option maxRecDepth 100000 in
def S.s3 : SC := (.seq (.reg [⟨(.some 3), .none, .false, (.box 24 (.tmp 0))⟩, ⟨(.some 4), .none, .false, (.box 26 (.tmp 1))⟩, ⟨(.some 6), .none, .false, (.mv (.const (Go.Value.bool false)))⟩]) (.seq (.reg [⟨(.some 7), .none, .false, (.mv (.const (Go.Value.int Go.IntKind.i64 1048576)))⟩]) (.seq (.reg [⟨(.some 18), .none, .false, (.ld .true 1 (.tmp 3))⟩, ⟨(.some 19), .none, .false, (.mv (.tmp 7))⟩, ⟨(.some 20), .none, .false, (.call (.func 6) [(.tmp 18), (.tmp 19)])⟩, ⟨(.some 7), .none, .false, (.mv (.tmp 20))⟩]) (.seq (.seq (.reg [⟨(.some 21), .none, .false, (.mv (.tmp 7))⟩, ⟨(.some 22), .none, .false, (.bin .lss (.tmp 21) (.const (Go.Value.int Go.IntKind.i64 0)))⟩]) (.cond (.tmp 22) (.seq (.reg [⟨(.some 6), .none, .false, (.mv (.const (Go.Value.bool true)))⟩]) .ret) .skip)) (.seq (.regO S.t3_61) (.seq (.reg [⟨(.some 32), .none, .false, (.ld .true 1 (.tmp 3))⟩, ⟨(.some 33), .none, .false, (.call (.func 8) [(.tmp 32)])⟩, ⟨(.some 10), .none, .false, (.al 30 [(Go.Value.slice none 0 0)])⟩, ⟨.none, .none, .false, (.sto 1 (.tmp 10) (.tmp 33))⟩]) (.seq (.regO S.t3_119) (.seq (.seq (.reg [⟨(.some 42), .none, .false, (.ld .true 1 (.tmp 11))⟩, ⟨(.some 43), .none, .false, (.ld .true 1 (.tmp 8))⟩, ⟨(.some 44), .none, .false, (.call (.func 11) [(.tmp 42), (.tmp 43)])⟩, ⟨(.some 45), .none, .false, (.not (.tmp 44))⟩, ⟨(.some 46), .none, .false, (.mv (.tmp 45))⟩, ⟨(.some 47), (.some (46, .false)), .false, (.mv (.tmp 12))⟩, ⟨(.some 48), (.some (46, .false)), .false, (.mv (.tmp 9))⟩, ⟨(.some 49), (.some (46, .false)), .false, (.bin .neq (.tmp 47) (.tmp 48))⟩, ⟨(.some 50), .none, .false, (.pick (.tmp 46) (.const (Go.Value.bool true)) (.tmp 49))⟩]) (.cond (.tmp 50) (.seq (.reg [⟨(.some 6), .none, .false, (.mv (.const (Go.Value.bool false)))⟩]) .ret) .skip)) (.seq (.seq (.reg [⟨(.some 51), .none, .true, (.ld .true 1 (.tmp 10))⟩, ⟨(.some 52), .none, .true, (.ld .true 1 (.tmp 3))⟩, ⟨(.some 53), .none, .true, (.fcal (.func 8) [(.tmp 52)])⟩, ⟨(.some 54), .none, .false, (.call (.func 11) [(.tmp 51), (.tmp 53)])⟩, ⟨(.some 55), .none, .false, (.not (.tmp 54))⟩]) (.cond (.tmp 55) (.seq (.reg [⟨(.some 6), .none, .false, (.mv (.const (Go.Value.bool false)))⟩]) .ret) .skip)) (.seq (.reg [⟨(.some 13), .none, .false, (.mv (.const (Go.Value.int Go.IntKind.i64 1)))⟩]) (.seq (.reg [⟨(.some 56), .none, .false, (.ld .true 1 (.tmp 10))⟩, ⟨(.some 57), .none, .false, (.mv (.tmp 13))⟩, ⟨(.some 58), .none, .false, (.call (.func 12) [(.tmp 56), (.tmp 57)])⟩, ⟨(.some 13), .none, .false, (.mv (.tmp 58))⟩]) (.seq (.seq (.reg [⟨(.some 59), .none, .false, (.mv (.tmp 13))⟩, ⟨(.some 60), .none, .false, (.bin .lss (.tmp 59) (.const (Go.Value.int Go.IntKind.i64 0)))⟩, ⟨(.some 61), .none, .false, (.mv (.tmp 60))⟩, ⟨(.some 62), (.some (61, .false)), .false, (.ld .true 1 (.tmp 11))⟩, ⟨(.some 63), (.some (61, .false)), .false, (.ld .true 1 (.tmp 8))⟩, ⟨(.some 64), (.some (61, .false)), .false, (.call (.func 11) [(.tmp 62), (.tmp 63)])⟩, ⟨(.some 65), (.some (61, .false)), .false, (.not (.tmp 64))⟩, ⟨(.some 66), .none, .false, (.pick (.tmp 61) (.const (Go.Value.bool true)) (.tmp 65))⟩, ⟨(.some 67), .none, .false, (.mv (.tmp 66))⟩, ⟨(.some 68), (.some (67, .false)), .false, (.mv (.tmp 12))⟩, ⟨(.some 69), (.some (67, .false)), .false, (.mv (.tmp 9))⟩, ⟨(.some 70), (.some (67, .false)), .false, (.bin .neq (.tmp 68) (.tmp 69))⟩, ⟨(.some 71), .none, .false, (.pick (.tmp 67) (.const (Go.Value.bool true)) (.tmp 70))⟩]) (.cond (.tmp 71) (.seq (.reg [⟨(.some 6), .none, .false, (.mv (.const (Go.Value.bool false)))⟩]) .ret) .skip)) (.seq (.reg [⟨(.some 14), .none, .false, (.mv (.const (Go.Value.int Go.IntKind.i64 1)))⟩]) (.seq (.reg [⟨(.some 72), .none, .false, (.ld .true 1 (.tmp 11))⟩, ⟨(.some 73), .none, .false, (.mv (.tmp 14))⟩, ⟨(.some 74), .none, .false, (.call (.func 12) [(.tmp 72), (.tmp 73)])⟩, ⟨(.some 14), .none, .false, (.mv (.tmp 74))⟩]) (.seq (.reg [⟨(.some 15), .none, .false, (.mv (.const (Go.Value.int Go.IntKind.i64 1)))⟩]) (.seq (.reg [⟨(.some 75), .none, .false, (.ld .true 1 (.tmp 11))⟩, ⟨(.some 76), .none, .false, (.mv (.tmp 15))⟩, ⟨(.some 77), .none, .false, (.call (.func 13) [(.tmp 75), (.tmp 76)])⟩, ⟨(.some 15), .none, .false, (.mv (.tmp 77))⟩]) (.seq (.seq (.reg [⟨(.some 78), .none, .false, (.mv (.tmp 15))⟩, ⟨(.some 79), .none, .false, (.bin .lss (.tmp 78) (.const (Go.Value.int Go.IntKind.i64 0)))⟩]) (.cond (.tmp 79) (.seq (.reg [⟨(.some 6), .none, .false, (.mv (.const (Go.Value.bool false)))⟩]) .ret) .skip)) (.seq (.seq (.reg [⟨(.some 80), .none, .false, (.mv (.tmp 15))⟩, ⟨(.some 81), .none, .false, (.mv (.tmp 14))⟩, ⟨(.some 82), .none, .false, (.bin .neq (.tmp 80) (.tmp 81))⟩]) (.cond (.tmp 82) (.seq (.reg [⟨(.some 6), .none, .false, (.mv (.const (Go.Value.bool false)))⟩]) .ret) .skip)) (.seq (.regO S.t3_181) (.seq (.seq (.reg [⟨(.some 92), .none, .false, (.ld .true 1 (.tmp 16))⟩, ⟨(.some 93), .none, .false, (.ld .true 1 (.tmp 8))⟩, ⟨(.some 94), .none, .false, (.call (.func 11) [(.tmp 92), (.tmp 93)])⟩, ⟨(.some 95), .none, .false, (.not (.tmp 94))⟩, ⟨(.some 96), .none, .false, (.mv (.tmp 95))⟩, ⟨(.some 97), (.some (96, .false)), .false, (.mv (.tmp 17))⟩, ⟨(.some 98), (.some (96, .false)), .false, (.mv (.tmp 9))⟩, ⟨(.some 99), (.some (96, .false)), .false, (.bin .neq (.tmp 97) (.tmp 98))⟩, ⟨(.some 100), .none, .false, (.pick (.tmp 96) (.const (Go.Value.bool true)) (.tmp 99))⟩]) (.cond (.tmp 100) (.seq (.reg [⟨(.some 6), .none, .false, (.mv (.const (Go.Value.bool false)))⟩]) .ret) .skip)) (.seq (.reg [⟨(.some 15), .none, .false, (.mv (.const (Go.Value.int Go.IntKind.i64 1)))⟩]) (.seq (.reg [⟨(.some 101), .none, .false, (.ld .true 1 (.tmp 11))⟩, ⟨(.some 102), .none, .false, (.mv (.tmp 15))⟩, ⟨(.some 103), .none, .false, (.call (.func 13) [(.tmp 101), (.tmp 102)])⟩, ⟨(.some 15), .none, .false, (.mv (.tmp 103))⟩]) (.seq (.seq (.reg [⟨(.some 104), .none, .false, (.mv (.tmp 15))⟩, ⟨(.some 105), .none, .false, (.bin .lss (.tmp 104) (.const (Go.Value.int Go.IntKind.i64 0)))⟩]) (.cond (.tmp 105) (.seq (.reg [⟨(.some 6), .none, .false, (.mv (.const (Go.Value.bool false)))⟩]) .ret) .skip)) (.seq (.seq (.reg [⟨(.some 106), .none, .false, (.mv (.tmp 15))⟩, ⟨(.some 107), .none, .false, (.mv (.tmp 14))⟩, ⟨(.some 108), .none, .false, (.bin .neq (.tmp 106) (.tmp 107))⟩]) (.cond (.tmp 108) (.seq (.reg [⟨(.some 6), .none, .false, (.mv (.const (Go.Value.bool false)))⟩]) .ret) .skip)) (.seq (.reg [⟨(.some 6), .none, .false, (.mv (.const (Go.Value.bool true)))⟩]) .ret)))))))))))))))))))))))))
set_option maxRecDepth 100000 in
theorem S.ok3 : stripF Try.prog Try.f3 = some S.s3 := by kernel_rfl
set_option maxRecDepth 10000
set_option maxHeartbeats 4000000
theorem law_PutTile (x0 : TAssembly) (x1 : TPoint) (x2 : Int) : Spec Try.prog 3 [.agg (enAssembly x0), .agg (enPoint x1), vI x2] (oB true) := by
  refine Spec.walk T.mixed Try.func3 S.ok3 (by simp [Try.f3]) fun hk => ?_
  have hr0 : rng 1048576 := ⟨by omega, by omega⟩
  unfold S.s3
  repeat' (first | refine R.mv rfl ?_ | refine R.reg ?_ | refine R.tk ?_ | refine R.tkN ?_ | exact R.vac | refine R.both ?_ ?_ | refine R.nil ?_ | refine R.seq ?_ | refine R.nseq ?_ | refine R.nblk ?_ | refine R.skip ?_ | refine R.blk ?_ | refine R.exit rfl ?_ | refine R.gRun rfl ?_ | refine R.gSkip rfl ?_ | refine R.gSkip0 rfl ?_ | refine R.gUndef rfl ?_ | refine R.gUndef0 rfl ?_ | refine R.ldEp rfl rfl (by assumption) rfl rfl ?_ | refine R.ldaEp rfl rfl (by assumption) (Nat.le_of_ble_eq_true rfl) rfl rfl ?_ | refine R.ld rfl rfl rfl ?_ | refine R.lda rfl rfl (Nat.le_of_ble_eq_true rfl) rfl ?_ | refine R.lss rfl rfl ?_ | refine R.neq rfl rfl ?_ | refine R.pickT rfl rfl ?_ | refine R.pickF rfl rfl ?_ | refine R.not rfl ?_ | refine R.mvU rfl ?_ | refine R.ext rfl rfl ?_ | refine R.al rfl ?_ | refine R.box rfl rfl rfl ?_ | refine R.stoB rfl rfl rfl rfl ⟨rfl, rfl, Nat.le_of_ble_eq_true rfl⟩ rfl ?_ | refine R.stoE _ rfl rfl rfl rfl rfl (by assumption) rfl ⟨rfl, rfl, Nat.le_of_ble_eq_true rfl⟩ ?_ | refine R.condT rfl ?_ | refine R.condF rfl ?_ | refine R.call (bor := false) rfl rfl (szAssembly_ok _ _ hr0) rfl rfl rfl ?_ | refine R.call (bor := true) rfl rfl (szAssembly_ok _ _ hr0) rfl rfl rfl ?_ | refine R.fcal (bor := false) rfl rfl (szAssembly_ok _ _ hr0) rfl rfl rfl ?_ | refine R.fcal (bor := true) rfl rfl (szAssembly_ok _ _ hr0) rfl rfl rfl ?_ | refine R.cond rfl (fun hc => ?_) (fun hc => ?_) | refine R.condN rfl (fun hc => ?_) (fun hc => ?_) | refine R.condB rfl (fun hc => ?_) (fun hc => ?_) | refine R.gP rfl (fun hc => ?_) (fun hc => ?_) | refine R.gN rfl (fun hc => ?_) (fun hc => ?_) | refine R.gB rfl (fun hc => ?_) (fun hc => ?_))
  · exact R.ret ⟨.inr rfl, R.outB rfl rfl rfl⟩
  have hbx0 := gdAssembly x0 _ hr0 (by omega)
  have hr1 := rngAssembly x0 _ hr0
  have hlx00 : x0.fTiles.length ≤ 1048576 := hbx0
  have hcx00 : cnt cPlaced x0.fTiles ≤ 100000000 := by rw [cnt_const (c := cPlaced) (K := 3) fun _ => rfl]; omega
  have hnx0 : cnAssembly x0 = cnt cPlaced x0.fTiles := rfl
  have hrl0 : (TAssembly.mk (fPut x0 x1 x2).1).fTiles.length ≤ 1048576 := Nat.le_trans fPut_len (by omega)
  have hrc0 : cnt cPlaced (TAssembly.mk (fPut x0 x1 x2).1).fTiles ≤ 100000000 := by rw [cnt_const (c := cPlaced) (K := 3) fun _ => rfl]; omega
  have hrn : cnAssembly (TAssembly.mk (fPut x0 x1 x2).1) = cnt cPlaced (TAssembly.mk (fPut x0 x1 x2).1).fTiles := rfl
  clear hk
  refine R.regO (⟨frE [(2, pvA (.int .i64 x2)), (3, .v (.c (.ptr 3 0))), (4, .v (.c (.ptr 4 0))), (8, .v (.c (.ptr 8 0))), (9, pvA (.int .i64 (fPut x0 x1 x2).2))], frO [(3, .box 24 ((enAssembly x0).map B.d)), (4, .box 26 ((enPoint x1).map B.d)), (8, .box 30 [.own 31000]), (31000, .arr kPlaced ((fPut x0 x1 x2).1.map enPlaced) [])]⟩) ?_ ?_
  · repeat' (first | refine R.mv rfl ?_ | refine R.reg ?_ | refine R.tk ?_ | refine R.tkN ?_ | exact R.vac | refine R.both ?_ ?_ | refine R.nil ?_ | refine R.seq ?_ | refine R.nseq ?_ | refine R.nblk ?_ | refine R.skip ?_ | refine R.blk ?_ | refine R.exit rfl ?_ | refine R.gRun rfl ?_ | refine R.gSkip rfl ?_ | refine R.gSkip0 rfl ?_ | refine R.gUndef rfl ?_ | refine R.gUndef0 rfl ?_ | refine R.ldEp rfl rfl (by assumption) rfl rfl ?_ | refine R.ldaEp rfl rfl (by assumption) (Nat.le_of_ble_eq_true rfl) rfl rfl ?_ | refine R.ld rfl rfl rfl ?_ | refine R.lda rfl rfl (Nat.le_of_ble_eq_true rfl) rfl ?_ | refine R.lss rfl rfl ?_ | refine R.neq rfl rfl ?_ | refine R.pickT rfl rfl ?_ | refine R.pickF rfl rfl ?_ | refine R.not rfl ?_ | refine R.mvU rfl ?_ | refine R.ext rfl rfl ?_ | refine R.al rfl ?_ | refine R.box rfl rfl rfl ?_ | refine R.stoB rfl rfl rfl rfl ⟨rfl, rfl, Nat.le_of_ble_eq_true rfl⟩ rfl ?_ | refine R.stoE _ rfl rfl rfl rfl rfl (by assumption) rfl ⟨rfl, rfl, Nat.le_of_ble_eq_true rfl⟩ ?_ | refine R.condT rfl ?_ | refine R.condF rfl ?_ | refine R.callN1 (bor := false) rfl rfl (toAssembly_ok _ hbx0) rfl rfl ?_ | refine R.callN1 (bor := true) rfl rfl (toAssembly_ok _ hbx0) rfl rfl ?_ | refine R.callN (bor := false) rfl rfl (toAssembly_ok _ hbx0) rfl rfl rfl rfl rfl ?_ | refine R.callN (bor := true) rfl rfl (toAssembly_ok _ hbx0) rfl rfl rfl rfl rfl ?_ | refine R.call (bor := false) rfl rfl (toPoint_ok _) rfl rfl rfl ?_ | refine R.call (bor := true) rfl rfl (toPoint_ok _) rfl rfl rfl ?_ | refine R.fcal (bor := false) rfl rfl (toPoint_ok _) rfl rfl rfl ?_ | refine R.fcal (bor := true) rfl rfl (toPoint_ok _) rfl rfl rfl ?_ | refine R.callN1 (bor := false) rfl rfl (sPut _ _ _) rfl rfl ?_ | refine R.callN1 (bor := true) rfl rfl (sPut _ _ _) rfl rfl ?_ | refine R.callN (bor := false) rfl rfl (sPut _ _ _) rfl rfl rfl rfl rfl ?_ | refine R.callN (bor := true) rfl rfl (sPut _ _ _) rfl rfl rfl rfl rfl ?_ | refine R.cond rfl (fun hc => ?_) (fun hc => ?_) | refine R.condN rfl (fun hc => ?_) (fun hc => ?_) | refine R.condB rfl (fun hc => ?_) (fun hc => ?_) | refine R.gP rfl (fun hc => ?_) (fun hc => ?_) | refine R.gN rfl (fun hc => ?_) (fun hc => ?_) | refine R.gB rfl (fun hc => ?_) (fun hc => ?_))
    all_goals exact R.done (Weak.frame _ _ ⟨rfl, rfl, rfl, rfl, rfl, trivial⟩ ⟨rfl, rfl, rfl, rfl, trivial⟩ rfl rfl)
  repeat' (first | refine R.mv rfl ?_ | refine R.reg ?_ | refine R.tk ?_ | refine R.tkN ?_ | exact R.vac | refine R.both ?_ ?_ | refine R.nil ?_ | refine R.seq ?_ | refine R.nseq ?_ | refine R.nblk ?_ | refine R.skip ?_ | refine R.blk ?_ | refine R.exit rfl ?_ | refine R.gRun rfl ?_ | refine R.gSkip rfl ?_ | refine R.gSkip0 rfl ?_ | refine R.gUndef rfl ?_ | refine R.gUndef0 rfl ?_ | refine R.ldEp rfl rfl (by assumption) rfl rfl ?_ | refine R.ldaEp rfl rfl (by assumption) (Nat.le_of_ble_eq_true rfl) rfl rfl ?_ | refine R.ld rfl rfl rfl ?_ | refine R.lda rfl rfl (Nat.le_of_ble_eq_true rfl) rfl ?_ | refine R.lss rfl rfl ?_ | refine R.neq rfl rfl ?_ | refine R.pickT rfl rfl ?_ | refine R.pickF rfl rfl ?_ | refine R.not rfl ?_ | refine R.mvU rfl ?_ | refine R.ext rfl rfl ?_ | refine R.al rfl ?_ | refine R.box rfl rfl rfl ?_ | refine R.stoB rfl rfl rfl rfl ⟨rfl, rfl, Nat.le_of_ble_eq_true rfl⟩ rfl ?_ | refine R.stoE _ rfl rfl rfl rfl rfl (by assumption) rfl ⟨rfl, rfl, Nat.le_of_ble_eq_true rfl⟩ ?_ | refine R.condT rfl ?_ | refine R.condF rfl ?_ | refine R.callN1 (bor := false) rfl rfl (toAssembly_ok _ hbx0) rfl rfl ?_ | refine R.callN1 (bor := true) rfl rfl (toAssembly_ok _ hbx0) rfl rfl ?_ | refine R.callN (bor := false) rfl rfl (toAssembly_ok _ hbx0) rfl rfl rfl rfl rfl ?_ | refine R.callN (bor := true) rfl rfl (toAssembly_ok _ hbx0) rfl rfl rfl rfl rfl ?_ | refine R.cond rfl (fun hc => ?_) (fun hc => ?_) | refine R.condN rfl (fun hc => ?_) (fun hc => ?_) | refine R.condB rfl (fun hc => ?_) (fun hc => ?_) | refine R.gP rfl (fun hc => ?_) (fun hc => ?_) | refine R.gN rfl (fun hc => ?_) (fun hc => ?_) | refine R.gB rfl (fun hc => ?_) (fun hc => ?_))
  refine R.regO (⟨frE [(2, pvA (.int .i64 x2)), (3, .v (.c (.ptr 3 0))), (4, .v (.c (.ptr 4 0))), (8, .v (.c (.ptr 8 0))), (9, pvA (.int .i64 (fPut x0 x1 x2).2)), (10, .v (.c (.ptr 10 0))), (11, .v (.c (.ptr 11 0))), (12, pvA (.int .i64 (fPut x0 x1 x2).2))], frO [(3, .box 24 ((enAssembly x0).map B.d)), (4, .box 26 ((enPoint x1).map B.d)), (8, .box 30 [.own 31000]), (31000, .arr kPlaced ((fPut x0 x1 x2).1.map enPlaced) []), (10, .box 30 [.own 35000]), (35000, .arr kPlaced (x0.fTiles.map enPlaced) []), (11, .box 30 [.own 41000]), (41000, .arr kPlaced ((fPut x0 x1 x2).1.map enPlaced) [])]⟩) ?_ ?_
  · repeat' (first | refine R.mv rfl ?_ | refine R.reg ?_ | refine R.tk ?_ | refine R.tkN ?_ | exact R.vac | refine R.both ?_ ?_ | refine R.nil ?_ | refine R.seq ?_ | refine R.nseq ?_ | refine R.nblk ?_ | refine R.skip ?_ | refine R.blk ?_ | refine R.exit rfl ?_ | refine R.gRun rfl ?_ | refine R.gSkip rfl ?_ | refine R.gSkip0 rfl ?_ | refine R.gUndef rfl ?_ | refine R.gUndef0 rfl ?_ | refine R.ldEp rfl rfl (by assumption) rfl rfl ?_ | refine R.ldaEp rfl rfl (by assumption) (Nat.le_of_ble_eq_true rfl) rfl rfl ?_ | refine R.ld rfl rfl rfl ?_ | refine R.lda rfl rfl (Nat.le_of_ble_eq_true rfl) rfl ?_ | refine R.lss rfl rfl ?_ | refine R.neq rfl rfl ?_ | refine R.pickT rfl rfl ?_ | refine R.pickF rfl rfl ?_ | refine R.not rfl ?_ | refine R.mvU rfl ?_ | refine R.ext rfl rfl ?_ | refine R.al rfl ?_ | refine R.box rfl rfl rfl ?_ | refine R.stoB rfl rfl rfl rfl ⟨rfl, rfl, Nat.le_of_ble_eq_true rfl⟩ rfl ?_ | refine R.stoE _ rfl rfl rfl rfl rfl (by assumption) rfl ⟨rfl, rfl, Nat.le_of_ble_eq_true rfl⟩ ?_ | refine R.condT rfl ?_ | refine R.condF rfl ?_ | refine R.call (bor := false) rfl rfl (toPoint_ok _) rfl rfl rfl ?_ | refine R.call (bor := true) rfl rfl (toPoint_ok _) rfl rfl rfl ?_ | refine R.fcal (bor := false) rfl rfl (toPoint_ok _) rfl rfl rfl ?_ | refine R.fcal (bor := true) rfl rfl (toPoint_ok _) rfl rfl rfl ?_ | refine R.callN1 (bor := false) rfl rfl (iPut _ _ _) rfl rfl ?_ | refine R.callN1 (bor := true) rfl rfl (iPut _ _ _) rfl rfl ?_ | refine R.callN (bor := false) rfl rfl (iPut _ _ _) rfl rfl rfl rfl rfl ?_ | refine R.callN (bor := true) rfl rfl (iPut _ _ _) rfl rfl rfl rfl rfl ?_ | refine R.cond rfl (fun hc => ?_) (fun hc => ?_) | refine R.condN rfl (fun hc => ?_) (fun hc => ?_) | refine R.condB rfl (fun hc => ?_) (fun hc => ?_) | refine R.gP rfl (fun hc => ?_) (fun hc => ?_) | refine R.gN rfl (fun hc => ?_) (fun hc => ?_) | refine R.gB rfl (fun hc => ?_) (fun hc => ?_))
    all_goals exact R.done (Weak.frame _ _ ⟨rfl, rfl, rfl, rfl, rfl, rfl, rfl, rfl, trivial⟩ ⟨rfl, rfl, rfl, rfl, rfl, rfl, rfl, rfl, trivial⟩ rfl rfl)
  repeat' (first | refine R.mv rfl ?_ | refine R.reg ?_ | refine R.tk ?_ | refine R.tkN ?_ | exact R.vac | refine R.both ?_ ?_ | refine R.nil ?_ | refine R.seq ?_ | refine R.nseq ?_ | refine R.nblk ?_ | refine R.skip ?_ | refine R.blk ?_ | refine R.exit rfl ?_ | refine R.gRun rfl ?_ | refine R.gSkip rfl ?_ | refine R.gSkip0 rfl ?_ | refine R.gUndef rfl ?_ | refine R.gUndef0 rfl ?_ | refine R.ldEp rfl rfl (by assumption) rfl rfl ?_ | refine R.ldaEp rfl rfl (by assumption) (Nat.le_of_ble_eq_true rfl) rfl rfl ?_ | refine R.ld rfl rfl rfl ?_ | refine R.lda rfl rfl (Nat.le_of_ble_eq_true rfl) rfl ?_ | refine R.lss rfl rfl ?_ | refine R.neq rfl rfl ?_ | refine R.pickT rfl rfl ?_ | refine R.pickF rfl rfl ?_ | refine R.not rfl ?_ | refine R.mvU rfl ?_ | refine R.ext rfl rfl ?_ | refine R.al rfl ?_ | refine R.box rfl rfl rfl ?_ | refine R.stoB rfl rfl rfl rfl ⟨rfl, rfl, Nat.le_of_ble_eq_true rfl⟩ rfl ?_ | refine R.stoE _ rfl rfl rfl rfl rfl (by assumption) rfl ⟨rfl, rfl, Nat.le_of_ble_eq_true rfl⟩ ?_ | refine R.condT rfl ?_ | refine R.condF rfl ?_ | refine R.call (bor := false) rfl rfl (toAssembly_ok _ hbx0) rfl rfl rfl ?_ | refine R.call (bor := true) rfl rfl (toAssembly_ok _ hbx0) rfl rfl rfl ?_ | refine R.fcal (bor := false) rfl rfl (toAssembly_ok _ hbx0) rfl rfl rfl ?_ | refine R.fcal (bor := true) rfl rfl (toAssembly_ok _ hbx0) rfl rfl rfl ?_ | refine R.call (bor := false) rfl rfl (eqAssembly_ok _) rfl rfl rfl ?_ | refine R.call (bor := true) rfl rfl (eqAssembly_ok _) rfl rfl rfl ?_ | refine R.fcal (bor := false) rfl rfl (eqAssembly_ok _) rfl rfl rfl ?_ | refine R.fcal (bor := true) rfl rfl (eqAssembly_ok _) rfl rfl rfl ?_ | refine R.call (bor := false) rfl rfl (eqAssembly_ok (TAssembly.mk (fPut x0 x1 x2).1)) rfl rfl rfl ?_ | refine R.call (bor := true) rfl rfl (eqAssembly_ok (TAssembly.mk (fPut x0 x1 x2).1)) rfl rfl rfl ?_ | refine R.fcal (bor := false) rfl rfl (eqAssembly_ok (TAssembly.mk (fPut x0 x1 x2).1)) rfl rfl rfl ?_ | refine R.fcal (bor := true) rfl rfl (eqAssembly_ok (TAssembly.mk (fPut x0 x1 x2).1)) rfl rfl rfl ?_ | refine R.callM1 (bor := false) rfl rfl (markAssembly_ok _ _ ⟨by omega, by omega⟩) rfl rfl rfl rfl ?_ | refine R.callM1 (bor := true) rfl rfl (markAssembly_ok _ _ ⟨by omega, by omega⟩) rfl rfl rfl rfl ?_ | refine R.callM2 (bor := false) rfl rfl (markAssembly_ok _ _ ⟨by omega, by omega⟩) rfl rfl rfl rfl rfl ?_ | refine R.callM2 (bor := true) rfl rfl (markAssembly_ok _ _ ⟨by omega, by omega⟩) rfl rfl rfl rfl rfl ?_ | refine R.callM3 (bor := false) rfl rfl (markAssembly_ok _ _ ⟨by omega, by omega⟩) rfl rfl rfl rfl rfl rfl ?_ | refine R.callM3 (bor := true) rfl rfl (markAssembly_ok _ _ ⟨by omega, by omega⟩) rfl rfl rfl rfl rfl rfl ?_ | refine R.callM1 (bor := false) rfl rfl (markAssembly_ok (TAssembly.mk (fPut x0 x1 x2).1) _ ⟨by omega, by omega⟩) rfl rfl rfl rfl ?_ | refine R.callM1 (bor := true) rfl rfl (markAssembly_ok (TAssembly.mk (fPut x0 x1 x2).1) _ ⟨by omega, by omega⟩) rfl rfl rfl rfl ?_ | refine R.callM2 (bor := false) rfl rfl (markAssembly_ok (TAssembly.mk (fPut x0 x1 x2).1) _ ⟨by omega, by omega⟩) rfl rfl rfl rfl rfl ?_ | refine R.callM2 (bor := true) rfl rfl (markAssembly_ok (TAssembly.mk (fPut x0 x1 x2).1) _ ⟨by omega, by omega⟩) rfl rfl rfl rfl rfl ?_ | refine R.callM3 (bor := false) rfl rfl (markAssembly_ok (TAssembly.mk (fPut x0 x1 x2).1) _ ⟨by omega, by omega⟩) rfl rfl rfl rfl rfl rfl ?_ | refine R.callM3 (bor := true) rfl rfl (markAssembly_ok (TAssembly.mk (fPut x0 x1 x2).1) _ ⟨by omega, by omega⟩) rfl rfl rfl rfl rfl rfl ?_ | refine R.call (bor := false) rfl rfl (heldAssembly_ok _ _ ⟨by omega, by omega⟩) rfl rfl rfl ?_ | refine R.call (bor := true) rfl rfl (heldAssembly_ok _ _ ⟨by omega, by omega⟩) rfl rfl rfl ?_ | refine R.fcal (bor := false) rfl rfl (heldAssembly_ok _ _ ⟨by omega, by omega⟩) rfl rfl rfl ?_ | refine R.fcal (bor := true) rfl rfl (heldAssembly_ok _ _ ⟨by omega, by omega⟩) rfl rfl rfl ?_ | refine R.call (bor := false) rfl rfl (heldAssembly_ok (TAssembly.mk (fPut x0 x1 x2).1) _ ⟨by omega, by omega⟩) rfl rfl rfl ?_ | refine R.call (bor := true) rfl rfl (heldAssembly_ok (TAssembly.mk (fPut x0 x1 x2).1) _ ⟨by omega, by omega⟩) rfl rfl rfl ?_ | refine R.fcal (bor := false) rfl rfl (heldAssembly_ok (TAssembly.mk (fPut x0 x1 x2).1) _ ⟨by omega, by omega⟩) rfl rfl rfl ?_ | refine R.fcal (bor := true) rfl rfl (heldAssembly_ok (TAssembly.mk (fPut x0 x1 x2).1) _ ⟨by omega, by omega⟩) rfl rfl rfl ?_ | refine R.cond rfl (fun hc => ?_) (fun hc => ?_) | refine R.condN rfl (fun hc => ?_) (fun hc => ?_) | refine R.condB rfl (fun hc => ?_) (fun hc => ?_) | refine R.gP rfl (fun hc => ?_) (fun hc => ?_) | refine R.gN rfl (fun hc => ?_) (fun hc => ?_) | refine R.gB rfl (fun hc => ?_) (fun hc => ?_))
  all_goals first | exact R.ret ⟨.inr rfl, R.outB rfl rfl rfl⟩ | (exfalso; simp_all; done) | skip
  refine R.regO (⟨frE [(8, .v (.c (.ptr 8 0))), (9, pvA (.int .i64 (fPut x0 x1 x2).2)), (11, .v (.c (.ptr 11 0))), (14, pvA (.int .i64 (1 + cnAssembly (TAssembly.mk (fPut x0 x1 x2).1)))), (16, .v (.c (.ptr 16 0))), (17, pvA (.int .i64 (fPut x0 x1 x2).2))], frO [(8, .box 30 [.own 31000]), (31000, .arr kPlaced ((fPut x0 x1 x2).1.map enPlaced) []), (11, .box 30 [.own 41000]), (41000, .arr kPlaced ((mkS mPlaced cPlaced (fPut x0 x1 x2).1 1).map enPlaced) []), (16, .box 30 [.own 91000]), (91000, .arr kPlaced ((fPut x0 x1 x2).1.map enPlaced) [])]⟩) ?_ ?_
  · repeat' (first | refine R.mv rfl ?_ | refine R.reg ?_ | refine R.tk ?_ | refine R.tkN ?_ | exact R.vac | refine R.both ?_ ?_ | refine R.nil ?_ | refine R.seq ?_ | refine R.nseq ?_ | refine R.nblk ?_ | refine R.skip ?_ | refine R.blk ?_ | refine R.exit rfl ?_ | refine R.gRun rfl ?_ | refine R.gSkip rfl ?_ | refine R.gSkip0 rfl ?_ | refine R.gUndef rfl ?_ | refine R.gUndef0 rfl ?_ | refine R.ldEp rfl rfl (by assumption) rfl rfl ?_ | refine R.ldaEp rfl rfl (by assumption) (Nat.le_of_ble_eq_true rfl) rfl rfl ?_ | refine R.ld rfl rfl rfl ?_ | refine R.lda rfl rfl (Nat.le_of_ble_eq_true rfl) rfl ?_ | refine R.lss rfl rfl ?_ | refine R.neq rfl rfl ?_ | refine R.pickT rfl rfl ?_ | refine R.pickF rfl rfl ?_ | refine R.not rfl ?_ | refine R.mvU rfl ?_ | refine R.ext rfl rfl ?_ | refine R.al rfl ?_ | refine R.box rfl rfl rfl ?_ | refine R.stoB rfl rfl rfl rfl ⟨rfl, rfl, Nat.le_of_ble_eq_true rfl⟩ rfl ?_ | refine R.stoE _ rfl rfl rfl rfl rfl (by assumption) rfl ⟨rfl, rfl, Nat.le_of_ble_eq_true rfl⟩ ?_ | refine R.condT rfl ?_ | refine R.condF rfl ?_ | refine R.call (bor := false) rfl rfl (toAssembly_ok _ hbx0) rfl rfl rfl ?_ | refine R.call (bor := true) rfl rfl (toAssembly_ok _ hbx0) rfl rfl rfl ?_ | refine R.fcal (bor := false) rfl rfl (toAssembly_ok _ hbx0) rfl rfl rfl ?_ | refine R.fcal (bor := true) rfl rfl (toAssembly_ok _ hbx0) rfl rfl rfl ?_ | refine R.call (bor := false) rfl rfl (toPoint_ok _) rfl rfl rfl ?_ | refine R.call (bor := true) rfl rfl (toPoint_ok _) rfl rfl rfl ?_ | refine R.fcal (bor := false) rfl rfl (toPoint_ok _) rfl rfl rfl ?_ | refine R.fcal (bor := true) rfl rfl (toPoint_ok _) rfl rfl rfl ?_ | refine R.callN1 (bor := false) rfl rfl (iPut _ _ _) rfl rfl ?_ | refine R.callN1 (bor := true) rfl rfl (iPut _ _ _) rfl rfl ?_ | refine R.callN (bor := false) rfl rfl (iPut _ _ _) rfl rfl rfl rfl rfl ?_ | refine R.callN (bor := true) rfl rfl (iPut _ _ _) rfl rfl rfl rfl rfl ?_ | refine R.cond rfl (fun hc => ?_) (fun hc => ?_) | refine R.condN rfl (fun hc => ?_) (fun hc => ?_) | refine R.condB rfl (fun hc => ?_) (fun hc => ?_) | refine R.gP rfl (fun hc => ?_) (fun hc => ?_) | refine R.gN rfl (fun hc => ?_) (fun hc => ?_) | refine R.gB rfl (fun hc => ?_) (fun hc => ?_))
    all_goals exact R.done (Weak.frame _ _ ⟨rfl, rfl, rfl, rfl, rfl, rfl, trivial⟩ ⟨rfl, rfl, rfl, rfl, rfl, rfl, trivial⟩ rfl rfl)
  repeat' (first | refine R.mv rfl ?_ | refine R.reg ?_ | refine R.tk ?_ | refine R.tkN ?_ | exact R.vac | refine R.both ?_ ?_ | refine R.nil ?_ | refine R.seq ?_ | refine R.nseq ?_ | refine R.nblk ?_ | refine R.skip ?_ | refine R.blk ?_ | refine R.exit rfl ?_ | refine R.gRun rfl ?_ | refine R.gSkip rfl ?_ | refine R.gSkip0 rfl ?_ | refine R.gUndef rfl ?_ | refine R.gUndef0 rfl ?_ | refine R.ldEp rfl rfl (by assumption) rfl rfl ?_ | refine R.ldaEp rfl rfl (by assumption) (Nat.le_of_ble_eq_true rfl) rfl rfl ?_ | refine R.ld rfl rfl rfl ?_ | refine R.lda rfl rfl (Nat.le_of_ble_eq_true rfl) rfl ?_ | refine R.lss rfl rfl ?_ | refine R.neq rfl rfl ?_ | refine R.pickT rfl rfl ?_ | refine R.pickF rfl rfl ?_ | refine R.not rfl ?_ | refine R.mvU rfl ?_ | refine R.ext rfl rfl ?_ | refine R.al rfl ?_ | refine R.box rfl rfl rfl ?_ | refine R.stoB rfl rfl rfl rfl ⟨rfl, rfl, Nat.le_of_ble_eq_true rfl⟩ rfl ?_ | refine R.stoE _ rfl rfl rfl rfl rfl (by assumption) rfl ⟨rfl, rfl, Nat.le_of_ble_eq_true rfl⟩ ?_ | refine R.condT rfl ?_ | refine R.condF rfl ?_ | refine R.call (bor := false) rfl rfl (toAssembly_ok _ hbx0) rfl rfl rfl ?_ | refine R.call (bor := true) rfl rfl (toAssembly_ok _ hbx0) rfl rfl rfl ?_ | refine R.fcal (bor := false) rfl rfl (toAssembly_ok _ hbx0) rfl rfl rfl ?_ | refine R.fcal (bor := true) rfl rfl (toAssembly_ok _ hbx0) rfl rfl rfl ?_ | refine R.call (bor := false) rfl rfl (eqAssembly_ok _) rfl rfl rfl ?_ | refine R.call (bor := true) rfl rfl (eqAssembly_ok _) rfl rfl rfl ?_ | refine R.fcal (bor := false) rfl rfl (eqAssembly_ok _) rfl rfl rfl ?_ | refine R.fcal (bor := true) rfl rfl (eqAssembly_ok _) rfl rfl rfl ?_ | refine R.call (bor := false) rfl rfl (eqAssembly_ok (TAssembly.mk (fPut x0 x1 x2).1)) rfl rfl rfl ?_ | refine R.call (bor := true) rfl rfl (eqAssembly_ok (TAssembly.mk (fPut x0 x1 x2).1)) rfl rfl rfl ?_ | refine R.fcal (bor := false) rfl rfl (eqAssembly_ok (TAssembly.mk (fPut x0 x1 x2).1)) rfl rfl rfl ?_ | refine R.fcal (bor := true) rfl rfl (eqAssembly_ok (TAssembly.mk (fPut x0 x1 x2).1)) rfl rfl rfl ?_ | refine R.callM1 (bor := false) rfl rfl (markAssembly_ok _ _ ⟨by omega, by omega⟩) rfl rfl rfl rfl ?_ | refine R.callM1 (bor := true) rfl rfl (markAssembly_ok _ _ ⟨by omega, by omega⟩) rfl rfl rfl rfl ?_ | refine R.callM2 (bor := false) rfl rfl (markAssembly_ok _ _ ⟨by omega, by omega⟩) rfl rfl rfl rfl rfl ?_ | refine R.callM2 (bor := true) rfl rfl (markAssembly_ok _ _ ⟨by omega, by omega⟩) rfl rfl rfl rfl rfl ?_ | refine R.callM3 (bor := false) rfl rfl (markAssembly_ok _ _ ⟨by omega, by omega⟩) rfl rfl rfl rfl rfl rfl ?_ | refine R.callM3 (bor := true) rfl rfl (markAssembly_ok _ _ ⟨by omega, by omega⟩) rfl rfl rfl rfl rfl rfl ?_ | refine R.callM1 (bor := false) rfl rfl (markAssembly_ok (TAssembly.mk (fPut x0 x1 x2).1) _ ⟨by omega, by omega⟩) rfl rfl rfl rfl ?_ | refine R.callM1 (bor := true) rfl rfl (markAssembly_ok (TAssembly.mk (fPut x0 x1 x2).1) _ ⟨by omega, by omega⟩) rfl rfl rfl rfl ?_ | refine R.callM2 (bor := false) rfl rfl (markAssembly_ok (TAssembly.mk (fPut x0 x1 x2).1) _ ⟨by omega, by omega⟩) rfl rfl rfl rfl rfl ?_ | refine R.callM2 (bor := true) rfl rfl (markAssembly_ok (TAssembly.mk (fPut x0 x1 x2).1) _ ⟨by omega, by omega⟩) rfl rfl rfl rfl rfl ?_ | refine R.callM3 (bor := false) rfl rfl (markAssembly_ok (TAssembly.mk (fPut x0 x1 x2).1) _ ⟨by omega, by omega⟩) rfl rfl rfl rfl rfl rfl ?_ | refine R.callM3 (bor := true) rfl rfl (markAssembly_ok (TAssembly.mk (fPut x0 x1 x2).1) _ ⟨by omega, by omega⟩) rfl rfl rfl rfl rfl rfl ?_ | refine R.call (bor := false) rfl rfl (heldAssembly_ok _ _ ⟨by omega, by omega⟩) rfl rfl rfl ?_ | refine R.call (bor := true) rfl rfl (heldAssembly_ok _ _ ⟨by omega, by omega⟩) rfl rfl rfl ?_ | refine R.fcal (bor := false) rfl rfl (heldAssembly_ok _ _ ⟨by omega, by omega⟩) rfl rfl rfl ?_ | refine R.fcal (bor := true) rfl rfl (heldAssembly_ok _ _ ⟨by omega, by omega⟩) rfl rfl rfl ?_ | refine R.call (bor := false) rfl rfl (heldAssembly_ok (TAssembly.mk (fPut x0 x1 x2).1) _ ⟨by omega, by omega⟩) rfl rfl rfl ?_ | refine R.call (bor := true) rfl rfl (heldAssembly_ok (TAssembly.mk (fPut x0 x1 x2).1) _ ⟨by omega, by omega⟩) rfl rfl rfl ?_ | refine R.fcal (bor := false) rfl rfl (heldAssembly_ok (TAssembly.mk (fPut x0 x1 x2).1) _ ⟨by omega, by omega⟩) rfl rfl rfl ?_ | refine R.fcal (bor := true) rfl rfl (heldAssembly_ok (TAssembly.mk (fPut x0 x1 x2).1) _ ⟨by omega, by omega⟩) rfl rfl rfl ?_ | refine R.cond rfl (fun hc => ?_) (fun hc => ?_) | refine R.condN rfl (fun hc => ?_) (fun hc => ?_) | refine R.condB rfl (fun hc => ?_) (fun hc => ?_) | refine R.gP rfl (fun hc => ?_) (fun hc => ?_) | refine R.gN rfl (fun hc => ?_) (fun hc => ?_) | refine R.gB rfl (fun hc => ?_) (fun hc => ?_))
  all_goals first | exact R.ret ⟨.inr rfl, R.outB rfl rfl rfl⟩ | (exfalso; simp_all; done) | skip
end Go.Proofs.Ytghpeccaknhjiaa
