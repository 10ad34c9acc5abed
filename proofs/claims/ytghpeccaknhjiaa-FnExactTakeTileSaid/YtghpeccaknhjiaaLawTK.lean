/- Laws. -/
import Derived.Test.YtghpeccaknhjiaaTake2
import Derived.Test.YtghpeccaknhjiaaCnt2
namespace Go.Proofs.Ytghpeccaknhjiaa
open Go.RowKit
def S.t4_0 : OT SR := .take ⟨(.some 7), .none, .false, (.mv (.tmp 28))⟩ .done
def S.t4_1 : OT SR := .take ⟨.none, .none, .false, (.sto 1 (.tmp 6) (.tmp 27))⟩ S.t4_0
def S.t4_2 : OT SR := .take ⟨(.some 6), .none, .false, (.al 30 [(Go.Value.slice none 0 0)])⟩ S.t4_1
def S.t4_3 : OT SR := .take ⟨(.some 28), .none, .false, (.ext (.tmp 21) 1)⟩ S.t4_2
def S.t4_4 : OT SR := .take ⟨(.some 28), .none, .false, (.ext (.tmp 21) 1)⟩ S.t4_1
def S.t4_5 : OT SR := .take ⟨(.some 28), .none, .false, (.ext (.tmp 21) 1)⟩ S.t4_0
def S.t4_6 : OT SR := .take ⟨.none, .none, .false, (.sto 1 (.tmp 6) (.tmp 27))⟩ S.t4_5
def S.t4_7 : OT SR := .both S.t4_4 S.t4_6
def S.t4_8 : OT SR := .take ⟨(.some 6), .none, .false, (.al 30 [(Go.Value.slice none 0 0)])⟩ S.t4_7
def S.t4_9 : OT SR := .both S.t4_3 S.t4_8
def S.t4_10 : OT SR := .take ⟨(.some 27), .none, .false, (.ext (.tmp 21) 0)⟩ S.t4_9
def S.t4_11 : OT SR := .take ⟨(.some 27), .none, .false, (.ext (.tmp 21) 0)⟩ S.t4_2
def S.t4_12 : OT SR := .take ⟨(.some 27), .none, .false, (.ext (.tmp 21) 0)⟩ S.t4_1
def S.t4_13 : OT SR := .take ⟨(.some 6), .none, .false, (.al 30 [(Go.Value.slice none 0 0)])⟩ S.t4_12
def S.t4_14 : OT SR := .both S.t4_11 S.t4_13
def S.t4_15 : OT SR := .take ⟨(.some 28), .none, .false, (.ext (.tmp 21) 1)⟩ S.t4_14
def S.t4_16 : OT SR := .take ⟨(.some 27), .none, .false, (.ext (.tmp 21) 0)⟩ S.t4_7
def S.t4_17 : OT SR := .take ⟨(.some 28), .none, .false, (.ext (.tmp 21) 1)⟩ S.t4_12
def S.t4_18 : OT SR := .both S.t4_16 S.t4_17
def S.t4_19 : OT SR := .take ⟨(.some 6), .none, .false, (.al 30 [(Go.Value.slice none 0 0)])⟩ S.t4_18
def S.t4_20 : OT SR := .both S.t4_15 S.t4_19
def S.t4_21 : OT SR := .both S.t4_10 S.t4_20
def S.t4_22 : OT SR := .take ⟨(.some 21), .none, .false, (.mv (.tmp 26))⟩ S.t4_21
def S.t4_23 : OT SR := .take ⟨(.some 26), .none, .false, (.call (.func 14) [(.tmp 23), (.tmp 25)])⟩ S.t4_22
def S.t4_24 : OT SR := .take ⟨(.some 21), .none, .false, (.mv (.tmp 26))⟩ S.t4_18
def S.t4_25 : OT SR := .take ⟨(.some 26), .none, .false, (.call (.func 14) [(.tmp 23), (.tmp 25)])⟩ S.t4_24
def S.t4_26 : OT SR := .take ⟨(.some 6), .none, .false, (.al 30 [(Go.Value.slice none 0 0)])⟩ S.t4_25
def S.t4_27 : OT SR := .both S.t4_23 S.t4_26
def S.t4_28 : OT SR := .take ⟨(.some 25), .none, .false, (.call (.func 9) [(.tmp 24)])⟩ S.t4_27
def S.t4_29 : OT SR := .take ⟨(.some 25), .none, .false, (.call (.func 9) [(.tmp 24)])⟩ S.t4_25
def S.t4_30 : OT SR := .take ⟨(.some 6), .none, .false, (.al 30 [(Go.Value.slice none 0 0)])⟩ S.t4_29
def S.t4_31 : OT SR := .both S.t4_28 S.t4_30
def S.t4_32 : OT SR := .take ⟨(.some 23), .none, .false, (.call (.func 8) [(.tmp 22)])⟩ S.t4_31
def S.t4_33 : OT SR := .take ⟨(.some 23), .none, .false, (.call (.func 8) [(.tmp 22)])⟩ S.t4_29
def S.t4_34 : OT SR := .take ⟨(.some 6), .none, .false, (.al 30 [(Go.Value.slice none 0 0)])⟩ S.t4_33
def S.t4_35 : OT SR := .both S.t4_32 S.t4_34
def S.t4_36 : OT SR := .take ⟨(.some 24), .none, .false, (.ld .true 2 (.tmp 3))⟩ S.t4_35
def S.t4_37 : OT SR := .take ⟨(.some 24), .none, .false, (.ld .true 2 (.tmp 3))⟩ S.t4_31
def S.t4_38 : OT SR := .take ⟨(.some 24), .none, .false, (.ld .true 2 (.tmp 3))⟩ S.t4_29
def S.t4_39 : OT SR := .both S.t4_38 .vac
def S.t4_40 : OT SR := .take ⟨(.some 6), .none, .false, (.al 30 [(Go.Value.slice none 0 0)])⟩ S.t4_39
def S.t4_41 : OT SR := .both S.t4_37 S.t4_40
def S.t4_42 : OT SR := .take ⟨(.some 23), .none, .false, (.call (.func 8) [(.tmp 22)])⟩ S.t4_41
def S.t4_43 : OT SR := .take ⟨(.some 24), .none, .false, (.ld .true 2 (.tmp 3))⟩ S.t4_33
def S.t4_44 : OT SR := .take ⟨(.some 23), .none, .false, (.call (.func 8) [(.tmp 22)])⟩ S.t4_39
def S.t4_45 : OT SR := .both S.t4_43 S.t4_44
def S.t4_46 : OT SR := .take ⟨(.some 6), .none, .false, (.al 30 [(Go.Value.slice none 0 0)])⟩ S.t4_45
def S.t4_47 : OT SR := .both S.t4_42 S.t4_46
def S.t4_48 : OT SR := .both S.t4_36 S.t4_47
def S.t4_49 : OT SR := .take ⟨(.some 22), .none, .false, (.ld .true 1 (.tmp 2))⟩ S.t4_48
def S.t4_50 : OT SR := .take ⟨(.some 22), .none, .false, (.ld .true 1 (.tmp 2))⟩ S.t4_33
def S.t4_51 : OT SR := .both S.t4_50 .vac
def S.t4_52 : OT SR := .take ⟨(.some 6), .none, .false, (.al 30 [(Go.Value.slice none 0 0)])⟩ S.t4_51
def S.t4_53 : OT SR := .take ⟨(.some 24), .none, .false, (.ld .true 2 (.tmp 3))⟩ S.t4_52
def S.t4_54 : OT SR := .take ⟨(.some 22), .none, .false, (.ld .true 1 (.tmp 2))⟩ S.t4_45
def S.t4_55 : OT SR := .take ⟨(.some 24), .none, .false, (.ld .true 2 (.tmp 3))⟩ .vac
def S.t4_56 : OT SR := .both S.t4_55 .vac
def S.t4_57 : OT SR := .both S.t4_54 S.t4_56
def S.t4_58 : OT SR := .take ⟨(.some 6), .none, .false, (.al 30 [(Go.Value.slice none 0 0)])⟩ S.t4_57
def S.t4_59 : OT SR := .both S.t4_53 S.t4_58
def S.t4_60 : OT SR := .both S.t4_49 S.t4_59
def S.t4_61 : OT SR := .take ⟨(.some 10), .none, .false, (.mv (.tmp 37))⟩ .done
def S.t4_62 : OT SR := .take ⟨.none, .none, .false, (.sto 1 (.tmp 9) (.tmp 36))⟩ S.t4_61
def S.t4_63 : OT SR := .take ⟨(.some 9), .none, .false, (.al 30 [(Go.Value.slice none 0 0)])⟩ S.t4_62
def S.t4_64 : OT SR := .take ⟨(.some 37), .none, .false, (.ext (.tmp 31) 1)⟩ S.t4_63
def S.t4_65 : OT SR := .take ⟨(.some 37), .none, .false, (.ext (.tmp 31) 1)⟩ S.t4_62
def S.t4_66 : OT SR := .take ⟨(.some 37), .none, .false, (.ext (.tmp 31) 1)⟩ S.t4_61
def S.t4_67 : OT SR := .take ⟨.none, .none, .false, (.sto 1 (.tmp 9) (.tmp 36))⟩ S.t4_66
def S.t4_68 : OT SR := .both S.t4_65 S.t4_67
def S.t4_69 : OT SR := .take ⟨(.some 9), .none, .false, (.al 30 [(Go.Value.slice none 0 0)])⟩ S.t4_68
def S.t4_70 : OT SR := .both S.t4_64 S.t4_69
def S.t4_71 : OT SR := .take ⟨(.some 36), .none, .false, (.ext (.tmp 31) 0)⟩ S.t4_70
def S.t4_72 : OT SR := .take ⟨(.some 36), .none, .false, (.ext (.tmp 31) 0)⟩ S.t4_63
def S.t4_73 : OT SR := .take ⟨(.some 36), .none, .false, (.ext (.tmp 31) 0)⟩ S.t4_62
def S.t4_74 : OT SR := .take ⟨(.some 9), .none, .false, (.al 30 [(Go.Value.slice none 0 0)])⟩ S.t4_73
def S.t4_75 : OT SR := .both S.t4_72 S.t4_74
def S.t4_76 : OT SR := .take ⟨(.some 37), .none, .false, (.ext (.tmp 31) 1)⟩ S.t4_75
def S.t4_77 : OT SR := .take ⟨(.some 36), .none, .false, (.ext (.tmp 31) 0)⟩ S.t4_68
def S.t4_78 : OT SR := .take ⟨(.some 37), .none, .false, (.ext (.tmp 31) 1)⟩ S.t4_73
def S.t4_79 : OT SR := .both S.t4_77 S.t4_78
def S.t4_80 : OT SR := .take ⟨(.some 9), .none, .false, (.al 30 [(Go.Value.slice none 0 0)])⟩ S.t4_79
def S.t4_81 : OT SR := .both S.t4_76 S.t4_80
def S.t4_82 : OT SR := .both S.t4_71 S.t4_81
def S.t4_83 : OT SR := .take ⟨(.some 31), .none, .false, (.mv (.tmp 35))⟩ S.t4_82
def S.t4_84 : OT SR := .take ⟨(.some 35), .none, .false, (.call (.func 15) [(.tmp 32), (.tmp 34)])⟩ S.t4_83
def S.t4_85 : OT SR := .take ⟨(.some 31), .none, .false, (.mv (.tmp 35))⟩ S.t4_79
def S.t4_86 : OT SR := .take ⟨(.some 35), .none, .false, (.call (.func 15) [(.tmp 32), (.tmp 34)])⟩ S.t4_85
def S.t4_87 : OT SR := .take ⟨(.some 9), .none, .false, (.al 30 [(Go.Value.slice none 0 0)])⟩ S.t4_86
def S.t4_88 : OT SR := .both S.t4_84 S.t4_87
def S.t4_89 : OT SR := .take ⟨(.some 34), .none, .false, (.call (.func 9) [(.tmp 33)])⟩ S.t4_88
def S.t4_90 : OT SR := .take ⟨(.some 34), .none, .false, (.call (.func 9) [(.tmp 33)])⟩ S.t4_86
def S.t4_91 : OT SR := .take ⟨(.some 9), .none, .false, (.al 30 [(Go.Value.slice none 0 0)])⟩ S.t4_90
def S.t4_92 : OT SR := .both S.t4_89 S.t4_91
def S.t4_93 : OT SR := .take ⟨(.some 33), .none, .false, (.ld .true 2 (.tmp 3))⟩ S.t4_92
def S.t4_94 : OT SR := .take ⟨(.some 33), .none, .false, (.ld .true 2 (.tmp 3))⟩ S.t4_90
def S.t4_95 : OT SR := .both S.t4_94 .vac
def S.t4_96 : OT SR := .take ⟨(.some 9), .none, .false, (.al 30 [(Go.Value.slice none 0 0)])⟩ S.t4_95
def S.t4_97 : OT SR := .both S.t4_93 S.t4_96
def S.t4_98 : OT SR := .take ⟨(.some 32), .none, .false, (.ld .true 1 (.tmp 8))⟩ S.t4_97
def S.t4_99 : OT SR := .take ⟨(.some 32), .none, .false, (.ld .true 1 (.tmp 8))⟩ S.t4_88
def S.t4_100 : OT SR := .take ⟨(.some 32), .none, .false, (.ld .true 1 (.tmp 8))⟩ S.t4_86
def S.t4_101 : OT SR := .both S.t4_100 .vac
def S.t4_102 : OT SR := .take ⟨(.some 9), .none, .false, (.al 30 [(Go.Value.slice none 0 0)])⟩ S.t4_101
def S.t4_103 : OT SR := .both S.t4_99 S.t4_102
def S.t4_104 : OT SR := .take ⟨(.some 34), .none, .false, (.call (.func 9) [(.tmp 33)])⟩ S.t4_103
def S.t4_105 : OT SR := .take ⟨(.some 32), .none, .false, (.ld .true 1 (.tmp 8))⟩ S.t4_90
def S.t4_106 : OT SR := .take ⟨(.some 34), .none, .false, (.call (.func 9) [(.tmp 33)])⟩ S.t4_101
def S.t4_107 : OT SR := .both S.t4_105 S.t4_106
def S.t4_108 : OT SR := .take ⟨(.some 9), .none, .false, (.al 30 [(Go.Value.slice none 0 0)])⟩ S.t4_107
def S.t4_109 : OT SR := .both S.t4_104 S.t4_108
def S.t4_110 : OT SR := .take ⟨(.some 33), .none, .false, (.ld .true 2 (.tmp 3))⟩ S.t4_109
def S.t4_111 : OT SR := .take ⟨(.some 32), .none, .false, (.ld .true 1 (.tmp 8))⟩ S.t4_95
def S.t4_112 : OT SR := .take ⟨(.some 33), .none, .false, (.ld .true 2 (.tmp 3))⟩ S.t4_106
def S.t4_113 : OT SR := .both S.t4_112 .vac
def S.t4_114 : OT SR := .both S.t4_111 S.t4_113
def S.t4_115 : OT SR := .take ⟨(.some 9), .none, .false, (.al 30 [(Go.Value.slice none 0 0)])⟩ S.t4_114
def S.t4_116 : OT SR := .both S.t4_110 S.t4_115
def S.t4_117 : OT SR := .both S.t4_98 S.t4_116
def S.t4_118 : OT SR := .take ⟨(.some 15), .none, .false, (.mv (.tmp 86))⟩ .done
def S.t4_119 : OT SR := .take ⟨.none, .none, .false, (.sto 1 (.tmp 14) (.tmp 85))⟩ S.t4_118
def S.t4_120 : OT SR := .take ⟨(.some 14), .none, .false, (.al 30 [(Go.Value.slice none 0 0)])⟩ S.t4_119
def S.t4_121 : OT SR := .take ⟨(.some 86), .none, .false, (.ext (.tmp 79) 1)⟩ S.t4_120
def S.t4_122 : OT SR := .take ⟨(.some 86), .none, .false, (.ext (.tmp 79) 1)⟩ S.t4_119
def S.t4_123 : OT SR := .take ⟨(.some 86), .none, .false, (.ext (.tmp 79) 1)⟩ S.t4_118
def S.t4_124 : OT SR := .take ⟨.none, .none, .false, (.sto 1 (.tmp 14) (.tmp 85))⟩ S.t4_123
def S.t4_125 : OT SR := .both S.t4_122 S.t4_124
def S.t4_126 : OT SR := .take ⟨(.some 14), .none, .false, (.al 30 [(Go.Value.slice none 0 0)])⟩ S.t4_125
def S.t4_127 : OT SR := .both S.t4_121 S.t4_126
def S.t4_128 : OT SR := .take ⟨(.some 85), .none, .false, (.ext (.tmp 79) 0)⟩ S.t4_127
def S.t4_129 : OT SR := .take ⟨(.some 85), .none, .false, (.ext (.tmp 79) 0)⟩ S.t4_120
def S.t4_130 : OT SR := .take ⟨(.some 85), .none, .false, (.ext (.tmp 79) 0)⟩ S.t4_119
def S.t4_131 : OT SR := .take ⟨(.some 14), .none, .false, (.al 30 [(Go.Value.slice none 0 0)])⟩ S.t4_130
def S.t4_132 : OT SR := .both S.t4_129 S.t4_131
def S.t4_133 : OT SR := .take ⟨(.some 86), .none, .false, (.ext (.tmp 79) 1)⟩ S.t4_132
def S.t4_134 : OT SR := .take ⟨(.some 85), .none, .false, (.ext (.tmp 79) 0)⟩ S.t4_125
def S.t4_135 : OT SR := .take ⟨(.some 86), .none, .false, (.ext (.tmp 79) 1)⟩ S.t4_130
def S.t4_136 : OT SR := .both S.t4_134 S.t4_135
def S.t4_137 : OT SR := .take ⟨(.some 14), .none, .false, (.al 30 [(Go.Value.slice none 0 0)])⟩ S.t4_136
def S.t4_138 : OT SR := .both S.t4_133 S.t4_137
def S.t4_139 : OT SR := .both S.t4_128 S.t4_138
def S.t4_140 : OT SR := .take ⟨(.some 79), .none, .false, (.mv (.tmp 84))⟩ S.t4_139
def S.t4_141 : OT SR := .take ⟨(.some 84), .none, .false, (.call (.func 15) [(.tmp 81), (.tmp 83)])⟩ S.t4_140
def S.t4_142 : OT SR := .take ⟨(.some 79), .none, .false, (.mv (.tmp 84))⟩ S.t4_136
def S.t4_143 : OT SR := .take ⟨(.some 84), .none, .false, (.call (.func 15) [(.tmp 81), (.tmp 83)])⟩ S.t4_142
def S.t4_144 : OT SR := .take ⟨(.some 14), .none, .false, (.al 30 [(Go.Value.slice none 0 0)])⟩ S.t4_143
def S.t4_145 : OT SR := .both S.t4_141 S.t4_144
def S.t4_146 : OT SR := .take ⟨(.some 83), .none, .false, (.call (.func 9) [(.tmp 82)])⟩ S.t4_145
def S.t4_147 : OT SR := .take ⟨(.some 83), .none, .false, (.call (.func 9) [(.tmp 82)])⟩ S.t4_143
def S.t4_148 : OT SR := .take ⟨(.some 14), .none, .false, (.al 30 [(Go.Value.slice none 0 0)])⟩ S.t4_147
def S.t4_149 : OT SR := .both S.t4_146 S.t4_148
def S.t4_150 : OT SR := .take ⟨(.some 81), .none, .false, (.call (.func 8) [(.tmp 80)])⟩ S.t4_149
def S.t4_151 : OT SR := .take ⟨(.some 81), .none, .false, (.call (.func 8) [(.tmp 80)])⟩ S.t4_147
def S.t4_152 : OT SR := .take ⟨(.some 14), .none, .false, (.al 30 [(Go.Value.slice none 0 0)])⟩ S.t4_151
def S.t4_153 : OT SR := .both S.t4_150 S.t4_152
def S.t4_154 : OT SR := .take ⟨(.some 82), .none, .false, (.ld .true 2 (.tmp 3))⟩ S.t4_153
def S.t4_155 : OT SR := .take ⟨(.some 82), .none, .false, (.ld .true 2 (.tmp 3))⟩ S.t4_149
def S.t4_156 : OT SR := .take ⟨(.some 82), .none, .false, (.ld .true 2 (.tmp 3))⟩ S.t4_147
def S.t4_157 : OT SR := .both S.t4_156 .vac
def S.t4_158 : OT SR := .take ⟨(.some 14), .none, .false, (.al 30 [(Go.Value.slice none 0 0)])⟩ S.t4_157
def S.t4_159 : OT SR := .both S.t4_155 S.t4_158
def S.t4_160 : OT SR := .take ⟨(.some 81), .none, .false, (.call (.func 8) [(.tmp 80)])⟩ S.t4_159
def S.t4_161 : OT SR := .take ⟨(.some 82), .none, .false, (.ld .true 2 (.tmp 3))⟩ S.t4_151
def S.t4_162 : OT SR := .take ⟨(.some 81), .none, .false, (.call (.func 8) [(.tmp 80)])⟩ S.t4_157
def S.t4_163 : OT SR := .both S.t4_161 S.t4_162
def S.t4_164 : OT SR := .take ⟨(.some 14), .none, .false, (.al 30 [(Go.Value.slice none 0 0)])⟩ S.t4_163
def S.t4_165 : OT SR := .both S.t4_160 S.t4_164
def S.t4_166 : OT SR := .both S.t4_154 S.t4_165
def S.t4_167 : OT SR := .take ⟨(.some 80), .none, .false, (.ld .true 1 (.tmp 2))⟩ S.t4_166
def S.t4_168 : OT SR := .take ⟨(.some 80), .none, .false, (.ld .true 1 (.tmp 2))⟩ S.t4_151
def S.t4_169 : OT SR := .both S.t4_168 .vac
def S.t4_170 : OT SR := .take ⟨(.some 14), .none, .false, (.al 30 [(Go.Value.slice none 0 0)])⟩ S.t4_169
def S.t4_171 : OT SR := .take ⟨(.some 82), .none, .false, (.ld .true 2 (.tmp 3))⟩ S.t4_170
def S.t4_172 : OT SR := .take ⟨(.some 80), .none, .false, (.ld .true 1 (.tmp 2))⟩ S.t4_163
def S.t4_173 : OT SR := .take ⟨(.some 82), .none, .false, (.ld .true 2 (.tmp 3))⟩ .vac
def S.t4_174 : OT SR := .both S.t4_173 .vac
def S.t4_175 : OT SR := .both S.t4_172 S.t4_174
def S.t4_176 : OT SR := .take ⟨(.some 14), .none, .false, (.al 30 [(Go.Value.slice none 0 0)])⟩ S.t4_175
def S.t4_177 : OT SR := .both S.t4_171 S.t4_176
def S.t4_178 : OT SR := .both S.t4_167 S.t4_177
set_option maxRecDepth 100000 in
def S.s4 : SC := (.seq (.reg [⟨(.some 2), .none, .false, (.box 24 (.tmp 0))⟩, ⟨(.some 3), .none, .false, (.box 26 (.tmp 1))⟩, ⟨(.some 4), .none, .false, (.mv (.const (Go.Value.bool false)))⟩]) (.seq (.reg [⟨(.some 5), .none, .false, (.mv (.const (Go.Value.int Go.IntKind.i64 1048576)))⟩]) (.seq (.reg [⟨(.some 16), .none, .false, (.ld .true 1 (.tmp 2))⟩, ⟨(.some 17), .none, .false, (.mv (.tmp 5))⟩, ⟨(.some 18), .none, .false, (.call (.func 6) [(.tmp 16), (.tmp 17)])⟩, ⟨(.some 5), .none, .false, (.mv (.tmp 18))⟩]) (.seq (.seq (.reg [⟨(.some 19), .none, .false, (.mv (.tmp 5))⟩, ⟨(.some 20), .none, .false, (.bin .lss (.tmp 19) (.const (Go.Value.int Go.IntKind.i64 0)))⟩]) (.cond (.tmp 20) (.seq (.reg [⟨(.some 4), .none, .false, (.mv (.const (Go.Value.bool true)))⟩]) .ret) .skip)) (.seq (.regO S.t4_60) (.seq (.reg [⟨(.some 29), .none, .false, (.ld .true 1 (.tmp 2))⟩, ⟨(.some 30), .none, .false, (.call (.func 8) [(.tmp 29)])⟩, ⟨(.some 8), .none, .false, (.al 30 [(Go.Value.slice none 0 0)])⟩, ⟨.none, .none, .false, (.sto 1 (.tmp 8) (.tmp 30))⟩]) (.seq (.regO S.t4_117) (.seq (.seq (.reg [⟨(.some 38), .none, .false, (.ld .true 1 (.tmp 9))⟩, ⟨(.some 39), .none, .false, (.ld .true 1 (.tmp 6))⟩, ⟨(.some 40), .none, .false, (.call (.func 11) [(.tmp 38), (.tmp 39)])⟩, ⟨(.some 41), .none, .false, (.not (.tmp 40))⟩, ⟨(.some 42), .none, .false, (.mv (.tmp 41))⟩, ⟨(.some 43), (.some (42, .false)), .false, (.mv (.tmp 10))⟩, ⟨(.some 44), (.some (42, .false)), .false, (.mv (.tmp 7))⟩, ⟨(.some 45), (.some (42, .false)), .false, (.bin .neq (.tmp 43) (.tmp 44))⟩, ⟨(.some 46), .none, .false, (.pick (.tmp 42) (.const (Go.Value.bool true)) (.tmp 45))⟩]) (.cond (.tmp 46) (.seq (.reg [⟨(.some 4), .none, .false, (.mv (.const (Go.Value.bool false)))⟩]) .ret) .skip)) (.seq (.seq (.reg [⟨(.some 47), .none, .true, (.ld .true 1 (.tmp 8))⟩, ⟨(.some 48), .none, .true, (.ld .true 1 (.tmp 2))⟩, ⟨(.some 49), .none, .true, (.fcal (.func 8) [(.tmp 48)])⟩, ⟨(.some 50), .none, .false, (.call (.func 11) [(.tmp 47), (.tmp 49)])⟩, ⟨(.some 51), .none, .false, (.not (.tmp 50))⟩]) (.cond (.tmp 51) (.seq (.reg [⟨(.some 4), .none, .false, (.mv (.const (Go.Value.bool false)))⟩]) .ret) .skip)) (.seq (.reg [⟨(.some 11), .none, .false, (.mv (.const (Go.Value.int Go.IntKind.i64 1)))⟩]) (.seq (.reg [⟨(.some 52), .none, .false, (.ld .true 1 (.tmp 8))⟩, ⟨(.some 53), .none, .false, (.mv (.tmp 11))⟩, ⟨(.some 54), .none, .false, (.call (.func 12) [(.tmp 52), (.tmp 53)])⟩, ⟨(.some 11), .none, .false, (.mv (.tmp 54))⟩]) (.seq (.seq (.reg [⟨(.some 55), .none, .false, (.mv (.tmp 11))⟩, ⟨(.some 56), .none, .false, (.bin .lss (.tmp 55) (.const (Go.Value.int Go.IntKind.i64 0)))⟩, ⟨(.some 57), .none, .false, (.mv (.tmp 56))⟩, ⟨(.some 58), (.some (57, .false)), .false, (.ld .true 1 (.tmp 9))⟩, ⟨(.some 59), (.some (57, .false)), .false, (.ld .true 1 (.tmp 6))⟩, ⟨(.some 60), (.some (57, .false)), .false, (.call (.func 11) [(.tmp 58), (.tmp 59)])⟩, ⟨(.some 61), (.some (57, .false)), .false, (.not (.tmp 60))⟩, ⟨(.some 62), .none, .false, (.pick (.tmp 57) (.const (Go.Value.bool true)) (.tmp 61))⟩, ⟨(.some 63), .none, .false, (.mv (.tmp 62))⟩, ⟨(.some 64), (.some (63, .false)), .false, (.mv (.tmp 10))⟩, ⟨(.some 65), (.some (63, .false)), .false, (.mv (.tmp 7))⟩, ⟨(.some 66), (.some (63, .false)), .false, (.bin .neq (.tmp 64) (.tmp 65))⟩, ⟨(.some 67), .none, .false, (.pick (.tmp 63) (.const (Go.Value.bool true)) (.tmp 66))⟩]) (.cond (.tmp 67) (.seq (.reg [⟨(.some 4), .none, .false, (.mv (.const (Go.Value.bool false)))⟩]) .ret) .skip)) (.seq (.reg [⟨(.some 12), .none, .false, (.mv (.const (Go.Value.int Go.IntKind.i64 1)))⟩]) (.seq (.reg [⟨(.some 68), .none, .false, (.ld .true 1 (.tmp 9))⟩, ⟨(.some 69), .none, .false, (.mv (.tmp 12))⟩, ⟨(.some 70), .none, .false, (.call (.func 12) [(.tmp 68), (.tmp 69)])⟩, ⟨(.some 12), .none, .false, (.mv (.tmp 70))⟩]) (.seq (.reg [⟨(.some 13), .none, .false, (.mv (.const (Go.Value.int Go.IntKind.i64 1)))⟩]) (.seq (.reg [⟨(.some 71), .none, .false, (.ld .true 1 (.tmp 9))⟩, ⟨(.some 72), .none, .false, (.mv (.tmp 13))⟩, ⟨(.some 73), .none, .false, (.call (.func 13) [(.tmp 71), (.tmp 72)])⟩, ⟨(.some 13), .none, .false, (.mv (.tmp 73))⟩]) (.seq (.seq (.reg [⟨(.some 74), .none, .false, (.mv (.tmp 13))⟩, ⟨(.some 75), .none, .false, (.bin .lss (.tmp 74) (.const (Go.Value.int Go.IntKind.i64 0)))⟩]) (.cond (.tmp 75) (.seq (.reg [⟨(.some 4), .none, .false, (.mv (.const (Go.Value.bool false)))⟩]) .ret) .skip)) (.seq (.seq (.reg [⟨(.some 76), .none, .false, (.mv (.tmp 13))⟩, ⟨(.some 77), .none, .false, (.mv (.tmp 12))⟩, ⟨(.some 78), .none, .false, (.bin .neq (.tmp 76) (.tmp 77))⟩]) (.cond (.tmp 78) (.seq (.reg [⟨(.some 4), .none, .false, (.mv (.const (Go.Value.bool false)))⟩]) .ret) .skip)) (.seq (.regO S.t4_178) (.seq (.seq (.reg [⟨(.some 87), .none, .false, (.ld .true 1 (.tmp 14))⟩, ⟨(.some 88), .none, .false, (.ld .true 1 (.tmp 6))⟩, ⟨(.some 89), .none, .false, (.call (.func 11) [(.tmp 87), (.tmp 88)])⟩, ⟨(.some 90), .none, .false, (.not (.tmp 89))⟩, ⟨(.some 91), .none, .false, (.mv (.tmp 90))⟩, ⟨(.some 92), (.some (91, .false)), .false, (.mv (.tmp 15))⟩, ⟨(.some 93), (.some (91, .false)), .false, (.mv (.tmp 7))⟩, ⟨(.some 94), (.some (91, .false)), .false, (.bin .neq (.tmp 92) (.tmp 93))⟩, ⟨(.some 95), .none, .false, (.pick (.tmp 91) (.const (Go.Value.bool true)) (.tmp 94))⟩]) (.cond (.tmp 95) (.seq (.reg [⟨(.some 4), .none, .false, (.mv (.const (Go.Value.bool false)))⟩]) .ret) .skip)) (.seq (.reg [⟨(.some 13), .none, .false, (.mv (.const (Go.Value.int Go.IntKind.i64 1)))⟩]) (.seq (.reg [⟨(.some 96), .none, .false, (.ld .true 1 (.tmp 9))⟩, ⟨(.some 97), .none, .false, (.mv (.tmp 13))⟩, ⟨(.some 98), .none, .false, (.call (.func 13) [(.tmp 96), (.tmp 97)])⟩, ⟨(.some 13), .none, .false, (.mv (.tmp 98))⟩]) (.seq (.seq (.reg [⟨(.some 99), .none, .false, (.mv (.tmp 13))⟩, ⟨(.some 100), .none, .false, (.bin .lss (.tmp 99) (.const (Go.Value.int Go.IntKind.i64 0)))⟩]) (.cond (.tmp 100) (.seq (.reg [⟨(.some 4), .none, .false, (.mv (.const (Go.Value.bool false)))⟩]) .ret) .skip)) (.seq (.seq (.reg [⟨(.some 101), .none, .false, (.mv (.tmp 13))⟩, ⟨(.some 102), .none, .false, (.mv (.tmp 12))⟩, ⟨(.some 103), .none, .false, (.bin .neq (.tmp 101) (.tmp 102))⟩]) (.cond (.tmp 103) (.seq (.reg [⟨(.some 4), .none, .false, (.mv (.const (Go.Value.bool false)))⟩]) .ret) .skip)) (.seq (.reg [⟨(.some 4), .none, .false, (.mv (.const (Go.Value.bool true)))⟩]) .ret)))))))))))))))))))))))))
set_option maxRecDepth 100000 in
theorem S.ok4 : stripF Try.prog Try.f4 = some S.s4 := by kernel_rfl
set_option maxRecDepth 10000
set_option maxHeartbeats 4000000
theorem law_TakeTile (x0 : TAssembly) (x1 : TPoint) : Spec Try.prog 4 [.agg (enAssembly x0), .agg (enPoint x1)] (oB true) := by
  refine Spec.walk T.mixed Try.func4 S.ok4 (by simp [Try.f4]) fun hk => ?_
  have hr0 : rng 1048576 := ⟨by omega, by omega⟩
  unfold S.s4
  repeat' (first | refine R.mv rfl ?_ | refine R.reg ?_ | refine R.tk ?_ | refine R.tkN ?_ | exact R.vac | refine R.both ?_ ?_ | refine R.nil ?_ | refine R.seq ?_ | refine R.nseq ?_ | refine R.nblk ?_ | refine R.skip ?_ | refine R.blk ?_ | refine R.exit rfl ?_ | refine R.gRun rfl ?_ | refine R.gSkip rfl ?_ | refine R.gSkip0 rfl ?_ | refine R.gUndef rfl ?_ | refine R.gUndef0 rfl ?_ | refine R.ldEp rfl rfl (by assumption) rfl rfl ?_ | refine R.ldaEp rfl rfl (by assumption) (Nat.le_of_ble_eq_true rfl) rfl rfl ?_ | refine R.ld rfl rfl rfl ?_ | refine R.lda rfl rfl (Nat.le_of_ble_eq_true rfl) rfl ?_ | refine R.lss rfl rfl ?_ | refine R.neq rfl rfl ?_ | refine R.pickT rfl rfl ?_ | refine R.pickF rfl rfl ?_ | refine R.not rfl ?_ | refine R.mvU rfl ?_ | refine R.ext rfl rfl ?_ | refine R.al rfl ?_ | refine R.box rfl rfl rfl ?_ | refine R.stoB rfl rfl rfl rfl ⟨rfl, rfl, Nat.le_of_ble_eq_true rfl⟩ rfl ?_ | refine R.stoE _ rfl rfl rfl rfl rfl (by assumption) rfl ⟨rfl, rfl, Nat.le_of_ble_eq_true rfl⟩ ?_ | refine R.condT rfl ?_ | refine R.condF rfl ?_ | refine R.call (bor := false) rfl rfl (szAssembly_ok _ _ hr0) rfl rfl rfl ?_ | refine R.call (bor := true) rfl rfl (szAssembly_ok _ _ hr0) rfl rfl rfl ?_ | refine R.fcal (bor := false) rfl rfl (szAssembly_ok _ _ hr0) rfl rfl rfl ?_ | refine R.fcal (bor := true) rfl rfl (szAssembly_ok _ _ hr0) rfl rfl rfl ?_ | refine R.cond rfl (fun hc => ?_) (fun hc => ?_) | refine R.condN rfl (fun hc => ?_) (fun hc => ?_) | refine R.condB rfl (fun hc => ?_) (fun hc => ?_) | refine R.gP rfl (fun hc => ?_) (fun hc => ?_) | refine R.gN rfl (fun hc => ?_) (fun hc => ?_) | refine R.gB rfl (fun hc => ?_) (fun hc => ?_))
  · exact R.ret ⟨.inr rfl, R.outB rfl rfl rfl⟩
  have hbx0 := gdAssembly x0 _ hr0 (by omega)
  have hr1 := rngAssembly x0 _ hr0
  have hlx00 : x0.fTiles.length ≤ 1048576 := hbx0
  have hcx00 : cnt cPlaced x0.fTiles ≤ 100000000 := by rw [cnt_const (c := cPlaced) (K := 3) fun _ => rfl]; omega
  have hnx0 : cnAssembly x0 = cnt cPlaced x0.fTiles := rfl
  have hrl0 : (TAssembly.mk (fTake x0 x1).1).fTiles.length ≤ 1048576 := Nat.le_trans fTake_len (by omega)
  have hrc0 : cnt cPlaced (TAssembly.mk (fTake x0 x1).1).fTiles ≤ 100000000 := by rw [cnt_const (c := cPlaced) (K := 3) fun _ => rfl]; omega
  have hrn : cnAssembly (TAssembly.mk (fTake x0 x1).1) = cnt cPlaced (TAssembly.mk (fTake x0 x1).1).fTiles := rfl
  clear hk
  refine R.regO (⟨frE [(2, .v (.c (.ptr 2 0))), (3, .v (.c (.ptr 3 0))), (6, .v (.c (.ptr 6 0))), (7, pvA (.int .i64 (fTake x0 x1).2))], frO [(2, .box 24 ((enAssembly x0).map B.d)), (3, .box 26 ((enPoint x1).map B.d)), (6, .box 30 [.own 28000]), (28000, .arr kPlaced ((fTake x0 x1).1.map enPlaced) [])]⟩) ?_ ?_
  · repeat' (first | refine R.mv rfl ?_ | refine R.reg ?_ | refine R.tk ?_ | refine R.tkN ?_ | exact R.vac | refine R.both ?_ ?_ | refine R.nil ?_ | refine R.seq ?_ | refine R.nseq ?_ | refine R.nblk ?_ | refine R.skip ?_ | refine R.blk ?_ | refine R.exit rfl ?_ | refine R.gRun rfl ?_ | refine R.gSkip rfl ?_ | refine R.gSkip0 rfl ?_ | refine R.gUndef rfl ?_ | refine R.gUndef0 rfl ?_ | refine R.ldEp rfl rfl (by assumption) rfl rfl ?_ | refine R.ldaEp rfl rfl (by assumption) (Nat.le_of_ble_eq_true rfl) rfl rfl ?_ | refine R.ld rfl rfl rfl ?_ | refine R.lda rfl rfl (Nat.le_of_ble_eq_true rfl) rfl ?_ | refine R.lss rfl rfl ?_ | refine R.neq rfl rfl ?_ | refine R.pickT rfl rfl ?_ | refine R.pickF rfl rfl ?_ | refine R.not rfl ?_ | refine R.mvU rfl ?_ | refine R.ext rfl rfl ?_ | refine R.al rfl ?_ | refine R.box rfl rfl rfl ?_ | refine R.stoB rfl rfl rfl rfl ⟨rfl, rfl, Nat.le_of_ble_eq_true rfl⟩ rfl ?_ | refine R.stoE _ rfl rfl rfl rfl rfl (by assumption) rfl ⟨rfl, rfl, Nat.le_of_ble_eq_true rfl⟩ ?_ | refine R.condT rfl ?_ | refine R.condF rfl ?_ | refine R.callN1 (bor := false) rfl rfl (toAssembly_ok _ hbx0) rfl rfl ?_ | refine R.callN1 (bor := true) rfl rfl (toAssembly_ok _ hbx0) rfl rfl ?_ | refine R.callN (bor := false) rfl rfl (toAssembly_ok _ hbx0) rfl rfl rfl rfl rfl ?_ | refine R.callN (bor := true) rfl rfl (toAssembly_ok _ hbx0) rfl rfl rfl rfl rfl ?_ | refine R.call (bor := false) rfl rfl (toPoint_ok _) rfl rfl rfl ?_ | refine R.call (bor := true) rfl rfl (toPoint_ok _) rfl rfl rfl ?_ | refine R.fcal (bor := false) rfl rfl (toPoint_ok _) rfl rfl rfl ?_ | refine R.fcal (bor := true) rfl rfl (toPoint_ok _) rfl rfl rfl ?_ | refine R.callN1 (bor := false) rfl rfl (sTake _ _) rfl rfl ?_ | refine R.callN1 (bor := true) rfl rfl (sTake _ _) rfl rfl ?_ | refine R.callN (bor := false) rfl rfl (sTake _ _) rfl rfl rfl rfl rfl ?_ | refine R.callN (bor := true) rfl rfl (sTake _ _) rfl rfl rfl rfl rfl ?_ | refine R.cond rfl (fun hc => ?_) (fun hc => ?_) | refine R.condN rfl (fun hc => ?_) (fun hc => ?_) | refine R.condB rfl (fun hc => ?_) (fun hc => ?_) | refine R.gP rfl (fun hc => ?_) (fun hc => ?_) | refine R.gN rfl (fun hc => ?_) (fun hc => ?_) | refine R.gB rfl (fun hc => ?_) (fun hc => ?_))
    all_goals exact R.done (Weak.frame _ _ ⟨rfl, rfl, rfl, rfl, trivial⟩ ⟨rfl, rfl, rfl, rfl, trivial⟩ rfl rfl)
  repeat' (first | refine R.mv rfl ?_ | refine R.reg ?_ | refine R.tk ?_ | refine R.tkN ?_ | exact R.vac | refine R.both ?_ ?_ | refine R.nil ?_ | refine R.seq ?_ | refine R.nseq ?_ | refine R.nblk ?_ | refine R.skip ?_ | refine R.blk ?_ | refine R.exit rfl ?_ | refine R.gRun rfl ?_ | refine R.gSkip rfl ?_ | refine R.gSkip0 rfl ?_ | refine R.gUndef rfl ?_ | refine R.gUndef0 rfl ?_ | refine R.ldEp rfl rfl (by assumption) rfl rfl ?_ | refine R.ldaEp rfl rfl (by assumption) (Nat.le_of_ble_eq_true rfl) rfl rfl ?_ | refine R.ld rfl rfl rfl ?_ | refine R.lda rfl rfl (Nat.le_of_ble_eq_true rfl) rfl ?_ | refine R.lss rfl rfl ?_ | refine R.neq rfl rfl ?_ | refine R.pickT rfl rfl ?_ | refine R.pickF rfl rfl ?_ | refine R.not rfl ?_ | refine R.mvU rfl ?_ | refine R.ext rfl rfl ?_ | refine R.al rfl ?_ | refine R.box rfl rfl rfl ?_ | refine R.stoB rfl rfl rfl rfl ⟨rfl, rfl, Nat.le_of_ble_eq_true rfl⟩ rfl ?_ | refine R.stoE _ rfl rfl rfl rfl rfl (by assumption) rfl ⟨rfl, rfl, Nat.le_of_ble_eq_true rfl⟩ ?_ | refine R.condT rfl ?_ | refine R.condF rfl ?_ | refine R.callN1 (bor := false) rfl rfl (toAssembly_ok _ hbx0) rfl rfl ?_ | refine R.callN1 (bor := true) rfl rfl (toAssembly_ok _ hbx0) rfl rfl ?_ | refine R.callN (bor := false) rfl rfl (toAssembly_ok _ hbx0) rfl rfl rfl rfl rfl ?_ | refine R.callN (bor := true) rfl rfl (toAssembly_ok _ hbx0) rfl rfl rfl rfl rfl ?_ | refine R.cond rfl (fun hc => ?_) (fun hc => ?_) | refine R.condN rfl (fun hc => ?_) (fun hc => ?_) | refine R.condB rfl (fun hc => ?_) (fun hc => ?_) | refine R.gP rfl (fun hc => ?_) (fun hc => ?_) | refine R.gN rfl (fun hc => ?_) (fun hc => ?_) | refine R.gB rfl (fun hc => ?_) (fun hc => ?_))
  refine R.regO (⟨frE [(2, .v (.c (.ptr 2 0))), (3, .v (.c (.ptr 3 0))), (6, .v (.c (.ptr 6 0))), (7, pvA (.int .i64 (fTake x0 x1).2)), (8, .v (.c (.ptr 8 0))), (9, .v (.c (.ptr 9 0))), (10, pvA (.int .i64 (fTake x0 x1).2))], frO [(2, .box 24 ((enAssembly x0).map B.d)), (3, .box 26 ((enPoint x1).map B.d)), (6, .box 30 [.own 28000]), (28000, .arr kPlaced ((fTake x0 x1).1.map enPlaced) []), (8, .box 30 [.own 32000]), (32000, .arr kPlaced (x0.fTiles.map enPlaced) []), (9, .box 30 [.own 37000]), (37000, .arr kPlaced ((fTake x0 x1).1.map enPlaced) [])]⟩) ?_ ?_
  · repeat' (first | refine R.mv rfl ?_ | refine R.reg ?_ | refine R.tk ?_ | refine R.tkN ?_ | exact R.vac | refine R.both ?_ ?_ | refine R.nil ?_ | refine R.seq ?_ | refine R.nseq ?_ | refine R.nblk ?_ | refine R.skip ?_ | refine R.blk ?_ | refine R.exit rfl ?_ | refine R.gRun rfl ?_ | refine R.gSkip rfl ?_ | refine R.gSkip0 rfl ?_ | refine R.gUndef rfl ?_ | refine R.gUndef0 rfl ?_ | refine R.ldEp rfl rfl (by assumption) rfl rfl ?_ | refine R.ldaEp rfl rfl (by assumption) (Nat.le_of_ble_eq_true rfl) rfl rfl ?_ | refine R.ld rfl rfl rfl ?_ | refine R.lda rfl rfl (Nat.le_of_ble_eq_true rfl) rfl ?_ | refine R.lss rfl rfl ?_ | refine R.neq rfl rfl ?_ | refine R.pickT rfl rfl ?_ | refine R.pickF rfl rfl ?_ | refine R.not rfl ?_ | refine R.mvU rfl ?_ | refine R.ext rfl rfl ?_ | refine R.al rfl ?_ | refine R.box rfl rfl rfl ?_ | refine R.stoB rfl rfl rfl rfl ⟨rfl, rfl, Nat.le_of_ble_eq_true rfl⟩ rfl ?_ | refine R.stoE _ rfl rfl rfl rfl rfl (by assumption) rfl ⟨rfl, rfl, Nat.le_of_ble_eq_true rfl⟩ ?_ | refine R.condT rfl ?_ | refine R.condF rfl ?_ | refine R.call (bor := false) rfl rfl (toPoint_ok _) rfl rfl rfl ?_ | refine R.call (bor := true) rfl rfl (toPoint_ok _) rfl rfl rfl ?_ | refine R.fcal (bor := false) rfl rfl (toPoint_ok _) rfl rfl rfl ?_ | refine R.fcal (bor := true) rfl rfl (toPoint_ok _) rfl rfl rfl ?_ | refine R.callN1 (bor := false) rfl rfl (iTake _ _) rfl rfl ?_ | refine R.callN1 (bor := true) rfl rfl (iTake _ _) rfl rfl ?_ | refine R.callN (bor := false) rfl rfl (iTake _ _) rfl rfl rfl rfl rfl ?_ | refine R.callN (bor := true) rfl rfl (iTake _ _) rfl rfl rfl rfl rfl ?_ | refine R.cond rfl (fun hc => ?_) (fun hc => ?_) | refine R.condN rfl (fun hc => ?_) (fun hc => ?_) | refine R.condB rfl (fun hc => ?_) (fun hc => ?_) | refine R.gP rfl (fun hc => ?_) (fun hc => ?_) | refine R.gN rfl (fun hc => ?_) (fun hc => ?_) | refine R.gB rfl (fun hc => ?_) (fun hc => ?_))
    all_goals exact R.done (Weak.frame _ _ ⟨rfl, rfl, rfl, rfl, rfl, rfl, rfl, trivial⟩ ⟨rfl, rfl, rfl, rfl, rfl, rfl, rfl, rfl, trivial⟩ rfl rfl)
  repeat' (first | refine R.mv rfl ?_ | refine R.reg ?_ | refine R.tk ?_ | refine R.tkN ?_ | exact R.vac | refine R.both ?_ ?_ | refine R.nil ?_ | refine R.seq ?_ | refine R.nseq ?_ | refine R.nblk ?_ | refine R.skip ?_ | refine R.blk ?_ | refine R.exit rfl ?_ | refine R.gRun rfl ?_ | refine R.gSkip rfl ?_ | refine R.gSkip0 rfl ?_ | refine R.gUndef rfl ?_ | refine R.gUndef0 rfl ?_ | refine R.ldEp rfl rfl (by assumption) rfl rfl ?_ | refine R.ldaEp rfl rfl (by assumption) (Nat.le_of_ble_eq_true rfl) rfl rfl ?_ | refine R.ld rfl rfl rfl ?_ | refine R.lda rfl rfl (Nat.le_of_ble_eq_true rfl) rfl ?_ | refine R.lss rfl rfl ?_ | refine R.neq rfl rfl ?_ | refine R.pickT rfl rfl ?_ | refine R.pickF rfl rfl ?_ | refine R.not rfl ?_ | refine R.mvU rfl ?_ | refine R.ext rfl rfl ?_ | refine R.al rfl ?_ | refine R.box rfl rfl rfl ?_ | refine R.stoB rfl rfl rfl rfl ⟨rfl, rfl, Nat.le_of_ble_eq_true rfl⟩ rfl ?_ | refine R.stoE _ rfl rfl rfl rfl rfl (by assumption) rfl ⟨rfl, rfl, Nat.le_of_ble_eq_true rfl⟩ ?_ | refine R.condT rfl ?_ | refine R.condF rfl ?_ | refine R.call (bor := false) rfl rfl (toAssembly_ok _ hbx0) rfl rfl rfl ?_ | refine R.call (bor := true) rfl rfl (toAssembly_ok _ hbx0) rfl rfl rfl ?_ | refine R.fcal (bor := false) rfl rfl (toAssembly_ok _ hbx0) rfl rfl rfl ?_ | refine R.fcal (bor := true) rfl rfl (toAssembly_ok _ hbx0) rfl rfl rfl ?_ | refine R.call (bor := false) rfl rfl (eqAssembly_ok _) rfl rfl rfl ?_ | refine R.call (bor := true) rfl rfl (eqAssembly_ok _) rfl rfl rfl ?_ | refine R.fcal (bor := false) rfl rfl (eqAssembly_ok _) rfl rfl rfl ?_ | refine R.fcal (bor := true) rfl rfl (eqAssembly_ok _) rfl rfl rfl ?_ | refine R.call (bor := false) rfl rfl (eqAssembly_ok (TAssembly.mk (fTake x0 x1).1)) rfl rfl rfl ?_ | refine R.call (bor := true) rfl rfl (eqAssembly_ok (TAssembly.mk (fTake x0 x1).1)) rfl rfl rfl ?_ | refine R.fcal (bor := false) rfl rfl (eqAssembly_ok (TAssembly.mk (fTake x0 x1).1)) rfl rfl rfl ?_ | refine R.fcal (bor := true) rfl rfl (eqAssembly_ok (TAssembly.mk (fTake x0 x1).1)) rfl rfl rfl ?_ | refine R.callM1 (bor := false) rfl rfl (markAssembly_ok _ _ ⟨by omega, by omega⟩) rfl rfl rfl rfl ?_ | refine R.callM1 (bor := true) rfl rfl (markAssembly_ok _ _ ⟨by omega, by omega⟩) rfl rfl rfl rfl ?_ | refine R.callM2 (bor := false) rfl rfl (markAssembly_ok _ _ ⟨by omega, by omega⟩) rfl rfl rfl rfl rfl ?_ | refine R.callM2 (bor := true) rfl rfl (markAssembly_ok _ _ ⟨by omega, by omega⟩) rfl rfl rfl rfl rfl ?_ | refine R.callM3 (bor := false) rfl rfl (markAssembly_ok _ _ ⟨by omega, by omega⟩) rfl rfl rfl rfl rfl rfl ?_ | refine R.callM3 (bor := true) rfl rfl (markAssembly_ok _ _ ⟨by omega, by omega⟩) rfl rfl rfl rfl rfl rfl ?_ | refine R.callM1 (bor := false) rfl rfl (markAssembly_ok (TAssembly.mk (fTake x0 x1).1) _ ⟨by omega, by omega⟩) rfl rfl rfl rfl ?_ | refine R.callM1 (bor := true) rfl rfl (markAssembly_ok (TAssembly.mk (fTake x0 x1).1) _ ⟨by omega, by omega⟩) rfl rfl rfl rfl ?_ | refine R.callM2 (bor := false) rfl rfl (markAssembly_ok (TAssembly.mk (fTake x0 x1).1) _ ⟨by omega, by omega⟩) rfl rfl rfl rfl rfl ?_ | refine R.callM2 (bor := true) rfl rfl (markAssembly_ok (TAssembly.mk (fTake x0 x1).1) _ ⟨by omega, by omega⟩) rfl rfl rfl rfl rfl ?_ | refine R.callM3 (bor := false) rfl rfl (markAssembly_ok (TAssembly.mk (fTake x0 x1).1) _ ⟨by omega, by omega⟩) rfl rfl rfl rfl rfl rfl ?_ | refine R.callM3 (bor := true) rfl rfl (markAssembly_ok (TAssembly.mk (fTake x0 x1).1) _ ⟨by omega, by omega⟩) rfl rfl rfl rfl rfl rfl ?_ | refine R.call (bor := false) rfl rfl (heldAssembly_ok _ _ ⟨by omega, by omega⟩) rfl rfl rfl ?_ | refine R.call (bor := true) rfl rfl (heldAssembly_ok _ _ ⟨by omega, by omega⟩) rfl rfl rfl ?_ | refine R.fcal (bor := false) rfl rfl (heldAssembly_ok _ _ ⟨by omega, by omega⟩) rfl rfl rfl ?_ | refine R.fcal (bor := true) rfl rfl (heldAssembly_ok _ _ ⟨by omega, by omega⟩) rfl rfl rfl ?_ | refine R.call (bor := false) rfl rfl (heldAssembly_ok (TAssembly.mk (fTake x0 x1).1) _ ⟨by omega, by omega⟩) rfl rfl rfl ?_ | refine R.call (bor := true) rfl rfl (heldAssembly_ok (TAssembly.mk (fTake x0 x1).1) _ ⟨by omega, by omega⟩) rfl rfl rfl ?_ | refine R.fcal (bor := false) rfl rfl (heldAssembly_ok (TAssembly.mk (fTake x0 x1).1) _ ⟨by omega, by omega⟩) rfl rfl rfl ?_ | refine R.fcal (bor := true) rfl rfl (heldAssembly_ok (TAssembly.mk (fTake x0 x1).1) _ ⟨by omega, by omega⟩) rfl rfl rfl ?_ | refine R.cond rfl (fun hc => ?_) (fun hc => ?_) | refine R.condN rfl (fun hc => ?_) (fun hc => ?_) | refine R.condB rfl (fun hc => ?_) (fun hc => ?_) | refine R.gP rfl (fun hc => ?_) (fun hc => ?_) | refine R.gN rfl (fun hc => ?_) (fun hc => ?_) | refine R.gB rfl (fun hc => ?_) (fun hc => ?_))
  all_goals first | exact R.ret ⟨.inr rfl, R.outB rfl rfl rfl⟩ | (exfalso; simp_all; done) | skip
  refine R.regO (⟨frE [(6, .v (.c (.ptr 6 0))), (7, pvA (.int .i64 (fTake x0 x1).2)), (9, .v (.c (.ptr 9 0))), (12, pvA (.int .i64 (1 + cnAssembly (TAssembly.mk (fTake x0 x1).1)))), (14, .v (.c (.ptr 14 0))), (15, pvA (.int .i64 (fTake x0 x1).2))], frO [(6, .box 30 [.own 28000]), (28000, .arr kPlaced ((fTake x0 x1).1.map enPlaced) []), (9, .box 30 [.own 37000]), (37000, .arr kPlaced ((mkS mPlaced cPlaced (fTake x0 x1).1 1).map enPlaced) []), (14, .box 30 [.own 86000]), (86000, .arr kPlaced ((fTake x0 x1).1.map enPlaced) [])]⟩) ?_ ?_
  · repeat' (first | refine R.mv rfl ?_ | refine R.reg ?_ | refine R.tk ?_ | refine R.tkN ?_ | exact R.vac | refine R.both ?_ ?_ | refine R.nil ?_ | refine R.seq ?_ | refine R.nseq ?_ | refine R.nblk ?_ | refine R.skip ?_ | refine R.blk ?_ | refine R.exit rfl ?_ | refine R.gRun rfl ?_ | refine R.gSkip rfl ?_ | refine R.gSkip0 rfl ?_ | refine R.gUndef rfl ?_ | refine R.gUndef0 rfl ?_ | refine R.ldEp rfl rfl (by assumption) rfl rfl ?_ | refine R.ldaEp rfl rfl (by assumption) (Nat.le_of_ble_eq_true rfl) rfl rfl ?_ | refine R.ld rfl rfl rfl ?_ | refine R.lda rfl rfl (Nat.le_of_ble_eq_true rfl) rfl ?_ | refine R.lss rfl rfl ?_ | refine R.neq rfl rfl ?_ | refine R.pickT rfl rfl ?_ | refine R.pickF rfl rfl ?_ | refine R.not rfl ?_ | refine R.mvU rfl ?_ | refine R.ext rfl rfl ?_ | refine R.al rfl ?_ | refine R.box rfl rfl rfl ?_ | refine R.stoB rfl rfl rfl rfl ⟨rfl, rfl, Nat.le_of_ble_eq_true rfl⟩ rfl ?_ | refine R.stoE _ rfl rfl rfl rfl rfl (by assumption) rfl ⟨rfl, rfl, Nat.le_of_ble_eq_true rfl⟩ ?_ | refine R.condT rfl ?_ | refine R.condF rfl ?_ | refine R.call (bor := false) rfl rfl (toAssembly_ok _ hbx0) rfl rfl rfl ?_ | refine R.call (bor := true) rfl rfl (toAssembly_ok _ hbx0) rfl rfl rfl ?_ | refine R.fcal (bor := false) rfl rfl (toAssembly_ok _ hbx0) rfl rfl rfl ?_ | refine R.fcal (bor := true) rfl rfl (toAssembly_ok _ hbx0) rfl rfl rfl ?_ | refine R.call (bor := false) rfl rfl (toPoint_ok _) rfl rfl rfl ?_ | refine R.call (bor := true) rfl rfl (toPoint_ok _) rfl rfl rfl ?_ | refine R.fcal (bor := false) rfl rfl (toPoint_ok _) rfl rfl rfl ?_ | refine R.fcal (bor := true) rfl rfl (toPoint_ok _) rfl rfl rfl ?_ | refine R.callN1 (bor := false) rfl rfl (iTake _ _) rfl rfl ?_ | refine R.callN1 (bor := true) rfl rfl (iTake _ _) rfl rfl ?_ | refine R.callN (bor := false) rfl rfl (iTake _ _) rfl rfl rfl rfl rfl ?_ | refine R.callN (bor := true) rfl rfl (iTake _ _) rfl rfl rfl rfl rfl ?_ | refine R.cond rfl (fun hc => ?_) (fun hc => ?_) | refine R.condN rfl (fun hc => ?_) (fun hc => ?_) | refine R.condB rfl (fun hc => ?_) (fun hc => ?_) | refine R.gP rfl (fun hc => ?_) (fun hc => ?_) | refine R.gN rfl (fun hc => ?_) (fun hc => ?_) | refine R.gB rfl (fun hc => ?_) (fun hc => ?_))
    all_goals exact R.done (Weak.frame _ _ ⟨rfl, rfl, rfl, rfl, rfl, rfl, trivial⟩ ⟨rfl, rfl, rfl, rfl, rfl, rfl, trivial⟩ rfl rfl)
  repeat' (first | refine R.mv rfl ?_ | refine R.reg ?_ | refine R.tk ?_ | refine R.tkN ?_ | exact R.vac | refine R.both ?_ ?_ | refine R.nil ?_ | refine R.seq ?_ | refine R.nseq ?_ | refine R.nblk ?_ | refine R.skip ?_ | refine R.blk ?_ | refine R.exit rfl ?_ | refine R.gRun rfl ?_ | refine R.gSkip rfl ?_ | refine R.gSkip0 rfl ?_ | refine R.gUndef rfl ?_ | refine R.gUndef0 rfl ?_ | refine R.ldEp rfl rfl (by assumption) rfl rfl ?_ | refine R.ldaEp rfl rfl (by assumption) (Nat.le_of_ble_eq_true rfl) rfl rfl ?_ | refine R.ld rfl rfl rfl ?_ | refine R.lda rfl rfl (Nat.le_of_ble_eq_true rfl) rfl ?_ | refine R.lss rfl rfl ?_ | refine R.neq rfl rfl ?_ | refine R.pickT rfl rfl ?_ | refine R.pickF rfl rfl ?_ | refine R.not rfl ?_ | refine R.mvU rfl ?_ | refine R.ext rfl rfl ?_ | refine R.al rfl ?_ | refine R.box rfl rfl rfl ?_ | refine R.stoB rfl rfl rfl rfl ⟨rfl, rfl, Nat.le_of_ble_eq_true rfl⟩ rfl ?_ | refine R.stoE _ rfl rfl rfl rfl rfl (by assumption) rfl ⟨rfl, rfl, Nat.le_of_ble_eq_true rfl⟩ ?_ | refine R.condT rfl ?_ | refine R.condF rfl ?_ | refine R.call (bor := false) rfl rfl (toAssembly_ok _ hbx0) rfl rfl rfl ?_ | refine R.call (bor := true) rfl rfl (toAssembly_ok _ hbx0) rfl rfl rfl ?_ | refine R.fcal (bor := false) rfl rfl (toAssembly_ok _ hbx0) rfl rfl rfl ?_ | refine R.fcal (bor := true) rfl rfl (toAssembly_ok _ hbx0) rfl rfl rfl ?_ | refine R.call (bor := false) rfl rfl (eqAssembly_ok _) rfl rfl rfl ?_ | refine R.call (bor := true) rfl rfl (eqAssembly_ok _) rfl rfl rfl ?_ | refine R.fcal (bor := false) rfl rfl (eqAssembly_ok _) rfl rfl rfl ?_ | refine R.fcal (bor := true) rfl rfl (eqAssembly_ok _) rfl rfl rfl ?_ | refine R.call (bor := false) rfl rfl (eqAssembly_ok (TAssembly.mk (fTake x0 x1).1)) rfl rfl rfl ?_ | refine R.call (bor := true) rfl rfl (eqAssembly_ok (TAssembly.mk (fTake x0 x1).1)) rfl rfl rfl ?_ | refine R.fcal (bor := false) rfl rfl (eqAssembly_ok (TAssembly.mk (fTake x0 x1).1)) rfl rfl rfl ?_ | refine R.fcal (bor := true) rfl rfl (eqAssembly_ok (TAssembly.mk (fTake x0 x1).1)) rfl rfl rfl ?_ | refine R.callM1 (bor := false) rfl rfl (markAssembly_ok _ _ ⟨by omega, by omega⟩) rfl rfl rfl rfl ?_ | refine R.callM1 (bor := true) rfl rfl (markAssembly_ok _ _ ⟨by omega, by omega⟩) rfl rfl rfl rfl ?_ | refine R.callM2 (bor := false) rfl rfl (markAssembly_ok _ _ ⟨by omega, by omega⟩) rfl rfl rfl rfl rfl ?_ | refine R.callM2 (bor := true) rfl rfl (markAssembly_ok _ _ ⟨by omega, by omega⟩) rfl rfl rfl rfl rfl ?_ | refine R.callM3 (bor := false) rfl rfl (markAssembly_ok _ _ ⟨by omega, by omega⟩) rfl rfl rfl rfl rfl rfl ?_ | refine R.callM3 (bor := true) rfl rfl (markAssembly_ok _ _ ⟨by omega, by omega⟩) rfl rfl rfl rfl rfl rfl ?_ | refine R.callM1 (bor := false) rfl rfl (markAssembly_ok (TAssembly.mk (fTake x0 x1).1) _ ⟨by omega, by omega⟩) rfl rfl rfl rfl ?_ | refine R.callM1 (bor := true) rfl rfl (markAssembly_ok (TAssembly.mk (fTake x0 x1).1) _ ⟨by omega, by omega⟩) rfl rfl rfl rfl ?_ | refine R.callM2 (bor := false) rfl rfl (markAssembly_ok (TAssembly.mk (fTake x0 x1).1) _ ⟨by omega, by omega⟩) rfl rfl rfl rfl rfl ?_ | refine R.callM2 (bor := true) rfl rfl (markAssembly_ok (TAssembly.mk (fTake x0 x1).1) _ ⟨by omega, by omega⟩) rfl rfl rfl rfl rfl ?_ | refine R.callM3 (bor := false) rfl rfl (markAssembly_ok (TAssembly.mk (fTake x0 x1).1) _ ⟨by omega, by omega⟩) rfl rfl rfl rfl rfl rfl ?_ | refine R.callM3 (bor := true) rfl rfl (markAssembly_ok (TAssembly.mk (fTake x0 x1).1) _ ⟨by omega, by omega⟩) rfl rfl rfl rfl rfl rfl ?_ | refine R.call (bor := false) rfl rfl (heldAssembly_ok _ _ ⟨by omega, by omega⟩) rfl rfl rfl ?_ | refine R.call (bor := true) rfl rfl (heldAssembly_ok _ _ ⟨by omega, by omega⟩) rfl rfl rfl ?_ | refine R.fcal (bor := false) rfl rfl (heldAssembly_ok _ _ ⟨by omega, by omega⟩) rfl rfl rfl ?_ | refine R.fcal (bor := true) rfl rfl (heldAssembly_ok _ _ ⟨by omega, by omega⟩) rfl rfl rfl ?_ | refine R.call (bor := false) rfl rfl (heldAssembly_ok (TAssembly.mk (fTake x0 x1).1) _ ⟨by omega, by omega⟩) rfl rfl rfl ?_ | refine R.call (bor := true) rfl rfl (heldAssembly_ok (TAssembly.mk (fTake x0 x1).1) _ ⟨by omega, by omega⟩) rfl rfl rfl ?_ | refine R.fcal (bor := false) rfl rfl (heldAssembly_ok (TAssembly.mk (fTake x0 x1).1) _ ⟨by omega, by omega⟩) rfl rfl rfl ?_ | refine R.fcal (bor := true) rfl rfl (heldAssembly_ok (TAssembly.mk (fTake x0 x1).1) _ ⟨by omega, by omega⟩) rfl rfl rfl ?_ | refine R.cond rfl (fun hc => ?_) (fun hc => ?_) | refine R.condN rfl (fun hc => ?_) (fun hc => ?_) | refine R.condB rfl (fun hc => ?_) (fun hc => ?_) | refine R.gP rfl (fun hc => ?_) (fun hc => ?_) | refine R.gN rfl (fun hc => ?_) (fun hc => ?_) | refine R.gB rfl (fun hc => ?_) (fun hc => ?_))
  all_goals first | exact R.ret ⟨.inr rfl, R.outB rfl rfl rfl⟩ | (exfalso; simp_all; done) | skip
end Go.Proofs.Ytghpeccaknhjiaa
