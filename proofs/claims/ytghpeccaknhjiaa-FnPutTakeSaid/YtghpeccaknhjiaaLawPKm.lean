/- PkG and Opn8 and LawPK. -/
import Derived.Test.YtghpeccaknhjiaaTake1
import Derived.Test.YtghpeccaknhjiaaY20
import Derived.ProofKit
import Derived.Test.YtghpeccaknhjiaaPut2
import Derived.Test.YtghpeccaknhjiaaTake2
import Derived.Test.YtghpeccaknhjiaaPkM
namespace Go.Proofs.Ytghpeccaknhjiaa
open Go.RowKit
def S.t5_0 : OT SR := .take ⟨(.some 17), .none, .false, (.mv (.tmp 120))⟩ .done
def S.t5_1 : OT SR := .take ⟨.none, .none, .false, (.sto 1 (.tmp 16) (.tmp 119))⟩ S.t5_0
def S.t5_2 : OT SR := .take ⟨(.some 16), .none, .false, (.al 30 [(Go.Value.slice none 0 0)])⟩ S.t5_1
def S.t5_3 : OT SR := .take ⟨(.some 120), .none, .false, (.ext (.tmp 104) 1)⟩ S.t5_2
def S.t5_4 : OT SR := .take ⟨(.some 120), .none, .false, (.ext (.tmp 104) 1)⟩ S.t5_1
def S.t5_5 : OT SR := .take ⟨(.some 120), .none, .false, (.ext (.tmp 104) 1)⟩ S.t5_0
def S.t5_6 : OT SR := .take ⟨.none, .none, .false, (.sto 1 (.tmp 16) (.tmp 119))⟩ S.t5_5
def S.t5_7 : OT SR := .both S.t5_4 S.t5_6
def S.t5_8 : OT SR := .take ⟨(.some 16), .none, .false, (.al 30 [(Go.Value.slice none 0 0)])⟩ S.t5_7
def S.t5_9 : OT SR := .both S.t5_3 S.t5_8
def S.t5_10 : OT SR := .take ⟨(.some 119), .none, .false, (.ext (.tmp 104) 0)⟩ S.t5_9
def S.t5_11 : OT SR := .take ⟨(.some 119), .none, .false, (.ext (.tmp 104) 0)⟩ S.t5_2
def S.t5_12 : OT SR := .take ⟨(.some 119), .none, .false, (.ext (.tmp 104) 0)⟩ S.t5_1
def S.t5_13 : OT SR := .take ⟨(.some 16), .none, .false, (.al 30 [(Go.Value.slice none 0 0)])⟩ S.t5_12
def S.t5_14 : OT SR := .both S.t5_11 S.t5_13
def S.t5_15 : OT SR := .take ⟨(.some 120), .none, .false, (.ext (.tmp 104) 1)⟩ S.t5_14
def S.t5_16 : OT SR := .take ⟨(.some 119), .none, .false, (.ext (.tmp 104) 0)⟩ S.t5_7
def S.t5_17 : OT SR := .take ⟨(.some 120), .none, .false, (.ext (.tmp 104) 1)⟩ S.t5_12
def S.t5_18 : OT SR := .both S.t5_16 S.t5_17
def S.t5_19 : OT SR := .take ⟨(.some 16), .none, .false, (.al 30 [(Go.Value.slice none 0 0)])⟩ S.t5_18
def S.t5_20 : OT SR := .both S.t5_15 S.t5_19
def S.t5_21 : OT SR := .both S.t5_10 S.t5_20
def S.t5_22 : OT SR := .take ⟨(.some 104), .none, .false, (.mv (.tmp 118))⟩ S.t5_21
def S.t5_23 : OT SR := .take ⟨(.some 118), .none, .false, (.call (.func 10) [(.tmp 105), (.tmp 111), (.tmp 117)])⟩ S.t5_22
def S.t5_24 : OT SR := .take ⟨(.some 104), .none, .false, (.mv (.tmp 118))⟩ S.t5_18
def S.t5_25 : OT SR := .take ⟨(.some 118), .none, .false, (.call (.func 10) [(.tmp 105), (.tmp 111), (.tmp 117)])⟩ S.t5_24
def S.t5_26 : OT SR := .take ⟨(.some 16), .none, .false, (.al 30 [(Go.Value.slice none 0 0)])⟩ S.t5_25
def S.t5_27 : OT SR := .both S.t5_23 S.t5_26
def S.t5_28 : OT SR := .take ⟨(.some 117), .none, .false, (.ld .false 1 (.tmp 116))⟩ S.t5_27
def S.t5_29 : OT SR := .take ⟨(.some 117), .none, .false, (.ld .false 1 (.tmp 116))⟩ S.t5_25
def S.t5_30 : OT SR := .both S.t5_29 .vac
def S.t5_31 : OT SR := .take ⟨(.some 16), .none, .false, (.al 30 [(Go.Value.slice none 0 0)])⟩ S.t5_30
def S.t5_32 : OT SR := .both S.t5_28 S.t5_31
def S.t5_33 : OT SR := .take ⟨(.some 116), .none, .false, (.fa 2 (.tmp 115))⟩ S.t5_32
def S.t5_34 : OT SR := .take ⟨(.some 115), .none, .false, (.ix (.mk 50 3) (.tmp 113) (.tmp 114))⟩ S.t5_33
def S.t5_35 : OT SR := .take ⟨(.some 116), .none, .false, (.fa 2 (.tmp 115))⟩ S.t5_30
def S.t5_36 : OT SR := .take ⟨(.some 115), .none, .false, (.ix (.mk 50 3) (.tmp 113) (.tmp 114))⟩ S.t5_35
def S.t5_37 : OT SR := .both S.t5_36 .vac
def S.t5_38 : OT SR := .take ⟨(.some 16), .none, .false, (.al 30 [(Go.Value.slice none 0 0)])⟩ S.t5_37
def S.t5_39 : OT SR := .both S.t5_34 S.t5_38
def S.t5_40 : OT SR := .take ⟨(.some 113), .none, .false, (.ld .false 1 (.tmp 112))⟩ S.t5_39
def S.t5_41 : OT SR := .take ⟨(.some 113), .none, .false, (.ld .false 1 (.tmp 112))⟩ S.t5_37
def S.t5_42 : OT SR := .both S.t5_41 .vac
def S.t5_43 : OT SR := .take ⟨(.some 16), .none, .false, (.al 30 [(Go.Value.slice none 0 0)])⟩ S.t5_42
def S.t5_44 : OT SR := .both S.t5_40 S.t5_43
def S.t5_45 : OT SR := .take ⟨(.some 111), .none, .false, (.ld .true 2 (.tmp 110))⟩ S.t5_44
def S.t5_46 : OT SR := .take ⟨(.some 111), .none, .false, (.ld .true 2 (.tmp 110))⟩ S.t5_25
def S.t5_47 : OT SR := .both S.t5_46 .vac
def S.t5_48 : OT SR := .take ⟨(.some 16), .none, .false, (.al 30 [(Go.Value.slice none 0 0)])⟩ S.t5_47
def S.t5_49 : OT SR := .take ⟨(.some 117), .none, .false, (.ld .false 1 (.tmp 116))⟩ S.t5_48
def S.t5_50 : OT SR := .take ⟨(.some 111), .none, .false, (.ld .true 2 (.tmp 110))⟩ S.t5_30
def S.t5_51 : OT SR := .take ⟨(.some 117), .none, .false, (.ld .false 1 (.tmp 116))⟩ .vac
def S.t5_52 : OT SR := .both S.t5_51 .vac
def S.t5_53 : OT SR := .both S.t5_50 S.t5_52
def S.t5_54 : OT SR := .take ⟨(.some 16), .none, .false, (.al 30 [(Go.Value.slice none 0 0)])⟩ S.t5_53
def S.t5_55 : OT SR := .both S.t5_49 S.t5_54
def S.t5_56 : OT SR := .take ⟨(.some 116), .none, .false, (.fa 2 (.tmp 115))⟩ S.t5_55
def S.t5_57 : OT SR := .take ⟨(.some 115), .none, .false, (.ix (.mk 50 3) (.tmp 113) (.tmp 114))⟩ S.t5_56
def S.t5_58 : OT SR := .take ⟨(.some 111), .none, .false, (.ld .true 2 (.tmp 110))⟩ S.t5_37
def S.t5_59 : OT SR := .take ⟨(.some 116), .none, .false, (.fa 2 (.tmp 115))⟩ S.t5_52
def S.t5_60 : OT SR := .take ⟨(.some 115), .none, .false, (.ix (.mk 50 3) (.tmp 113) (.tmp 114))⟩ S.t5_59
def S.t5_61 : OT SR := .both S.t5_60 .vac
def S.t5_62 : OT SR := .both S.t5_58 S.t5_61
def S.t5_63 : OT SR := .take ⟨(.some 16), .none, .false, (.al 30 [(Go.Value.slice none 0 0)])⟩ S.t5_62
def S.t5_64 : OT SR := .both S.t5_57 S.t5_63
def S.t5_65 : OT SR := .take ⟨(.some 113), .none, .false, (.ld .false 1 (.tmp 112))⟩ S.t5_64
def S.t5_66 : OT SR := .take ⟨(.some 111), .none, .false, (.ld .true 2 (.tmp 110))⟩ S.t5_42
def S.t5_67 : OT SR := .take ⟨(.some 113), .none, .false, (.ld .false 1 (.tmp 112))⟩ S.t5_61
def S.t5_68 : OT SR := .both S.t5_67 .vac
def S.t5_69 : OT SR := .both S.t5_66 S.t5_68
def S.t5_70 : OT SR := .take ⟨(.some 16), .none, .false, (.al 30 [(Go.Value.slice none 0 0)])⟩ S.t5_69
def S.t5_71 : OT SR := .both S.t5_65 S.t5_70
def S.t5_72 : OT SR := .both S.t5_45 S.t5_71
def S.t5_73 : OT SR := .take ⟨(.some 110), .none, .false, (.fa 0 (.tmp 109))⟩ S.t5_72
def S.t5_74 : OT SR := .take ⟨(.some 109), .none, .false, (.ix (.mk 50 3) (.tmp 107) (.tmp 108))⟩ S.t5_73
def S.t5_75 : OT SR := .take ⟨(.some 110), .none, .false, (.fa 0 (.tmp 109))⟩ S.t5_47
def S.t5_76 : OT SR := .take ⟨(.some 109), .none, .false, (.ix (.mk 50 3) (.tmp 107) (.tmp 108))⟩ S.t5_75
def S.t5_77 : OT SR := .both S.t5_76 .vac
def S.t5_78 : OT SR := .take ⟨(.some 16), .none, .false, (.al 30 [(Go.Value.slice none 0 0)])⟩ S.t5_77
def S.t5_79 : OT SR := .take ⟨(.some 117), .none, .false, (.ld .false 1 (.tmp 116))⟩ S.t5_78
def S.t5_80 : OT SR := .take ⟨(.some 110), .none, .false, (.fa 0 (.tmp 109))⟩ S.t5_53
def S.t5_81 : OT SR := .take ⟨(.some 109), .none, .false, (.ix (.mk 50 3) (.tmp 107) (.tmp 108))⟩ S.t5_80
def S.t5_82 : OT SR := .both S.t5_81 S.t5_52
def S.t5_83 : OT SR := .take ⟨(.some 16), .none, .false, (.al 30 [(Go.Value.slice none 0 0)])⟩ S.t5_82
def S.t5_84 : OT SR := .both S.t5_79 S.t5_83
def S.t5_85 : OT SR := .take ⟨(.some 116), .none, .false, (.fa 2 (.tmp 115))⟩ S.t5_84
def S.t5_86 : OT SR := .take ⟨(.some 115), .none, .false, (.ix (.mk 50 3) (.tmp 113) (.tmp 114))⟩ S.t5_85
def S.t5_87 : OT SR := .take ⟨(.some 110), .none, .false, (.fa 0 (.tmp 109))⟩ S.t5_62
def S.t5_88 : OT SR := .take ⟨(.some 109), .none, .false, (.ix (.mk 50 3) (.tmp 107) (.tmp 108))⟩ S.t5_87
def S.t5_89 : OT SR := .both S.t5_88 S.t5_61
def S.t5_90 : OT SR := .take ⟨(.some 16), .none, .false, (.al 30 [(Go.Value.slice none 0 0)])⟩ S.t5_89
def S.t5_91 : OT SR := .both S.t5_86 S.t5_90
def S.t5_92 : OT SR := .take ⟨(.some 113), .none, .false, (.ld .false 1 (.tmp 112))⟩ S.t5_91
def S.t5_93 : OT SR := .take ⟨(.some 110), .none, .false, (.fa 0 (.tmp 109))⟩ S.t5_69
def S.t5_94 : OT SR := .take ⟨(.some 109), .none, .false, (.ix (.mk 50 3) (.tmp 107) (.tmp 108))⟩ S.t5_93
def S.t5_95 : OT SR := .both S.t5_94 S.t5_68
def S.t5_96 : OT SR := .take ⟨(.some 16), .none, .false, (.al 30 [(Go.Value.slice none 0 0)])⟩ S.t5_95
def S.t5_97 : OT SR := .both S.t5_92 S.t5_96
def S.t5_98 : OT SR := .both S.t5_74 S.t5_97
def S.t5_99 : OT SR := .take ⟨(.some 107), .none, .false, (.ld .false 1 (.tmp 106))⟩ S.t5_98
def S.t5_100 : OT SR := .take ⟨(.some 107), .none, .false, (.ld .false 1 (.tmp 106))⟩ S.t5_77
def S.t5_101 : OT SR := .both S.t5_100 .vac
def S.t5_102 : OT SR := .take ⟨(.some 16), .none, .false, (.al 30 [(Go.Value.slice none 0 0)])⟩ S.t5_101
def S.t5_103 : OT SR := .take ⟨(.some 117), .none, .false, (.ld .false 1 (.tmp 116))⟩ S.t5_102
def S.t5_104 : OT SR := .take ⟨(.some 107), .none, .false, (.ld .false 1 (.tmp 106))⟩ S.t5_82
def S.t5_105 : OT SR := .both S.t5_104 S.t5_52
def S.t5_106 : OT SR := .take ⟨(.some 16), .none, .false, (.al 30 [(Go.Value.slice none 0 0)])⟩ S.t5_105
def S.t5_107 : OT SR := .both S.t5_103 S.t5_106
def S.t5_108 : OT SR := .take ⟨(.some 116), .none, .false, (.fa 2 (.tmp 115))⟩ S.t5_107
def S.t5_109 : OT SR := .take ⟨(.some 115), .none, .false, (.ix (.mk 50 3) (.tmp 113) (.tmp 114))⟩ S.t5_108
def S.t5_110 : OT SR := .take ⟨(.some 107), .none, .false, (.ld .false 1 (.tmp 106))⟩ S.t5_89
def S.t5_111 : OT SR := .both S.t5_110 S.t5_61
def S.t5_112 : OT SR := .take ⟨(.some 16), .none, .false, (.al 30 [(Go.Value.slice none 0 0)])⟩ S.t5_111
def S.t5_113 : OT SR := .both S.t5_109 S.t5_112
def S.t5_114 : OT SR := .take ⟨(.some 113), .none, .false, (.ld .false 1 (.tmp 112))⟩ S.t5_113
def S.t5_115 : OT SR := .take ⟨(.some 107), .none, .false, (.ld .false 1 (.tmp 106))⟩ S.t5_95
def S.t5_116 : OT SR := .both S.t5_115 S.t5_68
def S.t5_117 : OT SR := .take ⟨(.some 16), .none, .false, (.al 30 [(Go.Value.slice none 0 0)])⟩ S.t5_116
def S.t5_118 : OT SR := .both S.t5_114 S.t5_117
def S.t5_119 : OT SR := .both S.t5_99 S.t5_118
def S.t5_120 : OT SR := .take ⟨(.some 105), .none, .false, (.ld .true 1 (.tmp 14))⟩ S.t5_119
def S.t5_121 : OT SR := .take ⟨(.some 105), .none, .false, (.ld .true 1 (.tmp 14))⟩ S.t5_25
def S.t5_122 : OT SR := .both S.t5_121 .vac
def S.t5_123 : OT SR := .take ⟨(.some 16), .none, .false, (.al 30 [(Go.Value.slice none 0 0)])⟩ S.t5_122
def S.t5_124 : OT SR := .take ⟨(.some 117), .none, .false, (.ld .false 1 (.tmp 116))⟩ S.t5_123
def S.t5_125 : OT SR := .take ⟨(.some 105), .none, .false, (.ld .true 1 (.tmp 14))⟩ S.t5_30
def S.t5_126 : OT SR := .both S.t5_125 S.t5_52
def S.t5_127 : OT SR := .take ⟨(.some 16), .none, .false, (.al 30 [(Go.Value.slice none 0 0)])⟩ S.t5_126
def S.t5_128 : OT SR := .both S.t5_124 S.t5_127
def S.t5_129 : OT SR := .take ⟨(.some 116), .none, .false, (.fa 2 (.tmp 115))⟩ S.t5_128
def S.t5_130 : OT SR := .take ⟨(.some 115), .none, .false, (.ix (.mk 50 3) (.tmp 113) (.tmp 114))⟩ S.t5_129
def S.t5_131 : OT SR := .take ⟨(.some 105), .none, .false, (.ld .true 1 (.tmp 14))⟩ S.t5_37
def S.t5_132 : OT SR := .both S.t5_131 S.t5_61
def S.t5_133 : OT SR := .take ⟨(.some 16), .none, .false, (.al 30 [(Go.Value.slice none 0 0)])⟩ S.t5_132
def S.t5_134 : OT SR := .both S.t5_130 S.t5_133
def S.t5_135 : OT SR := .take ⟨(.some 113), .none, .false, (.ld .false 1 (.tmp 112))⟩ S.t5_134
def S.t5_136 : OT SR := .take ⟨(.some 105), .none, .false, (.ld .true 1 (.tmp 14))⟩ S.t5_42
def S.t5_137 : OT SR := .both S.t5_136 S.t5_68
def S.t5_138 : OT SR := .take ⟨(.some 16), .none, .false, (.al 30 [(Go.Value.slice none 0 0)])⟩ S.t5_137
def S.t5_139 : OT SR := .both S.t5_135 S.t5_138
def S.t5_140 : OT SR := .take ⟨(.some 111), .none, .false, (.ld .true 2 (.tmp 110))⟩ S.t5_139
def S.t5_141 : OT SR := .take ⟨(.some 105), .none, .false, (.ld .true 1 (.tmp 14))⟩ S.t5_47
def S.t5_142 : OT SR := .take ⟨(.some 111), .none, .false, (.ld .true 2 (.tmp 110))⟩ .vac
def S.t5_143 : OT SR := .both S.t5_142 .vac
def S.t5_144 : OT SR := .both S.t5_141 S.t5_143
def S.t5_145 : OT SR := .take ⟨(.some 16), .none, .false, (.al 30 [(Go.Value.slice none 0 0)])⟩ S.t5_144
def S.t5_146 : OT SR := .take ⟨(.some 117), .none, .false, (.ld .false 1 (.tmp 116))⟩ S.t5_145
def S.t5_147 : OT SR := .take ⟨(.some 105), .none, .false, (.ld .true 1 (.tmp 14))⟩ S.t5_53
def S.t5_148 : OT SR := .take ⟨(.some 111), .none, .false, (.ld .true 2 (.tmp 110))⟩ S.t5_52
def S.t5_149 : OT SR := .both S.t5_148 S.t5_52
def S.t5_150 : OT SR := .both S.t5_147 S.t5_149
def S.t5_151 : OT SR := .take ⟨(.some 16), .none, .false, (.al 30 [(Go.Value.slice none 0 0)])⟩ S.t5_150
def S.t5_152 : OT SR := .both S.t5_146 S.t5_151
def S.t5_153 : OT SR := .take ⟨(.some 116), .none, .false, (.fa 2 (.tmp 115))⟩ S.t5_152
def S.t5_154 : OT SR := .take ⟨(.some 115), .none, .false, (.ix (.mk 50 3) (.tmp 113) (.tmp 114))⟩ S.t5_153
def S.t5_155 : OT SR := .take ⟨(.some 105), .none, .false, (.ld .true 1 (.tmp 14))⟩ S.t5_62
def S.t5_156 : OT SR := .take ⟨(.some 111), .none, .false, (.ld .true 2 (.tmp 110))⟩ S.t5_61
def S.t5_157 : OT SR := .both S.t5_156 S.t5_61
def S.t5_158 : OT SR := .both S.t5_155 S.t5_157
def S.t5_159 : OT SR := .take ⟨(.some 16), .none, .false, (.al 30 [(Go.Value.slice none 0 0)])⟩ S.t5_158
def S.t5_160 : OT SR := .both S.t5_154 S.t5_159
def S.t5_161 : OT SR := .take ⟨(.some 113), .none, .false, (.ld .false 1 (.tmp 112))⟩ S.t5_160
def S.t5_162 : OT SR := .take ⟨(.some 105), .none, .false, (.ld .true 1 (.tmp 14))⟩ S.t5_69
def S.t5_163 : OT SR := .take ⟨(.some 111), .none, .false, (.ld .true 2 (.tmp 110))⟩ S.t5_68
def S.t5_164 : OT SR := .both S.t5_163 S.t5_68
def S.t5_165 : OT SR := .both S.t5_162 S.t5_164
def S.t5_166 : OT SR := .take ⟨(.some 16), .none, .false, (.al 30 [(Go.Value.slice none 0 0)])⟩ S.t5_165
def S.t5_167 : OT SR := .both S.t5_161 S.t5_166
def S.t5_168 : OT SR := .both S.t5_140 S.t5_167
def S.t5_169 : OT SR := .take ⟨(.some 110), .none, .false, (.fa 0 (.tmp 109))⟩ S.t5_168
def S.t5_170 : OT SR := .take ⟨(.some 109), .none, .false, (.ix (.mk 50 3) (.tmp 107) (.tmp 108))⟩ S.t5_169
def S.t5_171 : OT SR := .take ⟨(.some 105), .none, .false, (.ld .true 1 (.tmp 14))⟩ S.t5_77
def S.t5_172 : OT SR := .take ⟨(.some 110), .none, .false, (.fa 0 (.tmp 109))⟩ S.t5_143
def S.t5_173 : OT SR := .take ⟨(.some 109), .none, .false, (.ix (.mk 50 3) (.tmp 107) (.tmp 108))⟩ S.t5_172
def S.t5_174 : OT SR := .both S.t5_173 .vac
def S.t5_175 : OT SR := .both S.t5_171 S.t5_174
def S.t5_176 : OT SR := .take ⟨(.some 16), .none, .false, (.al 30 [(Go.Value.slice none 0 0)])⟩ S.t5_175
def S.t5_177 : OT SR := .take ⟨(.some 117), .none, .false, (.ld .false 1 (.tmp 116))⟩ S.t5_176
def S.t5_178 : OT SR := .take ⟨(.some 105), .none, .false, (.ld .true 1 (.tmp 14))⟩ S.t5_82
def S.t5_179 : OT SR := .take ⟨(.some 110), .none, .false, (.fa 0 (.tmp 109))⟩ S.t5_149
def S.t5_180 : OT SR := .take ⟨(.some 109), .none, .false, (.ix (.mk 50 3) (.tmp 107) (.tmp 108))⟩ S.t5_179
def S.t5_181 : OT SR := .both S.t5_180 S.t5_52
def S.t5_182 : OT SR := .both S.t5_178 S.t5_181
def S.t5_183 : OT SR := .take ⟨(.some 16), .none, .false, (.al 30 [(Go.Value.slice none 0 0)])⟩ S.t5_182
def S.t5_184 : OT SR := .both S.t5_177 S.t5_183
def S.t5_185 : OT SR := .take ⟨(.some 116), .none, .false, (.fa 2 (.tmp 115))⟩ S.t5_184
def S.t5_186 : OT SR := .take ⟨(.some 115), .none, .false, (.ix (.mk 50 3) (.tmp 113) (.tmp 114))⟩ S.t5_185
def S.t5_187 : OT SR := .take ⟨(.some 105), .none, .false, (.ld .true 1 (.tmp 14))⟩ S.t5_89
def S.t5_188 : OT SR := .take ⟨(.some 110), .none, .false, (.fa 0 (.tmp 109))⟩ S.t5_157
def S.t5_189 : OT SR := .take ⟨(.some 109), .none, .false, (.ix (.mk 50 3) (.tmp 107) (.tmp 108))⟩ S.t5_188
def S.t5_190 : OT SR := .both S.t5_189 S.t5_61
def S.t5_191 : OT SR := .both S.t5_187 S.t5_190
def S.t5_192 : OT SR := .take ⟨(.some 16), .none, .false, (.al 30 [(Go.Value.slice none 0 0)])⟩ S.t5_191
def S.t5_193 : OT SR := .both S.t5_186 S.t5_192
def S.t5_194 : OT SR := .take ⟨(.some 113), .none, .false, (.ld .false 1 (.tmp 112))⟩ S.t5_193
def S.t5_195 : OT SR := .take ⟨(.some 105), .none, .false, (.ld .true 1 (.tmp 14))⟩ S.t5_95
def S.t5_196 : OT SR := .take ⟨(.some 110), .none, .false, (.fa 0 (.tmp 109))⟩ S.t5_164
def S.t5_197 : OT SR := .take ⟨(.some 109), .none, .false, (.ix (.mk 50 3) (.tmp 107) (.tmp 108))⟩ S.t5_196
def S.t5_198 : OT SR := .both S.t5_197 S.t5_68
def S.t5_199 : OT SR := .both S.t5_195 S.t5_198
def S.t5_200 : OT SR := .take ⟨(.some 16), .none, .false, (.al 30 [(Go.Value.slice none 0 0)])⟩ S.t5_199
def S.t5_201 : OT SR := .both S.t5_194 S.t5_200
def S.t5_202 : OT SR := .both S.t5_170 S.t5_201
def S.t5_203 : OT SR := .take ⟨(.some 107), .none, .false, (.ld .false 1 (.tmp 106))⟩ S.t5_202
def S.t5_204 : OT SR := .take ⟨(.some 105), .none, .false, (.ld .true 1 (.tmp 14))⟩ S.t5_101
def S.t5_205 : OT SR := .take ⟨(.some 107), .none, .false, (.ld .false 1 (.tmp 106))⟩ S.t5_174
def S.t5_206 : OT SR := .both S.t5_205 .vac
def S.t5_207 : OT SR := .both S.t5_204 S.t5_206
def S.t5_208 : OT SR := .take ⟨(.some 16), .none, .false, (.al 30 [(Go.Value.slice none 0 0)])⟩ S.t5_207
def S.t5_209 : OT SR := .take ⟨(.some 117), .none, .false, (.ld .false 1 (.tmp 116))⟩ S.t5_208
def S.t5_210 : OT SR := .take ⟨(.some 105), .none, .false, (.ld .true 1 (.tmp 14))⟩ S.t5_105
def S.t5_211 : OT SR := .take ⟨(.some 107), .none, .false, (.ld .false 1 (.tmp 106))⟩ S.t5_181
def S.t5_212 : OT SR := .both S.t5_211 S.t5_52
def S.t5_213 : OT SR := .both S.t5_210 S.t5_212
def S.t5_214 : OT SR := .take ⟨(.some 16), .none, .false, (.al 30 [(Go.Value.slice none 0 0)])⟩ S.t5_213
def S.t5_215 : OT SR := .both S.t5_209 S.t5_214
def S.t5_216 : OT SR := .take ⟨(.some 116), .none, .false, (.fa 2 (.tmp 115))⟩ S.t5_215
def S.t5_217 : OT SR := .take ⟨(.some 115), .none, .false, (.ix (.mk 50 3) (.tmp 113) (.tmp 114))⟩ S.t5_216
def S.t5_218 : OT SR := .take ⟨(.some 105), .none, .false, (.ld .true 1 (.tmp 14))⟩ S.t5_111
def S.t5_219 : OT SR := .take ⟨(.some 107), .none, .false, (.ld .false 1 (.tmp 106))⟩ S.t5_190
def S.t5_220 : OT SR := .both S.t5_219 S.t5_61
def S.t5_221 : OT SR := .both S.t5_218 S.t5_220
def S.t5_222 : OT SR := .take ⟨(.some 16), .none, .false, (.al 30 [(Go.Value.slice none 0 0)])⟩ S.t5_221
def S.t5_223 : OT SR := .both S.t5_217 S.t5_222
def S.t5_224 : OT SR := .take ⟨(.some 113), .none, .false, (.ld .false 1 (.tmp 112))⟩ S.t5_223
def S.t5_225 : OT SR := .take ⟨(.some 105), .none, .false, (.ld .true 1 (.tmp 14))⟩ S.t5_116
def S.t5_226 : OT SR := .take ⟨(.some 107), .none, .false, (.ld .false 1 (.tmp 106))⟩ S.t5_198
def S.t5_227 : OT SR := .both S.t5_226 S.t5_68
def S.t5_228 : OT SR := .both S.t5_225 S.t5_227
def S.t5_229 : OT SR := .take ⟨(.some 16), .none, .false, (.al 30 [(Go.Value.slice none 0 0)])⟩ S.t5_228
def S.t5_230 : OT SR := .both S.t5_224 S.t5_229
def S.t5_231 : OT SR := .both S.t5_203 S.t5_230
def S.t5_232 : OT SR := .both S.t5_120 S.t5_231
def S.t5_233 : OT SR := .take ⟨(.some 114), .none, .false, (.mv (.tmp 15))⟩ S.t5_232
def S.t5_234 : OT SR := .take ⟨(.some 112), .none, .false, (.fa 0 (.tmp 8))⟩ S.t5_233
def S.t5_235 : OT SR := .take ⟨(.some 108), .none, .false, (.mv (.tmp 15))⟩ S.t5_234
def S.t5_236 : OT SR := .take ⟨(.some 106), .none, .false, (.fa 0 (.tmp 8))⟩ S.t5_235
set_option maxRecDepth 100000 in
def S.s5 : SC := (.seq (.reg [⟨(.some 2), .none, .false, (.mv (.const (Go.Value.bool false)))⟩]) (.seq (.seq (.reg [⟨(.some 18), .none, .false, (.mv (.tmp 0))⟩, ⟨(.some 19), .none, .false, (.call (.func 16) [(.tmp 18)])⟩]) (.cond (.tmp 19) (.seq (.reg [⟨(.some 2), .none, .false, (.mv (.const (Go.Value.bool true)))⟩]) .ret) .skip)) (.seq (.reg [⟨(.some 21), .none, .false, (.mv (.tmp 0))⟩, ⟨(.some 22), .none, .false, (.call (.func 17) [(.tmp 21)])⟩, ⟨(.some 20), .none, .false, (.mv (.tmp 22))⟩, ⟨(.some 23), .none, .false, (.ext (.tmp 20) 0)⟩, ⟨(.some 24), .none, .false, (.ext (.tmp 20) 1)⟩, ⟨(.some 25), .none, .false, (.ext (.tmp 20) 2)⟩, ⟨(.some 3), .none, .false, (.al 30 [(Go.Value.slice none 0 0)])⟩, ⟨(.some 4), .none, .false, (.al 34 [(Go.Value.int Go.IntKind.i64 0), (Go.Value.int Go.IntKind.i64 0)])⟩, ⟨.none, .none, .false, (.sto 1 (.tmp 3) (.tmp 23))⟩, ⟨.none, .none, .false, (.sto 2 (.tmp 4) (.tmp 24))⟩, ⟨(.some 5), .none, .false, (.mv (.tmp 25))⟩]) (.seq (.reg [⟨(.some 27), .none, .false, (.ld .true 1 (.tmp 3))⟩, ⟨(.some 28), .none, .false, (.ld .true 2 (.tmp 4))⟩, ⟨(.some 29), .none, .false, (.mv (.tmp 5))⟩, ⟨(.some 30), .none, .false, (.call (.func 10) [(.tmp 27), (.tmp 28), (.tmp 29)])⟩, ⟨(.some 26), .none, .false, (.mv (.tmp 30))⟩, ⟨(.some 31), .none, .false, (.ext (.tmp 26) 0)⟩, ⟨(.some 32), .none, .false, (.ext (.tmp 26) 1)⟩, ⟨(.some 6), .none, .false, (.al 30 [(Go.Value.slice none 0 0)])⟩, ⟨.none, .none, .false, (.sto 1 (.tmp 6) (.tmp 31))⟩, ⟨(.some 7), .none, .false, (.mv (.tmp 32))⟩]) (.seq (.reg [⟨(.some 34), .none, .false, (.ld .true 1 (.tmp 3))⟩, ⟨(.some 35), .none, .false, (.ld .true 2 (.tmp 4))⟩, ⟨(.some 36), .none, .false, (.mv (.tmp 5))⟩, ⟨(.some 37), .none, .false, (.call (.func 7) [(.tmp 34), (.tmp 35), (.tmp 36)])⟩, ⟨(.some 33), .none, .false, (.mv (.tmp 37))⟩, ⟨(.some 38), .none, .false, (.ext (.tmp 33) 0)⟩, ⟨(.some 39), .none, .false, (.ext (.tmp 33) 1)⟩, ⟨(.some 8), .none, .false, (.al 30 [(Go.Value.slice none 0 0)])⟩, ⟨.none, .none, .false, (.sto 1 (.tmp 8) (.tmp 38))⟩, ⟨(.some 9), .none, .false, (.mv (.tmp 39))⟩]) (.seq (.seq (.reg [⟨(.some 40), .none, .false, (.mv (.tmp 7))⟩, ⟨(.some 41), .none, .false, (.mv (.tmp 9))⟩, ⟨(.some 42), .none, .false, (.bin .neq (.tmp 40) (.tmp 41))⟩, ⟨(.some 43), .none, .false, (.mv (.tmp 42))⟩, ⟨(.some 44), (.some (43, .false)), .false, (.ld .true 1 (.tmp 6))⟩, ⟨(.some 45), (.some (43, .false)), .false, (.ld .true 1 (.tmp 8))⟩, ⟨(.some 46), (.some (43, .false)), .false, (.call (.func 18) [(.tmp 44), (.tmp 45)])⟩, ⟨(.some 47), (.some (43, .false)), .false, (.not (.tmp 46))⟩, ⟨(.some 48), .none, .false, (.pick (.tmp 43) (.const (Go.Value.bool true)) (.tmp 47))⟩]) (.cond (.tmp 48) (.seq (.reg [⟨(.some 2), .none, .false, (.mv (.const (Go.Value.bool false)))⟩]) .ret) .skip)) (.seq (.seq (.reg [⟨(.some 49), .none, .false, (.mv (.tmp 7))⟩, ⟨(.some 50), .none, .false, (.bin .neq (.tmp 49) (.const (Go.Value.int Go.IntKind.i64 0)))⟩]) (.cond (.tmp 50) (.seq (.reg [⟨(.some 2), .none, .false, (.mv (.const (Go.Value.bool true)))⟩]) .ret) .skip)) (.seq (.reg [⟨(.some 52), .none, .false, (.ld .true 1 (.tmp 8))⟩, ⟨(.some 53), .none, .false, (.ld .true 2 (.tmp 4))⟩, ⟨(.some 54), .none, .false, (.call (.func 19) [(.tmp 52), (.tmp 53)])⟩, ⟨(.some 51), .none, .false, (.mv (.tmp 54))⟩, ⟨(.some 55), .none, .false, (.ext (.tmp 51) 0)⟩, ⟨(.some 56), .none, .false, (.ext (.tmp 51) 1)⟩, ⟨(.some 10), .none, .false, (.mv (.tmp 55))⟩, ⟨(.some 11), .none, .false, (.mv (.tmp 56))⟩]) (.seq (.reg [⟨(.some 58), .none, .false, (.ld .true 1 (.tmp 8))⟩, ⟨(.some 59), .none, .false, (.ld .true 2 (.tmp 4))⟩, ⟨(.some 60), .none, .false, (.call (.func 15) [(.tmp 58), (.tmp 59)])⟩, ⟨(.some 57), .none, .false, (.mv (.tmp 60))⟩, ⟨(.some 61), .none, .false, (.ext (.tmp 57) 0)⟩, ⟨(.some 62), .none, .false, (.ext (.tmp 57) 1)⟩, ⟨(.some 12), .none, .false, (.al 30 [(Go.Value.slice none 0 0)])⟩, ⟨.none, .none, .false, (.sto 1 (.tmp 12) (.tmp 61))⟩, ⟨(.some 13), .none, .false, (.mv (.tmp 62))⟩]) (.seq (.seq (.reg [⟨(.some 63), .none, .true, (.mv (.tmp 11))⟩, ⟨(.some 64), .none, .true, (.not (.tmp 63))⟩, ⟨(.some 65), .none, .true, (.mv (.tmp 64))⟩, ⟨(.some 66), (.some (65, .false)), .true, (.mv (.tmp 10))⟩, ⟨(.some 67), (.some (65, .false)), .true, (.mv (.tmp 5))⟩, ⟨(.some 68), (.some (65, .false)), .true, (.bin .neq (.tmp 66) (.tmp 67))⟩, ⟨(.some 69), .none, .true, (.pick (.tmp 65) (.const (Go.Value.bool true)) (.tmp 68))⟩, ⟨(.some 70), .none, .true, (.mv (.tmp 69))⟩, ⟨(.some 71), (.some (70, .false)), .true, (.mv (.tmp 13))⟩, ⟨(.some 72), (.some (70, .false)), .true, (.bin .neq (.tmp 71) (.const (Go.Value.int Go.IntKind.i64 0)))⟩, ⟨(.some 73), .none, .true, (.pick (.tmp 70) (.const (Go.Value.bool true)) (.tmp 72))⟩, ⟨(.some 74), .none, .true, (.mv (.tmp 73))⟩, ⟨(.some 75), (.some (74, .false)), .true, (.ld .true 1 (.tmp 12))⟩, ⟨(.some 76), (.some (74, .false)), .true, (.ld .true 1 (.tmp 3))⟩, ⟨(.some 77), (.some (74, .false)), .true, (.fcal (.func 18) [(.tmp 75), (.tmp 76)])⟩, ⟨(.some 78), (.some (74, .false)), .true, (.not (.tmp 77))⟩, ⟨(.some 79), .none, .true, (.pick (.tmp 74) (.const (Go.Value.bool true)) (.tmp 78))⟩, ⟨(.some 80), .none, .true, (.mv (.tmp 79))⟩, ⟨(.some 81), (.some (80, .false)), .true, (.ld .true 1 (.tmp 3))⟩, ⟨(.some 82), (.some (80, .false)), .true, (.ld .true 1 (.tmp 8))⟩, ⟨(.some 83), (.some (80, .false)), .true, (.fcal (.func 20) [(.tmp 81), (.tmp 82)])⟩, ⟨(.some 84), (.some (80, .false)), .true, (.not (.tmp 83))⟩, ⟨(.some 85), .none, .true, (.pick (.tmp 80) (.const (Go.Value.bool true)) (.tmp 84))⟩, ⟨(.some 86), .none, .true, (.mv (.tmp 85))⟩, ⟨(.some 87), (.some (86, .false)), .true, (.ld .true 1 (.tmp 8))⟩, ⟨(.some 88), (.some (86, .false)), .true, (.fcal (.func 21) [(.tmp 87)])⟩, ⟨(.some 89), (.some (86, .false)), .true, (.len (.tmp 88))⟩, ⟨(.some 90), (.some (86, .false)), .true, (.fa 0 (.tmp 8))⟩, ⟨(.some 91), (.some (86, .false)), .true, (.ld .false 1 (.tmp 90))⟩, ⟨(.some 92), (.some (86, .false)), .true, (.len (.tmp 91))⟩, ⟨(.some 93), (.some (86, .false)), .true, (.bin .neq (.tmp 89) (.tmp 92))⟩, ⟨(.some 94), .none, .true, (.pick (.tmp 86) (.const (Go.Value.bool true)) (.tmp 93))⟩]) (.cond (.tmp 94) (.seq (.reg [⟨(.some 2), .none, .false, (.mv (.const (Go.Value.bool false)))⟩]) .ret) .skip)) (.seq (.reg [⟨(.some 95), .none, .false, (.bld [(Go.Value.slice none 0 0)] [(0, 1)] [])⟩, ⟨(.some 14), .none, .false, (.al 30 [(Go.Value.slice none 0 0)])⟩, ⟨.none, .none, .false, (.sto 1 (.tmp 14) (.tmp 95))⟩]) (.seq (.seq (.reg [⟨(.some 96), .none, .false, (.fa 0 (.tmp 8))⟩, ⟨(.some 97), .none, .false, (.ld .false 1 (.tmp 96))⟩, ⟨(.some 98), .none, .false, (.len (.tmp 97))⟩, ⟨(.some 99), .none, .false, (.bin .sub (.tmp 98) (.const (Go.Value.int Go.IntKind.i64 1)))⟩, ⟨(.some 15), .none, .false, (.mv (.tmp 99))⟩]) (.block 0 (.loop (.seq (.seq (.reg [⟨(.some 100), .none, .false, (.mv (.tmp 15))⟩, ⟨(.some 101), .none, .false, (.bin .geq (.tmp 100) (.const (Go.Value.int Go.IntKind.i64 0)))⟩]) (.cond (.tmp 101) .skip (.exit 0))) (.seq (.block 1 (.seq (.regO S.t5_236) (.seq (.seq (.reg [⟨(.some 121), .none, .false, (.mv (.tmp 17))⟩, ⟨(.some 122), .none, .false, (.bin .neq (.tmp 121) (.const (Go.Value.int Go.IntKind.i64 0)))⟩]) (.cond (.tmp 122) (.seq (.reg [⟨(.some 2), .none, .false, (.mv (.const (Go.Value.bool false)))⟩]) .ret) .skip)) (.reg [⟨(.some 123), .none, .false, (.ld .true 1 (.tmp 16))⟩, ⟨.none, .none, .false, (.sto 1 (.tmp 14) (.tmp 123))⟩])))) (.reg [⟨(.some 102), .none, .false, (.mv (.tmp 15))⟩, ⟨(.some 103), .none, .false, (.bin .sub (.tmp 102) (.const (Go.Value.int Go.IntKind.i64 1)))⟩, ⟨(.some 15), .none, .false, (.mv (.tmp 103))⟩])))))) (.seq (.reg [⟨(.some 124), .none, .false, (.ld .true 1 (.tmp 14))⟩, ⟨(.some 125), .none, .false, (.ld .true 1 (.tmp 8))⟩, ⟨(.some 126), .none, .false, (.call (.func 18) [(.tmp 124), (.tmp 125)])⟩, ⟨(.some 2), .none, .false, (.mv (.tmp 126))⟩]) .ret)))))))))))))
set_option maxRecDepth 100000 in
theorem S.ok5 : stripF Try.prog Try.f5 = some S.s5 := by kernel_rfl
set_option maxRecDepth 100000 in
def S.s16 : SC := (.seq (.reg [⟨(.some 2), .none, .false, (.mv (.const (Go.Value.bool false)))⟩]) (.seq (.reg [⟨(.some 3), .none, .false, (.mv (.tmp 0))⟩, ⟨(.some 4), .none, .false, (.len (.tmp 3))⟩, ⟨(.some 5), .none, .false, (.bin .gtr (.tmp 4) (.const (Go.Value.int Go.IntKind.i64 4096)))⟩, ⟨(.some 2), .none, .false, (.mv (.tmp 5))⟩]) .ret))
set_option maxRecDepth 100000 in
theorem S.ok16 : stripF Try.prog Try.f16 = some S.s16 := by kernel_rfl
set_option maxRecDepth 100000 in
def S.s18 : SC := (.seq (.reg [⟨(.some 2), .none, .false, (.box 30 (.tmp 0))⟩, ⟨(.some 3), .none, .false, (.box 30 (.tmp 1))⟩, ⟨(.some 4), .none, .false, (.mv (.const (Go.Value.bool false)))⟩]) (.seq (.reg [⟨(.some 5), .none, .false, (.call (.func 44) [(.tmp 2), (.tmp 3)])⟩, ⟨(.some 4), .none, .false, (.mv (.tmp 5))⟩]) .ret))
set_option maxRecDepth 100000 in
theorem S.ok18 : stripF Try.prog Try.f18 = some S.s18 := by kernel_rfl
set_option maxRecDepth 100000 in
def S.s21 : SC := (.seq (.reg [⟨(.some 1), .none, .false, (.box 30 (.tmp 0))⟩, ⟨(.some 2), .none, .false, (.mv (.const (Go.Value.slice none 0 0)))⟩]) (.seq (.seq (.reg [⟨(.some 3), .none, .false, (.ld .true 1 (.tmp 1))⟩, ⟨(.some 4), .none, .false, (.call (.func 29) [(.tmp 3)])⟩, ⟨(.some 5), .none, .false, (.not (.tmp 4))⟩]) (.cond (.tmp 5) (.seq (.reg [⟨(.some 2), .none, .false, (.mv (.const (Go.Value.slice none 0 0)))⟩]) .ret) .skip)) (.seq (.reg [⟨(.some 6), .none, .false, (.ld .true 1 (.tmp 1))⟩, ⟨(.some 7), .none, .false, (.call (.func 47) [(.tmp 6)])⟩, ⟨(.some 2), .none, .false, (.mv (.tmp 7))⟩]) .ret)))
set_option maxRecDepth 100000 in
theorem S.ok21 : stripF Try.prog Try.f21 = some S.s21 := by kernel_rfl
set_option maxRecDepth 100000 in
def S.s44 : SC := (.seq (.reg [⟨(.some 4), .none, .false, (.mv (.const (Go.Value.bool false)))⟩]) (.seq (.seq (.reg [⟨(.some 6), .none, .true, (.mv (.tmp 0))⟩, ⟨(.some 7), .none, .true, (.nc (.tmp 6))⟩, ⟨(.some 8), .none, .true, (.fa 0 (.tmp 7))⟩, ⟨(.some 9), .none, .true, (.ld .false 1 (.tmp 8))⟩, ⟨(.some 10), .none, .true, (.len (.tmp 9))⟩, ⟨(.some 11), .none, .true, (.mv (.tmp 1))⟩, ⟨(.some 12), .none, .true, (.nc (.tmp 11))⟩, ⟨(.some 13), .none, .true, (.fa 0 (.tmp 12))⟩, ⟨(.some 14), .none, .true, (.ld .false 1 (.tmp 13))⟩, ⟨(.some 15), .none, .true, (.len (.tmp 14))⟩, ⟨(.some 16), .none, .true, (.bin .neq (.tmp 10) (.tmp 15))⟩]) (.cond (.tmp 16) (.seq (.reg [⟨(.some 4), .none, .false, (.mv (.const (Go.Value.bool false)))⟩]) .ret) .skip)) (.seq (.seq (.reg [⟨(.some 5), .none, .false, (.mv (.const (Go.Value.int Go.IntKind.i64 0)))⟩]) (.block 0 (.loop (.seq (.seq (.reg [⟨(.some 17), .none, .false, (.mv (.tmp 5))⟩, ⟨(.some 18), .none, .false, (.mv (.tmp 0))⟩, ⟨(.some 19), .none, .false, (.nc (.tmp 18))⟩, ⟨(.some 20), .none, .false, (.fa 0 (.tmp 19))⟩, ⟨(.some 21), .none, .false, (.ld .false 1 (.tmp 20))⟩, ⟨(.some 22), .none, .false, (.len (.tmp 21))⟩, ⟨(.some 23), .none, .false, (.bin .lss (.tmp 17) (.tmp 22))⟩]) (.cond (.tmp 23) .skip (.exit 0))) (.seq (.block 1 (.seq (.reg [⟨(.some 26), .none, .true, (.mv (.tmp 0))⟩, ⟨(.some 27), .none, .true, (.nc (.tmp 26))⟩, ⟨(.some 28), .none, .true, (.fa 0 (.tmp 27))⟩, ⟨(.some 29), .none, .true, (.ld .false 1 (.tmp 28))⟩, ⟨(.some 30), .none, .true, (.mv (.tmp 5))⟩, ⟨(.some 31), .none, .true, (.ix (.mk 50 3) (.tmp 29) (.tmp 30))⟩, ⟨(.some 32), .none, .true, (.ld .true 3 (.tmp 31))⟩, ⟨(.some 33), .none, .true, (.mv (.tmp 1))⟩, ⟨(.some 34), .none, .true, (.nc (.tmp 33))⟩, ⟨(.some 35), .none, .true, (.fa 0 (.tmp 34))⟩, ⟨(.some 36), .none, .true, (.ld .false 1 (.tmp 35))⟩, ⟨(.some 37), .none, .true, (.mv (.tmp 5))⟩, ⟨(.some 38), .none, .true, (.ix (.mk 50 3) (.tmp 36) (.tmp 37))⟩, ⟨(.some 39), .none, .true, (.ld .true 3 (.tmp 38))⟩, ⟨(.some 40), .none, .true, (.eqs .true [(.i .i64), (.i .i64), (.i .i64)] (.tmp 32) (.tmp 39))⟩]) (.cond (.tmp 40) (.seq (.reg [⟨(.some 4), .none, .false, (.mv (.const (Go.Value.bool false)))⟩]) .ret) .skip))) (.reg [⟨(.some 24), .none, .false, (.mv (.tmp 5))⟩, ⟨(.some 25), .none, .false, (.bin .add (.tmp 24) (.const (Go.Value.int Go.IntKind.i64 1)))⟩, ⟨(.some 5), .none, .false, (.mv (.tmp 25))⟩])))))) (.seq (.reg [⟨(.some 4), .none, .false, (.mv (.const (Go.Value.bool true)))⟩]) .ret))))
set_option maxRecDepth 100000 in
theorem S.ok44 : stripF Try.prog Try.f44 = some S.s44 := by kernel_rfl
set_option maxRecDepth 100000 in
def S.s47 : SC := (.seq (.reg [⟨(.some 1), .none, .false, (.box 30 (.tmp 0))⟩, ⟨(.some 2), .none, .false, (.mv (.const (Go.Value.slice none 0 0)))⟩]) (.seq (.reg [⟨(.some 3), .none, .false, (.mv (.const (Go.Value.slice none 0 0)))⟩]) (.seq (.seq (.reg [⟨(.some 6), .none, .false, (.fa 0 (.tmp 1))⟩, ⟨(.some 7), .none, .false, (.ld .false 1 (.tmp 6))⟩, ⟨(.some 8), .none, .false, (.len (.tmp 7))⟩, ⟨(.some 9), .none, .false, (.mv (.const (Go.Value.int Go.IntKind.i64 0)))⟩]) (.block 0 (.loop (.seq (.reg [⟨(.some 10), .none, .false, (.bin .lss (.tmp 9) (.tmp 8))⟩]) (.seq (.cond (.tmp 10) .skip (.exit 0)) (.seq (.block 1 (.seq (.reg [⟨(.some 11), .none, .false, (.ix (.mk 50 3) (.tmp 7) (.tmp 9))⟩, ⟨(.some 12), .none, .false, (.ld .true 3 (.tmp 11))⟩, ⟨(.some 5), .none, .false, (.al 50 [(Go.Value.int Go.IntKind.i64 0), (Go.Value.int Go.IntKind.i64 0), (Go.Value.int Go.IntKind.i64 0)])⟩, ⟨.none, .none, .false, (.sto 3 (.tmp 5) (.tmp 12))⟩]) (.reg [⟨(.some 13), .none, .false, (.mv (.tmp 3))⟩, ⟨(.some 14), .none, .false, (.fa 0 (.tmp 5))⟩, ⟨(.some 15), .none, .false, (.ld .true 2 (.tmp 14))⟩, ⟨(.some 16), .none, .false, (.bsl (.mk 34 2) 1 [(0, (.tmp 15))])⟩, ⟨(.some 17), .none, .false, (.app (.mk 34 2) 16 (.tmp 13) (.tmp 16))⟩, ⟨(.some 3), .none, .false, (.mv (.tmp 17))⟩]))) (.reg [⟨(.some 18), .none, .false, (.bin .add (.tmp 9) (.const (Go.Value.int Go.IntKind.i64 1)))⟩, ⟨(.some 9), .none, .false, (.mv (.tmp 18))⟩]))))))) (.seq (.reg [⟨(.some 19), .none, .false, (.mv (.tmp 3))⟩, ⟨(.some 2), .none, .false, (.mv (.tmp 19))⟩]) .ret))))
set_option maxRecDepth 100000 in
theorem S.ok47 : stripF Try.prog Try.f47 = some S.s47 := by kernel_rfl
set_option maxRecDepth 20000
set_option maxHeartbeats 8000000
abbrev ptsA (l : List TPlaced) : List TPoint := l.map fun t => t.fAt
theorem ptsA_take {l : List TPlaced} {i : Nat} {t : TPlaced} (h : l[i]? = some t) : ptsA (l.take (i + 1)) = ptsA (l.take i) ++ [t.fAt] := by rw [take_snoc h]; simp
theorem iPoints (l : List TPlaced) (hl : l.length ≤ 500) : Spec Try.prog 47 [.agg [.rd kPlaced (l.map enPlaced)]] (oN kPoint ((ptsA l).map enPoint)) := by
  refine Spec.walk T.mixed Try.func47 S.ok47 (by simp [Try.f47]) fun hk => ?_
  unfold S.s47
  repeat' (first | refine R.mv rfl ?_ | refine R.reg ?_ | refine R.nil ?_ | refine R.seq ?_ | refine R.nseq ?_ | refine R.nblk ?_ | refine R.skip ?_ | refine R.blk ?_ | refine R.exit rfl ?_ | refine R.ldEp rfl rfl (by assumption) rfl rfl ?_ | refine R.ldaEp rfl rfl (by assumption) (Nat.le_of_ble_eq_true rfl) rfl rfl ?_ | refine R.ld rfl rfl rfl ?_ | refine R.lda rfl rfl (Nat.le_of_ble_eq_true rfl) rfl ?_ | refine R.fa rfl rfl ?_ | refine R.lenM rfl ?_ | refine R.lenO rfl rfl ?_ | refine R.len rfl rfl ?_ | refine R.lss rfl rfl ?_ | refine R.add rfl rfl (by omega) ?_ | refine R.ixN rfl rfl rfl (by omega) (fun a ha => ?_) | refine R.ixM rfl rfl rfl (by omega) (fun a ha => ?_) | refine R.ixON rfl rfl rfl (by first | omega | (simp; omega)) (fun a' ha' => ?_) | refine R.ixO rfl rfl rfl (by first | omega | (simp; omega)) (fun a' ha' => ?_) | refine R.al rfl ?_ | refine R.box rfl rfl rfl ?_ | refine R.stoB rfl rfl rfl rfl ⟨rfl, rfl, Nat.le_of_ble_eq_true rfl⟩ rfl ?_ | refine R.stoE _ rfl rfl rfl rfl rfl (by assumption) rfl ⟨rfl, rfl, Nat.le_of_ble_eq_true rfl⟩ ?_ | refine R.condT rfl ?_ | refine R.condF rfl ?_ | refine R.cond rfl (fun hc => ?_) (fun hc => ?_) | refine R.condN rfl (fun hc => ?_) (fun hc => ?_) | refine R.condB rfl (fun hc => ?_) (fun hc => ?_))
  refine R.loop (G := Nat) (fun i => [(3, .v (.c (.own 3))), (7, rdA kPlaced (l.map enPlaced)), (8, pvA (.int .i64 l.length)), (9, pvA (.int .i64 i))]) (fun i => [(3, .arr kPoint ((ptsA (l.take i)).map enPoint) [])]) (fun i => i ≤ l.length) (fun i => l.length - i) 0 (by omega) (Weak.trans (Weak.reify 3 3 kPoint rfl rfl) (Weak.frame _ _ ⟨rfl, rfl, rfl, rfl, trivial⟩ ⟨rfl, trivial⟩ rfl rfl)) fun i hi => ?_
  by_cases hil : i < l.length
  · obtain ⟨t, ht⟩ : ∃ t, l[i]? = some t := ⟨_, List.getElem?_eq_getElem hil⟩
    repeat' (first | refine R.ixK t ht rfl rfl rfl ?_ | refine R.mv rfl ?_ | refine R.reg ?_ | refine R.nil ?_ | refine R.seq ?_ | refine R.nseq ?_ | refine R.nblk ?_ | refine R.skip ?_ | refine R.blk ?_ | refine R.exit rfl ?_ | refine R.ldEp rfl rfl (by assumption) rfl rfl ?_ | refine R.ldaEp rfl rfl (by assumption) (Nat.le_of_ble_eq_true rfl) rfl rfl ?_ | refine R.ld rfl rfl rfl ?_ | refine R.lda rfl rfl (Nat.le_of_ble_eq_true rfl) rfl ?_ | refine R.fa rfl rfl ?_ | refine R.lenM rfl ?_ | refine R.lenO rfl rfl ?_ | refine R.len rfl rfl ?_ | refine R.lss rfl rfl ?_ | refine R.add rfl rfl (by omega) ?_ | refine R.ixN rfl rfl rfl (by omega) (fun a ha => ?_) | refine R.ixM rfl rfl rfl (by omega) (fun a ha => ?_) | refine R.ixON rfl rfl rfl (by first | omega | (simp; omega)) (fun a' ha' => ?_) | refine R.ixO rfl rfl rfl (by first | omega | (simp; omega)) (fun a' ha' => ?_) | refine R.al rfl ?_ | refine R.box rfl rfl rfl ?_ | refine R.stoB rfl rfl rfl rfl ⟨rfl, rfl, Nat.le_of_ble_eq_true rfl⟩ rfl ?_ | refine R.stoE _ rfl rfl rfl rfl rfl (by assumption) rfl ⟨rfl, rfl, Nat.le_of_ble_eq_true rfl⟩ ?_ | refine R.condT rfl ?_ | refine R.condF rfl ?_ | refine R.bsl (f := enPoint) [t.fAt] rfl rfl rfl rfl rfl ?_ | refine R.app (f := enPoint) (fun _ => rfl) rfl rfl rfl rfl rfl ⟨by simp only [List.length_map, List.length_take, List.length_singleton]; omega, by simp only [List.length_map, List.length_take, List.length_singleton]; omega⟩ ?_ | refine R.cond rfl (fun hc => ?_) (fun hc => ?_) | refine R.condN rfl (fun hc => ?_) (fun hc => ?_) | refine R.condB rfl (fun hc => ?_) (fun hc => ?_))
    all_goals first
      | (exfalso; omega)
      | exact R.nloop (R.again (i + 1) (by omega) (by omega) ⟨rfl, rfl, rfl, rfl, trivial⟩ ⟨arr_eq (ptsA_take ht).symm, trivial⟩ rfl rfl)
  obtain rfl : i = l.length := by omega
  rw [List.take_length]
  repeat' (first | refine R.mv rfl ?_ | refine R.reg ?_ | refine R.nil ?_ | refine R.seq ?_ | refine R.nseq ?_ | refine R.nblk ?_ | refine R.skip ?_ | refine R.blk ?_ | refine R.exit rfl ?_ | refine R.ldEp rfl rfl (by assumption) rfl rfl ?_ | refine R.ldaEp rfl rfl (by assumption) (Nat.le_of_ble_eq_true rfl) rfl rfl ?_ | refine R.ld rfl rfl rfl ?_ | refine R.lda rfl rfl (Nat.le_of_ble_eq_true rfl) rfl ?_ | refine R.fa rfl rfl ?_ | refine R.lenM rfl ?_ | refine R.lenO rfl rfl ?_ | refine R.len rfl rfl ?_ | refine R.lss rfl rfl ?_ | refine R.add rfl rfl (by omega) ?_ | refine R.ixN rfl rfl rfl (by omega) (fun a ha => ?_) | refine R.ixM rfl rfl rfl (by omega) (fun a ha => ?_) | refine R.ixON rfl rfl rfl (by first | omega | (simp; omega)) (fun a' ha' => ?_) | refine R.ixO rfl rfl rfl (by first | omega | (simp; omega)) (fun a' ha' => ?_) | refine R.al rfl ?_ | refine R.box rfl rfl rfl ?_ | refine R.stoB rfl rfl rfl rfl ⟨rfl, rfl, Nat.le_of_ble_eq_true rfl⟩ rfl ?_ | refine R.stoE _ rfl rfl rfl rfl rfl (by assumption) rfl ⟨rfl, rfl, Nat.le_of_ble_eq_true rfl⟩ ?_ | refine R.condT rfl ?_ | refine R.condF rfl ?_ | refine R.cond rfl (fun hc => ?_) (fun hc => ?_) | refine R.condN rfl (fun hc => ?_) (fun hc => ?_) | refine R.condB rfl (fun hc => ?_) (fun hc => ?_))
  all_goals first | (exfalso; omega) | exact R.ret ⟨.inr rfl, R.outN rfl rfl rfl⟩
theorem iPointsOf (A : TAssembly) (h : okA A.fTiles) : Spec Try.prog 21 [.agg (enAssembly A)] (oN kPoint ((ptsA A.fTiles).map enPoint)) := by
  refine Spec.walk T.mixed Try.func21 S.ok21 (by simp [Try.f21]) fun hk => ?_
  unfold S.s21
  repeat' (first | refine R.mv rfl ?_ | refine R.reg ?_ | refine R.nil ?_ | refine R.seq ?_ | refine R.nseq ?_ | refine R.nblk ?_ | refine R.skip ?_ | refine R.blk ?_ | refine R.exit rfl ?_ | refine R.ldEp rfl rfl (by assumption) rfl rfl ?_ | refine R.ldaEp rfl rfl (by assumption) (Nat.le_of_ble_eq_true rfl) rfl rfl ?_ | refine R.ld rfl rfl rfl ?_ | refine R.lda rfl rfl (Nat.le_of_ble_eq_true rfl) rfl ?_ | refine R.not rfl ?_ | refine R.box rfl rfl rfl ?_ | refine R.condT rfl ?_ | refine R.condF rfl ?_ | refine R.call (bor := false) rfl rfl (iHasT h) rfl rfl rfl ?_ | refine R.call (bor := true) rfl rfl (iHasT h) rfl rfl rfl ?_ | refine R.fcal (bor := false) rfl rfl (iHasT h) rfl rfl rfl ?_ | refine R.fcal (bor := true) rfl rfl (iHasT h) rfl rfl rfl ?_ | refine R.callN1 (bor := false) rfl rfl (iPoints _ h.1) rfl rfl ?_ | refine R.callN1 (bor := true) rfl rfl (iPoints _ h.1) rfl rfl ?_ | refine R.callN (bor := false) rfl rfl (iPoints _ h.1) rfl rfl rfl rfl rfl ?_ | refine R.callN (bor := true) rfl rfl (iPoints _ h.1) rfl rfl rfl rfl rfl ?_ | refine R.cond rfl (fun hc => ?_) (fun hc => ?_) | refine R.condN rfl (fun hc => ?_) (fun hc => ?_) | refine R.condB rfl (fun hc => ?_) (fun hc => ?_))
  all_goals first | (exfalso; omega) | exact R.ret ⟨.inr rfl, R.outN rfl rfl rfl⟩
theorem sSameP (A : TAssembly) : Spec Try.prog 44 [vP (enAssembly A), vP (enAssembly A)] (oB true) := by
  refine Spec.walk T.mixed Try.func44 S.ok44 (by simp [Try.f44]) fun hk => ?_
  have hlen := ((K.c hk 0 rfl).cells (.rd kPlaced (A.fTiles.map enPlaced)) (by simp)).lenM
  unfold S.s44
  repeat' (first | refine R.mv rfl ?_ | refine R.reg ?_ | refine R.nil ?_ | refine R.seq ?_ | refine R.nseq ?_ | refine R.nblk ?_ | refine R.skip ?_ | refine R.blk ?_ | refine R.exit rfl ?_ | refine R.ldEp rfl rfl (by assumption) rfl rfl ?_ | refine R.ldaEp rfl rfl (by assumption) (Nat.le_of_ble_eq_true rfl) rfl rfl ?_ | refine R.ld rfl rfl rfl ?_ | refine R.lda rfl rfl (Nat.le_of_ble_eq_true rfl) rfl ?_ | refine R.fa rfl rfl ?_ | refine R.lenM rfl ?_ | refine R.lenO rfl rfl ?_ | refine R.len rfl rfl ?_ | refine R.lss rfl rfl ?_ | refine R.neq rfl rfl ?_ | refine R.add rfl rfl (by omega) ?_ | refine R.ixN rfl rfl rfl (by omega) (fun a ha => ?_) | refine R.ixM rfl rfl rfl (by omega) (fun a ha => ?_) | refine R.ixON rfl rfl rfl (by first | omega | (simp; omega)) (fun a' ha' => ?_) | refine R.ixO rfl rfl rfl (by first | omega | (simp; omega)) (fun a' ha' => ?_) | refine R.nc rfl rfl ?_ | refine R.nc0 rfl rfl ?_ | refine R.eqs rfl rfl rfl rfl rfl ?_ | refine R.neqs rfl rfl rfl rfl rfl ?_ | refine R.condT rfl ?_ | refine R.condF rfl ?_ | refine R.cond rfl (fun hc => ?_) (fun hc => ?_) | refine R.condN rfl (fun hc => ?_) (fun hc => ?_) | refine R.condB rfl (fun hc => ?_) (fun hc => ?_))
  all_goals first | (exfalso; omega) | skip
  refine R.loop (G := Nat) (fun i => [(0, .v (.c (.d (.rp (enAssembly A))))), (1, .v (.c (.d (.rp (enAssembly A))))), (5, pvA (.int .i64 i))]) (fun _ => []) (fun i => i ≤ A.fTiles.length) (fun i => A.fTiles.length - i) 0 (by omega) (Weak.frame _ _ ⟨rfl, rfl, rfl, trivial⟩ trivial rfl rfl) fun i hi => ?_
  by_cases hil : i < A.fTiles.length
  · obtain ⟨v, hv⟩ : ∃ v, A.fTiles[i]? = some v := ⟨_, List.getElem?_eq_getElem hil⟩
    repeat' (first | refine R.ixK v hv rfl rfl rfl ?_ | refine R.mv rfl ?_ | refine R.reg ?_ | refine R.nil ?_ | refine R.seq ?_ | refine R.nseq ?_ | refine R.nblk ?_ | refine R.skip ?_ | refine R.blk ?_ | refine R.exit rfl ?_ | refine R.ldEp rfl rfl (by assumption) rfl rfl ?_ | refine R.ldaEp rfl rfl (by assumption) (Nat.le_of_ble_eq_true rfl) rfl rfl ?_ | refine R.ld rfl rfl rfl ?_ | refine R.lda rfl rfl (Nat.le_of_ble_eq_true rfl) rfl ?_ | refine R.fa rfl rfl ?_ | refine R.lenM rfl ?_ | refine R.lenO rfl rfl ?_ | refine R.len rfl rfl ?_ | refine R.lss rfl rfl ?_ | refine R.neq rfl rfl ?_ | refine R.add rfl rfl (by omega) ?_ | refine R.ixN rfl rfl rfl (by omega) (fun a ha => ?_) | refine R.ixM rfl rfl rfl (by omega) (fun a ha => ?_) | refine R.ixON rfl rfl rfl (by first | omega | (simp; omega)) (fun a' ha' => ?_) | refine R.ixO rfl rfl rfl (by first | omega | (simp; omega)) (fun a' ha' => ?_) | refine R.nc rfl rfl ?_ | refine R.nc0 rfl rfl ?_ | refine R.eqs rfl rfl rfl rfl rfl ?_ | refine R.neqs rfl rfl rfl rfl rfl ?_ | refine R.condT rfl ?_ | refine R.condF rfl ?_ | refine R.cond rfl (fun hc => ?_) (fun hc => ?_) | refine R.condN rfl (fun hc => ?_) (fun hc => ?_) | refine R.condB rfl (fun hc => ?_) (fun hc => ?_))
    all_goals first
      | (exfalso; omega)
      | exact R.nloop (R.again (i + 1) (by omega) (by omega) ⟨rfl, rfl, rfl, trivial⟩ trivial rfl rfl)
      | (exfalso; simp_all [eqVs, eqV]; done)
      | skip
  obtain rfl : i = A.fTiles.length := by omega
  repeat' (first | refine R.mv rfl ?_ | refine R.reg ?_ | refine R.nil ?_ | refine R.seq ?_ | refine R.nseq ?_ | refine R.nblk ?_ | refine R.skip ?_ | refine R.blk ?_ | refine R.exit rfl ?_ | refine R.ldEp rfl rfl (by assumption) rfl rfl ?_ | refine R.ldaEp rfl rfl (by assumption) (Nat.le_of_ble_eq_true rfl) rfl rfl ?_ | refine R.ld rfl rfl rfl ?_ | refine R.lda rfl rfl (Nat.le_of_ble_eq_true rfl) rfl ?_ | refine R.fa rfl rfl ?_ | refine R.lenM rfl ?_ | refine R.lenO rfl rfl ?_ | refine R.len rfl rfl ?_ | refine R.lss rfl rfl ?_ | refine R.neq rfl rfl ?_ | refine R.add rfl rfl (by omega) ?_ | refine R.ixN rfl rfl rfl (by omega) (fun a ha => ?_) | refine R.ixM rfl rfl rfl (by omega) (fun a ha => ?_) | refine R.ixON rfl rfl rfl (by first | omega | (simp; omega)) (fun a' ha' => ?_) | refine R.ixO rfl rfl rfl (by first | omega | (simp; omega)) (fun a' ha' => ?_) | refine R.nc rfl rfl ?_ | refine R.nc0 rfl rfl ?_ | refine R.eqs rfl rfl rfl rfl rfl ?_ | refine R.neqs rfl rfl rfl rfl rfl ?_ | refine R.condT rfl ?_ | refine R.condF rfl ?_ | refine R.cond rfl (fun hc => ?_) (fun hc => ?_) | refine R.condN rfl (fun hc => ?_) (fun hc => ?_) | refine R.condB rfl (fun hc => ?_) (fun hc => ?_))
  all_goals first
    | (exfalso; omega)
    | exact R.ret ⟨.inr rfl, R.outB rfl rfl rfl⟩
theorem sSameA (A : TAssembly) : Spec Try.prog 18 [.agg (enAssembly A), .agg (enAssembly A)] (oB true) := by
  refine Spec.walk T.mixed Try.func18 S.ok18 (by simp [Try.f18]) fun hk => ?_
  unfold S.s18
  repeat' (first | refine R.mv rfl ?_ | refine R.reg ?_ | refine R.nil ?_ | refine R.seq ?_ | refine R.nseq ?_ | refine R.nblk ?_ | refine R.skip ?_ | refine R.blk ?_ | refine R.exit rfl ?_ | refine R.box rfl rfl rfl ?_ | refine R.condT rfl ?_ | refine R.condF rfl ?_ | refine R.call (bor := false) rfl rfl (sSameP A) rfl rfl rfl ?_ | refine R.call (bor := true) rfl rfl (sSameP A) rfl rfl rfl ?_ | refine R.fcal (bor := false) rfl rfl (sSameP A) rfl rfl rfl ?_ | refine R.fcal (bor := true) rfl rfl (sSameP A) rfl rfl rfl ?_ | refine R.cond rfl (fun hc => ?_) (fun hc => ?_) | refine R.condN rfl (fun hc => ?_) (fun hc => ?_) | refine R.condB rfl (fun hc => ?_) (fun hc => ?_))
  exact R.ret ⟨.inr rfl, R.outB rfl rfl rfl⟩
open Go.ChangeShapes Go.WideShapes Go.RowKit
def rU8 : Rdr Int := fun _ _ cs n => cs = [.int .u8 n] ∧ (Lit.int .u8 n).wf = true
theorem opens_u8 {H : Type} {enc : TypeId × Value → H} {P : Program} {W : World} {sp : Nat → Bool} {hd : Bool} {t : TypeId} (ht : P.underlying t = some (.int .u8)) : Opens enc P W sp hd t rU8 := fun fuel cs y h => by
  obtain ⟨n, hc, _, hw⟩ := DataW.trod_int ht h
  exact ⟨n, hc, hw⟩
theorem encU8 : Enc rU8 (fun n => [.pv (.int .u8 n)]) := fun W S cs x ⟨h, h1⟩ => by
  subst h
  exact .cons (.pv rfl h1) .nil
theorem bytes_bd {κ : Ky} {l : List Int} (h : Known (.rd κ (l.map enB8))) : ∀ c ∈ l, 0 ≤ c ∧ c ≤ 255 := fun c hc => by
  have h1 := h.elem (enB8 c) (List.mem_map_of_mem hc) (.pv (.int .u8 c)) (by simp [enB8])
  have h2 := h1.wf
  simp [IntKind.min, IntKind.max, IntKind.signed, IntKind.bits] at h2
  omega
theorem big_ok (l : List Int) : Spec Try.prog 16 [vL kU8s (l.map enB8)] (oB (decide (4096 < (l.length : Int)))) := by
  refine Spec.walk T.mixed Try.func16 S.ok16 (by simp [Try.f16]) fun hk => ?_
  have hlen := (K.c hk 0 rfl).lenM
  unfold S.s16
  repeat' (first | refine R.mv rfl ?_ | refine R.reg ?_ | refine R.nil ?_ | refine R.seq ?_ | refine R.nseq ?_ | refine R.nblk ?_ | refine R.skip ?_ | refine R.blk ?_ | refine R.exit rfl ?_ | refine R.lenM rfl ?_ | refine R.lenO rfl rfl ?_ | refine R.len rfl rfl ?_ | refine R.gtr rfl rfl ?_ | refine R.condT rfl ?_ | refine R.condF rfl ?_ | refine R.cond rfl (fun hc => ?_) (fun hc => ?_) | refine R.condN rfl (fun hc => ?_) (fun hc => ?_) | refine R.condB rfl (fun hc => ?_) (fun hc => ?_))
  exact R.ret ⟨.inr rfl, R.outB rfl rfl rfl⟩
theorem pk_law (l : List Int) (hbig : ¬ 4096 < (l.length : Int)) (A : TAssembly) (p : TPoint) (t : Int)
    (hD : Spec Try.prog 17 [.c (.rd kU8s (l.map enB8))] (.tup [.agg [.fz (.rd kPlaced (A.fTiles.map enPlaced))], .agg [.fz (iD p.fX), .fz (iD p.fY)], cI t])) : Spec Try.prog 5 [vL kU8s (l.map enB8)] (oB true) := by
  have h0 := big_ok l
  rw [decide_eq_false hbig] at h0
  have h1 := iPut A p t
  have h2 := sPut A p t
  have h3 := sSameA ⟨(fPut A p t).1⟩
  by_cases hok : (fPut A p t).2 = 0
  case neg =>
    generalize fPut A p t = x at *
    obtain ⟨x1, x2⟩ := x
    dsimp only at h1 h2 h3 hok
    refine Spec.walk T.mixed Try.func5 S.ok5 (by simp [Try.f5]) fun hk => ?_
    clear hk
    unfold S.s5
    repeat' (first | refine R.mv rfl ?_ | refine R.reg ?_ | refine R.tk ?_ | refine R.tkN ?_ | exact R.vac | refine R.both ?_ ?_ | refine R.nil ?_ | refine R.seq ?_ | refine R.nseq ?_ | refine R.nblk ?_ | refine R.skip ?_ | refine R.blk ?_ | refine R.exit rfl ?_ | refine R.gRun rfl ?_ | refine R.gSkip rfl ?_ | refine R.gSkip0 rfl ?_ | refine R.gUndef rfl ?_ | refine R.gUndef0 rfl ?_ | refine R.ldEp rfl rfl (by assumption) rfl rfl ?_ | refine R.ldaEp rfl rfl (by assumption) (Nat.le_of_ble_eq_true rfl) rfl rfl ?_ | refine R.ld rfl rfl rfl ?_ | refine R.lda rfl rfl (Nat.le_of_ble_eq_true rfl) rfl ?_ | refine R.fa rfl rfl ?_ | refine R.lenM rfl ?_ | refine R.lenO rfl rfl ?_ | refine R.len rfl rfl ?_ | refine R.geq rfl rfl ?_ | refine R.neq rfl rfl ?_ | refine R.sub rfl rfl (by omega) ?_ | refine R.ixN rfl rfl rfl (by omega) (fun a ha => ?_) | refine R.ixM rfl rfl rfl (by omega) (fun a ha => ?_) | refine R.ixON rfl rfl rfl (by first | omega | (simp; omega)) (fun a' ha' => ?_) | refine R.ixO rfl rfl rfl (by first | omega | (simp; omega)) (fun a' ha' => ?_) | refine R.pickT rfl rfl ?_ | refine R.pickF rfl rfl ?_ | refine R.not rfl ?_ | refine R.mvU rfl ?_ | refine R.ext rfl rfl ?_ | refine R.al rfl ?_ | refine R.stoB rfl rfl rfl rfl ⟨rfl, rfl, Nat.le_of_ble_eq_true rfl⟩ rfl ?_ | refine R.stoE _ rfl rfl rfl rfl rfl (by assumption) rfl ⟨rfl, rfl, Nat.le_of_ble_eq_true rfl⟩ ?_ | refine R.bld rfl rfl ?_ | refine R.condT rfl ?_ | refine R.condF rfl ?_ | refine R.call (bor := false) rfl rfl (h0) rfl rfl rfl ?_ | refine R.call (bor := true) rfl rfl (h0) rfl rfl rfl ?_ | refine R.fcal (bor := false) rfl rfl (h0) rfl rfl rfl ?_ | refine R.fcal (bor := true) rfl rfl (h0) rfl rfl rfl ?_ | refine R.call (bor := false) rfl rfl (hD) rfl rfl rfl ?_ | refine R.call (bor := true) rfl rfl (hD) rfl rfl rfl ?_ | refine R.fcal (bor := false) rfl rfl (hD) rfl rfl rfl ?_ | refine R.fcal (bor := true) rfl rfl (hD) rfl rfl rfl ?_ | refine R.call (bor := false) rfl rfl (h1) rfl rfl rfl ?_ | refine R.call (bor := true) rfl rfl (h1) rfl rfl rfl ?_ | refine R.fcal (bor := false) rfl rfl (h1) rfl rfl rfl ?_ | refine R.fcal (bor := true) rfl rfl (h1) rfl rfl rfl ?_ | refine R.call (bor := false) rfl rfl (h2) rfl rfl rfl ?_ | refine R.call (bor := true) rfl rfl (h2) rfl rfl rfl ?_ | refine R.fcal (bor := false) rfl rfl (h2) rfl rfl rfl ?_ | refine R.fcal (bor := true) rfl rfl (h2) rfl rfl rfl ?_ | refine R.call (bor := false) rfl rfl (h3) rfl rfl rfl ?_ | refine R.call (bor := true) rfl rfl (h3) rfl rfl rfl ?_ | refine R.fcal (bor := false) rfl rfl (h3) rfl rfl rfl ?_ | refine R.fcal (bor := true) rfl rfl (h3) rfl rfl rfl ?_ | refine R.cond rfl (fun hc => ?_) (fun hc => ?_) | refine R.condN rfl (fun hc => ?_) (fun hc => ?_) | refine R.condB rfl (fun hc => ?_) (fun hc => ?_) | refine R.gP rfl (fun hc => ?_) (fun hc => ?_) | refine R.gN rfl (fun hc => ?_) (fun hc => ?_) | refine R.gB rfl (fun hc => ?_) (fun hc => ?_))
    all_goals first
      | (exfalso; omega)
      | exact R.ret ⟨.inr rfl, R.outB rfl rfl rfl⟩
      | skip
  obtain ⟨⟨⟨hM, h4⟩, h5⟩, h6⟩ := put_ok hok
  have hback := fun i q (h : (fPut A p t).1[i]? = some q) => put_back hM h
  obtain ⟨⟨M, c⟩, hx⟩ : ∃ x, fPut A p t = x := ⟨_, rfl⟩
  rw [hx] at h1 h2 h3 hok hM h4 h5 h6 hback
  dsimp only at h1 h2 h3 hok hM h4 h5 h6 hback
  subst hok
  have g4 := iTileAt ⟨M⟩ p
  rw [show fTileAt (TAssembly.mk M).fTiles p = (t, true) from h4] at g4
  have g5 := iTake ⟨M⟩ p
  rw [h5] at g5
  have g6 := iIsWithin A ⟨M⟩
  rw [bP_iff.2 (show okW A.fTiles (TAssembly.mk M).fTiles from h6)] at g6
  have g7 := iPointsOf ⟨M⟩ hM
  have g8 := sSameA A
  have h1 : Spec Try.prog 10 [.agg (enAssembly A), .agg (enPoint p), vI t] (.tup [.agg [.nw kPlaced (M.map enPlaced)], .c (.fz (iD 0))]) := h1
  have h2 : Spec Try.prog 7 [.agg (enAssembly A), .agg (enPoint p), vI t] (.tup [.agg [.nw kPlaced (M.map enPlaced)], .c (.fz (iD 0))]) := h2
  have g4 : Spec Try.prog 19 [.agg (enAssembly ⟨M⟩), .agg (enPoint p)] (.tup [cI t, cB1 true]) := g4
  have g5 : Spec Try.prog 15 [.agg (enAssembly ⟨M⟩), .agg (enPoint p)] (.tup [.agg [.nw kPlaced (A.fTiles.map enPlaced)], .c (.fz (iD 0))]) := g5
  have g7 : Spec Try.prog 21 [.agg (enAssembly ⟨M⟩)] (oN kPoint ((ptsA M).map enPoint)) := g7
  have hMl := hM.1
  have hpl : (ptsA M).length = M.length := by simp
  refine Spec.walk T.mixed Try.func5 S.ok5 (by simp [Try.f5]) fun hk => ?_
  clear hk
  unfold S.s5
  repeat' (first | refine R.mv rfl ?_ | refine R.reg ?_ | refine R.tk ?_ | refine R.tkN ?_ | exact R.vac | refine R.both ?_ ?_ | refine R.nil ?_ | refine R.seq ?_ | refine R.nseq ?_ | refine R.nblk ?_ | refine R.skip ?_ | refine R.blk ?_ | refine R.exit rfl ?_ | refine R.gRun rfl ?_ | refine R.gSkip rfl ?_ | refine R.gSkip0 rfl ?_ | refine R.gUndef rfl ?_ | refine R.gUndef0 rfl ?_ | refine R.ldEp rfl rfl (by assumption) rfl rfl ?_ | refine R.ldaEp rfl rfl (by assumption) (Nat.le_of_ble_eq_true rfl) rfl rfl ?_ | refine R.ld rfl rfl rfl ?_ | refine R.lda rfl rfl (Nat.le_of_ble_eq_true rfl) rfl ?_ | refine R.fa rfl rfl ?_ | refine R.lenM rfl ?_ | refine R.lenO rfl rfl ?_ | refine R.len rfl rfl ?_ | refine R.geq rfl rfl ?_ | refine R.neq rfl rfl ?_ | refine R.sub rfl rfl (by omega) ?_ | refine R.ixN rfl rfl rfl (by omega) (fun a ha => ?_) | refine R.ixM rfl rfl rfl (by omega) (fun a ha => ?_) | refine R.ixON rfl rfl rfl (by first | omega | (simp; omega)) (fun a' ha' => ?_) | refine R.ixO rfl rfl rfl (by first | omega | (simp; omega)) (fun a' ha' => ?_) | refine R.pickT rfl rfl ?_ | refine R.pickF rfl rfl ?_ | refine R.not rfl ?_ | refine R.mvU rfl ?_ | refine R.ext rfl rfl ?_ | refine R.al rfl ?_ | refine R.stoB rfl rfl rfl rfl ⟨rfl, rfl, Nat.le_of_ble_eq_true rfl⟩ rfl ?_ | refine R.stoE _ rfl rfl rfl rfl rfl (by assumption) rfl ⟨rfl, rfl, Nat.le_of_ble_eq_true rfl⟩ ?_ | refine R.bld rfl rfl ?_ | refine R.condT rfl ?_ | refine R.condF rfl ?_ | refine R.call (bor := false) rfl rfl (h0) rfl rfl rfl ?_ | refine R.call (bor := true) rfl rfl (h0) rfl rfl rfl ?_ | refine R.fcal (bor := false) rfl rfl (h0) rfl rfl rfl ?_ | refine R.fcal (bor := true) rfl rfl (h0) rfl rfl rfl ?_ | refine R.call (bor := false) rfl rfl (hD) rfl rfl rfl ?_ | refine R.call (bor := true) rfl rfl (hD) rfl rfl rfl ?_ | refine R.fcal (bor := false) rfl rfl (hD) rfl rfl rfl ?_ | refine R.fcal (bor := true) rfl rfl (hD) rfl rfl rfl ?_ | refine R.call (bor := false) rfl rfl (h1) rfl rfl rfl ?_ | refine R.call (bor := true) rfl rfl (h1) rfl rfl rfl ?_ | refine R.fcal (bor := false) rfl rfl (h1) rfl rfl rfl ?_ | refine R.fcal (bor := true) rfl rfl (h1) rfl rfl rfl ?_ | refine R.call (bor := false) rfl rfl (h2) rfl rfl rfl ?_ | refine R.call (bor := true) rfl rfl (h2) rfl rfl rfl ?_ | refine R.fcal (bor := false) rfl rfl (h2) rfl rfl rfl ?_ | refine R.fcal (bor := true) rfl rfl (h2) rfl rfl rfl ?_ | refine R.call (bor := false) rfl rfl (h3) rfl rfl rfl ?_ | refine R.call (bor := true) rfl rfl (h3) rfl rfl rfl ?_ | refine R.fcal (bor := false) rfl rfl (h3) rfl rfl rfl ?_ | refine R.fcal (bor := true) rfl rfl (h3) rfl rfl rfl ?_ | refine R.call (bor := false) rfl rfl (g4) rfl rfl rfl ?_ | refine R.call (bor := true) rfl rfl (g4) rfl rfl rfl ?_ | refine R.fcal (bor := false) rfl rfl (g4) rfl rfl rfl ?_ | refine R.fcal (bor := true) rfl rfl (g4) rfl rfl rfl ?_ | refine R.call (bor := false) rfl rfl (g5) rfl rfl rfl ?_ | refine R.call (bor := true) rfl rfl (g5) rfl rfl rfl ?_ | refine R.fcal (bor := false) rfl rfl (g5) rfl rfl rfl ?_ | refine R.fcal (bor := true) rfl rfl (g5) rfl rfl rfl ?_ | refine R.call (bor := false) rfl rfl (g6) rfl rfl rfl ?_ | refine R.call (bor := true) rfl rfl (g6) rfl rfl rfl ?_ | refine R.fcal (bor := false) rfl rfl (g6) rfl rfl rfl ?_ | refine R.fcal (bor := true) rfl rfl (g6) rfl rfl rfl ?_ | refine R.call (bor := false) rfl rfl (g7) rfl rfl rfl ?_ | refine R.call (bor := true) rfl rfl (g7) rfl rfl rfl ?_ | refine R.fcal (bor := false) rfl rfl (g7) rfl rfl rfl ?_ | refine R.fcal (bor := true) rfl rfl (g7) rfl rfl rfl ?_ | refine R.call (bor := false) rfl rfl (g8) rfl rfl rfl ?_ | refine R.call (bor := true) rfl rfl (g8) rfl rfl rfl ?_ | refine R.fcal (bor := false) rfl rfl (g8) rfl rfl rfl ?_ | refine R.fcal (bor := true) rfl rfl (g8) rfl rfl rfl ?_ | refine R.cond rfl (fun hc => ?_) (fun hc => ?_) | refine R.condN rfl (fun hc => ?_) (fun hc => ?_) | refine R.condB rfl (fun hc => ?_) (fun hc => ?_) | refine R.gP rfl (fun hc => ?_) (fun hc => ?_) | refine R.gN rfl (fun hc => ?_) (fun hc => ?_) | refine R.gB rfl (fun hc => ?_) (fun hc => ?_))
  all_goals first
    | (exfalso; omega)
    | (exfalso; simp_all; done)
    | skip
  refine R.loop (G := Nat) (fun j => [(8, .v (.c (.ptr 8 0))), (14, .v (.c (.ptr 14 0))), (15, pvA (.int .i64 ((j : Int) - 1)))]) (fun j => [(8, .box 30 [.d (.rd kPlaced (M.map enPlaced))]), (14, .box 30 [.d (.rd kPlaced ((M.drop j).map enPlaced))])]) (fun j => j ≤ M.length) (fun j => j) M.length (Nat.le_refl _) ?hw fun j hj => ?_
  case hw =>
    refine Weak.trans (Weak.reifyBox 14 0 900 kPlaced rfl rfl rfl) ?_
    refine Weak.trans (Weak.freeze 900 rfl rfl) ?_
    rw [List.drop_length]
    refine Weak.frame _ _ ⟨rfl, rfl, ?_, trivial⟩ ⟨rfl, rfl, trivial⟩ rfl rfl
    rw [← List.length_map (f := enPlaced)]
    rfl
  by_cases hj0 : 0 < j
  · obtain ⟨i, rfl⟩ : ∃ i, j = i + 1 := ⟨j - 1, by omega⟩
    obtain ⟨q, hq⟩ : ∃ q, M[i]? = some q := ⟨_, List.getElem?_eq_getElem (by omega)⟩
    have hb := iPut ⟨M.drop (i + 1)⟩ q.fAt q.fTile
    rw [hback i q hq] at hb
    have hb : Spec Try.prog 10 [.agg (enAssembly ⟨M.drop (i + 1)⟩), .agg (enPoint q.fAt), vI q.fTile] (.tup [.agg [.nw kPlaced ((M.drop i).map enPlaced)], .c (.fz (iD 0))]) := hb
    have he : ((i + 1 : Nat) : Int) - 1 = (i : Int) := by omega
    rw [he]
    repeat' (first | refine R.mv rfl ?_ | refine R.reg ?_ | refine R.tk ?_ | refine R.tkN ?_ | exact R.vac | refine R.both ?_ ?_ | refine R.nil ?_ | refine R.seq ?_ | refine R.nseq ?_ | refine R.nblk ?_ | refine R.skip ?_ | refine R.blk ?_ | refine R.exit rfl ?_ | refine R.gRun rfl ?_ | refine R.gSkip rfl ?_ | refine R.gSkip0 rfl ?_ | refine R.gUndef rfl ?_ | refine R.gUndef0 rfl ?_ | refine R.ldEp rfl rfl (by assumption) rfl rfl ?_ | refine R.ldaEp rfl rfl (by assumption) (Nat.le_of_ble_eq_true rfl) rfl rfl ?_ | refine R.ld rfl rfl rfl ?_ | refine R.lda rfl rfl (Nat.le_of_ble_eq_true rfl) rfl ?_ | refine R.fa rfl rfl ?_ | refine R.lenM rfl ?_ | refine R.lenO rfl rfl ?_ | refine R.len rfl rfl ?_ | refine R.geq rfl rfl ?_ | refine R.neq rfl rfl ?_ | refine R.sub rfl rfl (by omega) ?_ | refine R.ixN rfl rfl rfl (by omega) (fun a ha => ?_) | refine R.ixM rfl rfl rfl (by omega) (fun a ha => ?_) | refine R.ixON rfl rfl rfl (by first | omega | (simp; omega)) (fun a' ha' => ?_) | refine R.ixO rfl rfl rfl (by first | omega | (simp; omega)) (fun a' ha' => ?_) | refine R.pickT rfl rfl ?_ | refine R.pickF rfl rfl ?_ | refine R.not rfl ?_ | refine R.mvU rfl ?_ | refine R.ext rfl rfl ?_ | refine R.al rfl ?_ | refine R.stoB rfl rfl rfl rfl ⟨rfl, rfl, Nat.le_of_ble_eq_true rfl⟩ rfl ?_ | refine R.stoE _ rfl rfl rfl rfl rfl (by assumption) rfl ⟨rfl, rfl, Nat.le_of_ble_eq_true rfl⟩ ?_ | refine R.bld rfl rfl ?_ | refine R.condT rfl ?_ | refine R.condF rfl ?_ | refine R.cond rfl (fun hc => ?_) (fun hc => ?_) | refine R.condN rfl (fun hc => ?_) (fun hc => ?_) | refine R.condB rfl (fun hc => ?_) (fun hc => ?_) | refine R.gP rfl (fun hc => ?_) (fun hc => ?_) | refine R.gN rfl (fun hc => ?_) (fun hc => ?_) | refine R.gB rfl (fun hc => ?_) (fun hc => ?_))
    all_goals first | (exfalso; omega) | skip
    refine R.regO (⟨frE [(8, .v (.c (.ptr 8 0))), (14, .v (.c (.ptr 14 0))), (15, pvA (.int .i64 i)), (16, .v (.c (.ptr 16 0))), (17, pvA (.int .i64 0))], frO [(8, .box 30 [.d (.rd kPlaced (M.map enPlaced))]), (14, .box 30 [.d (.rd kPlaced ((M.drop (i + 1)).map enPlaced))]), (16, .box 30 [.d (.rd kPlaced ((M.drop i).map enPlaced))])]⟩) ?_ ?_
    · repeat' (first | refine R.ixK q hq rfl rfl rfl ?_ | refine R.mv rfl ?_ | refine R.reg ?_ | refine R.tk ?_ | refine R.tkN ?_ | exact R.vac | refine R.both ?_ ?_ | refine R.nil ?_ | refine R.seq ?_ | refine R.nseq ?_ | refine R.nblk ?_ | refine R.skip ?_ | refine R.blk ?_ | refine R.exit rfl ?_ | refine R.gRun rfl ?_ | refine R.gSkip rfl ?_ | refine R.gSkip0 rfl ?_ | refine R.gUndef rfl ?_ | refine R.gUndef0 rfl ?_ | refine R.ldEp rfl rfl (by assumption) rfl rfl ?_ | refine R.ldaEp rfl rfl (by assumption) (Nat.le_of_ble_eq_true rfl) rfl rfl ?_ | refine R.ld rfl rfl rfl ?_ | refine R.lda rfl rfl (Nat.le_of_ble_eq_true rfl) rfl ?_ | refine R.fa rfl rfl ?_ | refine R.lenM rfl ?_ | refine R.lenO rfl rfl ?_ | refine R.len rfl rfl ?_ | refine R.geq rfl rfl ?_ | refine R.neq rfl rfl ?_ | refine R.sub rfl rfl (by omega) ?_ | refine R.ixN rfl rfl rfl (by omega) (fun a ha => ?_) | refine R.ixM rfl rfl rfl (by omega) (fun a ha => ?_) | refine R.ixON rfl rfl rfl (by first | omega | (simp; omega)) (fun a' ha' => ?_) | refine R.ixO rfl rfl rfl (by first | omega | (simp; omega)) (fun a' ha' => ?_) | refine R.pickT rfl rfl ?_ | refine R.pickF rfl rfl ?_ | refine R.not rfl ?_ | refine R.mvU rfl ?_ | refine R.ext rfl rfl ?_ | refine R.al rfl ?_ | refine R.stoB rfl rfl rfl rfl ⟨rfl, rfl, Nat.le_of_ble_eq_true rfl⟩ rfl ?_ | refine R.stoE _ rfl rfl rfl rfl rfl (by assumption) rfl ⟨rfl, rfl, Nat.le_of_ble_eq_true rfl⟩ ?_ | refine R.bld rfl rfl ?_ | refine R.condT rfl ?_ | refine R.condF rfl ?_ | refine R.call (bor := false) rfl rfl (hb) rfl rfl rfl ?_ | refine R.call (bor := true) rfl rfl (hb) rfl rfl rfl ?_ | refine R.fcal (bor := false) rfl rfl (hb) rfl rfl rfl ?_ | refine R.fcal (bor := true) rfl rfl (hb) rfl rfl rfl ?_ | refine R.cond rfl (fun hc => ?_) (fun hc => ?_) | refine R.condN rfl (fun hc => ?_) (fun hc => ?_) | refine R.condB rfl (fun hc => ?_) (fun hc => ?_) | refine R.gP rfl (fun hc => ?_) (fun hc => ?_) | refine R.gN rfl (fun hc => ?_) (fun hc => ?_) | refine R.gB rfl (fun hc => ?_) (fun hc => ?_))
      all_goals exact R.done (Weak.frame _ _ ⟨rfl, rfl, rfl, rfl, rfl, trivial⟩ ⟨rfl, rfl, rfl, trivial⟩ rfl rfl)
    repeat' (first | refine R.mv rfl ?_ | refine R.reg ?_ | refine R.tk ?_ | refine R.tkN ?_ | exact R.vac | refine R.both ?_ ?_ | refine R.nil ?_ | refine R.seq ?_ | refine R.nseq ?_ | refine R.nblk ?_ | refine R.skip ?_ | refine R.blk ?_ | refine R.exit rfl ?_ | refine R.gRun rfl ?_ | refine R.gSkip rfl ?_ | refine R.gSkip0 rfl ?_ | refine R.gUndef rfl ?_ | refine R.gUndef0 rfl ?_ | refine R.ldEp rfl rfl (by assumption) rfl rfl ?_ | refine R.ldaEp rfl rfl (by assumption) (Nat.le_of_ble_eq_true rfl) rfl rfl ?_ | refine R.ld rfl rfl rfl ?_ | refine R.lda rfl rfl (Nat.le_of_ble_eq_true rfl) rfl ?_ | refine R.fa rfl rfl ?_ | refine R.lenM rfl ?_ | refine R.lenO rfl rfl ?_ | refine R.len rfl rfl ?_ | refine R.geq rfl rfl ?_ | refine R.neq rfl rfl ?_ | refine R.sub rfl rfl (by omega) ?_ | refine R.ixN rfl rfl rfl (by omega) (fun a ha => ?_) | refine R.ixM rfl rfl rfl (by omega) (fun a ha => ?_) | refine R.ixON rfl rfl rfl (by first | omega | (simp; omega)) (fun a' ha' => ?_) | refine R.ixO rfl rfl rfl (by first | omega | (simp; omega)) (fun a' ha' => ?_) | refine R.pickT rfl rfl ?_ | refine R.pickF rfl rfl ?_ | refine R.not rfl ?_ | refine R.mvU rfl ?_ | refine R.ext rfl rfl ?_ | refine R.al rfl ?_ | refine R.stoB rfl rfl rfl rfl ⟨rfl, rfl, Nat.le_of_ble_eq_true rfl⟩ rfl ?_ | refine R.stoE _ rfl rfl rfl rfl rfl (by assumption) rfl ⟨rfl, rfl, Nat.le_of_ble_eq_true rfl⟩ ?_ | refine R.bld rfl rfl ?_ | refine R.condT rfl ?_ | refine R.condF rfl ?_ | refine R.cond rfl (fun hc => ?_) (fun hc => ?_) | refine R.condN rfl (fun hc => ?_) (fun hc => ?_) | refine R.condB rfl (fun hc => ?_) (fun hc => ?_) | refine R.gP rfl (fun hc => ?_) (fun hc => ?_) | refine R.gN rfl (fun hc => ?_) (fun hc => ?_) | refine R.gB rfl (fun hc => ?_) (fun hc => ?_))
    all_goals first
      | (exfalso; omega)
      | exact R.nloop (R.again i (by omega) (by omega) ⟨rfl, rfl, rfl, trivial⟩ ⟨rfl, rfl, trivial⟩ rfl rfl)
      | skip
  obtain rfl : j = 0 := by omega
  repeat' (first | refine R.mv rfl ?_ | refine R.reg ?_ | refine R.tk ?_ | refine R.tkN ?_ | exact R.vac | refine R.both ?_ ?_ | refine R.nil ?_ | refine R.seq ?_ | refine R.nseq ?_ | refine R.nblk ?_ | refine R.skip ?_ | refine R.blk ?_ | refine R.exit rfl ?_ | refine R.gRun rfl ?_ | refine R.gSkip rfl ?_ | refine R.gSkip0 rfl ?_ | refine R.gUndef rfl ?_ | refine R.gUndef0 rfl ?_ | refine R.ldEp rfl rfl (by assumption) rfl rfl ?_ | refine R.ldaEp rfl rfl (by assumption) (Nat.le_of_ble_eq_true rfl) rfl rfl ?_ | refine R.ld rfl rfl rfl ?_ | refine R.lda rfl rfl (Nat.le_of_ble_eq_true rfl) rfl ?_ | refine R.fa rfl rfl ?_ | refine R.lenM rfl ?_ | refine R.lenO rfl rfl ?_ | refine R.len rfl rfl ?_ | refine R.geq rfl rfl ?_ | refine R.neq rfl rfl ?_ | refine R.sub rfl rfl (by omega) ?_ | refine R.ixN rfl rfl rfl (by omega) (fun a ha => ?_) | refine R.ixM rfl rfl rfl (by omega) (fun a ha => ?_) | refine R.ixON rfl rfl rfl (by first | omega | (simp; omega)) (fun a' ha' => ?_) | refine R.ixO rfl rfl rfl (by first | omega | (simp; omega)) (fun a' ha' => ?_) | refine R.pickT rfl rfl ?_ | refine R.pickF rfl rfl ?_ | refine R.not rfl ?_ | refine R.mvU rfl ?_ | refine R.ext rfl rfl ?_ | refine R.al rfl ?_ | refine R.stoB rfl rfl rfl rfl ⟨rfl, rfl, Nat.le_of_ble_eq_true rfl⟩ rfl ?_ | refine R.stoE _ rfl rfl rfl rfl rfl (by assumption) rfl ⟨rfl, rfl, Nat.le_of_ble_eq_true rfl⟩ ?_ | refine R.bld rfl rfl ?_ | refine R.condT rfl ?_ | refine R.condF rfl ?_ | refine R.call (bor := false) rfl rfl (h3) rfl rfl rfl ?_ | refine R.call (bor := true) rfl rfl (h3) rfl rfl rfl ?_ | refine R.fcal (bor := false) rfl rfl (h3) rfl rfl rfl ?_ | refine R.fcal (bor := true) rfl rfl (h3) rfl rfl rfl ?_ | refine R.cond rfl (fun hc => ?_) (fun hc => ?_) | refine R.condN rfl (fun hc => ?_) (fun hc => ?_) | refine R.condB rfl (fun hc => ?_) (fun hc => ?_) | refine R.gP rfl (fun hc => ?_) (fun hc => ?_) | refine R.gN rfl (fun hc => ?_) (fun hc => ?_) | refine R.gB rfl (fun hc => ?_) (fun hc => ?_))
  all_goals first
    | (exfalso; omega)
    | exact R.ret ⟨.inr rfl, R.outB rfl rfl rfl⟩
    | skip
theorem law_FnPutTake (l : List Int) : Spec Try.prog 5 [vL kU8s (l.map enB8)] (oB true) := by
  by_cases hb : ∀ c ∈ l, 0 ≤ c ∧ c ≤ 255
  · by_cases hbig : 4096 < (l.length : Int)
    · refine Spec.walk T.mixed Try.func5 S.ok5 (by simp [Try.f5]) fun hk => ?_
      clear hk
      unfold S.s5
      have h0 := big_ok l
      rw [decide_eq_true hbig] at h0
      repeat' (first | refine R.mv rfl ?_ | refine R.reg ?_ | refine R.tk ?_ | refine R.tkN ?_ | exact R.vac | refine R.both ?_ ?_ | refine R.nil ?_ | refine R.seq ?_ | refine R.nseq ?_ | refine R.nblk ?_ | refine R.skip ?_ | refine R.blk ?_ | refine R.exit rfl ?_ | refine R.gRun rfl ?_ | refine R.gSkip rfl ?_ | refine R.gSkip0 rfl ?_ | refine R.gUndef rfl ?_ | refine R.gUndef0 rfl ?_ | refine R.ldEp rfl rfl (by assumption) rfl rfl ?_ | refine R.ldaEp rfl rfl (by assumption) (Nat.le_of_ble_eq_true rfl) rfl rfl ?_ | refine R.ld rfl rfl rfl ?_ | refine R.lda rfl rfl (Nat.le_of_ble_eq_true rfl) rfl ?_ | refine R.fa rfl rfl ?_ | refine R.lenM rfl ?_ | refine R.lenO rfl rfl ?_ | refine R.len rfl rfl ?_ | refine R.geq rfl rfl ?_ | refine R.neq rfl rfl ?_ | refine R.sub rfl rfl (by omega) ?_ | refine R.ixN rfl rfl rfl (by omega) (fun a ha => ?_) | refine R.ixM rfl rfl rfl (by omega) (fun a ha => ?_) | refine R.ixON rfl rfl rfl (by first | omega | (simp; omega)) (fun a' ha' => ?_) | refine R.ixO rfl rfl rfl (by first | omega | (simp; omega)) (fun a' ha' => ?_) | refine R.pickT rfl rfl ?_ | refine R.pickF rfl rfl ?_ | refine R.not rfl ?_ | refine R.mvU rfl ?_ | refine R.ext rfl rfl ?_ | refine R.al rfl ?_ | refine R.stoB rfl rfl rfl rfl ⟨rfl, rfl, Nat.le_of_ble_eq_true rfl⟩ rfl ?_ | refine R.stoE _ rfl rfl rfl rfl rfl (by assumption) rfl ⟨rfl, rfl, Nat.le_of_ble_eq_true rfl⟩ ?_ | refine R.bld rfl rfl ?_ | refine R.condT rfl ?_ | refine R.condF rfl ?_ | refine R.call (bor := false) rfl rfl (h0) rfl rfl rfl ?_ | refine R.call (bor := true) rfl rfl (h0) rfl rfl rfl ?_ | refine R.fcal (bor := false) rfl rfl (h0) rfl rfl rfl ?_ | refine R.fcal (bor := true) rfl rfl (h0) rfl rfl rfl ?_ | refine R.cond rfl (fun hc => ?_) (fun hc => ?_) | refine R.condN rfl (fun hc => ?_) (fun hc => ?_) | refine R.condB rfl (fun hc => ?_) (fun hc => ?_) | refine R.gP rfl (fun hc => ?_) (fun hc => ?_) | refine R.gN rfl (fun hc => ?_) (fun hc => ?_) | refine R.gB rfl (fun hc => ?_) (fun hc => ?_))
      exact R.ret ⟨.inr rfl, R.outB rfl rfl rfl⟩
    · obtain ⟨A, p, t, _, hD⟩ := sDrawPut l hb
      exact pk_law l hbig A p t hD
  · refine Spec.walk T.mixed Try.func5 S.ok5 (by simp [Try.f5]) fun hk => ?_
    exact absurd (bytes_bd (K.c hk 0 rfl)) hb
end Go.Proofs.Ytghpeccaknhjiaa
