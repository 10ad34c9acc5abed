/- Mrg3 and Mrg4. -/
import Derived.Test.YtnkfbodolbfjpaaMrgA
namespace Go.Proofs.Ytnkfbodolbfjpaa
open Go.RowKit
set_option maxRecDepth 100000 in
def S.s47 : SC := (.seq (.reg [⟨(.some 3), .none, .false, (.box 86 (.tmp 0))⟩, ⟨(.some 6), .none, .false, (.al 86 [(Go.Value.slice none 0 0), (Go.Value.slice none 0 0), (Go.Value.slice none 0 0)])⟩, ⟨(.some 7), .none, .false, (.mv (.const (Go.Value.int Go.IntKind.i64 0)))⟩]) (.seq (.block 0 (.seq (.reg [⟨(.some 11), .none, .false, (.ld .true 3 (.tmp 3))⟩, ⟨(.some 12), .none, .false, (.call (.func 113) [(.tmp 11)])⟩, ⟨(.some 13), .none, .false, (.not (.tmp 12))⟩, ⟨(.some 10), .none, .false, (.mv (.tmp 13))⟩]) (.cond (.tmp 10) (.seq (.reg [⟨(.some 14), .none, .false, (.bld [(Go.Value.slice none 0 0), (Go.Value.slice none 0 0), (Go.Value.slice none 0 0)] [(0, 1), (1, 1), (2, 1)] [])⟩, ⟨.none, .none, .false, (.sto 3 (.tmp 6) (.tmp 14))⟩, ⟨(.some 7), .none, .false, (.mv (.const (Go.Value.int Go.IntKind.i64 1)))⟩]) .ret) (.seq (.reg [⟨(.some 16), .none, .false, (.mv (.tmp 1))⟩, ⟨(.some 17), .none, .false, (.fa 2 (.tmp 3))⟩, ⟨(.some 18), .none, .false, (.ld .false 1 (.tmp 17))⟩, ⟨(.some 19), .none, .false, (.len (.tmp 18))⟩, ⟨(.some 20), .none, .false, (.call (.func 114) [(.tmp 16), (.tmp 19)])⟩, ⟨(.some 21), .none, .false, (.not (.tmp 20))⟩, ⟨(.some 22), .none, .false, (.mv (.tmp 21))⟩, ⟨(.some 23), (.some (22, .false)), .false, (.mv (.tmp 2))⟩, ⟨(.some 24), (.some (22, .false)), .false, (.fa 2 (.tmp 3))⟩, ⟨(.some 25), (.some (22, .false)), .false, (.ld .false 1 (.tmp 24))⟩, ⟨(.some 26), (.some (22, .false)), .false, (.len (.tmp 25))⟩, ⟨(.some 27), (.some (22, .false)), .false, (.call (.func 114) [(.tmp 23), (.tmp 26)])⟩, ⟨(.some 28), (.some (22, .false)), .false, (.not (.tmp 27))⟩, ⟨(.some 29), .none, .false, (.pick (.tmp 22) (.const (Go.Value.bool true)) (.tmp 28))⟩, ⟨(.some 30), .none, .false, (.mv (.tmp 29))⟩, ⟨(.some 31), (.some (30, .false)), .false, (.mv (.tmp 1))⟩, ⟨(.some 32), (.some (30, .false)), .false, (.mv (.tmp 2))⟩, ⟨(.some 33), (.some (30, .false)), .false, (.bin .eql (.tmp 31) (.tmp 32))⟩, ⟨(.some 34), .none, .false, (.pick (.tmp 30) (.const (Go.Value.bool true)) (.tmp 33))⟩, ⟨(.some 15), .none, .false, (.mv (.tmp 34))⟩]) (.cond (.tmp 15) (.seq (.reg [⟨(.some 35), .none, .false, (.bld [(Go.Value.slice none 0 0), (Go.Value.slice none 0 0), (Go.Value.slice none 0 0)] [(0, 1), (1, 1), (2, 1)] [])⟩, ⟨.none, .none, .false, (.sto 3 (.tmp 6) (.tmp 35))⟩, ⟨(.some 7), .none, .false, (.mv (.const (Go.Value.int Go.IntKind.i64 2)))⟩]) .ret) .skip))))) (.seq (.reg [⟨(.some 37), .none, .false, (.ld .true 3 (.tmp 3))⟩, ⟨(.some 38), .none, .false, (.mv (.tmp 1))⟩, ⟨(.some 39), .none, .false, (.mv (.tmp 2))⟩, ⟨(.some 40), .none, .false, (.call (.func 115) [(.tmp 37), (.tmp 38), (.tmp 39)])⟩, ⟨(.some 36), .none, .false, (.mv (.tmp 40))⟩, ⟨(.some 41), .none, .false, (.ext (.tmp 36) 0)⟩, ⟨(.some 42), .none, .false, (.ext (.tmp 36) 1)⟩, ⟨(.some 8), .none, .false, (.al 86 [(Go.Value.slice none 0 0), (Go.Value.slice none 0 0), (Go.Value.slice none 0 0)])⟩, ⟨.none, .none, .false, (.sto 3 (.tmp 8) (.tmp 41))⟩, ⟨(.some 9), .none, .false, (.mv (.tmp 42))⟩]) (.seq (.seq (.reg [⟨(.some 43), .none, .false, (.mv (.tmp 9))⟩, ⟨(.some 44), .none, .false, (.not (.tmp 43))⟩]) (.cond (.tmp 44) (.seq (.reg [⟨(.some 45), .none, .false, (.bld [(Go.Value.slice none 0 0), (Go.Value.slice none 0 0), (Go.Value.slice none 0 0)] [(0, 1), (1, 1), (2, 1)] [])⟩, ⟨.none, .none, .false, (.sto 3 (.tmp 6) (.tmp 45))⟩, ⟨(.some 7), .none, .false, (.mv (.const (Go.Value.int Go.IntKind.i64 7)))⟩]) .ret) .skip)) (.seq (.reg [⟨(.some 46), .none, .false, (.ld .true 3 (.tmp 8))⟩, ⟨.none, .none, .false, (.sto 3 (.tmp 6) (.tmp 46))⟩, ⟨(.some 7), .none, .false, (.mv (.const (Go.Value.int Go.IntKind.i64 0)))⟩]) .ret)))))
set_option maxRecDepth 100000 in
theorem S.ok47 : stripF Try.prog Try.f47 = some S.s47 := by kernel_rfl
def S.t115_0 : OT SR := .take ⟨.none, .none, .false, (.sto 5 (.tmp 10) (.tmp 23))⟩ .done
def S.t115_1 : OT SR := .take ⟨.none, .none, .false, (.sto 5 (.tmp 9) (.tmp 18))⟩ S.t115_0
def S.t115_2 : OT SR := .take ⟨(.some 10), .none, .false, (.al 258 [(Go.Value.int Go.IntKind.i64 0), (Go.Value.int Go.IntKind.i64 0), (Go.Value.int Go.IntKind.i64 0), (Go.Value.int Go.IntKind.i64 0), (Go.Value.int Go.IntKind.i64 0)])⟩ S.t115_1
def S.t115_3 : OT SR := .take ⟨(.some 9), .none, .false, (.al 258 [(Go.Value.int Go.IntKind.i64 0), (Go.Value.int Go.IntKind.i64 0), (Go.Value.int Go.IntKind.i64 0), (Go.Value.int Go.IntKind.i64 0), (Go.Value.int Go.IntKind.i64 0)])⟩ S.t115_2
def S.t115_4 : OT SR := .take ⟨(.some 9), .none, .false, (.al 258 [(Go.Value.int Go.IntKind.i64 0), (Go.Value.int Go.IntKind.i64 0), (Go.Value.int Go.IntKind.i64 0), (Go.Value.int Go.IntKind.i64 0), (Go.Value.int Go.IntKind.i64 0)])⟩ S.t115_1
def S.t115_5 : OT SR := .take ⟨(.some 10), .none, .false, (.al 258 [(Go.Value.int Go.IntKind.i64 0), (Go.Value.int Go.IntKind.i64 0), (Go.Value.int Go.IntKind.i64 0), (Go.Value.int Go.IntKind.i64 0), (Go.Value.int Go.IntKind.i64 0)])⟩ S.t115_4
def S.t115_6 : OT SR := .both S.t115_3 S.t115_5
def S.t115_7 : OT SR := .take ⟨(.some 23), .none, .false, (.ld .true 5 (.tmp 22))⟩ S.t115_6
def S.t115_8 : OT SR := .take ⟨(.some 23), .none, .false, (.ld .true 5 (.tmp 22))⟩ S.t115_2
def S.t115_9 : OT SR := .take ⟨(.some 23), .none, .false, (.ld .true 5 (.tmp 22))⟩ S.t115_1
def S.t115_10 : OT SR := .take ⟨(.some 23), .none, .false, (.ld .true 5 (.tmp 22))⟩ S.t115_0
def S.t115_11 : OT SR := .both S.t115_10 .vac
def S.t115_12 : OT SR := .take ⟨.none, .none, .false, (.sto 5 (.tmp 9) (.tmp 18))⟩ S.t115_11
def S.t115_13 : OT SR := .both S.t115_9 S.t115_12
def S.t115_14 : OT SR := .take ⟨(.some 10), .none, .false, (.al 258 [(Go.Value.int Go.IntKind.i64 0), (Go.Value.int Go.IntKind.i64 0), (Go.Value.int Go.IntKind.i64 0), (Go.Value.int Go.IntKind.i64 0), (Go.Value.int Go.IntKind.i64 0)])⟩ S.t115_13
def S.t115_15 : OT SR := .both S.t115_8 S.t115_14
def S.t115_16 : OT SR := .take ⟨(.some 9), .none, .false, (.al 258 [(Go.Value.int Go.IntKind.i64 0), (Go.Value.int Go.IntKind.i64 0), (Go.Value.int Go.IntKind.i64 0), (Go.Value.int Go.IntKind.i64 0), (Go.Value.int Go.IntKind.i64 0)])⟩ S.t115_15
def S.t115_17 : OT SR := .take ⟨(.some 23), .none, .false, (.ld .true 5 (.tmp 22))⟩ S.t115_4
def S.t115_18 : OT SR := .take ⟨(.some 9), .none, .false, (.al 258 [(Go.Value.int Go.IntKind.i64 0), (Go.Value.int Go.IntKind.i64 0), (Go.Value.int Go.IntKind.i64 0), (Go.Value.int Go.IntKind.i64 0), (Go.Value.int Go.IntKind.i64 0)])⟩ S.t115_13
def S.t115_19 : OT SR := .both S.t115_17 S.t115_18
def S.t115_20 : OT SR := .take ⟨(.some 10), .none, .false, (.al 258 [(Go.Value.int Go.IntKind.i64 0), (Go.Value.int Go.IntKind.i64 0), (Go.Value.int Go.IntKind.i64 0), (Go.Value.int Go.IntKind.i64 0), (Go.Value.int Go.IntKind.i64 0)])⟩ S.t115_19
def S.t115_21 : OT SR := .both S.t115_16 S.t115_20
def S.t115_22 : OT SR := .both S.t115_7 S.t115_21
def S.t115_23 : OT SR := .take ⟨(.some 22), .none, .false, (.ix (.mk 258 5) (.tmp 20) (.tmp 21))⟩ S.t115_22
def S.t115_24 : OT SR := .take ⟨(.some 22), .none, .false, (.ix (.mk 258 5) (.tmp 20) (.tmp 21))⟩ S.t115_15
def S.t115_25 : OT SR := .take ⟨(.some 22), .none, .false, (.ix (.mk 258 5) (.tmp 20) (.tmp 21))⟩ S.t115_13
def S.t115_26 : OT SR := .take ⟨(.some 22), .none, .false, (.ix (.mk 258 5) (.tmp 20) (.tmp 21))⟩ S.t115_11
def S.t115_27 : OT SR := .both S.t115_26 .vac
def S.t115_28 : OT SR := .take ⟨.none, .none, .false, (.sto 5 (.tmp 9) (.tmp 18))⟩ S.t115_27
def S.t115_29 : OT SR := .both S.t115_25 S.t115_28
def S.t115_30 : OT SR := .take ⟨(.some 10), .none, .false, (.al 258 [(Go.Value.int Go.IntKind.i64 0), (Go.Value.int Go.IntKind.i64 0), (Go.Value.int Go.IntKind.i64 0), (Go.Value.int Go.IntKind.i64 0), (Go.Value.int Go.IntKind.i64 0)])⟩ S.t115_29
def S.t115_31 : OT SR := .both S.t115_24 S.t115_30
def S.t115_32 : OT SR := .take ⟨(.some 9), .none, .false, (.al 258 [(Go.Value.int Go.IntKind.i64 0), (Go.Value.int Go.IntKind.i64 0), (Go.Value.int Go.IntKind.i64 0), (Go.Value.int Go.IntKind.i64 0), (Go.Value.int Go.IntKind.i64 0)])⟩ S.t115_31
def S.t115_33 : OT SR := .take ⟨(.some 22), .none, .false, (.ix (.mk 258 5) (.tmp 20) (.tmp 21))⟩ S.t115_19
def S.t115_34 : OT SR := .take ⟨(.some 9), .none, .false, (.al 258 [(Go.Value.int Go.IntKind.i64 0), (Go.Value.int Go.IntKind.i64 0), (Go.Value.int Go.IntKind.i64 0), (Go.Value.int Go.IntKind.i64 0), (Go.Value.int Go.IntKind.i64 0)])⟩ S.t115_29
def S.t115_35 : OT SR := .both S.t115_33 S.t115_34
def S.t115_36 : OT SR := .take ⟨(.some 10), .none, .false, (.al 258 [(Go.Value.int Go.IntKind.i64 0), (Go.Value.int Go.IntKind.i64 0), (Go.Value.int Go.IntKind.i64 0), (Go.Value.int Go.IntKind.i64 0), (Go.Value.int Go.IntKind.i64 0)])⟩ S.t115_35
def S.t115_37 : OT SR := .both S.t115_32 S.t115_36
def S.t115_38 : OT SR := .both S.t115_23 S.t115_37
def S.t115_39 : OT SR := .take ⟨(.some 20), .none, .false, (.ld .false 1 (.tmp 19))⟩ S.t115_38
def S.t115_40 : OT SR := .take ⟨(.some 20), .none, .false, (.ld .false 1 (.tmp 19))⟩ S.t115_31
def S.t115_41 : OT SR := .take ⟨(.some 20), .none, .false, (.ld .false 1 (.tmp 19))⟩ S.t115_29
def S.t115_42 : OT SR := .take ⟨(.some 20), .none, .false, (.ld .false 1 (.tmp 19))⟩ S.t115_27
def S.t115_43 : OT SR := .both S.t115_42 .vac
def S.t115_44 : OT SR := .take ⟨.none, .none, .false, (.sto 5 (.tmp 9) (.tmp 18))⟩ S.t115_43
def S.t115_45 : OT SR := .both S.t115_41 S.t115_44
def S.t115_46 : OT SR := .take ⟨(.some 10), .none, .false, (.al 258 [(Go.Value.int Go.IntKind.i64 0), (Go.Value.int Go.IntKind.i64 0), (Go.Value.int Go.IntKind.i64 0), (Go.Value.int Go.IntKind.i64 0), (Go.Value.int Go.IntKind.i64 0)])⟩ S.t115_45
def S.t115_47 : OT SR := .both S.t115_40 S.t115_46
def S.t115_48 : OT SR := .take ⟨(.some 9), .none, .false, (.al 258 [(Go.Value.int Go.IntKind.i64 0), (Go.Value.int Go.IntKind.i64 0), (Go.Value.int Go.IntKind.i64 0), (Go.Value.int Go.IntKind.i64 0), (Go.Value.int Go.IntKind.i64 0)])⟩ S.t115_47
def S.t115_49 : OT SR := .take ⟨(.some 20), .none, .false, (.ld .false 1 (.tmp 19))⟩ S.t115_35
def S.t115_50 : OT SR := .take ⟨(.some 9), .none, .false, (.al 258 [(Go.Value.int Go.IntKind.i64 0), (Go.Value.int Go.IntKind.i64 0), (Go.Value.int Go.IntKind.i64 0), (Go.Value.int Go.IntKind.i64 0), (Go.Value.int Go.IntKind.i64 0)])⟩ S.t115_45
def S.t115_51 : OT SR := .both S.t115_49 S.t115_50
def S.t115_52 : OT SR := .take ⟨(.some 10), .none, .false, (.al 258 [(Go.Value.int Go.IntKind.i64 0), (Go.Value.int Go.IntKind.i64 0), (Go.Value.int Go.IntKind.i64 0), (Go.Value.int Go.IntKind.i64 0), (Go.Value.int Go.IntKind.i64 0)])⟩ S.t115_51
def S.t115_53 : OT SR := .both S.t115_48 S.t115_52
def S.t115_54 : OT SR := .both S.t115_39 S.t115_53
def S.t115_55 : OT SR := .take ⟨(.some 18), .none, .false, (.ld .true 5 (.tmp 17))⟩ S.t115_54
def S.t115_56 : OT SR := .take ⟨(.some 18), .none, .false, (.ld .true 5 (.tmp 17))⟩ S.t115_2
def S.t115_57 : OT SR := .take ⟨(.some 18), .none, .false, (.ld .true 5 (.tmp 17))⟩ S.t115_1
def S.t115_58 : OT SR := .both S.t115_57 .vac
def S.t115_59 : OT SR := .take ⟨(.some 10), .none, .false, (.al 258 [(Go.Value.int Go.IntKind.i64 0), (Go.Value.int Go.IntKind.i64 0), (Go.Value.int Go.IntKind.i64 0), (Go.Value.int Go.IntKind.i64 0), (Go.Value.int Go.IntKind.i64 0)])⟩ S.t115_58
def S.t115_60 : OT SR := .both S.t115_56 S.t115_59
def S.t115_61 : OT SR := .take ⟨(.some 9), .none, .false, (.al 258 [(Go.Value.int Go.IntKind.i64 0), (Go.Value.int Go.IntKind.i64 0), (Go.Value.int Go.IntKind.i64 0), (Go.Value.int Go.IntKind.i64 0), (Go.Value.int Go.IntKind.i64 0)])⟩ S.t115_60
def S.t115_62 : OT SR := .take ⟨(.some 18), .none, .false, (.ld .true 5 (.tmp 17))⟩ S.t115_4
def S.t115_63 : OT SR := .take ⟨(.some 9), .none, .false, (.al 258 [(Go.Value.int Go.IntKind.i64 0), (Go.Value.int Go.IntKind.i64 0), (Go.Value.int Go.IntKind.i64 0), (Go.Value.int Go.IntKind.i64 0), (Go.Value.int Go.IntKind.i64 0)])⟩ S.t115_58
def S.t115_64 : OT SR := .both S.t115_62 S.t115_63
def S.t115_65 : OT SR := .take ⟨(.some 10), .none, .false, (.al 258 [(Go.Value.int Go.IntKind.i64 0), (Go.Value.int Go.IntKind.i64 0), (Go.Value.int Go.IntKind.i64 0), (Go.Value.int Go.IntKind.i64 0), (Go.Value.int Go.IntKind.i64 0)])⟩ S.t115_64
def S.t115_66 : OT SR := .both S.t115_61 S.t115_65
def S.t115_67 : OT SR := .take ⟨(.some 23), .none, .false, (.ld .true 5 (.tmp 22))⟩ S.t115_66
def S.t115_68 : OT SR := .take ⟨(.some 18), .none, .false, (.ld .true 5 (.tmp 17))⟩ S.t115_15
def S.t115_69 : OT SR := .take ⟨(.some 23), .none, .false, (.ld .true 5 (.tmp 22))⟩ S.t115_59
def S.t115_70 : OT SR := .take ⟨(.some 18), .none, .false, (.ld .true 5 (.tmp 17))⟩ S.t115_13
def S.t115_71 : OT SR := .take ⟨(.some 23), .none, .false, (.ld .true 5 (.tmp 22))⟩ .vac
def S.t115_72 : OT SR := .both S.t115_71 .vac
def S.t115_73 : OT SR := .both S.t115_70 S.t115_72
def S.t115_74 : OT SR := .take ⟨(.some 10), .none, .false, (.al 258 [(Go.Value.int Go.IntKind.i64 0), (Go.Value.int Go.IntKind.i64 0), (Go.Value.int Go.IntKind.i64 0), (Go.Value.int Go.IntKind.i64 0), (Go.Value.int Go.IntKind.i64 0)])⟩ S.t115_73
def S.t115_75 : OT SR := .both S.t115_69 S.t115_74
def S.t115_76 : OT SR := .both S.t115_68 S.t115_75
def S.t115_77 : OT SR := .take ⟨(.some 9), .none, .false, (.al 258 [(Go.Value.int Go.IntKind.i64 0), (Go.Value.int Go.IntKind.i64 0), (Go.Value.int Go.IntKind.i64 0), (Go.Value.int Go.IntKind.i64 0), (Go.Value.int Go.IntKind.i64 0)])⟩ S.t115_76
def S.t115_78 : OT SR := .take ⟨(.some 18), .none, .false, (.ld .true 5 (.tmp 17))⟩ S.t115_19
def S.t115_79 : OT SR := .take ⟨(.some 23), .none, .false, (.ld .true 5 (.tmp 22))⟩ S.t115_63
def S.t115_80 : OT SR := .take ⟨(.some 9), .none, .false, (.al 258 [(Go.Value.int Go.IntKind.i64 0), (Go.Value.int Go.IntKind.i64 0), (Go.Value.int Go.IntKind.i64 0), (Go.Value.int Go.IntKind.i64 0), (Go.Value.int Go.IntKind.i64 0)])⟩ S.t115_73
def S.t115_81 : OT SR := .both S.t115_79 S.t115_80
def S.t115_82 : OT SR := .both S.t115_78 S.t115_81
def S.t115_83 : OT SR := .take ⟨(.some 10), .none, .false, (.al 258 [(Go.Value.int Go.IntKind.i64 0), (Go.Value.int Go.IntKind.i64 0), (Go.Value.int Go.IntKind.i64 0), (Go.Value.int Go.IntKind.i64 0), (Go.Value.int Go.IntKind.i64 0)])⟩ S.t115_82
def S.t115_84 : OT SR := .both S.t115_77 S.t115_83
def S.t115_85 : OT SR := .both S.t115_67 S.t115_84
def S.t115_86 : OT SR := .take ⟨(.some 22), .none, .false, (.ix (.mk 258 5) (.tmp 20) (.tmp 21))⟩ S.t115_85
def S.t115_87 : OT SR := .take ⟨(.some 18), .none, .false, (.ld .true 5 (.tmp 17))⟩ S.t115_31
def S.t115_88 : OT SR := .take ⟨(.some 22), .none, .false, (.ix (.mk 258 5) (.tmp 20) (.tmp 21))⟩ S.t115_75
def S.t115_89 : OT SR := .take ⟨(.some 18), .none, .false, (.ld .true 5 (.tmp 17))⟩ S.t115_29
def S.t115_90 : OT SR := .take ⟨(.some 22), .none, .false, (.ix (.mk 258 5) (.tmp 20) (.tmp 21))⟩ S.t115_72
def S.t115_91 : OT SR := .both S.t115_90 .vac
def S.t115_92 : OT SR := .both S.t115_89 S.t115_91
def S.t115_93 : OT SR := .take ⟨(.some 10), .none, .false, (.al 258 [(Go.Value.int Go.IntKind.i64 0), (Go.Value.int Go.IntKind.i64 0), (Go.Value.int Go.IntKind.i64 0), (Go.Value.int Go.IntKind.i64 0), (Go.Value.int Go.IntKind.i64 0)])⟩ S.t115_92
def S.t115_94 : OT SR := .both S.t115_88 S.t115_93
def S.t115_95 : OT SR := .both S.t115_87 S.t115_94
def S.t115_96 : OT SR := .take ⟨(.some 9), .none, .false, (.al 258 [(Go.Value.int Go.IntKind.i64 0), (Go.Value.int Go.IntKind.i64 0), (Go.Value.int Go.IntKind.i64 0), (Go.Value.int Go.IntKind.i64 0), (Go.Value.int Go.IntKind.i64 0)])⟩ S.t115_95
def S.t115_97 : OT SR := .take ⟨(.some 18), .none, .false, (.ld .true 5 (.tmp 17))⟩ S.t115_35
def S.t115_98 : OT SR := .take ⟨(.some 22), .none, .false, (.ix (.mk 258 5) (.tmp 20) (.tmp 21))⟩ S.t115_81
def S.t115_99 : OT SR := .take ⟨(.some 9), .none, .false, (.al 258 [(Go.Value.int Go.IntKind.i64 0), (Go.Value.int Go.IntKind.i64 0), (Go.Value.int Go.IntKind.i64 0), (Go.Value.int Go.IntKind.i64 0), (Go.Value.int Go.IntKind.i64 0)])⟩ S.t115_92
def S.t115_100 : OT SR := .both S.t115_98 S.t115_99
def S.t115_101 : OT SR := .both S.t115_97 S.t115_100
def S.t115_102 : OT SR := .take ⟨(.some 10), .none, .false, (.al 258 [(Go.Value.int Go.IntKind.i64 0), (Go.Value.int Go.IntKind.i64 0), (Go.Value.int Go.IntKind.i64 0), (Go.Value.int Go.IntKind.i64 0), (Go.Value.int Go.IntKind.i64 0)])⟩ S.t115_101
def S.t115_103 : OT SR := .both S.t115_96 S.t115_102
def S.t115_104 : OT SR := .both S.t115_86 S.t115_103
def S.t115_105 : OT SR := .take ⟨(.some 20), .none, .false, (.ld .false 1 (.tmp 19))⟩ S.t115_104
def S.t115_106 : OT SR := .take ⟨(.some 18), .none, .false, (.ld .true 5 (.tmp 17))⟩ S.t115_47
def S.t115_107 : OT SR := .take ⟨(.some 20), .none, .false, (.ld .false 1 (.tmp 19))⟩ S.t115_94
def S.t115_108 : OT SR := .take ⟨(.some 18), .none, .false, (.ld .true 5 (.tmp 17))⟩ S.t115_45
def S.t115_109 : OT SR := .take ⟨(.some 20), .none, .false, (.ld .false 1 (.tmp 19))⟩ S.t115_91
def S.t115_110 : OT SR := .both S.t115_109 .vac
def S.t115_111 : OT SR := .both S.t115_108 S.t115_110
def S.t115_112 : OT SR := .take ⟨(.some 10), .none, .false, (.al 258 [(Go.Value.int Go.IntKind.i64 0), (Go.Value.int Go.IntKind.i64 0), (Go.Value.int Go.IntKind.i64 0), (Go.Value.int Go.IntKind.i64 0), (Go.Value.int Go.IntKind.i64 0)])⟩ S.t115_111
def S.t115_113 : OT SR := .both S.t115_107 S.t115_112
def S.t115_114 : OT SR := .both S.t115_106 S.t115_113
def S.t115_115 : OT SR := .take ⟨(.some 9), .none, .false, (.al 258 [(Go.Value.int Go.IntKind.i64 0), (Go.Value.int Go.IntKind.i64 0), (Go.Value.int Go.IntKind.i64 0), (Go.Value.int Go.IntKind.i64 0), (Go.Value.int Go.IntKind.i64 0)])⟩ S.t115_114
def S.t115_116 : OT SR := .take ⟨(.some 18), .none, .false, (.ld .true 5 (.tmp 17))⟩ S.t115_51
def S.t115_117 : OT SR := .take ⟨(.some 20), .none, .false, (.ld .false 1 (.tmp 19))⟩ S.t115_100
def S.t115_118 : OT SR := .take ⟨(.some 9), .none, .false, (.al 258 [(Go.Value.int Go.IntKind.i64 0), (Go.Value.int Go.IntKind.i64 0), (Go.Value.int Go.IntKind.i64 0), (Go.Value.int Go.IntKind.i64 0), (Go.Value.int Go.IntKind.i64 0)])⟩ S.t115_111
def S.t115_119 : OT SR := .both S.t115_117 S.t115_118
def S.t115_120 : OT SR := .both S.t115_116 S.t115_119
def S.t115_121 : OT SR := .take ⟨(.some 10), .none, .false, (.al 258 [(Go.Value.int Go.IntKind.i64 0), (Go.Value.int Go.IntKind.i64 0), (Go.Value.int Go.IntKind.i64 0), (Go.Value.int Go.IntKind.i64 0), (Go.Value.int Go.IntKind.i64 0)])⟩ S.t115_120
def S.t115_122 : OT SR := .both S.t115_115 S.t115_121
def S.t115_123 : OT SR := .both S.t115_105 S.t115_122
def S.t115_124 : OT SR := .both S.t115_55 S.t115_123
def S.t115_125 : OT SR := .take ⟨(.some 17), .none, .false, (.ix (.mk 258 5) (.tmp 15) (.tmp 16))⟩ S.t115_124
def S.t115_126 : OT SR := .take ⟨(.some 17), .none, .false, (.ix (.mk 258 5) (.tmp 15) (.tmp 16))⟩ S.t115_60
def S.t115_127 : OT SR := .take ⟨(.some 17), .none, .false, (.ix (.mk 258 5) (.tmp 15) (.tmp 16))⟩ S.t115_58
def S.t115_128 : OT SR := .both S.t115_127 .vac
def S.t115_129 : OT SR := .take ⟨(.some 10), .none, .false, (.al 258 [(Go.Value.int Go.IntKind.i64 0), (Go.Value.int Go.IntKind.i64 0), (Go.Value.int Go.IntKind.i64 0), (Go.Value.int Go.IntKind.i64 0), (Go.Value.int Go.IntKind.i64 0)])⟩ S.t115_128
def S.t115_130 : OT SR := .both S.t115_126 S.t115_129
def S.t115_131 : OT SR := .take ⟨(.some 9), .none, .false, (.al 258 [(Go.Value.int Go.IntKind.i64 0), (Go.Value.int Go.IntKind.i64 0), (Go.Value.int Go.IntKind.i64 0), (Go.Value.int Go.IntKind.i64 0), (Go.Value.int Go.IntKind.i64 0)])⟩ S.t115_130
def S.t115_132 : OT SR := .take ⟨(.some 17), .none, .false, (.ix (.mk 258 5) (.tmp 15) (.tmp 16))⟩ S.t115_64
def S.t115_133 : OT SR := .take ⟨(.some 9), .none, .false, (.al 258 [(Go.Value.int Go.IntKind.i64 0), (Go.Value.int Go.IntKind.i64 0), (Go.Value.int Go.IntKind.i64 0), (Go.Value.int Go.IntKind.i64 0), (Go.Value.int Go.IntKind.i64 0)])⟩ S.t115_128
def S.t115_134 : OT SR := .both S.t115_132 S.t115_133
def S.t115_135 : OT SR := .take ⟨(.some 10), .none, .false, (.al 258 [(Go.Value.int Go.IntKind.i64 0), (Go.Value.int Go.IntKind.i64 0), (Go.Value.int Go.IntKind.i64 0), (Go.Value.int Go.IntKind.i64 0), (Go.Value.int Go.IntKind.i64 0)])⟩ S.t115_134
def S.t115_136 : OT SR := .both S.t115_131 S.t115_135
def S.t115_137 : OT SR := .take ⟨(.some 23), .none, .false, (.ld .true 5 (.tmp 22))⟩ S.t115_136
def S.t115_138 : OT SR := .take ⟨(.some 17), .none, .false, (.ix (.mk 258 5) (.tmp 15) (.tmp 16))⟩ S.t115_76
def S.t115_139 : OT SR := .take ⟨(.some 23), .none, .false, (.ld .true 5 (.tmp 22))⟩ S.t115_129
def S.t115_140 : OT SR := .take ⟨(.some 17), .none, .false, (.ix (.mk 258 5) (.tmp 15) (.tmp 16))⟩ S.t115_73
def S.t115_141 : OT SR := .both S.t115_140 S.t115_72
def S.t115_142 : OT SR := .take ⟨(.some 10), .none, .false, (.al 258 [(Go.Value.int Go.IntKind.i64 0), (Go.Value.int Go.IntKind.i64 0), (Go.Value.int Go.IntKind.i64 0), (Go.Value.int Go.IntKind.i64 0), (Go.Value.int Go.IntKind.i64 0)])⟩ S.t115_141
def S.t115_143 : OT SR := .both S.t115_139 S.t115_142
def S.t115_144 : OT SR := .both S.t115_138 S.t115_143
def S.t115_145 : OT SR := .take ⟨(.some 9), .none, .false, (.al 258 [(Go.Value.int Go.IntKind.i64 0), (Go.Value.int Go.IntKind.i64 0), (Go.Value.int Go.IntKind.i64 0), (Go.Value.int Go.IntKind.i64 0), (Go.Value.int Go.IntKind.i64 0)])⟩ S.t115_144
def S.t115_146 : OT SR := .take ⟨(.some 17), .none, .false, (.ix (.mk 258 5) (.tmp 15) (.tmp 16))⟩ S.t115_82
def S.t115_147 : OT SR := .take ⟨(.some 23), .none, .false, (.ld .true 5 (.tmp 22))⟩ S.t115_133
def S.t115_148 : OT SR := .take ⟨(.some 9), .none, .false, (.al 258 [(Go.Value.int Go.IntKind.i64 0), (Go.Value.int Go.IntKind.i64 0), (Go.Value.int Go.IntKind.i64 0), (Go.Value.int Go.IntKind.i64 0), (Go.Value.int Go.IntKind.i64 0)])⟩ S.t115_141
def S.t115_149 : OT SR := .both S.t115_147 S.t115_148
def S.t115_150 : OT SR := .both S.t115_146 S.t115_149
def S.t115_151 : OT SR := .take ⟨(.some 10), .none, .false, (.al 258 [(Go.Value.int Go.IntKind.i64 0), (Go.Value.int Go.IntKind.i64 0), (Go.Value.int Go.IntKind.i64 0), (Go.Value.int Go.IntKind.i64 0), (Go.Value.int Go.IntKind.i64 0)])⟩ S.t115_150
def S.t115_152 : OT SR := .both S.t115_145 S.t115_151
def S.t115_153 : OT SR := .both S.t115_137 S.t115_152
def S.t115_154 : OT SR := .take ⟨(.some 22), .none, .false, (.ix (.mk 258 5) (.tmp 20) (.tmp 21))⟩ S.t115_153
def S.t115_155 : OT SR := .take ⟨(.some 17), .none, .false, (.ix (.mk 258 5) (.tmp 15) (.tmp 16))⟩ S.t115_95
def S.t115_156 : OT SR := .take ⟨(.some 22), .none, .false, (.ix (.mk 258 5) (.tmp 20) (.tmp 21))⟩ S.t115_143
def S.t115_157 : OT SR := .take ⟨(.some 17), .none, .false, (.ix (.mk 258 5) (.tmp 15) (.tmp 16))⟩ S.t115_92
def S.t115_158 : OT SR := .both S.t115_157 S.t115_91
def S.t115_159 : OT SR := .take ⟨(.some 10), .none, .false, (.al 258 [(Go.Value.int Go.IntKind.i64 0), (Go.Value.int Go.IntKind.i64 0), (Go.Value.int Go.IntKind.i64 0), (Go.Value.int Go.IntKind.i64 0), (Go.Value.int Go.IntKind.i64 0)])⟩ S.t115_158
def S.t115_160 : OT SR := .both S.t115_156 S.t115_159
def S.t115_161 : OT SR := .both S.t115_155 S.t115_160
def S.t115_162 : OT SR := .take ⟨(.some 9), .none, .false, (.al 258 [(Go.Value.int Go.IntKind.i64 0), (Go.Value.int Go.IntKind.i64 0), (Go.Value.int Go.IntKind.i64 0), (Go.Value.int Go.IntKind.i64 0), (Go.Value.int Go.IntKind.i64 0)])⟩ S.t115_161
def S.t115_163 : OT SR := .take ⟨(.some 17), .none, .false, (.ix (.mk 258 5) (.tmp 15) (.tmp 16))⟩ S.t115_101
def S.t115_164 : OT SR := .take ⟨(.some 22), .none, .false, (.ix (.mk 258 5) (.tmp 20) (.tmp 21))⟩ S.t115_149
def S.t115_165 : OT SR := .take ⟨(.some 9), .none, .false, (.al 258 [(Go.Value.int Go.IntKind.i64 0), (Go.Value.int Go.IntKind.i64 0), (Go.Value.int Go.IntKind.i64 0), (Go.Value.int Go.IntKind.i64 0), (Go.Value.int Go.IntKind.i64 0)])⟩ S.t115_158
def S.t115_166 : OT SR := .both S.t115_164 S.t115_165
def S.t115_167 : OT SR := .both S.t115_163 S.t115_166
def S.t115_168 : OT SR := .take ⟨(.some 10), .none, .false, (.al 258 [(Go.Value.int Go.IntKind.i64 0), (Go.Value.int Go.IntKind.i64 0), (Go.Value.int Go.IntKind.i64 0), (Go.Value.int Go.IntKind.i64 0), (Go.Value.int Go.IntKind.i64 0)])⟩ S.t115_167
def S.t115_169 : OT SR := .both S.t115_162 S.t115_168
def S.t115_170 : OT SR := .both S.t115_154 S.t115_169
def S.t115_171 : OT SR := .take ⟨(.some 20), .none, .false, (.ld .false 1 (.tmp 19))⟩ S.t115_170
def S.t115_172 : OT SR := .take ⟨(.some 17), .none, .false, (.ix (.mk 258 5) (.tmp 15) (.tmp 16))⟩ S.t115_114
def S.t115_173 : OT SR := .take ⟨(.some 20), .none, .false, (.ld .false 1 (.tmp 19))⟩ S.t115_160
def S.t115_174 : OT SR := .take ⟨(.some 17), .none, .false, (.ix (.mk 258 5) (.tmp 15) (.tmp 16))⟩ S.t115_111
def S.t115_175 : OT SR := .both S.t115_174 S.t115_110
def S.t115_176 : OT SR := .take ⟨(.some 10), .none, .false, (.al 258 [(Go.Value.int Go.IntKind.i64 0), (Go.Value.int Go.IntKind.i64 0), (Go.Value.int Go.IntKind.i64 0), (Go.Value.int Go.IntKind.i64 0), (Go.Value.int Go.IntKind.i64 0)])⟩ S.t115_175
def S.t115_177 : OT SR := .both S.t115_173 S.t115_176
def S.t115_178 : OT SR := .both S.t115_172 S.t115_177
def S.t115_179 : OT SR := .take ⟨(.some 9), .none, .false, (.al 258 [(Go.Value.int Go.IntKind.i64 0), (Go.Value.int Go.IntKind.i64 0), (Go.Value.int Go.IntKind.i64 0), (Go.Value.int Go.IntKind.i64 0), (Go.Value.int Go.IntKind.i64 0)])⟩ S.t115_178
def S.t115_180 : OT SR := .take ⟨(.some 17), .none, .false, (.ix (.mk 258 5) (.tmp 15) (.tmp 16))⟩ S.t115_120
def S.t115_181 : OT SR := .take ⟨(.some 20), .none, .false, (.ld .false 1 (.tmp 19))⟩ S.t115_166
def S.t115_182 : OT SR := .take ⟨(.some 9), .none, .false, (.al 258 [(Go.Value.int Go.IntKind.i64 0), (Go.Value.int Go.IntKind.i64 0), (Go.Value.int Go.IntKind.i64 0), (Go.Value.int Go.IntKind.i64 0), (Go.Value.int Go.IntKind.i64 0)])⟩ S.t115_175
def S.t115_183 : OT SR := .both S.t115_181 S.t115_182
def S.t115_184 : OT SR := .both S.t115_180 S.t115_183
def S.t115_185 : OT SR := .take ⟨(.some 10), .none, .false, (.al 258 [(Go.Value.int Go.IntKind.i64 0), (Go.Value.int Go.IntKind.i64 0), (Go.Value.int Go.IntKind.i64 0), (Go.Value.int Go.IntKind.i64 0), (Go.Value.int Go.IntKind.i64 0)])⟩ S.t115_184
def S.t115_186 : OT SR := .both S.t115_179 S.t115_185
def S.t115_187 : OT SR := .both S.t115_171 S.t115_186
def S.t115_188 : OT SR := .both S.t115_125 S.t115_187
def S.t115_189 : OT SR := .take ⟨(.some 15), .none, .false, (.ld .false 1 (.tmp 14))⟩ S.t115_188
def S.t115_190 : OT SR := .take ⟨(.some 15), .none, .false, (.ld .false 1 (.tmp 14))⟩ S.t115_130
def S.t115_191 : OT SR := .take ⟨(.some 15), .none, .false, (.ld .false 1 (.tmp 14))⟩ S.t115_128
def S.t115_192 : OT SR := .both S.t115_191 .vac
def S.t115_193 : OT SR := .take ⟨(.some 10), .none, .false, (.al 258 [(Go.Value.int Go.IntKind.i64 0), (Go.Value.int Go.IntKind.i64 0), (Go.Value.int Go.IntKind.i64 0), (Go.Value.int Go.IntKind.i64 0), (Go.Value.int Go.IntKind.i64 0)])⟩ S.t115_192
def S.t115_194 : OT SR := .both S.t115_190 S.t115_193
def S.t115_195 : OT SR := .take ⟨(.some 9), .none, .false, (.al 258 [(Go.Value.int Go.IntKind.i64 0), (Go.Value.int Go.IntKind.i64 0), (Go.Value.int Go.IntKind.i64 0), (Go.Value.int Go.IntKind.i64 0), (Go.Value.int Go.IntKind.i64 0)])⟩ S.t115_194
def S.t115_196 : OT SR := .take ⟨(.some 15), .none, .false, (.ld .false 1 (.tmp 14))⟩ S.t115_134
def S.t115_197 : OT SR := .take ⟨(.some 9), .none, .false, (.al 258 [(Go.Value.int Go.IntKind.i64 0), (Go.Value.int Go.IntKind.i64 0), (Go.Value.int Go.IntKind.i64 0), (Go.Value.int Go.IntKind.i64 0), (Go.Value.int Go.IntKind.i64 0)])⟩ S.t115_192
def S.t115_198 : OT SR := .both S.t115_196 S.t115_197
def S.t115_199 : OT SR := .take ⟨(.some 10), .none, .false, (.al 258 [(Go.Value.int Go.IntKind.i64 0), (Go.Value.int Go.IntKind.i64 0), (Go.Value.int Go.IntKind.i64 0), (Go.Value.int Go.IntKind.i64 0), (Go.Value.int Go.IntKind.i64 0)])⟩ S.t115_198
def S.t115_200 : OT SR := .both S.t115_195 S.t115_199
def S.t115_201 : OT SR := .take ⟨(.some 23), .none, .false, (.ld .true 5 (.tmp 22))⟩ S.t115_200
def S.t115_202 : OT SR := .take ⟨(.some 15), .none, .false, (.ld .false 1 (.tmp 14))⟩ S.t115_144
def S.t115_203 : OT SR := .take ⟨(.some 23), .none, .false, (.ld .true 5 (.tmp 22))⟩ S.t115_193
def S.t115_204 : OT SR := .take ⟨(.some 15), .none, .false, (.ld .false 1 (.tmp 14))⟩ S.t115_141
def S.t115_205 : OT SR := .both S.t115_204 S.t115_72
def S.t115_206 : OT SR := .take ⟨(.some 10), .none, .false, (.al 258 [(Go.Value.int Go.IntKind.i64 0), (Go.Value.int Go.IntKind.i64 0), (Go.Value.int Go.IntKind.i64 0), (Go.Value.int Go.IntKind.i64 0), (Go.Value.int Go.IntKind.i64 0)])⟩ S.t115_205
def S.t115_207 : OT SR := .both S.t115_203 S.t115_206
def S.t115_208 : OT SR := .both S.t115_202 S.t115_207
def S.t115_209 : OT SR := .take ⟨(.some 9), .none, .false, (.al 258 [(Go.Value.int Go.IntKind.i64 0), (Go.Value.int Go.IntKind.i64 0), (Go.Value.int Go.IntKind.i64 0), (Go.Value.int Go.IntKind.i64 0), (Go.Value.int Go.IntKind.i64 0)])⟩ S.t115_208
def S.t115_210 : OT SR := .take ⟨(.some 15), .none, .false, (.ld .false 1 (.tmp 14))⟩ S.t115_150
def S.t115_211 : OT SR := .take ⟨(.some 23), .none, .false, (.ld .true 5 (.tmp 22))⟩ S.t115_197
def S.t115_212 : OT SR := .take ⟨(.some 9), .none, .false, (.al 258 [(Go.Value.int Go.IntKind.i64 0), (Go.Value.int Go.IntKind.i64 0), (Go.Value.int Go.IntKind.i64 0), (Go.Value.int Go.IntKind.i64 0), (Go.Value.int Go.IntKind.i64 0)])⟩ S.t115_205
def S.t115_213 : OT SR := .both S.t115_211 S.t115_212
def S.t115_214 : OT SR := .both S.t115_210 S.t115_213
def S.t115_215 : OT SR := .take ⟨(.some 10), .none, .false, (.al 258 [(Go.Value.int Go.IntKind.i64 0), (Go.Value.int Go.IntKind.i64 0), (Go.Value.int Go.IntKind.i64 0), (Go.Value.int Go.IntKind.i64 0), (Go.Value.int Go.IntKind.i64 0)])⟩ S.t115_214
def S.t115_216 : OT SR := .both S.t115_209 S.t115_215
def S.t115_217 : OT SR := .both S.t115_201 S.t115_216
def S.t115_218 : OT SR := .take ⟨(.some 22), .none, .false, (.ix (.mk 258 5) (.tmp 20) (.tmp 21))⟩ S.t115_217
def S.t115_219 : OT SR := .take ⟨(.some 15), .none, .false, (.ld .false 1 (.tmp 14))⟩ S.t115_161
def S.t115_220 : OT SR := .take ⟨(.some 22), .none, .false, (.ix (.mk 258 5) (.tmp 20) (.tmp 21))⟩ S.t115_207
def S.t115_221 : OT SR := .take ⟨(.some 15), .none, .false, (.ld .false 1 (.tmp 14))⟩ S.t115_158
def S.t115_222 : OT SR := .both S.t115_221 S.t115_91
def S.t115_223 : OT SR := .take ⟨(.some 10), .none, .false, (.al 258 [(Go.Value.int Go.IntKind.i64 0), (Go.Value.int Go.IntKind.i64 0), (Go.Value.int Go.IntKind.i64 0), (Go.Value.int Go.IntKind.i64 0), (Go.Value.int Go.IntKind.i64 0)])⟩ S.t115_222
def S.t115_224 : OT SR := .both S.t115_220 S.t115_223
def S.t115_225 : OT SR := .both S.t115_219 S.t115_224
def S.t115_226 : OT SR := .take ⟨(.some 9), .none, .false, (.al 258 [(Go.Value.int Go.IntKind.i64 0), (Go.Value.int Go.IntKind.i64 0), (Go.Value.int Go.IntKind.i64 0), (Go.Value.int Go.IntKind.i64 0), (Go.Value.int Go.IntKind.i64 0)])⟩ S.t115_225
def S.t115_227 : OT SR := .take ⟨(.some 15), .none, .false, (.ld .false 1 (.tmp 14))⟩ S.t115_167
def S.t115_228 : OT SR := .take ⟨(.some 22), .none, .false, (.ix (.mk 258 5) (.tmp 20) (.tmp 21))⟩ S.t115_213
def S.t115_229 : OT SR := .take ⟨(.some 9), .none, .false, (.al 258 [(Go.Value.int Go.IntKind.i64 0), (Go.Value.int Go.IntKind.i64 0), (Go.Value.int Go.IntKind.i64 0), (Go.Value.int Go.IntKind.i64 0), (Go.Value.int Go.IntKind.i64 0)])⟩ S.t115_222
def S.t115_230 : OT SR := .both S.t115_228 S.t115_229
def S.t115_231 : OT SR := .both S.t115_227 S.t115_230
def S.t115_232 : OT SR := .take ⟨(.some 10), .none, .false, (.al 258 [(Go.Value.int Go.IntKind.i64 0), (Go.Value.int Go.IntKind.i64 0), (Go.Value.int Go.IntKind.i64 0), (Go.Value.int Go.IntKind.i64 0), (Go.Value.int Go.IntKind.i64 0)])⟩ S.t115_231
def S.t115_233 : OT SR := .both S.t115_226 S.t115_232
def S.t115_234 : OT SR := .both S.t115_218 S.t115_233
def S.t115_235 : OT SR := .take ⟨(.some 20), .none, .false, (.ld .false 1 (.tmp 19))⟩ S.t115_234
def S.t115_236 : OT SR := .take ⟨(.some 15), .none, .false, (.ld .false 1 (.tmp 14))⟩ S.t115_178
def S.t115_237 : OT SR := .take ⟨(.some 20), .none, .false, (.ld .false 1 (.tmp 19))⟩ S.t115_224
def S.t115_238 : OT SR := .take ⟨(.some 15), .none, .false, (.ld .false 1 (.tmp 14))⟩ S.t115_175
def S.t115_239 : OT SR := .both S.t115_238 S.t115_110
def S.t115_240 : OT SR := .take ⟨(.some 10), .none, .false, (.al 258 [(Go.Value.int Go.IntKind.i64 0), (Go.Value.int Go.IntKind.i64 0), (Go.Value.int Go.IntKind.i64 0), (Go.Value.int Go.IntKind.i64 0), (Go.Value.int Go.IntKind.i64 0)])⟩ S.t115_239
def S.t115_241 : OT SR := .both S.t115_237 S.t115_240
def S.t115_242 : OT SR := .both S.t115_236 S.t115_241
def S.t115_243 : OT SR := .take ⟨(.some 9), .none, .false, (.al 258 [(Go.Value.int Go.IntKind.i64 0), (Go.Value.int Go.IntKind.i64 0), (Go.Value.int Go.IntKind.i64 0), (Go.Value.int Go.IntKind.i64 0), (Go.Value.int Go.IntKind.i64 0)])⟩ S.t115_242
def S.t115_244 : OT SR := .take ⟨(.some 15), .none, .false, (.ld .false 1 (.tmp 14))⟩ S.t115_184
def S.t115_245 : OT SR := .take ⟨(.some 20), .none, .false, (.ld .false 1 (.tmp 19))⟩ S.t115_230
def S.t115_246 : OT SR := .take ⟨(.some 9), .none, .false, (.al 258 [(Go.Value.int Go.IntKind.i64 0), (Go.Value.int Go.IntKind.i64 0), (Go.Value.int Go.IntKind.i64 0), (Go.Value.int Go.IntKind.i64 0), (Go.Value.int Go.IntKind.i64 0)])⟩ S.t115_239
def S.t115_247 : OT SR := .both S.t115_245 S.t115_246
def S.t115_248 : OT SR := .both S.t115_244 S.t115_247
def S.t115_249 : OT SR := .take ⟨(.some 10), .none, .false, (.al 258 [(Go.Value.int Go.IntKind.i64 0), (Go.Value.int Go.IntKind.i64 0), (Go.Value.int Go.IntKind.i64 0), (Go.Value.int Go.IntKind.i64 0), (Go.Value.int Go.IntKind.i64 0)])⟩ S.t115_248
def S.t115_250 : OT SR := .both S.t115_243 S.t115_249
def S.t115_251 : OT SR := .both S.t115_235 S.t115_250
def S.t115_252 : OT SR := .both S.t115_189 S.t115_251
def S.t115_253 : OT SR := .take ⟨(.some 21), .none, .false, (.mv (.tmp 2))⟩ S.t115_252
def S.t115_254 : OT SR := .take ⟨(.some 19), .none, .false, (.fa 2 (.tmp 3))⟩ S.t115_253
def S.t115_255 : OT SR := .take ⟨(.some 16), .none, .false, (.mv (.tmp 1))⟩ S.t115_254
def S.t115_256 : OT SR := .take ⟨(.some 14), .none, .false, (.fa 2 (.tmp 3))⟩ S.t115_255
set_option maxRecDepth 100000 in
def S.s115 : SC := (.seq (.reg [⟨(.some 3), .none, .false, (.box 86 (.tmp 0))⟩, ⟨(.some 6), .none, .false, (.al 86 [(Go.Value.slice none 0 0), (Go.Value.slice none 0 0), (Go.Value.slice none 0 0)])⟩, ⟨(.some 7), .none, .false, (.mv (.const (Go.Value.bool false)))⟩]) (.seq (.reg [⟨(.some 11), .none, .false, (.call (.func 192) [])⟩, ⟨(.some 12), .none, .false, (.call (.func 192) [])⟩, ⟨(.some 13), .none, .false, (.bld [(Go.Value.pointer none), (Go.Value.pointer none)] [(0, 1), (1, 1)] [(0, (.tmp 11)), (1, (.tmp 12))])⟩, ⟨(.some 8), .none, .false, (.al 274 [(Go.Value.pointer none), (Go.Value.pointer none)])⟩, ⟨.none, .none, .false, (.sto 2 (.tmp 8) (.tmp 13))⟩]) (.seq (.regO S.t115_256) (.seq (.reg [⟨(.some 24), .none, .false, (.fa 0 (.tmp 8))⟩, ⟨(.some 25), .none, .false, (.ld .false 1 (.tmp 24))⟩, ⟨(.some 26), .none, .false, (.fa 3 (.tmp 9))⟩, ⟨(.some 27), .none, .false, (.ld .false 1 (.tmp 26))⟩, ⟨(.some 28), .none, .false, (.fa 3 (.tmp 10))⟩, ⟨(.some 29), .none, .false, (.ld .false 1 (.tmp 28))⟩, ⟨(.some 30), .none, .false, (.call (.func 193) [(.tmp 25), (.tmp 27), (.tmp 29)])⟩]) (.seq (.reg [⟨(.some 31), .none, .false, (.fa 1 (.tmp 8))⟩, ⟨(.some 32), .none, .false, (.ld .false 1 (.tmp 31))⟩, ⟨(.some 33), .none, .false, (.fa 4 (.tmp 9))⟩, ⟨(.some 34), .none, .false, (.ld .false 1 (.tmp 33))⟩, ⟨(.some 35), .none, .false, (.fa 4 (.tmp 10))⟩, ⟨(.some 36), .none, .false, (.ld .false 1 (.tmp 35))⟩, ⟨(.some 37), .none, .false, (.call (.func 193) [(.tmp 32), (.tmp 34), (.tmp 36)])⟩]) (.seq (.reg [⟨(.some 38), .none, .false, (.ld .true 2 (.tmp 8))⟩, ⟨(.some 39), .none, .false, (.ld .true 5 (.tmp 9))⟩, ⟨(.some 40), .none, .false, (.ld .true 5 (.tmp 10))⟩, ⟨(.some 41), .none, .false, (.call (.func 194) [(.tmp 38), (.tmp 39), (.tmp 40)])⟩]) (.seq (.reg [⟨(.some 42), .none, .false, (.ld .true 2 (.tmp 8))⟩, ⟨(.some 43), .none, .false, (.ld .true 3 (.tmp 3))⟩, ⟨(.some 44), .none, .false, (.call (.func 195) [(.tmp 42), (.tmp 43)])⟩, ⟨(.some 45), .none, .false, (.ext (.tmp 44) 0)⟩, ⟨(.some 46), .none, .false, (.ext (.tmp 44) 1)⟩, ⟨.none, .none, .false, (.sto 3 (.tmp 6) (.tmp 45))⟩, ⟨(.some 7), .none, .false, (.mv (.tmp 46))⟩]) .ret)))))))
set_option maxRecDepth 100000 in
theorem S.ok115 : stripF Try.prog Try.f115 = some S.s115 := by kernel_rfl
def S.t195_0 : OT SR := .take ⟨.none, .none, .false, (.sto 3 (.tmp 13) (.tmp 74))⟩ .done
def S.t195_1 : OT SR := .take ⟨(.some 13), .none, .false, (.al 86 [(Go.Value.slice none 0 0), (Go.Value.slice none 0 0), (Go.Value.slice none 0 0)])⟩ S.t195_0
def S.t195_2 : OT SR := .take ⟨(.some 74), .none, .false, (.bld [(Go.Value.slice none 0 0), (Go.Value.slice none 0 0), (Go.Value.slice none 0 0)] [(0, 1), (1, 1), (2, 1)] [(0, (.tmp 68)), (1, (.tmp 73))])⟩ S.t195_1
def S.t195_3 : OT SR := .take ⟨(.some 74), .none, .false, (.bld [(Go.Value.slice none 0 0), (Go.Value.slice none 0 0), (Go.Value.slice none 0 0)] [(0, 1), (1, 1), (2, 1)] [(0, (.tmp 68)), (1, (.tmp 73))])⟩ S.t195_0
def S.t195_4 : OT SR := .take ⟨(.some 13), .none, .false, (.al 86 [(Go.Value.slice none 0 0), (Go.Value.slice none 0 0), (Go.Value.slice none 0 0)])⟩ S.t195_3
def S.t195_5 : OT SR := .both S.t195_2 S.t195_4
def S.t195_6 : OT SR := .take ⟨(.some 73), .none, .false, (.call (.func 235) [(.tmp 70), (.tmp 72)])⟩ S.t195_5
def S.t195_7 : OT SR := .take ⟨(.some 73), .none, .false, (.call (.func 235) [(.tmp 70), (.tmp 72)])⟩ S.t195_3
def S.t195_8 : OT SR := .take ⟨(.some 13), .none, .false, (.al 86 [(Go.Value.slice none 0 0), (Go.Value.slice none 0 0), (Go.Value.slice none 0 0)])⟩ S.t195_7
def S.t195_9 : OT SR := .both S.t195_6 S.t195_8
def S.t195_10 : OT SR := .take ⟨(.some 68), .none, .false, (.call (.func 235) [(.tmp 65), (.tmp 67)])⟩ S.t195_9
def S.t195_11 : OT SR := .take ⟨(.some 68), .none, .false, (.call (.func 235) [(.tmp 65), (.tmp 67)])⟩ S.t195_7
def S.t195_12 : OT SR := .take ⟨(.some 13), .none, .false, (.al 86 [(Go.Value.slice none 0 0), (Go.Value.slice none 0 0), (Go.Value.slice none 0 0)])⟩ S.t195_11
def S.t195_13 : OT SR := .both S.t195_10 S.t195_12
def S.t195_14 : OT SR := .take ⟨(.some 72), .none, .false, (.ld .false 1 (.tmp 71))⟩ S.t195_13
def S.t195_15 : OT SR := .take ⟨(.some 72), .none, .false, (.ld .false 1 (.tmp 71))⟩ S.t195_9
def S.t195_16 : OT SR := .take ⟨(.some 72), .none, .false, (.ld .false 1 (.tmp 71))⟩ S.t195_7
def S.t195_17 : OT SR := .both S.t195_16 .vac
def S.t195_18 : OT SR := .take ⟨(.some 13), .none, .false, (.al 86 [(Go.Value.slice none 0 0), (Go.Value.slice none 0 0), (Go.Value.slice none 0 0)])⟩ S.t195_17
def S.t195_19 : OT SR := .both S.t195_15 S.t195_18
def S.t195_20 : OT SR := .take ⟨(.some 68), .none, .false, (.call (.func 235) [(.tmp 65), (.tmp 67)])⟩ S.t195_19
def S.t195_21 : OT SR := .take ⟨(.some 72), .none, .false, (.ld .false 1 (.tmp 71))⟩ S.t195_11
def S.t195_22 : OT SR := .take ⟨(.some 68), .none, .false, (.call (.func 235) [(.tmp 65), (.tmp 67)])⟩ S.t195_17
def S.t195_23 : OT SR := .both S.t195_21 S.t195_22
def S.t195_24 : OT SR := .take ⟨(.some 13), .none, .false, (.al 86 [(Go.Value.slice none 0 0), (Go.Value.slice none 0 0), (Go.Value.slice none 0 0)])⟩ S.t195_23
def S.t195_25 : OT SR := .both S.t195_20 S.t195_24
def S.t195_26 : OT SR := .both S.t195_14 S.t195_25
def S.t195_27 : OT SR := .take ⟨(.some 70), .none, .false, (.ld .false 1 (.tmp 69))⟩ S.t195_26
def S.t195_28 : OT SR := .take ⟨(.some 70), .none, .false, (.ld .false 1 (.tmp 69))⟩ S.t195_9
def S.t195_29 : OT SR := .take ⟨(.some 70), .none, .false, (.ld .false 1 (.tmp 69))⟩ S.t195_7
def S.t195_30 : OT SR := .both S.t195_29 .vac
def S.t195_31 : OT SR := .take ⟨(.some 13), .none, .false, (.al 86 [(Go.Value.slice none 0 0), (Go.Value.slice none 0 0), (Go.Value.slice none 0 0)])⟩ S.t195_30
def S.t195_32 : OT SR := .both S.t195_28 S.t195_31
def S.t195_33 : OT SR := .take ⟨(.some 68), .none, .false, (.call (.func 235) [(.tmp 65), (.tmp 67)])⟩ S.t195_32
def S.t195_34 : OT SR := .take ⟨(.some 70), .none, .false, (.ld .false 1 (.tmp 69))⟩ S.t195_11
def S.t195_35 : OT SR := .take ⟨(.some 68), .none, .false, (.call (.func 235) [(.tmp 65), (.tmp 67)])⟩ S.t195_30
def S.t195_36 : OT SR := .both S.t195_34 S.t195_35
def S.t195_37 : OT SR := .take ⟨(.some 13), .none, .false, (.al 86 [(Go.Value.slice none 0 0), (Go.Value.slice none 0 0), (Go.Value.slice none 0 0)])⟩ S.t195_36
def S.t195_38 : OT SR := .both S.t195_33 S.t195_37
def S.t195_39 : OT SR := .take ⟨(.some 72), .none, .false, (.ld .false 1 (.tmp 71))⟩ S.t195_38
def S.t195_40 : OT SR := .take ⟨(.some 70), .none, .false, (.ld .false 1 (.tmp 69))⟩ S.t195_19
def S.t195_41 : OT SR := .take ⟨(.some 72), .none, .false, (.ld .false 1 (.tmp 71))⟩ S.t195_31
def S.t195_42 : OT SR := .take ⟨(.some 70), .none, .false, (.ld .false 1 (.tmp 69))⟩ S.t195_17
def S.t195_43 : OT SR := .take ⟨(.some 72), .none, .false, (.ld .false 1 (.tmp 71))⟩ .vac
def S.t195_44 : OT SR := .both S.t195_43 .vac
def S.t195_45 : OT SR := .both S.t195_42 S.t195_44
def S.t195_46 : OT SR := .take ⟨(.some 13), .none, .false, (.al 86 [(Go.Value.slice none 0 0), (Go.Value.slice none 0 0), (Go.Value.slice none 0 0)])⟩ S.t195_45
def S.t195_47 : OT SR := .both S.t195_41 S.t195_46
def S.t195_48 : OT SR := .both S.t195_40 S.t195_47
def S.t195_49 : OT SR := .take ⟨(.some 68), .none, .false, (.call (.func 235) [(.tmp 65), (.tmp 67)])⟩ S.t195_48
def S.t195_50 : OT SR := .take ⟨(.some 70), .none, .false, (.ld .false 1 (.tmp 69))⟩ S.t195_23
def S.t195_51 : OT SR := .take ⟨(.some 72), .none, .false, (.ld .false 1 (.tmp 71))⟩ S.t195_35
def S.t195_52 : OT SR := .take ⟨(.some 68), .none, .false, (.call (.func 235) [(.tmp 65), (.tmp 67)])⟩ S.t195_45
def S.t195_53 : OT SR := .both S.t195_51 S.t195_52
def S.t195_54 : OT SR := .both S.t195_50 S.t195_53
def S.t195_55 : OT SR := .take ⟨(.some 13), .none, .false, (.al 86 [(Go.Value.slice none 0 0), (Go.Value.slice none 0 0), (Go.Value.slice none 0 0)])⟩ S.t195_54
def S.t195_56 : OT SR := .both S.t195_49 S.t195_55
def S.t195_57 : OT SR := .both S.t195_39 S.t195_56
def S.t195_58 : OT SR := .both S.t195_27 S.t195_57
def S.t195_59 : OT SR := .take ⟨(.some 67), .none, .false, (.ld .false 1 (.tmp 66))⟩ S.t195_58
def S.t195_60 : OT SR := .take ⟨(.some 67), .none, .false, (.ld .false 1 (.tmp 66))⟩ S.t195_11
def S.t195_61 : OT SR := .both S.t195_60 .vac
def S.t195_62 : OT SR := .take ⟨(.some 13), .none, .false, (.al 86 [(Go.Value.slice none 0 0), (Go.Value.slice none 0 0), (Go.Value.slice none 0 0)])⟩ S.t195_61
def S.t195_63 : OT SR := .take ⟨(.some 72), .none, .false, (.ld .false 1 (.tmp 71))⟩ S.t195_62
def S.t195_64 : OT SR := .take ⟨(.some 67), .none, .false, (.ld .false 1 (.tmp 66))⟩ S.t195_23
def S.t195_65 : OT SR := .both S.t195_64 S.t195_44
def S.t195_66 : OT SR := .take ⟨(.some 13), .none, .false, (.al 86 [(Go.Value.slice none 0 0), (Go.Value.slice none 0 0), (Go.Value.slice none 0 0)])⟩ S.t195_65
def S.t195_67 : OT SR := .both S.t195_63 S.t195_66
def S.t195_68 : OT SR := .take ⟨(.some 70), .none, .false, (.ld .false 1 (.tmp 69))⟩ S.t195_67
def S.t195_69 : OT SR := .take ⟨(.some 67), .none, .false, (.ld .false 1 (.tmp 66))⟩ S.t195_36
def S.t195_70 : OT SR := .take ⟨(.some 70), .none, .false, (.ld .false 1 (.tmp 69))⟩ .vac
def S.t195_71 : OT SR := .both S.t195_70 .vac
def S.t195_72 : OT SR := .both S.t195_69 S.t195_71
def S.t195_73 : OT SR := .take ⟨(.some 13), .none, .false, (.al 86 [(Go.Value.slice none 0 0), (Go.Value.slice none 0 0), (Go.Value.slice none 0 0)])⟩ S.t195_72
def S.t195_74 : OT SR := .take ⟨(.some 72), .none, .false, (.ld .false 1 (.tmp 71))⟩ S.t195_73
def S.t195_75 : OT SR := .take ⟨(.some 67), .none, .false, (.ld .false 1 (.tmp 66))⟩ S.t195_54
def S.t195_76 : OT SR := .take ⟨(.some 70), .none, .false, (.ld .false 1 (.tmp 69))⟩ S.t195_44
def S.t195_77 : OT SR := .both S.t195_76 S.t195_44
def S.t195_78 : OT SR := .both S.t195_75 S.t195_77
def S.t195_79 : OT SR := .take ⟨(.some 13), .none, .false, (.al 86 [(Go.Value.slice none 0 0), (Go.Value.slice none 0 0), (Go.Value.slice none 0 0)])⟩ S.t195_78
def S.t195_80 : OT SR := .both S.t195_74 S.t195_79
def S.t195_81 : OT SR := .both S.t195_68 S.t195_80
def S.t195_82 : OT SR := .both S.t195_59 S.t195_81
def S.t195_83 : OT SR := .take ⟨(.some 65), .none, .false, (.ld .false 1 (.tmp 64))⟩ S.t195_82
def S.t195_84 : OT SR := .take ⟨(.some 65), .none, .false, (.ld .false 1 (.tmp 64))⟩ S.t195_11
def S.t195_85 : OT SR := .both S.t195_84 .vac
def S.t195_86 : OT SR := .take ⟨(.some 13), .none, .false, (.al 86 [(Go.Value.slice none 0 0), (Go.Value.slice none 0 0), (Go.Value.slice none 0 0)])⟩ S.t195_85
def S.t195_87 : OT SR := .take ⟨(.some 72), .none, .false, (.ld .false 1 (.tmp 71))⟩ S.t195_86
def S.t195_88 : OT SR := .take ⟨(.some 65), .none, .false, (.ld .false 1 (.tmp 64))⟩ S.t195_23
def S.t195_89 : OT SR := .both S.t195_88 S.t195_44
def S.t195_90 : OT SR := .take ⟨(.some 13), .none, .false, (.al 86 [(Go.Value.slice none 0 0), (Go.Value.slice none 0 0), (Go.Value.slice none 0 0)])⟩ S.t195_89
def S.t195_91 : OT SR := .both S.t195_87 S.t195_90
def S.t195_92 : OT SR := .take ⟨(.some 70), .none, .false, (.ld .false 1 (.tmp 69))⟩ S.t195_91
def S.t195_93 : OT SR := .take ⟨(.some 65), .none, .false, (.ld .false 1 (.tmp 64))⟩ S.t195_36
def S.t195_94 : OT SR := .both S.t195_93 S.t195_71
def S.t195_95 : OT SR := .take ⟨(.some 13), .none, .false, (.al 86 [(Go.Value.slice none 0 0), (Go.Value.slice none 0 0), (Go.Value.slice none 0 0)])⟩ S.t195_94
def S.t195_96 : OT SR := .take ⟨(.some 72), .none, .false, (.ld .false 1 (.tmp 71))⟩ S.t195_95
def S.t195_97 : OT SR := .take ⟨(.some 65), .none, .false, (.ld .false 1 (.tmp 64))⟩ S.t195_54
def S.t195_98 : OT SR := .both S.t195_97 S.t195_77
def S.t195_99 : OT SR := .take ⟨(.some 13), .none, .false, (.al 86 [(Go.Value.slice none 0 0), (Go.Value.slice none 0 0), (Go.Value.slice none 0 0)])⟩ S.t195_98
def S.t195_100 : OT SR := .both S.t195_96 S.t195_99
def S.t195_101 : OT SR := .both S.t195_92 S.t195_100
def S.t195_102 : OT SR := .take ⟨(.some 67), .none, .false, (.ld .false 1 (.tmp 66))⟩ S.t195_101
def S.t195_103 : OT SR := .take ⟨(.some 65), .none, .false, (.ld .false 1 (.tmp 64))⟩ S.t195_61
def S.t195_104 : OT SR := .take ⟨(.some 67), .none, .false, (.ld .false 1 (.tmp 66))⟩ .vac
def S.t195_105 : OT SR := .both S.t195_104 .vac
def S.t195_106 : OT SR := .both S.t195_103 S.t195_105
def S.t195_107 : OT SR := .take ⟨(.some 13), .none, .false, (.al 86 [(Go.Value.slice none 0 0), (Go.Value.slice none 0 0), (Go.Value.slice none 0 0)])⟩ S.t195_106
def S.t195_108 : OT SR := .take ⟨(.some 72), .none, .false, (.ld .false 1 (.tmp 71))⟩ S.t195_107
def S.t195_109 : OT SR := .take ⟨(.some 65), .none, .false, (.ld .false 1 (.tmp 64))⟩ S.t195_65
def S.t195_110 : OT SR := .take ⟨(.some 67), .none, .false, (.ld .false 1 (.tmp 66))⟩ S.t195_44
def S.t195_111 : OT SR := .both S.t195_110 S.t195_44
def S.t195_112 : OT SR := .both S.t195_109 S.t195_111
def S.t195_113 : OT SR := .take ⟨(.some 13), .none, .false, (.al 86 [(Go.Value.slice none 0 0), (Go.Value.slice none 0 0), (Go.Value.slice none 0 0)])⟩ S.t195_112
def S.t195_114 : OT SR := .both S.t195_108 S.t195_113
def S.t195_115 : OT SR := .take ⟨(.some 70), .none, .false, (.ld .false 1 (.tmp 69))⟩ S.t195_114
def S.t195_116 : OT SR := .take ⟨(.some 65), .none, .false, (.ld .false 1 (.tmp 64))⟩ S.t195_72
def S.t195_117 : OT SR := .take ⟨(.some 67), .none, .false, (.ld .false 1 (.tmp 66))⟩ S.t195_71
def S.t195_118 : OT SR := .both S.t195_117 S.t195_71
def S.t195_119 : OT SR := .both S.t195_116 S.t195_118
def S.t195_120 : OT SR := .take ⟨(.some 13), .none, .false, (.al 86 [(Go.Value.slice none 0 0), (Go.Value.slice none 0 0), (Go.Value.slice none 0 0)])⟩ S.t195_119
def S.t195_121 : OT SR := .take ⟨(.some 72), .none, .false, (.ld .false 1 (.tmp 71))⟩ S.t195_120
def S.t195_122 : OT SR := .take ⟨(.some 65), .none, .false, (.ld .false 1 (.tmp 64))⟩ S.t195_78
def S.t195_123 : OT SR := .take ⟨(.some 67), .none, .false, (.ld .false 1 (.tmp 66))⟩ S.t195_77
def S.t195_124 : OT SR := .both S.t195_123 S.t195_77
def S.t195_125 : OT SR := .both S.t195_122 S.t195_124
def S.t195_126 : OT SR := .take ⟨(.some 13), .none, .false, (.al 86 [(Go.Value.slice none 0 0), (Go.Value.slice none 0 0), (Go.Value.slice none 0 0)])⟩ S.t195_125
def S.t195_127 : OT SR := .both S.t195_121 S.t195_126
def S.t195_128 : OT SR := .both S.t195_115 S.t195_127
def S.t195_129 : OT SR := .both S.t195_102 S.t195_128
def S.t195_130 : OT SR := .both S.t195_83 S.t195_129
def S.t195_131 : OT SR := .take ⟨(.some 71), .none, .false, (.fa 1 (.tmp 3))⟩ S.t195_130
def S.t195_132 : OT SR := .take ⟨(.some 69), .none, .false, (.fa 1 (.tmp 2))⟩ S.t195_131
def S.t195_133 : OT SR := .take ⟨(.some 66), .none, .false, (.fa 0 (.tmp 3))⟩ S.t195_132
def S.t195_134 : OT SR := .take ⟨(.some 64), .none, .false, (.fa 0 (.tmp 2))⟩ S.t195_133
set_option maxRecDepth 100000 in
def S.s195 : SC := (.seq (.reg [⟨(.some 2), .none, .false, (.box 274 (.tmp 0))⟩, ⟨(.some 3), .none, .false, (.box 86 (.tmp 1))⟩, ⟨(.some 4), .none, .false, (.al 86 [(Go.Value.slice none 0 0), (Go.Value.slice none 0 0), (Go.Value.slice none 0 0)])⟩, ⟨(.some 5), .none, .false, (.mv (.const (Go.Value.bool false)))⟩]) (.seq (.seq (.reg [⟨(.some 6), .none, .false, (.mv (.const (Go.Value.bool true)))⟩]) (.block 0 (.loop (.seq (.seq (.reg [⟨(.some 20), .none, .false, (.mv (.tmp 6))⟩]) (.cond (.tmp 20) .skip (.exit 0))) (.block 1 (.seq (.reg [⟨(.some 6), .none, .false, (.mv (.const (Go.Value.bool false)))⟩]) (.seq (.reg [⟨(.some 21), .none, .false, (.fa 2 (.tmp 3))⟩, ⟨(.some 22), .none, .false, (.ld .false 1 (.tmp 21))⟩, ⟨(.some 23), .none, .false, (.len (.tmp 22))⟩, ⟨(.some 24), .none, .false, (.mv (.const (Go.Value.int Go.IntKind.i64 0)))⟩]) (.block 2 (.loop (.seq (.reg [⟨(.some 25), .none, .false, (.bin .lss (.tmp 24) (.tmp 23))⟩]) (.seq (.cond (.tmp 25) .skip (.exit 2)) (.seq (.block 3 (.seq (.reg [⟨(.some 26), .none, .false, (.mv (.tmp 24))⟩, ⟨(.some 27), .none, .false, (.ix (.mk 258 5) (.tmp 22) (.tmp 24))⟩, ⟨(.some 28), .none, .false, (.ld .true 5 (.tmp 27))⟩, ⟨(.some 8), .none, .false, (.al 258 [(Go.Value.int Go.IntKind.i64 0), (Go.Value.int Go.IntKind.i64 0), (Go.Value.int Go.IntKind.i64 0), (Go.Value.int Go.IntKind.i64 0), (Go.Value.int Go.IntKind.i64 0)])⟩, ⟨(.some 7), .none, .false, (.mv (.tmp 26))⟩, ⟨.none, .none, .false, (.sto 5 (.tmp 8) (.tmp 28))⟩]) (.seq (.reg [⟨(.some 29), .none, .false, (.fa 2 (.tmp 3))⟩, ⟨(.some 30), .none, .false, (.ld .false 1 (.tmp 29))⟩, ⟨(.some 31), .none, .false, (.mv (.tmp 7))⟩, ⟨(.some 32), .none, .false, (.slc (.mk 258 5) (.tmp 30) .none (.some (.tmp 31)))⟩, ⟨(.some 33), .none, .false, (.len (.tmp 32))⟩, ⟨(.some 34), .none, .false, (.mv (.const (Go.Value.int Go.IntKind.i64 0)))⟩]) (.block 4 (.loop (.seq (.reg [⟨(.some 35), .none, .false, (.bin .lss (.tmp 34) (.tmp 33))⟩]) (.seq (.cond (.tmp 35) .skip (.exit 4)) (.seq (.block 5 (.seq (.reg [⟨(.some 36), .none, .false, (.ix (.mk 258 5) (.tmp 32) (.tmp 34))⟩, ⟨(.some 37), .none, .false, (.ld .true 5 (.tmp 36))⟩, ⟨(.some 10), .none, .false, (.al 258 [(Go.Value.int Go.IntKind.i64 0), (Go.Value.int Go.IntKind.i64 0), (Go.Value.int Go.IntKind.i64 0), (Go.Value.int Go.IntKind.i64 0), (Go.Value.int Go.IntKind.i64 0)])⟩, ⟨.none, .none, .false, (.sto 5 (.tmp 10) (.tmp 37))⟩]) (.seq (.regA [⟨(.some 38), .none, .true, (.ld .true 2 (.tmp 2))⟩, ⟨(.some 39), .none, .true, (.ld .true 5 (.tmp 8))⟩, ⟨(.some 40), .none, .true, (.fcal (.func 234) [(.tmp 38), (.tmp 39)])⟩, ⟨(.some 41), .none, .true, (.ld .true 2 (.tmp 2))⟩, ⟨(.some 42), .none, .true, (.ld .true 5 (.tmp 10))⟩, ⟨(.some 43), .none, .true, (.fcal (.func 234) [(.tmp 41), (.tmp 42)])⟩, ⟨(.some 11), .none, .true, .kil⟩, ⟨(.some 12), .none, .true, .kil⟩] [(11, (258, [(Go.Value.int Go.IntKind.i64 0), (Go.Value.int Go.IntKind.i64 0), (Go.Value.int Go.IntKind.i64 0), (Go.Value.int Go.IntKind.i64 0), (Go.Value.int Go.IntKind.i64 0)])), (12, (258, [(Go.Value.int Go.IntKind.i64 0), (Go.Value.int Go.IntKind.i64 0), (Go.Value.int Go.IntKind.i64 0), (Go.Value.int Go.IntKind.i64 0), (Go.Value.int Go.IntKind.i64 0)]))] [⟨.none, .none, .false, (.sto 5 (.tmp 11) (.tmp 40))⟩, ⟨.none, .none, .false, (.sto 5 (.tmp 12) (.tmp 43))⟩]) (.seq (.reg [⟨(.some 44), .none, .false, (.fa 3 (.tmp 11))⟩, ⟨(.some 45), .none, .false, (.ld .false 1 (.tmp 44))⟩, ⟨(.some 46), .none, .false, (.fa 3 (.tmp 12))⟩, ⟨(.some 47), .none, .false, (.ld .false 1 (.tmp 46))⟩, ⟨(.some 48), .none, .false, (.bin .eql (.tmp 45) (.tmp 47))⟩, ⟨(.some 49), .none, .false, (.mv (.tmp 48))⟩, ⟨(.some 50), (.some (49, .true)), .false, (.fa 4 (.tmp 11))⟩, ⟨(.some 51), (.some (49, .true)), .false, (.ld .false 1 (.tmp 50))⟩, ⟨(.some 52), (.some (49, .true)), .false, (.fa 4 (.tmp 12))⟩, ⟨(.some 53), (.some (49, .true)), .false, (.ld .false 1 (.tmp 52))⟩, ⟨(.some 54), (.some (49, .true)), .false, (.bin .eql (.tmp 51) (.tmp 53))⟩, ⟨(.some 55), .none, .false, (.pick (.tmp 49) (.tmp 54) (.const (Go.Value.bool false)))⟩, ⟨(.some 56), .none, .false, (.mv (.tmp 55))⟩, ⟨(.some 57), (.some (56, .true)), .false, (.ld .true 2 (.tmp 2))⟩, ⟨(.some 58), (.some (56, .true)), .false, (.ld .true 5 (.tmp 8))⟩, ⟨(.some 59), (.some (56, .true)), .false, (.ld .true 5 (.tmp 10))⟩, ⟨(.some 60), (.some (56, .true)), .false, (.call (.func 194) [(.tmp 57), (.tmp 58), (.tmp 59)])⟩, ⟨(.some 61), .none, .false, (.pick (.tmp 56) (.tmp 60) (.const (Go.Value.bool false)))⟩]) (.cond (.tmp 61) (.reg [⟨(.some 6), .none, .false, (.mv (.const (Go.Value.bool true)))⟩]) .skip))))) (.reg [⟨(.some 62), .none, .false, (.bin .add (.tmp 34) (.const (Go.Value.int Go.IntKind.i64 1)))⟩, ⟨(.some 34), .none, .false, (.mv (.tmp 62))⟩]))))))))) (.reg [⟨(.some 63), .none, .false, (.bin .add (.tmp 24) (.const (Go.Value.int Go.IntKind.i64 1)))⟩, ⟨(.some 24), .none, .false, (.mv (.tmp 63))⟩]))))))))))))) (.seq (.regO S.t195_134) (.seq (.reg [⟨(.some 75), .none, .false, (.raw (.makeMap 316 .none) 316)⟩, ⟨(.some 14), .none, .false, (.mv (.tmp 75))⟩]) (.seq (.seq (.reg [⟨(.some 76), .none, .false, (.fa 2 (.tmp 3))⟩, ⟨(.some 77), .none, .false, (.ld .false 1 (.tmp 76))⟩, ⟨(.some 78), .none, .false, (.len (.tmp 77))⟩, ⟨(.some 79), .none, .false, (.mv (.const (Go.Value.int Go.IntKind.i64 0)))⟩]) (.block 6 (.loop (.seq (.reg [⟨(.some 80), .none, .false, (.bin .lss (.tmp 79) (.tmp 78))⟩]) (.seq (.cond (.tmp 80) .skip (.exit 6)) (.seq (.block 7 (.seq (.reg [⟨(.some 81), .none, .false, (.ix (.mk 258 5) (.tmp 77) (.tmp 79))⟩, ⟨(.some 82), .none, .false, (.ld .true 5 (.tmp 81))⟩, ⟨(.some 16), .none, .false, (.al 258 [(Go.Value.int Go.IntKind.i64 0), (Go.Value.int Go.IntKind.i64 0), (Go.Value.int Go.IntKind.i64 0), (Go.Value.int Go.IntKind.i64 0), (Go.Value.int Go.IntKind.i64 0)])⟩, ⟨.none, .none, .false, (.sto 5 (.tmp 16) (.tmp 82))⟩]) (.seq (.reg [⟨(.some 83), .none, .false, (.ld .true 2 (.tmp 2))⟩, ⟨(.some 84), .none, .false, (.ld .true 5 (.tmp 16))⟩, ⟨(.some 85), .none, .false, (.call (.func 234) [(.tmp 83), (.tmp 84)])⟩, ⟨.none, .none, .false, (.sto 5 (.tmp 16) (.tmp 85))⟩]) (.seq (.reg [⟨(.some 86), .none, .false, (.fa 3 (.tmp 16))⟩, ⟨(.some 87), .none, .false, (.ld .false 1 (.tmp 86))⟩, ⟨(.some 88), .none, .false, (.fa 4 (.tmp 16))⟩, ⟨(.some 89), .none, .false, (.ld .false 1 (.tmp 88))⟩, ⟨(.some 90), .none, .false, (.bld [(Go.Value.int Go.IntKind.i64 0), (Go.Value.int Go.IntKind.i64 0)] [(0, 1), (1, 1)] [(0, (.tmp 87)), (1, (.tmp 89))])⟩, ⟨(.some 17), .none, .false, (.al 311 [(Go.Value.int Go.IntKind.i64 0), (Go.Value.int Go.IntKind.i64 0)])⟩, ⟨.none, .none, .false, (.sto 2 (.tmp 17) (.tmp 90))⟩]) (.seq (.reg [⟨(.some 92), .none, .false, (.mv (.tmp 14))⟩, ⟨(.some 93), .none, .false, (.ld .true 2 (.tmp 17))⟩, ⟨(.some 94), .none, .false, (.raw (.lookup 316 (.tmp 92) (.tmp 93) .true) 317)⟩, ⟨(.some 91), .none, .false, (.mv (.tmp 94))⟩, ⟨(.some 95), .none, .false, (.ext (.tmp 91) 0)⟩, ⟨(.some 96), .none, .false, (.ext (.tmp 91) 1)⟩, ⟨(.some 18), .none, .false, (.al 258 [(Go.Value.int Go.IntKind.i64 0), (Go.Value.int Go.IntKind.i64 0), (Go.Value.int Go.IntKind.i64 0), (Go.Value.int Go.IntKind.i64 0), (Go.Value.int Go.IntKind.i64 0)])⟩, ⟨.none, .none, .false, (.sto 5 (.tmp 18) (.tmp 95))⟩, ⟨(.some 19), .none, .false, (.mv (.tmp 96))⟩]) (.block 8 (.seq (.reg [⟨(.some 98), .none, .false, (.mv (.tmp 19))⟩, ⟨(.some 99), .none, .false, (.not (.tmp 98))⟩, ⟨(.some 97), .none, .false, (.mv (.tmp 99))⟩]) (.cond (.tmp 97) (.seq (.reg [⟨(.some 100), .none, .false, (.mv (.tmp 14))⟩, ⟨(.some 101), .none, .false, (.ld .true 2 (.tmp 17))⟩, ⟨(.some 102), .none, .false, (.ld .true 5 (.tmp 16))⟩, ⟨.none, .none, .false, (.raw (.mapUpdate 316 (.tmp 100) (.tmp 101) (.tmp 102)) 0)⟩]) (.reg [⟨(.some 103), .none, .false, (.fa 2 (.tmp 13))⟩, ⟨(.some 104), .none, .false, (.ld .false 1 (.tmp 103))⟩, ⟨(.some 105), .none, .false, (.ld .true 5 (.tmp 16))⟩, ⟨(.some 106), .none, .false, (.bsl (.mk 258 5) 1 [(0, (.tmp 105))])⟩, ⟨(.some 107), .none, .false, (.app (.mk 258 5) 40 (.tmp 104) (.tmp 106))⟩, ⟨(.some 108), .none, .false, (.fa 2 (.tmp 13))⟩, ⟨.none, .none, .false, (.sto 1 (.tmp 108) (.tmp 107))⟩])) (.seq (.reg [⟨(.some 110), .none, .false, (.fa 0 (.tmp 18))⟩, ⟨(.some 111), .none, .false, (.ld .false 1 (.tmp 110))⟩, ⟨(.some 112), .none, .false, (.fa 0 (.tmp 16))⟩, ⟨(.some 113), .none, .false, (.ld .false 1 (.tmp 112))⟩, ⟨(.some 114), .none, .false, (.bin .neq (.tmp 111) (.tmp 113))⟩, ⟨(.some 109), .none, .false, (.mv (.tmp 114))⟩]) (.cond (.tmp 109) (.seq (.reg [⟨(.some 115), .none, .false, (.bld [(Go.Value.slice none 0 0), (Go.Value.slice none 0 0), (Go.Value.slice none 0 0)] [(0, 1), (1, 1), (2, 1)] [])⟩, ⟨.none, .none, .false, (.sto 3 (.tmp 4) (.tmp 115))⟩, ⟨(.some 5), .none, .false, (.mv (.const (Go.Value.bool false)))⟩]) .ret) .skip)))))))))) (.reg [⟨(.some 116), .none, .false, (.bin .add (.tmp 79) (.const (Go.Value.int Go.IntKind.i64 1)))⟩, ⟨(.some 79), .none, .false, (.mv (.tmp 116))⟩]))))))) (.seq (.reg [⟨(.some 117), .none, .false, (.ld .true 3 (.tmp 13))⟩, ⟨.none, .none, .false, (.sto 3 (.tmp 4) (.tmp 117))⟩, ⟨(.some 5), .none, .false, (.mv (.const (Go.Value.bool true)))⟩]) .ret))))))
set_option maxRecDepth 100000 in
theorem S.ok195 : stripF Try.prog Try.f195 = some S.s195 := by kernel_rfl
set_option maxRecDepth 20000
set_option maxHeartbeats 8000000
theorem later_ne {a b c : S2} (h1 : Lat a b) (h2 : Lat b c) (hn : nnS a) (hne : b ≠ a) : c ≠ a := fun e => by
  have := h1.l hn hne
  have := h2.m
  rw [e] at this
  omega
theorem last_ne {a b c : S2} (h1 : Lat a b) (h2 : Lat b c) (hn : nnS a) (hne : c ≠ b) : c ≠ a := fun e => by
  have h3 := h2.l (h1.n hn) hne
  have := h1.m
  rw [e] at h3
  omega
theorem kill_box {T : TypeId} {l : List Int} (ps : List Nat) : Ob.kill ps (.box T (l.map dI)) = .box T (l.map dI) := by
  show Ob.box T ((l.map dI).map (B.kill ps)) = _
  rw [List.map_map]
  rfl
theorem args_mg {e : Nat → AV} {o : Nat → Option Ob} {x y : Operand} {p q T T' : Nat} {l r : List Int} {u : TPiece} (hx : ev e x = .v (.agg [.ptr p 0, .ptr q 0])) (hy : ev e y = .v (.agg ((enPiece u).map B.d))) (hp : o p = some (.box T (l.map dI))) (hq : o q = some (.box T' (r.map dI))) : argsC (hobOf true [] o) [] e [x, y] = some [.agg [.d (.rp (l.map iD)), .d (.rp (r.map iD))], .agg ((enPiece u).map B.d)] := by
  simp only [argsC, vAll, cAV, hx, hy, cV1, cB_box hp, cB_box hq]
  rfl
theorem args_ls {e : Nat → AV} {o : Nat → Option Ob} {x y : Operand} {p T : Nat} {l xs : List Int} (hx : ev e x = .v (.c (.ptr p 0))) (hy : ev e y = rdA kI (ints xs)) (hp : o p = some (.box T (l.map dI))) : argsC (hobOf true [] o) [] e [x, y] = some [.c (.d (.rp (l.map iD))), .c (.d (.rd kI (ints xs)))] := by
  simp only [argsC, vAll, cAV, hx, hy, cV1, cB_box hp]
  rfl
abbrev valP (p : TPiece) : Value := .agg #[.int .i64 p.fColor, .int .i64 p.fNorth, .int .i64 p.fEast, .int .i64 p.fSouth, .int .i64 p.fWest]
def mapE (l : List TPiece) : List (Value × Value) := l.map fun q => (keyP q, valP q)
theorem mapE_keys (l : List TPiece) : ∀ e ∈ mapE l, ∃ cs : List Value, e.1 = .agg cs.toArray ∧ fitK [.i .i64, .i .i64] cs = true := fun e he => by
  obtain ⟨q, _, rfl⟩ := List.mem_map.1 he
  exact ⟨[.int .i64 q.fSouth, .int .i64 q.fWest], rfl, rfl⟩
theorem sk_key {p q : TPiece} : sk p q ↔ keyP p = keyP q := (keyP_eq (u := p) (v := q)).symm
theorem getE_mapE {k : Value} : ∀ {l : List TPiece}, (∃ q ∈ l, keyP q = k) → ∃ q ∈ l, keyP q = k ∧ getE k (mapE l) = some (valP q)
  | [], ⟨_, h, _⟩ => by cases h
  | q :: l, ⟨r, hr, hk⟩ => by
    by_cases hq : keyP q = k
    · exact ⟨q, by simp, hq, by show getE k ((keyP q, valP q) :: mapE l) = _; rw [getE, if_pos hq]⟩
    · obtain ⟨r', h1, h2, h3⟩ := getE_mapE (k := k) (l := l) ⟨r, by
        rcases List.mem_cons.1 hr with rfl | hr
        · exact absurd hk hq
        · exact hr, hk⟩
      exact ⟨r', by simp [h1], h2, by show getE k ((keyP q, valP q) :: mapE l) = _; rw [getE, if_neg hq]; exact h3⟩
theorem dedP_uniq {l : List TPiece} : ∀ (i : Nat) (q r : TPiece), q ∈ dedP (l.take i) → r ∈ dedP (l.take i) → sk q r → q = r
  | 0, q, r, hq, _, _ => by simp [dedP] at hq
  | i + 1, q, r, hq, hr, hk => by
    cases hx : l[i]? with
    | none =>
      have he : l.take (i + 1) = l.take i := by
        have := List.getElem?_eq_none_iff.1 hx
        rw [List.take_of_length_le (by omega), List.take_of_length_le (by omega)]
      rw [he] at hq hr
      exact dedP_uniq i q r hq hr hk
    | some p =>
      rw [dedP_snoc hx] at hq hr
      by_cases hh : has2 (dedP (l.take i)) p
      · rw [addP_old hh] at hq hr
        exact dedP_uniq i q r hq hr hk
      · rw [addP_new hh] at hq hr
        rcases List.mem_append.1 hq with hq | hq <;> rcases List.mem_append.1 hr with hr | hr
        · exact dedP_uniq i q r hq hr hk
        · obtain rfl := List.mem_singleton.1 hr
          exact absurd ⟨q, by assumption, hk⟩ hh
        · obtain rfl := List.mem_singleton.1 hq
          exact absurd ⟨r, by assumption, hk.symm⟩ hh
        · rw [List.mem_singleton.1 hq, List.mem_singleton.1 hr]
open Classical in
noncomputable def sMrg (d : TDesign) (s : S2) : TDesign × Bool := if clash d.fPieces (fin d.fPieces s) then (⟨[], [], []⟩, false) else (outM d (fin d.fPieces s), true)
noncomputable abbrev oDB (r : TDesign × Bool) : RT := .tup [.agg [.nw kI (ints r.1.fBottom), .nw kI (ints r.1.fLeft), .nw kPiece (r.1.fPieces.map enPiece)], .c (.fz (bD r.2))]
theorem zeroPiece : ∀ w : World, (zeroValue 258).run Try.prog w = .ok (.agg #[.int .i64 0, .int .i64 0, .int .i64 0, .int .i64 0, .int .i64 0]) w := fun w => by kernel_rfl
theorem RV1.ints5 {w : World} {R : Nat → Prop} {ι : Nat → Value} {dom : Nat → Prop} {a b c d e : Int} (ha : 0 ≤ a ∧ a ≤ 1000) (hb : 0 ≤ b ∧ b ≤ 1000) (hc : 0 ≤ c ∧ c ≤ 1000) (hd : 0 ≤ d ∧ d ≤ 1000) (he : 0 ≤ e ∧ e ≤ 1000) : RV1 w R ι dom (.agg #[.int .i64 a, .int .i64 b, .int .i64 c, .int .i64 d, .int .i64 e]) (.agg [dI a, dI b, dI c, dI d, dI e]) := by
  have h : ∀ n : Int, 0 ≤ n ∧ n ≤ 1000 → RB w R ι dom (.int .i64 n) (dI n) := fun n hn => RD.pv rfl (by show (Lit.int .i64 n).wf = true; rw [wf_iff]; simp [IntKind.min, IntKind.max, IntKind.signed, IntKind.bits]; omega)
  exact ⟨[_, _, _, _, _], rfl, .cons (h _ ha) (.cons (h _ hb) (.cons (h _ hc) (.cons (h _ hd) (.cons (h _ he) .nil))))⟩
theorem iSettle (s0 : S2) (d : TDesign) (hs0 : In2 s0) (hn0 : nnS s0) (hb0 : (∀ k ∈ s0.1, k ≤ 119) ∧ (∀ k ∈ s0.2, k ≤ 119)) (hd : okDes d) : SpecM Try.prog 195 [.agg [.ptr (pin 0) 0, .ptr (pin 1) 0], .agg ((enDesign d).map B.d)] [(pin 0, .box kNam (s0.1.map dI)), (pin 1, .box kNam (s0.2.map dI))] (oDB (sMrg d s0)).av (oDB (sMrg d s0)).outs := by
  obtain ⟨⟨hB1, hB2⟩, ⟨hL1, hL2⟩, hPn, hP⟩ := hd
  have hpc : ∀ (i : Nat) (v : TPiece), d.fPieces[i]? = some v → okPc v := fun i v h => (hP i v h).1
  refine SpecM.walk T.mixed Try.func195 S.ok195 (by simp [Try.f195]) fun hk => ?_
  clear hk
  unfold S.s195
  repeat' (first | refine R.mv rfl ?_ | refine R.reg ?_ | refine R.regA ?_ | refine R.tk ?_ | refine R.tkN ?_ | exact R.vac | refine R.both ?_ ?_ | refine R.nal rfl ?_ | refine R.nal0 ?_ | refine R.kil ?_ | refine R.nil ?_ | refine R.seq ?_ | refine R.nseq ?_ | refine R.nblk ?_ | refine R.skip ?_ | refine R.blk ?_ | refine R.exit rfl ?_ | refine R.gRun rfl ?_ | refine R.gSkip rfl ?_ | refine R.gSkip0 rfl ?_ | refine R.gUndef rfl ?_ | refine R.gUndef0 rfl ?_ | refine R.ldEp rfl rfl (by assumption) rfl rfl ?_ | refine R.ldaEp rfl rfl (by assumption) (Nat.le_of_ble_eq_true rfl) rfl rfl ?_ | refine R.ld rfl rfl rfl ?_ | refine R.lda rfl rfl (Nat.le_of_ble_eq_true rfl) rfl ?_ | refine R.fa rfl rfl ?_ | refine R.lenM rfl ?_ | refine R.lenO rfl rfl ?_ | refine R.len rfl rfl ?_ | refine R.lss rfl rfl ?_ | refine R.eql rfl rfl ?_ | refine R.neq rfl rfl ?_ | refine R.add rfl rfl (by omega) ?_ | refine R.ixN rfl rfl rfl (by omega) (fun a ha => ?_) | refine R.ixM rfl rfl rfl (by omega) (fun a ha => ?_) | refine R.ixON rfl rfl rfl (by first | omega | (simp; omega)) (fun a' ha' => ?_) | refine R.ixO rfl rfl rfl (by first | omega | (simp; omega)) (fun a' ha' => ?_) | refine R.pickT rfl rfl ?_ | refine R.pickF rfl rfl ?_ | refine R.not rfl ?_ | refine R.mvU rfl ?_ | refine R.ext rfl rfl ?_ | refine R.al rfl ?_ | refine R.box rfl rfl rfl ?_ | refine R.stoB rfl rfl rfl rfl ⟨rfl, rfl, Nat.le_of_ble_eq_true rfl⟩ rfl ?_ | refine R.stoE _ rfl rfl rfl rfl rfl (by assumption) rfl ⟨rfl, rfl, Nat.le_of_ble_eq_true rfl⟩ ?_ | refine R.bld rfl rfl ?_ | refine R.condT rfl ?_ | refine R.condF rfl ?_ | refine R.cond rfl (fun hc => ?_) (fun hc => ?_) | refine R.condN rfl (fun hc => ?_) (fun hc => ?_) | refine R.condB rfl (fun hc => ?_) (fun hc => ?_) | refine R.gP rfl (fun hc => ?_) (fun hc => ?_) | refine R.gN rfl (fun hc => ?_) (fun hc => ?_) | refine R.gB rfl (fun hc => ?_) (fun hc => ?_))
  refine R.loop (G := Bool × S2) (fun g => [(2, .v (.c (.ptr 2 0))), (3, .v (.c (.ptr 3 0))), (4, .v (.c (.ptr 4 0))), (6, pvA (.bool g.1))]) (fun g => [(2, .box 274 [.ptr (pin 0) 0, .ptr (pin 1) 0]), (3, .box 86 ((enDesign d).map B.d)), (4, .box 86 [nilB, nilB, nilB]), (pin 0, .box kNam (g.2.1.map dI)), (pin 1, .box kNam (g.2.2.map dI))]) (fun g => In2 g.2 ∧ nnS g.2 ∧ Lat s0 g.2 ∧ fin d.fPieces g.2 = fin d.fPieces s0 ∧ (g.1 = false → passM d.fPieces g.2 d.fPieces.length = g.2)) (fun g => if g.1 then muS g.2 + 1 else 0) (true, s0) ⟨hs0, hn0, Lat.refl _, rfl, fun h => by cases h⟩ (Weak.frame _ _ ⟨rfl, rfl, rfl, rfl, trivial⟩ ⟨rfl, rfl, rfl, rfl, rfl, trivial⟩ rfl (okO_any rfl (okO_any rfl (okO_any rfl (okO_num (okO_num rfl)))))) fun g hg => ?_
  obtain ⟨hs, hn, hlat, hfin, hdone⟩ := hg
  by_cases hgt : g.1 = true
  · have hmg : (if g.1 then muS g.2 + 1 else 0) = muS g.2 + 1 := by rw [hgt]; rfl
    repeat' (first | refine R.mv rfl ?_ | refine R.reg ?_ | refine R.regA ?_ | refine R.tk ?_ | refine R.tkN ?_ | exact R.vac | refine R.both ?_ ?_ | refine R.nal rfl ?_ | refine R.nal0 ?_ | refine R.kil ?_ | refine R.nil ?_ | refine R.seq ?_ | refine R.nseq ?_ | refine R.nblk ?_ | refine R.skip ?_ | refine R.blk ?_ | refine R.exit rfl ?_ | refine R.gRun rfl ?_ | refine R.gSkip rfl ?_ | refine R.gSkip0 rfl ?_ | refine R.gUndef rfl ?_ | refine R.gUndef0 rfl ?_ | refine R.ldEp rfl rfl (by assumption) rfl rfl ?_ | refine R.ldaEp rfl rfl (by assumption) (Nat.le_of_ble_eq_true rfl) rfl rfl ?_ | refine R.ld rfl rfl rfl ?_ | refine R.lda rfl rfl (Nat.le_of_ble_eq_true rfl) rfl ?_ | refine R.fa rfl rfl ?_ | refine R.lenM rfl ?_ | refine R.lenO rfl rfl ?_ | refine R.len rfl rfl ?_ | refine R.lss rfl rfl ?_ | refine R.eql rfl rfl ?_ | refine R.neq rfl rfl ?_ | refine R.add rfl rfl (by omega) ?_ | refine R.ixN rfl rfl rfl (by omega) (fun a ha => ?_) | refine R.ixM rfl rfl rfl (by omega) (fun a ha => ?_) | refine R.ixON rfl rfl rfl (by first | omega | (simp; omega)) (fun a' ha' => ?_) | refine R.ixO rfl rfl rfl (by first | omega | (simp; omega)) (fun a' ha' => ?_) | refine R.pickT rfl rfl ?_ | refine R.pickF rfl rfl ?_ | refine R.not rfl ?_ | refine R.mvU rfl ?_ | refine R.ext rfl rfl ?_ | refine R.al rfl ?_ | refine R.box rfl rfl rfl ?_ | refine R.stoB rfl rfl rfl rfl ⟨rfl, rfl, Nat.le_of_ble_eq_true rfl⟩ rfl ?_ | refine R.stoE _ rfl rfl rfl rfl rfl (by assumption) rfl ⟨rfl, rfl, Nat.le_of_ble_eq_true rfl⟩ ?_ | refine R.bld rfl rfl ?_ | refine R.condT rfl ?_ | refine R.condF rfl ?_ | refine R.cond rfl (fun hc => ?_) (fun hc => ?_) | refine R.condN rfl (fun hc => ?_) (fun hc => ?_) | refine R.condB rfl (fun hc => ?_) (fun hc => ?_) | refine R.gP rfl (fun hc => ?_) (fun hc => ?_) | refine R.gN rfl (fun hc => ?_) (fun hc => ?_) | refine R.gB rfl (fun hc => ?_) (fun hc => ?_))
    all_goals first | (exfalso; simp_all; done) | skip
    refine R.loop (G := Nat) (fun i => [(2, .v (.c (.ptr 2 0))), (3, .v (.c (.ptr 3 0))), (4, .v (.c (.ptr 4 0))), (6, pvA (.bool (decide (passM d.fPieces g.2 i ≠ g.2)))), (22, rdA kPiece (d.fPieces.map enPiece)), (23, pvA (.int .i64 d.fPieces.length)), (24, pvA (.int .i64 i))]) (fun i => [(2, .box 274 [.ptr (pin 0) 0, .ptr (pin 1) 0]), (3, .box 86 ((enDesign d).map B.d)), (4, .box 86 [nilB, nilB, nilB]), (pin 0, .box kNam ((passM d.fPieces g.2 i).1.map dI)), (pin 1, .box kNam ((passM d.fPieces g.2 i).2.map dI))]) (fun i => i ≤ d.fPieces.length) (fun i => d.fPieces.length - i) 0 (by omega) (Weak.frame _ _ ⟨rfl, rfl, rfl, (congrArg (fun z => pvA (.bool z)) (decide_eq_false fun h => h rfl).symm), rfl, rfl, rfl, trivial⟩ ⟨rfl, rfl, rfl, rfl, rfl, trivial⟩ rfl (okO_any rfl (okO_any rfl (okO_any rfl (okO_num (okO_num rfl)))))) fun i hi => ?_
    by_cases hil : i < d.fPieces.length
    · obtain ⟨p, hp⟩ : ∃ p, d.fPieces[i]? = some p := ⟨_, List.getElem?_eq_getElem hil⟩
      have hpo := hpc i p hp
      have hLi := Lat.pass d.fPieces g.2 i
      repeat' (first | refine R.ixK p hp rfl rfl rfl ?_ | refine R.mv rfl ?_ | refine R.reg ?_ | refine R.regA ?_ | refine R.tk ?_ | refine R.tkN ?_ | exact R.vac | refine R.both ?_ ?_ | refine R.nal rfl ?_ | refine R.nal0 ?_ | refine R.kil ?_ | refine R.nil ?_ | refine R.seq ?_ | refine R.nseq ?_ | refine R.nblk ?_ | refine R.skip ?_ | refine R.blk ?_ | refine R.exit rfl ?_ | refine R.gRun rfl ?_ | refine R.gSkip rfl ?_ | refine R.gSkip0 rfl ?_ | refine R.gUndef rfl ?_ | refine R.gUndef0 rfl ?_ | refine R.ldEp rfl rfl (by assumption) rfl rfl ?_ | refine R.ldaEp rfl rfl (by assumption) (Nat.le_of_ble_eq_true rfl) rfl rfl ?_ | refine R.ld rfl rfl rfl ?_ | refine R.lda rfl rfl (Nat.le_of_ble_eq_true rfl) rfl ?_ | refine R.fa rfl rfl ?_ | refine R.lenM rfl ?_ | refine R.lenO rfl rfl ?_ | refine R.len rfl rfl ?_ | refine R.lss rfl rfl ?_ | refine R.eql rfl rfl ?_ | refine R.neq rfl rfl ?_ | refine R.add rfl rfl (by omega) ?_ | refine R.ixN rfl rfl rfl (by omega) (fun a ha => ?_) | refine R.ixM rfl rfl rfl (by omega) (fun a ha => ?_) | refine R.ixON rfl rfl rfl (by first | omega | (simp; omega)) (fun a' ha' => ?_) | refine R.ixO rfl rfl rfl (by first | omega | (simp; omega)) (fun a' ha' => ?_) | refine R.pickT rfl rfl ?_ | refine R.pickF rfl rfl ?_ | refine R.not rfl ?_ | refine R.mvU rfl ?_ | refine R.ext rfl rfl ?_ | refine R.al rfl ?_ | refine R.box rfl rfl rfl ?_ | refine R.stoB rfl rfl rfl rfl ⟨rfl, rfl, Nat.le_of_ble_eq_true rfl⟩ rfl ?_ | refine R.stoE _ rfl rfl rfl rfl rfl (by assumption) rfl ⟨rfl, rfl, Nat.le_of_ble_eq_true rfl⟩ ?_ | refine R.bld rfl rfl ?_ | refine R.condT rfl ?_ | refine R.condF rfl ?_ | refine R.slc (κ' := kPiece) 0 i rfl rfl ⟨by omega, by simp; omega⟩ rfl ⟨_, rfl⟩ ?_ | refine R.cond rfl (fun hc => ?_) (fun hc => ?_) | refine R.condN rfl (fun hc => ?_) (fun hc => ?_) | refine R.condB rfl (fun hc => ?_) (fun hc => ?_) | refine R.gP rfl (fun hc => ?_) (fun hc => ?_) | refine R.gN rfl (fun hc => ?_) (fun hc => ?_) | refine R.gB rfl (fun hc => ?_) (fun hc => ?_))
      all_goals first | (exfalso; omega) | skip
      refine R.loop (G := Nat) (fun k => [(2, .v (.c (.ptr 2 0))), (3, .v (.c (.ptr 3 0))), (4, .v (.c (.ptr 4 0))), (6, pvA (.bool (decide (rowM (passM d.fPieces g.2 i) p (d.fPieces.take k) ≠ g.2)))), (8, .v (.c (.ptr 8 0))), (22, rdA kPiece (d.fPieces.map enPiece)), (23, pvA (.int .i64 d.fPieces.length)), (24, pvA (.int .i64 i)), (32, rdA kPiece ((d.fPieces.take i).map enPiece)), (33, pvA (.int .i64 i)), (34, pvA (.int .i64 k))]) (fun k => [(2, .box 274 [.ptr (pin 0) 0, .ptr (pin 1) 0]), (3, .box 86 ((enDesign d).map B.d)), (4, .box 86 [nilB, nilB, nilB]), (8, .box 258 ((enPiece p).map B.d)), (pin 0, .box kNam ((rowM (passM d.fPieces g.2 i) p (d.fPieces.take k)).1.map dI)), (pin 1, .box kNam ((rowM (passM d.fPieces g.2 i) p (d.fPieces.take k)).2.map dI))]) (fun k => k ≤ i) (fun k => i - k) 0 (by omega) (Weak.frame _ _ ⟨rfl, rfl, rfl, rfl, rfl, rfl, rfl, rfl, (by simp [sliceOf]; rfl), (congrArg (fun z : Nat => pvA (.int .i64 (z : Int))) (by simp [sliceOf]; omega)), rfl, trivial⟩ ⟨rfl, rfl, rfl, rfl, rfl, rfl, trivial⟩ rfl (okO_any rfl (okO_any rfl (okO_any rfl (okO_any rfl (okO_num (okO_num rfl))))))) fun k hk => ?_
      by_cases hkl : k < i
      · obtain ⟨q, hq⟩ : ∃ q, d.fPieces[k]? = some q := ⟨_, List.getElem?_eq_getElem (by omega)⟩
        have hqt : (d.fPieces.take i)[k]? = some q := by rw [List.getElem?_take_of_lt hkl]; exact hq
        have hqo := hpc k q hq
        have hrow := rowM_snoc (s := passM d.fPieces g.2 i) (p := p) hq
        have hLk := hLi.trans (Lat.row p (d.fPieces.take k) (passM d.fPieces g.2 i))
        generalize hS : rowM (passM d.fPieces g.2 i) p (d.fPieces.take k) = S at hrow hLk ⊢
        have hSi : In2 S := hs.lat hLk
        by_cases hkq : keq S p q
        · have hr2 : rowM (passM d.fPieces g.2 i) p (d.fPieces.take (k + 1)) = outl S p q := by rw [hrow]; unfold stepM; rw [if_pos hkq]
          obtain ⟨hk1, hk2⟩ := hkq
          have hO := iOutlets S p q hSi hpo hqo
          by_cases hch : chg S p q = true
          · rw [hch] at hO
            have hne : decide (rowM (passM d.fPieces g.2 i) p (d.fPieces.take (k + 1)) ≠ g.2) = true := by
              rw [hr2]
              exact decide_eq_true (last_ne hLk (Lat.outl S p q) hn (of_decide_eq_true hch))
            repeat' (first | refine R.ixK q hqt rfl rfl rfl ?_ | refine R.mv rfl ?_ | refine R.reg ?_ | refine R.regA ?_ | refine R.tk ?_ | refine R.tkN ?_ | exact R.vac | refine R.both ?_ ?_ | refine R.nal rfl ?_ | refine R.nal0 ?_ | refine R.kil ?_ | refine R.nil ?_ | refine R.seq ?_ | refine R.nseq ?_ | refine R.nblk ?_ | refine R.skip ?_ | refine R.blk ?_ | refine R.exit rfl ?_ | refine R.gRun rfl ?_ | refine R.gSkip rfl ?_ | refine R.gSkip0 rfl ?_ | refine R.gUndef rfl ?_ | refine R.gUndef0 rfl ?_ | refine R.ldEp rfl rfl (by assumption) rfl rfl ?_ | refine R.ldaEp rfl rfl (by assumption) (Nat.le_of_ble_eq_true rfl) rfl rfl ?_ | refine R.ld rfl rfl rfl ?_ | refine R.lda rfl rfl (Nat.le_of_ble_eq_true rfl) rfl ?_ | refine R.fa rfl rfl ?_ | refine R.lenM rfl ?_ | refine R.lenO rfl rfl ?_ | refine R.len rfl rfl ?_ | refine R.lss rfl rfl ?_ | refine R.eql rfl rfl ?_ | refine R.neq rfl rfl ?_ | refine R.add rfl rfl (by omega) ?_ | refine R.ixN rfl rfl rfl (by omega) (fun a ha => ?_) | refine R.ixM rfl rfl rfl (by omega) (fun a ha => ?_) | refine R.ixON rfl rfl rfl (by first | omega | (simp; omega)) (fun a' ha' => ?_) | refine R.ixO rfl rfl rfl (by first | omega | (simp; omega)) (fun a' ha' => ?_) | refine R.pickT rfl rfl ?_ | refine R.pickF rfl rfl ?_ | refine R.not rfl ?_ | refine R.mvU rfl ?_ | refine R.ext rfl rfl ?_ | refine R.al rfl ?_ | refine R.box rfl rfl rfl ?_ | refine R.stoB rfl rfl rfl rfl ⟨rfl, rfl, Nat.le_of_ble_eq_true rfl⟩ rfl ?_ | refine R.stoE _ rfl rfl rfl rfl rfl (by assumption) rfl ⟨rfl, rfl, Nat.le_of_ble_eq_true rfl⟩ ?_ | refine R.bld rfl rfl ?_ | refine R.condT rfl ?_ | refine R.condF rfl ?_ | refine R.fcal (bor := true) rfl (args_mg rfl rfl rfl rfl) (iPieceM S p hSi hpo) rfl rfl rfl ?_ | refine R.fcal (bor := true) rfl (args_mg rfl rfl rfl rfl) (iPieceM S q hSi hqo) rfl rfl rfl ?_ | refine R.callP2 (p := pin 0) (q := pin 1) rfl hO rfl rfl rfl rfl ?_ | refine R.cond rfl (fun hc => ?_) (fun hc => ?_) | refine R.condN rfl (fun hc => ?_) (fun hc => ?_) | refine R.condB rfl (fun hc => ?_) (fun hc => ?_) | refine R.gP rfl (fun hc => ?_) (fun hc => ?_) | refine R.gN rfl (fun hc => ?_) (fun hc => ?_) | refine R.gB rfl (fun hc => ?_) (fun hc => ?_))
            all_goals first
              | (exfalso; first | omega | exact hc hk1 | exact hc hk2)
              | exact R.nloop (R.again (k + 1) (by omega) (by omega) ⟨rfl, rfl, rfl, (by rw [hne]; rfl), rfl, rfl, rfl, rfl, rfl, rfl, rfl, trivial⟩ ⟨rfl, rfl, rfl, rfl, (by rw [hr2]; rfl), (by rw [hr2]; rfl), trivial⟩ rfl (okO_any rfl (okO_any rfl (okO_any rfl (okO_any rfl (okO_num (okO_num rfl)))))))
              | skip
          · rw [Bool.eq_false_iff.2 hch] at hO
            have hsame : outl S p q = S := Classical.byContradiction fun h => hch (decide_eq_true h)
            rw [hsame] at hO hr2
            repeat' (first | refine R.ixK q hqt rfl rfl rfl ?_ | refine R.mv rfl ?_ | refine R.reg ?_ | refine R.regA ?_ | refine R.tk ?_ | refine R.tkN ?_ | exact R.vac | refine R.both ?_ ?_ | refine R.nal rfl ?_ | refine R.nal0 ?_ | refine R.kil ?_ | refine R.nil ?_ | refine R.seq ?_ | refine R.nseq ?_ | refine R.nblk ?_ | refine R.skip ?_ | refine R.blk ?_ | refine R.exit rfl ?_ | refine R.gRun rfl ?_ | refine R.gSkip rfl ?_ | refine R.gSkip0 rfl ?_ | refine R.gUndef rfl ?_ | refine R.gUndef0 rfl ?_ | refine R.ldEp rfl rfl (by assumption) rfl rfl ?_ | refine R.ldaEp rfl rfl (by assumption) (Nat.le_of_ble_eq_true rfl) rfl rfl ?_ | refine R.ld rfl rfl rfl ?_ | refine R.lda rfl rfl (Nat.le_of_ble_eq_true rfl) rfl ?_ | refine R.fa rfl rfl ?_ | refine R.lenM rfl ?_ | refine R.lenO rfl rfl ?_ | refine R.len rfl rfl ?_ | refine R.lss rfl rfl ?_ | refine R.eql rfl rfl ?_ | refine R.neq rfl rfl ?_ | refine R.add rfl rfl (by omega) ?_ | refine R.ixN rfl rfl rfl (by omega) (fun a ha => ?_) | refine R.ixM rfl rfl rfl (by omega) (fun a ha => ?_) | refine R.ixON rfl rfl rfl (by first | omega | (simp; omega)) (fun a' ha' => ?_) | refine R.ixO rfl rfl rfl (by first | omega | (simp; omega)) (fun a' ha' => ?_) | refine R.pickT rfl rfl ?_ | refine R.pickF rfl rfl ?_ | refine R.not rfl ?_ | refine R.mvU rfl ?_ | refine R.ext rfl rfl ?_ | refine R.al rfl ?_ | refine R.box rfl rfl rfl ?_ | refine R.stoB rfl rfl rfl rfl ⟨rfl, rfl, Nat.le_of_ble_eq_true rfl⟩ rfl ?_ | refine R.stoE _ rfl rfl rfl rfl rfl (by assumption) rfl ⟨rfl, rfl, Nat.le_of_ble_eq_true rfl⟩ ?_ | refine R.bld rfl rfl ?_ | refine R.condT rfl ?_ | refine R.condF rfl ?_ | refine R.fcal (bor := true) rfl (args_mg rfl rfl rfl rfl) (iPieceM S p hSi hpo) rfl rfl rfl ?_ | refine R.fcal (bor := true) rfl (args_mg rfl rfl rfl rfl) (iPieceM S q hSi hqo) rfl rfl rfl ?_ | refine R.callP2 (p := pin 0) (q := pin 1) rfl hO rfl rfl rfl rfl ?_ | refine R.cond rfl (fun hc => ?_) (fun hc => ?_) | refine R.condN rfl (fun hc => ?_) (fun hc => ?_) | refine R.condB rfl (fun hc => ?_) (fun hc => ?_) | refine R.gP rfl (fun hc => ?_) (fun hc => ?_) | refine R.gN rfl (fun hc => ?_) (fun hc => ?_) | refine R.gB rfl (fun hc => ?_) (fun hc => ?_))
            all_goals first
              | (exfalso; first | omega | exact hc hk1 | exact hc hk2)
              | exact R.nloop (R.again (k + 1) (by omega) (by omega) ⟨rfl, rfl, rfl, (by rw [hr2]; rfl), rfl, rfl, rfl, rfl, rfl, rfl, rfl, trivial⟩ ⟨rfl, rfl, rfl, rfl, (by rw [hr2]; rfl), (by rw [hr2]; rfl), trivial⟩ rfl (okO_any rfl (okO_any rfl (okO_any rfl (okO_any rfl (okO_num (okO_num rfl)))))))
              | skip
        · have hr2 : rowM (passM d.fPieces g.2 i) p (d.fPieces.take (k + 1)) = S := by rw [hrow]; unfold stepM; rw [if_neg hkq]
          have hkq1 : nm S.1 p.fSouth = nm S.1 q.fSouth → ¬ nm S.2 p.fWest = nm S.2 q.fWest := fun h1 h2 => hkq ⟨h1, h2⟩
          repeat' (first | refine R.ixK q hqt rfl rfl rfl ?_ | refine R.mv rfl ?_ | refine R.reg ?_ | refine R.regA ?_ | refine R.tk ?_ | refine R.tkN ?_ | exact R.vac | refine R.both ?_ ?_ | refine R.nal rfl ?_ | refine R.nal0 ?_ | refine R.kil ?_ | refine R.nil ?_ | refine R.seq ?_ | refine R.nseq ?_ | refine R.nblk ?_ | refine R.skip ?_ | refine R.blk ?_ | refine R.exit rfl ?_ | refine R.gRun rfl ?_ | refine R.gSkip rfl ?_ | refine R.gSkip0 rfl ?_ | refine R.gUndef rfl ?_ | refine R.gUndef0 rfl ?_ | refine R.ldEp rfl rfl (by assumption) rfl rfl ?_ | refine R.ldaEp rfl rfl (by assumption) (Nat.le_of_ble_eq_true rfl) rfl rfl ?_ | refine R.ld rfl rfl rfl ?_ | refine R.lda rfl rfl (Nat.le_of_ble_eq_true rfl) rfl ?_ | refine R.fa rfl rfl ?_ | refine R.lenM rfl ?_ | refine R.lenO rfl rfl ?_ | refine R.len rfl rfl ?_ | refine R.lss rfl rfl ?_ | refine R.eql rfl rfl ?_ | refine R.neq rfl rfl ?_ | refine R.add rfl rfl (by omega) ?_ | refine R.ixN rfl rfl rfl (by omega) (fun a ha => ?_) | refine R.ixM rfl rfl rfl (by omega) (fun a ha => ?_) | refine R.ixON rfl rfl rfl (by first | omega | (simp; omega)) (fun a' ha' => ?_) | refine R.ixO rfl rfl rfl (by first | omega | (simp; omega)) (fun a' ha' => ?_) | refine R.pickT rfl rfl ?_ | refine R.pickF rfl rfl ?_ | refine R.not rfl ?_ | refine R.mvU rfl ?_ | refine R.ext rfl rfl ?_ | refine R.al rfl ?_ | refine R.box rfl rfl rfl ?_ | refine R.stoB rfl rfl rfl rfl ⟨rfl, rfl, Nat.le_of_ble_eq_true rfl⟩ rfl ?_ | refine R.stoE _ rfl rfl rfl rfl rfl (by assumption) rfl ⟨rfl, rfl, Nat.le_of_ble_eq_true rfl⟩ ?_ | refine R.bld rfl rfl ?_ | refine R.condT rfl ?_ | refine R.condF rfl ?_ | refine R.fcal (bor := true) rfl (args_mg rfl rfl rfl rfl) (iPieceM S p hSi hpo) rfl rfl rfl ?_ | refine R.fcal (bor := true) rfl (args_mg rfl rfl rfl rfl) (iPieceM S q hSi hqo) rfl rfl rfl ?_ | refine R.cond rfl (fun hc => ?_) (fun hc => ?_) | refine R.condN rfl (fun hc => ?_) (fun hc => ?_) | refine R.condB rfl (fun hc => ?_) (fun hc => ?_) | refine R.gP rfl (fun hc => ?_) (fun hc => ?_) | refine R.gN rfl (fun hc => ?_) (fun hc => ?_) | refine R.gB rfl (fun hc => ?_) (fun hc => ?_))
          all_goals first
            | (exfalso; first | omega | exact hkq1 (by assumption) (by assumption))
            | exact R.nloop (R.again (k + 1) (by omega) (by omega) ⟨rfl, rfl, rfl, (by rw [hr2]; rfl), rfl, rfl, rfl, rfl, rfl, rfl, rfl, trivial⟩ ⟨rfl, rfl, rfl, rfl, (by rw [hr2]; rfl), (by rw [hr2]; rfl), trivial⟩ rfl (okO_any rfl (okO_any rfl (okO_any rfl (okO_any rfl (okO_num (okO_num rfl)))))))
            | skip
      obtain rfl : k = i := by omega
      have hpass := passM_succ (s := g.2) hp
      repeat' (first | refine R.mv rfl ?_ | refine R.reg ?_ | refine R.regA ?_ | refine R.tk ?_ | refine R.tkN ?_ | exact R.vac | refine R.both ?_ ?_ | refine R.nal rfl ?_ | refine R.nal0 ?_ | refine R.kil ?_ | refine R.nil ?_ | refine R.seq ?_ | refine R.nseq ?_ | refine R.nblk ?_ | refine R.skip ?_ | refine R.blk ?_ | refine R.exit rfl ?_ | refine R.gRun rfl ?_ | refine R.gSkip rfl ?_ | refine R.gSkip0 rfl ?_ | refine R.gUndef rfl ?_ | refine R.gUndef0 rfl ?_ | refine R.ldEp rfl rfl (by assumption) rfl rfl ?_ | refine R.ldaEp rfl rfl (by assumption) (Nat.le_of_ble_eq_true rfl) rfl rfl ?_ | refine R.ld rfl rfl rfl ?_ | refine R.lda rfl rfl (Nat.le_of_ble_eq_true rfl) rfl ?_ | refine R.fa rfl rfl ?_ | refine R.lenM rfl ?_ | refine R.lenO rfl rfl ?_ | refine R.len rfl rfl ?_ | refine R.lss rfl rfl ?_ | refine R.eql rfl rfl ?_ | refine R.neq rfl rfl ?_ | refine R.add rfl rfl (by omega) ?_ | refine R.ixN rfl rfl rfl (by omega) (fun a ha => ?_) | refine R.ixM rfl rfl rfl (by omega) (fun a ha => ?_) | refine R.ixON rfl rfl rfl (by first | omega | (simp; omega)) (fun a' ha' => ?_) | refine R.ixO rfl rfl rfl (by first | omega | (simp; omega)) (fun a' ha' => ?_) | refine R.pickT rfl rfl ?_ | refine R.pickF rfl rfl ?_ | refine R.not rfl ?_ | refine R.mvU rfl ?_ | refine R.ext rfl rfl ?_ | refine R.al rfl ?_ | refine R.box rfl rfl rfl ?_ | refine R.stoB rfl rfl rfl rfl ⟨rfl, rfl, Nat.le_of_ble_eq_true rfl⟩ rfl ?_ | refine R.stoE _ rfl rfl rfl rfl rfl (by assumption) rfl ⟨rfl, rfl, Nat.le_of_ble_eq_true rfl⟩ ?_ | refine R.bld rfl rfl ?_ | refine R.condT rfl ?_ | refine R.condF rfl ?_ | refine R.cond rfl (fun hc => ?_) (fun hc => ?_) | refine R.condN rfl (fun hc => ?_) (fun hc => ?_) | refine R.condB rfl (fun hc => ?_) (fun hc => ?_) | refine R.gP rfl (fun hc => ?_) (fun hc => ?_) | refine R.gN rfl (fun hc => ?_) (fun hc => ?_) | refine R.gB rfl (fun hc => ?_) (fun hc => ?_))
      all_goals first
        | (exfalso; omega)
        | exact R.nloop (R.again (k + 1) (by omega) (by omega) ⟨rfl, rfl, rfl, (by rw [hpass]; rfl), rfl, rfl, rfl, trivial⟩ ⟨rfl, rfl, rfl, (by rw [hpass]; rfl), (by rw [hpass]; rfl), trivial⟩ rfl (okO_any rfl (okO_any rfl (okO_any rfl (okO_num (okO_num rfl))))))
        | skip
    obtain rfl : i = d.fPieces.length := by omega
    have hLn := Lat.pass d.fPieces g.2 d.fPieces.length
    have hF : In2 (passM d.fPieces g.2 d.fPieces.length) ∧ nnS (passM d.fPieces g.2 d.fPieces.length) ∧ Lat s0 (passM d.fPieces g.2 d.fPieces.length) ∧ fin d.fPieces (passM d.fPieces g.2 d.fPieces.length) = fin d.fPieces s0 ∧ (decide (passM d.fPieces g.2 d.fPieces.length ≠ g.2) = false → passM d.fPieces (passM d.fPieces g.2 d.fPieces.length) d.fPieces.length = passM d.fPieces g.2 d.fPieces.length) :=
      ⟨hs.lat hLn, hLn.n hn, hlat.trans hLn, (fin_step hn).trans hfin, fun h => by
        have : passM d.fPieces g.2 d.fPieces.length = g.2 := Classical.byContradiction fun h' => (of_decide_eq_false h) h'
        rw [this, this]⟩
    have hM : (if decide (passM d.fPieces g.2 d.fPieces.length ≠ g.2) then muS (passM d.fPieces g.2 d.fPieces.length) + 1 else 0) < muS g.2 + 1 := by
      by_cases h : passM d.fPieces g.2 d.fPieces.length ≠ g.2
      · rw [if_pos (decide_eq_true h)]
        have := hLn.l hn h
        omega
      · rw [if_neg (by rw [decide_eq_true_eq]; exact h)]
        omega
    repeat' (first | refine R.mv rfl ?_ | refine R.reg ?_ | refine R.regA ?_ | refine R.tk ?_ | refine R.tkN ?_ | exact R.vac | refine R.both ?_ ?_ | refine R.nal rfl ?_ | refine R.nal0 ?_ | refine R.kil ?_ | refine R.nil ?_ | refine R.seq ?_ | refine R.nseq ?_ | refine R.nblk ?_ | refine R.skip ?_ | refine R.blk ?_ | refine R.exit rfl ?_ | refine R.gRun rfl ?_ | refine R.gSkip rfl ?_ | refine R.gSkip0 rfl ?_ | refine R.gUndef rfl ?_ | refine R.gUndef0 rfl ?_ | refine R.ldEp rfl rfl (by assumption) rfl rfl ?_ | refine R.ldaEp rfl rfl (by assumption) (Nat.le_of_ble_eq_true rfl) rfl rfl ?_ | refine R.ld rfl rfl rfl ?_ | refine R.lda rfl rfl (Nat.le_of_ble_eq_true rfl) rfl ?_ | refine R.fa rfl rfl ?_ | refine R.lenM rfl ?_ | refine R.lenO rfl rfl ?_ | refine R.len rfl rfl ?_ | refine R.lss rfl rfl ?_ | refine R.eql rfl rfl ?_ | refine R.neq rfl rfl ?_ | refine R.add rfl rfl (by omega) ?_ | refine R.ixN rfl rfl rfl (by omega) (fun a ha => ?_) | refine R.ixM rfl rfl rfl (by omega) (fun a ha => ?_) | refine R.ixON rfl rfl rfl (by first | omega | (simp; omega)) (fun a' ha' => ?_) | refine R.ixO rfl rfl rfl (by first | omega | (simp; omega)) (fun a' ha' => ?_) | refine R.pickT rfl rfl ?_ | refine R.pickF rfl rfl ?_ | refine R.not rfl ?_ | refine R.mvU rfl ?_ | refine R.ext rfl rfl ?_ | refine R.al rfl ?_ | refine R.box rfl rfl rfl ?_ | refine R.stoB rfl rfl rfl rfl ⟨rfl, rfl, Nat.le_of_ble_eq_true rfl⟩ rfl ?_ | refine R.stoE _ rfl rfl rfl rfl rfl (by assumption) rfl ⟨rfl, rfl, Nat.le_of_ble_eq_true rfl⟩ ?_ | refine R.bld rfl rfl ?_ | refine R.condT rfl ?_ | refine R.condF rfl ?_ | refine R.cond rfl (fun hc => ?_) (fun hc => ?_) | refine R.condN rfl (fun hc => ?_) (fun hc => ?_) | refine R.condB rfl (fun hc => ?_) (fun hc => ?_) | refine R.gP rfl (fun hc => ?_) (fun hc => ?_) | refine R.gN rfl (fun hc => ?_) (fun hc => ?_) | refine R.gB rfl (fun hc => ?_) (fun hc => ?_))
    all_goals first
      | (exfalso; omega)
      | exact R.nloop (R.again (decide (passM d.fPieces g.2 d.fPieces.length ≠ g.2), passM d.fPieces g.2 d.fPieces.length) (by exact hF) (by rw [hmg]; exact hM) ⟨rfl, rfl, rfl, rfl, trivial⟩ ⟨rfl, rfl, rfl, rfl, rfl, trivial⟩ rfl (okO_any rfl (okO_any rfl (okO_any rfl (okO_num (okO_num rfl))))))
      | skip
  have hgf : g.1 = false := Bool.eq_false_iff.2 hgt
  have hS : g.2 = fin d.fPieces s0 := by rw [← hfin, fin_done (hdone hgf)]
  repeat' (first | refine R.mv rfl ?_ | refine R.reg ?_ | refine R.regA ?_ | refine R.tk ?_ | refine R.tkN ?_ | exact R.vac | refine R.both ?_ ?_ | refine R.nal rfl ?_ | refine R.nal0 ?_ | refine R.kil ?_ | refine R.nil ?_ | refine R.seq ?_ | refine R.nseq ?_ | refine R.nblk ?_ | refine R.skip ?_ | refine R.blk ?_ | refine R.exit rfl ?_ | refine R.gRun rfl ?_ | refine R.gSkip rfl ?_ | refine R.gSkip0 rfl ?_ | refine R.gUndef rfl ?_ | refine R.gUndef0 rfl ?_ | refine R.ldEp rfl rfl (by assumption) rfl rfl ?_ | refine R.ldaEp rfl rfl (by assumption) (Nat.le_of_ble_eq_true rfl) rfl rfl ?_ | refine R.ld rfl rfl rfl ?_ | refine R.lda rfl rfl (Nat.le_of_ble_eq_true rfl) rfl ?_ | refine R.fa rfl rfl ?_ | refine R.lenM rfl ?_ | refine R.lenO rfl rfl ?_ | refine R.len rfl rfl ?_ | refine R.lss rfl rfl ?_ | refine R.eql rfl rfl ?_ | refine R.neq rfl rfl ?_ | refine R.add rfl rfl (by omega) ?_ | refine R.ixN rfl rfl rfl (by omega) (fun a ha => ?_) | refine R.ixM rfl rfl rfl (by omega) (fun a ha => ?_) | refine R.ixON rfl rfl rfl (by first | omega | (simp; omega)) (fun a' ha' => ?_) | refine R.ixO rfl rfl rfl (by first | omega | (simp; omega)) (fun a' ha' => ?_) | refine R.pickT rfl rfl ?_ | refine R.pickF rfl rfl ?_ | refine R.not rfl ?_ | refine R.mvU rfl ?_ | refine R.ext rfl rfl ?_ | refine R.al rfl ?_ | refine R.box rfl rfl rfl ?_ | refine R.stoB rfl rfl rfl rfl ⟨rfl, rfl, Nat.le_of_ble_eq_true rfl⟩ rfl ?_ | refine R.stoE _ rfl rfl rfl rfl rfl (by assumption) rfl ⟨rfl, rfl, Nat.le_of_ble_eq_true rfl⟩ ?_ | refine R.bld rfl rfl ?_ | refine R.condT rfl ?_ | refine R.condF rfl ?_ | refine R.cond rfl (fun hc => ?_) (fun hc => ?_) | refine R.condN rfl (fun hc => ?_) (fun hc => ?_) | refine R.condB rfl (fun hc => ?_) (fun hc => ?_) | refine R.gP rfl (fun hc => ?_) (fun hc => ?_) | refine R.gN rfl (fun hc => ?_) (fun hc => ?_) | refine R.gB rfl (fun hc => ?_) (fun hc => ?_))
  all_goals first | (exfalso; simp_all; done) | skip
  have hs1 := hs.a
  have hs2 := hs.b
  have hbt : d.fBottom.length ≤ 1048576 := by omega
  have hlf : d.fLeft.length ≤ 1048576 := by omega
  have hl1 := iListN g.2.1 d.fBottom hs1 hB2 hbt
  have hl2 := iListN g.2.2 d.fLeft hs2 hL2 hlf
  refine R.regO (⟨frE [(2, .v (.c (.ptr 2 0))), (3, .v (.c (.ptr 3 0))), (4, .v (.c (.ptr 4 0))), (13, .v (.c (.ptr 13 0)))], frO [(2, .box 274 [.ptr (pin 0) 0, .ptr (pin 1) 0]), (3, .box 86 ((enDesign d).map B.d)), (4, .box 86 [nilB, nilB, nilB]), (13, .box 86 [.own 70000, .own 75000, nilB]), (70000, .arr kI (ints (d.fBottom.map (nm g.2.1))) []), (75000, .arr kI (ints (d.fLeft.map (nm g.2.2))) []), (pin 0, .box kNam (g.2.1.map dI)), (pin 1, .box kNam (g.2.2.map dI))]⟩) ?_ ?_
  · repeat' (first | refine R.mv rfl ?_ | refine R.reg ?_ | refine R.regA ?_ | refine R.tk ?_ | refine R.tkN ?_ | exact R.vac | refine R.both ?_ ?_ | refine R.nal rfl ?_ | refine R.nal0 ?_ | refine R.kil ?_ | refine R.nil ?_ | refine R.seq ?_ | refine R.nseq ?_ | refine R.nblk ?_ | refine R.skip ?_ | refine R.blk ?_ | refine R.exit rfl ?_ | refine R.gRun rfl ?_ | refine R.gSkip rfl ?_ | refine R.gSkip0 rfl ?_ | refine R.gUndef rfl ?_ | refine R.gUndef0 rfl ?_ | refine R.ldEp rfl rfl (by assumption) rfl rfl ?_ | refine R.ldaEp rfl rfl (by assumption) (Nat.le_of_ble_eq_true rfl) rfl rfl ?_ | refine R.ld rfl rfl rfl ?_ | refine R.lda rfl rfl (Nat.le_of_ble_eq_true rfl) rfl ?_ | refine R.fa rfl rfl ?_ | refine R.lenM rfl ?_ | refine R.lenO rfl rfl ?_ | refine R.len rfl rfl ?_ | refine R.lss rfl rfl ?_ | refine R.eql rfl rfl ?_ | refine R.neq rfl rfl ?_ | refine R.add rfl rfl (by omega) ?_ | refine R.ixN rfl rfl rfl (by omega) (fun a ha => ?_) | refine R.ixM rfl rfl rfl (by omega) (fun a ha => ?_) | refine R.ixON rfl rfl rfl (by first | omega | (simp; omega)) (fun a' ha' => ?_) | refine R.ixO rfl rfl rfl (by first | omega | (simp; omega)) (fun a' ha' => ?_) | refine R.pickT rfl rfl ?_ | refine R.pickF rfl rfl ?_ | refine R.not rfl ?_ | refine R.mvU rfl ?_ | refine R.ext rfl rfl ?_ | refine R.al rfl ?_ | refine R.box rfl rfl rfl ?_ | refine R.stoB rfl rfl rfl rfl ⟨rfl, rfl, Nat.le_of_ble_eq_true rfl⟩ rfl ?_ | refine R.stoE _ rfl rfl rfl rfl rfl (by assumption) rfl ⟨rfl, rfl, Nat.le_of_ble_eq_true rfl⟩ ?_ | refine R.bld rfl rfl ?_ | refine R.condT rfl ?_ | refine R.condF rfl ?_ | refine R.callN1 (bor := true) rfl (args_ls rfl rfl rfl) hl1 rfl rfl ?_ | refine R.callN1 (bor := true) rfl (args_ls rfl rfl rfl) hl2 rfl rfl ?_ | refine R.cond rfl (fun hc => ?_) (fun hc => ?_) | refine R.condN rfl (fun hc => ?_) (fun hc => ?_) | refine R.condB rfl (fun hc => ?_) (fun hc => ?_) | refine R.gP rfl (fun hc => ?_) (fun hc => ?_) | refine R.gN rfl (fun hc => ?_) (fun hc => ?_) | refine R.gB rfl (fun hc => ?_) (fun hc => ?_))
    all_goals exact R.done (Weak.frame _ _ ⟨rfl, rfl, rfl, rfl, trivial⟩ ⟨rfl, rfl, rfl, rfl, rfl, rfl, rfl, rfl, trivial⟩ rfl (okO_any rfl (okO_any rfl (okO_any rfl (okO_any rfl (okO_any rfl (okO_any rfl (okO_num (okO_num rfl)))))))))
  repeat' (first | refine R.mv rfl ?_ | refine R.reg ?_ | refine R.regA ?_ | refine R.tk ?_ | refine R.tkN ?_ | exact R.vac | refine R.both ?_ ?_ | refine R.nal rfl ?_ | refine R.nal0 ?_ | refine R.kil ?_ | refine R.nil ?_ | refine R.seq ?_ | refine R.nseq ?_ | refine R.nblk ?_ | refine R.skip ?_ | refine R.blk ?_ | refine R.exit rfl ?_ | refine R.gRun rfl ?_ | refine R.gSkip rfl ?_ | refine R.gSkip0 rfl ?_ | refine R.gUndef rfl ?_ | refine R.gUndef0 rfl ?_ | refine R.ldEp rfl rfl (by assumption) rfl rfl ?_ | refine R.ldaEp rfl rfl (by assumption) (Nat.le_of_ble_eq_true rfl) rfl rfl ?_ | refine R.ld rfl rfl rfl ?_ | refine R.lda rfl rfl (Nat.le_of_ble_eq_true rfl) rfl ?_ | refine R.fa rfl rfl ?_ | refine R.lenM rfl ?_ | refine R.lenO rfl rfl ?_ | refine R.len rfl rfl ?_ | refine R.lss rfl rfl ?_ | refine R.eql rfl rfl ?_ | refine R.neq rfl rfl ?_ | refine R.add rfl rfl (by omega) ?_ | refine R.ixN rfl rfl rfl (by omega) (fun a ha => ?_) | refine R.ixM rfl rfl rfl (by omega) (fun a ha => ?_) | refine R.ixON rfl rfl rfl (by first | omega | (simp; omega)) (fun a' ha' => ?_) | refine R.ixO rfl rfl rfl (by first | omega | (simp; omega)) (fun a' ha' => ?_) | refine R.pickT rfl rfl ?_ | refine R.pickF rfl rfl ?_ | refine R.not rfl ?_ | refine R.mvU rfl ?_ | refine R.ext rfl rfl ?_ | refine R.al rfl ?_ | refine R.box rfl rfl rfl ?_ | refine R.stoB rfl rfl rfl rfl ⟨rfl, rfl, Nat.le_of_ble_eq_true rfl⟩ rfl ?_ | refine R.stoE _ rfl rfl rfl rfl rfl (by assumption) rfl ⟨rfl, rfl, Nat.le_of_ble_eq_true rfl⟩ ?_ | refine R.bld rfl rfl ?_ | refine R.condT rfl ?_ | refine R.condF rfl ?_ | refine R.mkMap rfl ?_ | refine R.cond rfl (fun hc => ?_) (fun hc => ?_) | refine R.condN rfl (fun hc => ?_) (fun hc => ?_) | refine R.condB rfl (fun hc => ?_) (fun hc => ?_) | refine R.gP rfl (fun hc => ?_) (fun hc => ?_) | refine R.gN rfl (fun hc => ?_) (fun hc => ?_) | refine R.gB rfl (fun hc => ?_) (fun hc => ?_))
  all_goals first | (exfalso; omega) | skip
  have hnm : ∀ (s : List Int), (∀ k ∈ s, 0 ≤ k) → (∀ k ∈ s, k ≤ 119) → ∀ a, 0 ≤ nm s a ∧ nm s a ≤ 1000 := fun s h1 h2 a => by
    refine ⟨nm_nn h1 a, ?_⟩
    unfold nm
    rw [List.getD]
    cases hx : s[a.toNat]? with
    | none => show (0 : Int) ≤ 1000; omega
    | some x => have := h2 x (List.mem_of_getElem? hx); show x ≤ 1000; omega
  have hup := hlat.u 119 hb0
  have hnA := hnm g.2.1 hn.1 hup.1
  have hnB := hnm g.2.2 hn.2 hup.2
  refine R.loop (G := Nat) (fun i => [(2, .v (.c (.ptr 2 0))), (4, .v (.c (.ptr 4 0))), (13, .v (.c (.ptr 13 0))), (14, .v (.c (.own 75))), (77, rdA kPiece (d.fPieces.map enPiece)), (78, pvA (.int .i64 d.fPieces.length)), (79, pvA (.int .i64 i))]) (fun i => [(2, .box 274 [.ptr (pin 0) 0, .ptr (pin 1) 0]), (4, .box 86 [nilB, nilB, nilB]), (13, .box 86 [.own 70000, .own 75000, .own 10013]), (70000, .arr kI (ints (d.fBottom.map (nm g.2.1))) []), (75000, .arr kI (ints (d.fLeft.map (nm g.2.2))) []), (10013, .arr kPiece ((dedP ((d.fPieces.map (pcM g.2)).take i)).map enPiece) []), (75, .mp (mapE (dedP ((d.fPieces.map (pcM g.2)).take i)))), (pin 0, .box kNam (g.2.1.map dI)), (pin 1, .box kNam (g.2.2.map dI))]) (fun i => i ≤ d.fPieces.length ∧ nocl (d.fPieces.map (pcM g.2)) i) (fun i => d.fPieces.length - i) 0 ⟨by omega, fun p hp => by simp at hp⟩ (Weak.trans (Weak.reifyBox 13 2 10013 kPiece rfl rfl rfl) (Weak.frame _ _ ⟨rfl, rfl, rfl, rfl, rfl, rfl, rfl, trivial⟩ ⟨rfl, rfl, rfl, rfl, rfl, rfl, rfl, rfl, rfl, trivial⟩ rfl (okO_any rfl (okO_any rfl (okO_any rfl (okO_any rfl (okO_any rfl (okO_any rfl (okO_any rfl (okO_num (okO_num rfl))))))))))) fun i hi => ?_
  obtain ⟨hi, hno⟩ := hi
  by_cases hil : i < d.fPieces.length
  · obtain ⟨p, hp⟩ : ∃ p, d.fPieces[i]? = some p := ⟨_, List.getElem?_eq_getElem hil⟩
    have hpo := hpc i p hp
    have hpm : (d.fPieces.map (pcM g.2))[i]? = some (pcM g.2 p) := by rw [List.getElem?_map, hp]; rfl
    have hkeys := mapE_keys (dedP ((d.fPieces.map (pcM g.2)).take i))
    have hdl : (dedP ((d.fPieces.map (pcM g.2)).take i)).length ≤ i := Nat.le_trans dedP_len (by simp; omega)
    by_cases hh : has2 (dedP ((d.fPieces.map (pcM g.2)).take i)) (pcM g.2 p)
    · obtain ⟨q0, hq0, hk0⟩ := hh
      obtain ⟨q, hq, hkq, hget⟩ := getE_mapE (k := keyP (pcM g.2 p)) (l := dedP ((d.fPieces.map (pcM g.2)).take i)) ⟨q0, hq0, sk_key.1 hk0⟩
      have hsk : sk q (pcM g.2 p) := sk_key.2 hkq
      have hqm : q ∈ d.fPieces.map (pcM g.2) := List.mem_of_mem_take (dedP_mem hq)
      obtain ⟨q1, hq1, hq1e⟩ := List.mem_map.1 hqm
      obtain ⟨j, hj⟩ := List.getElem?_of_mem hq1
      have hqo := hpc j q1 hj
      have hval : ∀ (w : World) (R : Nat → Prop) (ι : Nat → Value) (dom : Nat → Prop), RV1 w R ι dom (valP q) (.agg [dI q.fColor, dI q.fNorth, dI q.fEast, dI q.fSouth, dI q.fWest]) := fun w R ι dom => by
        rw [← hq1e]
        exact RV1.ints5 ⟨hqo.1.1, by have := hqo.1.2; show q1.fColor ≤ 1000; omega⟩ (hnA _) (hnB _) (hnA _) (hnB _)
      by_cases hcol : q.fColor = p.fColor
      · have hded : dedP ((d.fPieces.map (pcM g.2)).take (i + 1)) = dedP ((d.fPieces.map (pcM g.2)).take i) := by rw [dedP_snoc hpm, addP_old ⟨q, hq, hsk⟩]
        have hno2 : nocl (d.fPieces.map (pcM g.2)) (i + 1) := nocl_snoc hno hpm fun r hr hrk => by
          have := dedP_uniq i r q hr hq (hrk.trans hsk.symm)
          rw [this]; exact hcol
        repeat' (first | refine R.ixK p hp rfl rfl rfl ?_ | refine R.mv rfl ?_ | refine R.reg ?_ | refine R.regA ?_ | refine R.tk ?_ | refine R.tkN ?_ | exact R.vac | refine R.both ?_ ?_ | refine R.nal rfl ?_ | refine R.nal0 ?_ | refine R.kil ?_ | refine R.nil ?_ | refine R.seq ?_ | refine R.nseq ?_ | refine R.nblk ?_ | refine R.skip ?_ | refine R.blk ?_ | refine R.exit rfl ?_ | refine R.gRun rfl ?_ | refine R.gSkip rfl ?_ | refine R.gSkip0 rfl ?_ | refine R.gUndef rfl ?_ | refine R.gUndef0 rfl ?_ | refine R.ldEp rfl rfl (by assumption) rfl rfl ?_ | refine R.ldaEp rfl rfl (by assumption) (Nat.le_of_ble_eq_true rfl) rfl rfl ?_ | refine R.ld rfl rfl rfl ?_ | refine R.lda rfl rfl (Nat.le_of_ble_eq_true rfl) rfl ?_ | refine R.fa rfl rfl ?_ | refine R.lenM rfl ?_ | refine R.lenO rfl rfl ?_ | refine R.len rfl rfl ?_ | refine R.lss rfl rfl ?_ | refine R.eql rfl rfl ?_ | refine R.neq rfl rfl ?_ | refine R.add rfl rfl (by omega) ?_ | refine R.ixN rfl rfl rfl (by omega) (fun a ha => ?_) | refine R.ixM rfl rfl rfl (by omega) (fun a ha => ?_) | refine R.ixON rfl rfl rfl (by first | omega | (simp; omega)) (fun a' ha' => ?_) | refine R.ixO rfl rfl rfl (by first | omega | (simp; omega)) (fun a' ha' => ?_) | refine R.pickT rfl rfl ?_ | refine R.pickF rfl rfl ?_ | refine R.not rfl ?_ | refine R.mvU rfl ?_ | refine R.ext rfl rfl ?_ | refine R.al rfl ?_ | refine R.box rfl rfl rfl ?_ | refine R.stoB rfl rfl rfl rfl ⟨rfl, rfl, Nat.le_of_ble_eq_true rfl⟩ rfl ?_ | refine R.stoE _ rfl rfl rfl rfl rfl (by assumption) rfl ⟨rfl, rfl, Nat.le_of_ble_eq_true rfl⟩ ?_ | refine R.bld rfl rfl ?_ | refine R.condT rfl ?_ | refine R.condF rfl ?_ | refine R.call (bor := true) rfl (args_mg rfl rfl rfl rfl) (iPieceM g.2 p hs hpo) rfl rfl rfl ?_ | refine R.mapHas keyInlet Try.underlying316 rfl (IsV.agg rfl) ⟨_, rfl, rfl⟩ hkeys hget hval ?_ | refine R.cond rfl (fun hc => ?_) (fun hc => ?_) | refine R.condN rfl (fun hc => ?_) (fun hc => ?_) | refine R.condB rfl (fun hc => ?_) (fun hc => ?_) | refine R.gP rfl (fun hc => ?_) (fun hc => ?_) | refine R.gN rfl (fun hc => ?_) (fun hc => ?_) | refine R.gB rfl (fun hc => ?_) (fun hc => ?_))
        all_goals first
          | (exfalso; first | omega | exact (by assumption : ¬ _) hcol)
          | exact R.nloop (R.again (i + 1) ⟨by omega, hno2⟩ (by omega) ⟨rfl, rfl, rfl, rfl, rfl, rfl, rfl, trivial⟩ ⟨rfl, rfl, rfl, rfl, rfl, arr_eq (by rw [hded]), (by rw [hded]; rfl), rfl, rfl, trivial⟩ rfl (okO_any rfl (okO_any rfl (okO_any rfl (okO_any rfl (okO_any rfl (okO_any rfl (okO_any rfl (okO_num (okO_num rfl))))))))))
          | skip
      · have hcl : clash d.fPieces (fin d.fPieces s0) := by
          rw [← hS]
          exact clash_of (List.mem_of_getElem? hp) hqm hsk hcol
        rw [show sMrg d s0 = (⟨[], [], []⟩, false) from if_pos hcl]
        repeat' (first | refine R.ixK p hp rfl rfl rfl ?_ | refine R.mv rfl ?_ | refine R.reg ?_ | refine R.regA ?_ | refine R.tk ?_ | refine R.tkN ?_ | exact R.vac | refine R.both ?_ ?_ | refine R.nal rfl ?_ | refine R.nal0 ?_ | refine R.kil ?_ | refine R.nil ?_ | refine R.seq ?_ | refine R.nseq ?_ | refine R.nblk ?_ | refine R.skip ?_ | refine R.blk ?_ | refine R.exit rfl ?_ | refine R.gRun rfl ?_ | refine R.gSkip rfl ?_ | refine R.gSkip0 rfl ?_ | refine R.gUndef rfl ?_ | refine R.gUndef0 rfl ?_ | refine R.ldEp rfl rfl (by assumption) rfl rfl ?_ | refine R.ldaEp rfl rfl (by assumption) (Nat.le_of_ble_eq_true rfl) rfl rfl ?_ | refine R.ld rfl rfl rfl ?_ | refine R.lda rfl rfl (Nat.le_of_ble_eq_true rfl) rfl ?_ | refine R.fa rfl rfl ?_ | refine R.lenM rfl ?_ | refine R.lenO rfl rfl ?_ | refine R.len rfl rfl ?_ | refine R.lss rfl rfl ?_ | refine R.eql rfl rfl ?_ | refine R.neq rfl rfl ?_ | refine R.add rfl rfl (by omega) ?_ | refine R.ixN rfl rfl rfl (by omega) (fun a ha => ?_) | refine R.ixM rfl rfl rfl (by omega) (fun a ha => ?_) | refine R.ixON rfl rfl rfl (by first | omega | (simp; omega)) (fun a' ha' => ?_) | refine R.ixO rfl rfl rfl (by first | omega | (simp; omega)) (fun a' ha' => ?_) | refine R.pickT rfl rfl ?_ | refine R.pickF rfl rfl ?_ | refine R.not rfl ?_ | refine R.mvU rfl ?_ | refine R.ext rfl rfl ?_ | refine R.al rfl ?_ | refine R.box rfl rfl rfl ?_ | refine R.stoB rfl rfl rfl rfl ⟨rfl, rfl, Nat.le_of_ble_eq_true rfl⟩ rfl ?_ | refine R.stoE _ rfl rfl rfl rfl rfl (by assumption) rfl ⟨rfl, rfl, Nat.le_of_ble_eq_true rfl⟩ ?_ | refine R.bld rfl rfl ?_ | refine R.condT rfl ?_ | refine R.condF rfl ?_ | refine R.call (bor := true) rfl (args_mg rfl rfl rfl rfl) (iPieceM g.2 p hs hpo) rfl rfl rfl ?_ | refine R.mapHas keyInlet Try.underlying316 rfl (IsV.agg rfl) ⟨_, rfl, rfl⟩ hkeys hget hval ?_ | refine R.cond rfl (fun hc => ?_) (fun hc => ?_) | refine R.condN rfl (fun hc => ?_) (fun hc => ?_) | refine R.condB rfl (fun hc => ?_) (fun hc => ?_) | refine R.gP rfl (fun hc => ?_) (fun hc => ?_) | refine R.gN rfl (fun hc => ?_) (fun hc => ?_) | refine R.gB rfl (fun hc => ?_) (fun hc => ?_))
        all_goals first
          | (exfalso; first | omega | exact hcol (by assumption))
          | exact R.ret ⟨.inr rfl, R.outW (Weak.reifyBox 4 0 900000 kI rfl rfl rfl) (R.outW (Weak.reifyBox 4 1 900001 kI rfl rfl rfl) (R.outW (Weak.reifyBox 4 2 900002 kPiece rfl rfl rfl) (R.outR rfl (.cons (R.cell rfl rfl T.ty86 (Nat.le_of_ble_eq_true rfl) rfl) (.cons (R.tmp rfl) .nil)) rfl rfl rfl ⟨by show ¬ (2 = 1); omega, rfl⟩)))⟩
          | skip
    · have hget : getE (keyP (pcM g.2 p)) (mapE (dedP ((d.fPieces.map (pcM g.2)).take i))) = none := getE_new fun e he => by
        obtain ⟨q, hq, rfl⟩ := List.mem_map.1 he
        exact fun h => hh ⟨q, hq, sk_key.2 h⟩
      have hput : putE (keyP (pcM g.2 p)) (valP (pcM g.2 p)) (mapE (dedP ((d.fPieces.map (pcM g.2)).take i))) = mapE (dedP ((d.fPieces.map (pcM g.2)).take (i + 1))) := by
        rw [putE_new fun e he => by
          obtain ⟨q, hq, rfl⟩ := List.mem_map.1 he
          exact fun h => hh ⟨q, hq, sk_key.2 h⟩, dedP_snoc hpm, addP_new hh]
        unfold mapE
        rw [List.map_append]
        rfl
      have hded : dedP ((d.fPieces.map (pcM g.2)).take (i + 1)) = dedP ((d.fPieces.map (pcM g.2)).take i) ++ [pcM g.2 p] := by rw [dedP_snoc hpm, addP_new hh]
      have hno2 : nocl (d.fPieces.map (pcM g.2)) (i + 1) := nocl_snoc hno hpm fun r hr hrk => absurd ⟨r, hr, hrk⟩ hh
      repeat' (first | refine R.ixK p hp rfl rfl rfl ?_ | refine R.mv rfl ?_ | refine R.reg ?_ | refine R.regA ?_ | refine R.tk ?_ | refine R.tkN ?_ | exact R.vac | refine R.both ?_ ?_ | refine R.nal rfl ?_ | refine R.nal0 ?_ | refine R.kil ?_ | refine R.nil ?_ | refine R.seq ?_ | refine R.nseq ?_ | refine R.nblk ?_ | refine R.skip ?_ | refine R.blk ?_ | refine R.exit rfl ?_ | refine R.gRun rfl ?_ | refine R.gSkip rfl ?_ | refine R.gSkip0 rfl ?_ | refine R.gUndef rfl ?_ | refine R.gUndef0 rfl ?_ | refine R.ldEp rfl rfl (by assumption) rfl rfl ?_ | refine R.ldaEp rfl rfl (by assumption) (Nat.le_of_ble_eq_true rfl) rfl rfl ?_ | refine R.ld rfl rfl rfl ?_ | refine R.lda rfl rfl (Nat.le_of_ble_eq_true rfl) rfl ?_ | refine R.fa rfl rfl ?_ | refine R.lenM rfl ?_ | refine R.lenO rfl rfl ?_ | refine R.len rfl rfl ?_ | refine R.lss rfl rfl ?_ | refine R.eql rfl rfl ?_ | refine R.neq rfl rfl ?_ | refine R.add rfl rfl (by omega) ?_ | refine R.ixN rfl rfl rfl (by omega) (fun a ha => ?_) | refine R.ixM rfl rfl rfl (by omega) (fun a ha => ?_) | refine R.ixON rfl rfl rfl (by first | omega | (simp; omega)) (fun a' ha' => ?_) | refine R.ixO rfl rfl rfl (by first | omega | (simp; omega)) (fun a' ha' => ?_) | refine R.pickT rfl rfl ?_ | refine R.pickF rfl rfl ?_ | refine R.not rfl ?_ | refine R.mvU rfl ?_ | refine R.ext rfl rfl ?_ | refine R.al rfl ?_ | refine R.box rfl rfl rfl ?_ | refine R.stoB rfl rfl rfl rfl ⟨rfl, rfl, Nat.le_of_ble_eq_true rfl⟩ rfl ?_ | refine R.stoE _ rfl rfl rfl rfl rfl (by assumption) rfl ⟨rfl, rfl, Nat.le_of_ble_eq_true rfl⟩ ?_ | refine R.bld rfl rfl ?_ | refine R.condT rfl ?_ | refine R.condF rfl ?_ | refine R.call (bor := true) rfl (args_mg rfl rfl rfl rfl) (iPieceM g.2 p hs hpo) rfl rfl rfl ?_ | refine R.mapHas0 keyInlet Try.underlying316 zeroPiece rfl (IsV.agg rfl) ⟨_, rfl, rfl⟩ hkeys hget (fun w R ι dom => RV1.ints5 ⟨by omega, by omega⟩ ⟨by omega, by omega⟩ ⟨by omega, by omega⟩ ⟨by omega, by omega⟩ ⟨by omega, by omega⟩) ?_ | refine R.mapPut keyInlet Try.underlying316 rfl rfl (IsV.agg rfl) (IsV.agg rfl) ⟨_, rfl, rfl⟩ hkeys ?_ | refine R.bsl (f := enPiece) [pcM g.2 p] rfl rfl rfl rfl rfl ?_ | refine R.app (f := enPiece) (fun _ => rfl) rfl rfl rfl rfl rfl ⟨by simp only [List.length_singleton]; omega, by simp only [List.length_singleton]; omega⟩ ?_ | refine R.cond rfl (fun hc => ?_) (fun hc => ?_) | refine R.condN rfl (fun hc => ?_) (fun hc => ?_) | refine R.condB rfl (fun hc => ?_) (fun hc => ?_) | refine R.gP rfl (fun hc => ?_) (fun hc => ?_) | refine R.gN rfl (fun hc => ?_) (fun hc => ?_) | refine R.gB rfl (fun hc => ?_) (fun hc => ?_))
      all_goals first
        | (exfalso; omega)
        | exact R.nloop (R.again (i + 1) ⟨by omega, hno2⟩ (by omega) ⟨rfl, rfl, rfl, rfl, rfl, rfl, rfl, trivial⟩ ⟨rfl, rfl, rfl, rfl, rfl, arr_eq (by rw [hded]), (by rw [← hput]; rfl), (congrArg some (kill_box [10013])), (congrArg some (kill_box [10013])), trivial⟩ rfl (okO_any rfl (okO_any rfl (okO_any rfl (okO_any rfl (okO_any rfl (okO_any rfl (okO_any rfl (okO_num (okO_num rfl))))))))))
        | skip
  obtain rfl : i = d.fPieces.length := by omega
  have hncl : ¬ clash d.fPieces (fin d.fPieces s0) := by rw [← hS]; exact not_clash hno
  have hall : (d.fPieces.map (pcM g.2)).take d.fPieces.length = d.fPieces.map (pcM g.2) := List.take_of_length_le (by simp)
  rw [show sMrg d s0 = (outM d (fin d.fPieces s0), true) from if_neg hncl, ← hS, hall]
  repeat' (first | refine R.mv rfl ?_ | refine R.reg ?_ | refine R.regA ?_ | refine R.tk ?_ | refine R.tkN ?_ | exact R.vac | refine R.both ?_ ?_ | refine R.nal rfl ?_ | refine R.nal0 ?_ | refine R.kil ?_ | refine R.nil ?_ | refine R.seq ?_ | refine R.nseq ?_ | refine R.nblk ?_ | refine R.skip ?_ | refine R.blk ?_ | refine R.exit rfl ?_ | refine R.gRun rfl ?_ | refine R.gSkip rfl ?_ | refine R.gSkip0 rfl ?_ | refine R.gUndef rfl ?_ | refine R.gUndef0 rfl ?_ | refine R.ldEp rfl rfl (by assumption) rfl rfl ?_ | refine R.ldaEp rfl rfl (by assumption) (Nat.le_of_ble_eq_true rfl) rfl rfl ?_ | refine R.ld rfl rfl rfl ?_ | refine R.lda rfl rfl (Nat.le_of_ble_eq_true rfl) rfl ?_ | refine R.fa rfl rfl ?_ | refine R.lenM rfl ?_ | refine R.lenO rfl rfl ?_ | refine R.len rfl rfl ?_ | refine R.lss rfl rfl ?_ | refine R.eql rfl rfl ?_ | refine R.neq rfl rfl ?_ | refine R.add rfl rfl (by omega) ?_ | refine R.ixN rfl rfl rfl (by omega) (fun a ha => ?_) | refine R.ixM rfl rfl rfl (by omega) (fun a ha => ?_) | refine R.ixON rfl rfl rfl (by first | omega | (simp; omega)) (fun a' ha' => ?_) | refine R.ixO rfl rfl rfl (by first | omega | (simp; omega)) (fun a' ha' => ?_) | refine R.pickT rfl rfl ?_ | refine R.pickF rfl rfl ?_ | refine R.not rfl ?_ | refine R.mvU rfl ?_ | refine R.ext rfl rfl ?_ | refine R.al rfl ?_ | refine R.box rfl rfl rfl ?_ | refine R.stoB rfl rfl rfl rfl ⟨rfl, rfl, Nat.le_of_ble_eq_true rfl⟩ rfl ?_ | refine R.stoE _ rfl rfl rfl rfl rfl (by assumption) rfl ⟨rfl, rfl, Nat.le_of_ble_eq_true rfl⟩ ?_ | refine R.bld rfl rfl ?_ | refine R.condT rfl ?_ | refine R.condF rfl ?_ | refine R.cond rfl (fun hc => ?_) (fun hc => ?_) | refine R.condN rfl (fun hc => ?_) (fun hc => ?_) | refine R.condB rfl (fun hc => ?_) (fun hc => ?_) | refine R.gP rfl (fun hc => ?_) (fun hc => ?_) | refine R.gN rfl (fun hc => ?_) (fun hc => ?_) | refine R.gB rfl (fun hc => ?_) (fun hc => ?_))
  all_goals first
    | (exfalso; omega)
    | exact R.ret ⟨.inr rfl, R.outR rfl (.cons (R.cell rfl rfl T.ty86 (Nat.le_of_ble_eq_true rfl) rfl) (.cons (R.tmp rfl) .nil)) rfl rfl rfl ⟨by show ¬ (2 = 1); omega, rfl⟩⟩
    | skip
section
variable {P : Program} {Q : Exit → St → Prop} {ks : List Fr} {e : Nat → AV} {o : Nat → Option Ob} {d : Nat} {rest : List SR}
theorem R.callP0 {T : Nat} {l : List Int} {g : FuncId} {f : Operand} (h1 : ev e f = .v (.c (.d (.fn g [])))) (hc : SpecM P g [] [] (.v (.c (.ptr 0 0))) [(0, .box T (l.map dI))]) (h0 : freeO o (callId d)) (k : WL P rest ks Q ⟨upd e d (.v (.c (.ptr (callId d) 0))), upd o (callId d) (some (.box T (l.map dI)))⟩) : WL P (⟨some d, none, false, .call f []⟩ :: rest) ks Q ⟨e, o⟩ := by
  obtain ⟨q1, q2⟩ := h0.none
  refine R.callX (bor := false) [] h1 hc rfl rfl rfl ?_ rfl ?_
  · have e2 : Nat.blt (callId d) pinN = true := by rw [Nat.blt]; exact Nat.ble_eq_true_of_le q2
    simp [nodupB, outsOk, look2, q1, e2]
  · have e1 : stAfter ⟨e, o⟩ [] (callId d) [(0, .box T (l.map dI))] = ⟨e, upd o (callId d) (some (.box T (l.map dI)))⟩ := by
      simp [stAfter, deadL, St.kill, putOuts, sg, look2, Ob.ren]
      rfl
    show WL P rest ks Q (putD (stAfter ⟨e, o⟩ [] (callId d) [(0, .box T (l.map dI))]) (some d) _)
    rw [e1]
    exact k
end
theorem ins2 {o hob : Nat → Option Ob} {ρ : List (Nat × Nat)} {p q i j : Nat} {T T' : TypeId} {l r : List Int} (h : o p = some (.box T (l.map dI))) (h' : o q = some (.box T' (r.map dI))) : insC o hob ρ [(p, i), (q, j)] = some [(i, .box T (l.map dI)), (j, .box T' (r.map dI))] := by
  simp only [insC, h, h', Option.bind_some, cOb_dI]
theorem ids_nn : nnL ids := fun k hk => by
  obtain ⟨n, _, rfl⟩ := List.mem_map.1 hk
  omega
theorem ids_le : ∀ k ∈ ids, k ≤ 119 := fun k hk => by
  obtain ⟨n, hn, rfl⟩ := List.mem_map.1 hk
  have := List.mem_range.1 hn
  omega
def i2 : S2 := (ids, ids)
theorem i2_in : In2 i2 := ⟨ids_len, ids_len⟩
theorem Lat.s0 (p q : TPiece) : Lat i2 (s0M p q) :=
  ((Lat.jn1 ids ids p.fSouth q.fSouth).trans (Lat.jn2 _ ids p.fWest q.fWest)).trans (Lat.outl (jn ids p.fSouth q.fSouth, jn ids p.fWest q.fWest) p q)
theorem iMergePcs (d : TDesign) (i k : Nat) (p q : TPiece) (hd : okDes d) (hp : d.fPieces[i]? = some p) (hq : d.fPieces[k]? = some q) : Spec Try.prog 115 [.agg (enDesign d), vI i, vI k] (oDB (fMrg d p q)) := by
  have hpo := (hd.2.2.2 i p hp).1
  have hqo := (hd.2.2.2 k q hq).1
  have hl0 := Lat.s0 p q
  have hmid : In2 (jn ids p.fSouth q.fSouth, jn ids p.fWest q.fWest) := ⟨by rw [jn_len]; exact ids_len, by rw [jn_len]; exact ids_len⟩
  have hM1 := iMerge ids p.fSouth q.fSouth ids_len hpo.2.2.2.1 hqo.2.2.2.1
  have hM2 := iMerge ids p.fWest q.fWest ids_len hpo.2.2.2.2 hqo.2.2.2.2
  have hO := iOutlets (jn ids p.fSouth q.fSouth, jn ids p.fWest q.fWest) p q hmid hpo hqo
  have hS := iSettle (s0M p q) d (i2_in.lat hl0) (hl0.n ⟨ids_nn, ids_nn⟩) (hl0.u 119 ⟨ids_le, ids_le⟩) hd
  rw [show fMrg d p q = sMrg d (s0M p q) from rfl]
  refine Spec.walk T.mixed Try.func115 S.ok115 (by simp [Try.f115]) fun hk => ?_
  clear hk
  unfold S.s115
  repeat' (first | refine R.mv rfl ?_ | refine R.reg ?_ | refine R.tk ?_ | refine R.tkN ?_ | exact R.vac | refine R.both ?_ ?_ | refine R.nil ?_ | refine R.seq ?_ | refine R.nseq ?_ | refine R.nblk ?_ | refine R.skip ?_ | refine R.blk ?_ | refine R.exit rfl ?_ | refine R.ldEp rfl rfl (by assumption) rfl rfl ?_ | refine R.ldaEp rfl rfl (by assumption) (Nat.le_of_ble_eq_true rfl) rfl rfl ?_ | refine R.ld rfl rfl rfl ?_ | refine R.lda rfl rfl (Nat.le_of_ble_eq_true rfl) rfl ?_ | refine R.fa rfl rfl ?_ | refine R.ixN rfl rfl rfl (by omega) (fun a ha => ?_) | refine R.ixM rfl rfl rfl (by omega) (fun a ha => ?_) | refine R.ixON rfl rfl rfl (by first | omega | (simp; omega)) (fun a' ha' => ?_) | refine R.ixO rfl rfl rfl (by first | omega | (simp; omega)) (fun a' ha' => ?_) | refine R.mvU rfl ?_ | refine R.ext rfl rfl ?_ | refine R.al rfl ?_ | refine R.box rfl rfl rfl ?_ | refine R.stoB rfl rfl rfl rfl ⟨rfl, rfl, Nat.le_of_ble_eq_true rfl⟩ rfl ?_ | refine R.stoE _ rfl rfl rfl rfl rfl (by assumption) rfl ⟨rfl, rfl, Nat.le_of_ble_eq_true rfl⟩ ?_ | refine R.bld rfl rfl ?_ | refine R.condT rfl ?_ | refine R.condF rfl ?_ | refine R.callP0 rfl iNewNames rfl ?_ | refine R.cond rfl (fun hc => ?_) (fun hc => ?_) | refine R.condN rfl (fun hc => ?_) (fun hc => ?_) | refine R.condB rfl (fun hc => ?_) (fun hc => ?_))
  refine R.regO (⟨frE [(3, .v (.c (.ptr 3 0))), (6, .v (.c (.ptr 6 0))), (7, pvA (.bool false)), (8, .v (.c (.ptr 8 0))), (9, .v (.c (.ptr 9 0))), (10, .v (.c (.ptr 10 0)))], frO [(3, .box 86 ((enDesign d).map B.d)), (6, .box 86 [nilB, nilB, nilB]), (8, .box 274 [.ptr 13000 0, .ptr 14000 0]), (9, .box 258 ((enPiece p).map B.d)), (10, .box 258 ((enPiece q).map B.d)), (13000, .box kNam (ids.map dI)), (14000, .box kNam (ids.map dI))]⟩) ?_ ?_
  · repeat' (first | refine R.tk ?_ | refine R.tkN ?_ | refine R.both ?_ ?_ | exact R.vac | refine R.mv rfl ?_ | refine R.nil ?_ | refine R.fa rfl rfl ?_ | refine R.ixK p hp rfl rfl rfl ?_ | refine R.ixK q hq rfl rfl rfl ?_ | refine R.ld rfl rfl rfl ?_ | refine R.lda rfl rfl (Nat.le_of_ble_eq_true rfl) rfl ?_ | refine R.al rfl ?_ | refine R.stoB rfl rfl rfl rfl ⟨rfl, rfl, Nat.le_of_ble_eq_true rfl⟩ rfl ?_)
    all_goals exact R.done (Weak.frame _ _ ⟨rfl, rfl, rfl, rfl, rfl, rfl, trivial⟩ ⟨rfl, rfl, rfl, rfl, rfl, rfl, rfl, trivial⟩ rfl (okO_any rfl (okO_any rfl (okO_any rfl (okO_any rfl (okO_any rfl (okO_num (okO_num rfl))))))))
  repeat' (first | refine R.mv rfl ?_ | refine R.reg ?_ | refine R.tk ?_ | refine R.tkN ?_ | exact R.vac | refine R.both ?_ ?_ | refine R.nil ?_ | refine R.seq ?_ | refine R.nseq ?_ | refine R.nblk ?_ | refine R.skip ?_ | refine R.blk ?_ | refine R.exit rfl ?_ | refine R.ldEp rfl rfl (by assumption) rfl rfl ?_ | refine R.ldaEp rfl rfl (by assumption) (Nat.le_of_ble_eq_true rfl) rfl rfl ?_ | refine R.ld rfl rfl rfl ?_ | refine R.lda rfl rfl (Nat.le_of_ble_eq_true rfl) rfl ?_ | refine R.fa rfl rfl ?_ | refine R.ixN rfl rfl rfl (by omega) (fun a ha => ?_) | refine R.ixM rfl rfl rfl (by omega) (fun a ha => ?_) | refine R.ixON rfl rfl rfl (by first | omega | (simp; omega)) (fun a' ha' => ?_) | refine R.ixO rfl rfl rfl (by first | omega | (simp; omega)) (fun a' ha' => ?_) | refine R.mvU rfl ?_ | refine R.ext rfl rfl ?_ | refine R.al rfl ?_ | refine R.box rfl rfl rfl ?_ | refine R.stoB rfl rfl rfl rfl ⟨rfl, rfl, Nat.le_of_ble_eq_true rfl⟩ rfl ?_ | refine R.stoE _ rfl rfl rfl rfl rfl (by assumption) rfl ⟨rfl, rfl, Nat.le_of_ble_eq_true rfl⟩ ?_ | refine R.bld rfl rfl ?_ | refine R.condT rfl ?_ | refine R.condF rfl ?_ | refine R.callP1 (p := 13000) rfl hM1 rfl rfl rfl ?_ | refine R.callP1 (p := 14000) rfl hM2 rfl rfl rfl ?_ | refine R.callP2 (p := 13000) (q := 14000) rfl hO rfl rfl rfl rfl ?_ | refine R.callX (bor := false) [(13000, pin 0), (14000, pin 1)] rfl hS rfl rfl (ins2 rfl rfl) rfl rfl ?_ | refine R.cond rfl (fun hc => ?_) (fun hc => ?_) | refine R.condN rfl (fun hc => ?_) (fun hc => ?_) | refine R.condB rfl (fun hc => ?_) (fun hc => ?_))
  exact R.ret ⟨.inr rfl, R.outR rfl (.cons (R.cell rfl rfl T.ty86 (Nat.le_of_ble_eq_true rfl) rfl) (.cons (R.tmp rfl) .nil)) rfl rfl rfl ⟨by show ¬ (2 = 1); omega, rfl⟩⟩
def pAt (d : TDesign) (i : Int) : TPiece := d.fPieces.getD i.toNat ⟨0, 0, 0, 0, 0⟩
def eD : TDesign := ⟨[], [], []⟩
def inIx (d : TDesign) (i k : Int) : Prop := (0 ≤ i ∧ i ≤ (d.fPieces.length : Int) - 1) ∧ (0 ≤ k ∧ k ≤ (d.fPieces.length : Int) - 1) ∧ i ≠ k
instance (d : TDesign) (i k : Int) : Decidable (inIx d i k) := inferInstanceAs (Decidable (_ ∧ _))
open Classical in
noncomputable def fMP (d : TDesign) (i k : Int) : TDesign × Int := if okDes d then (if inIx d i k then (if (fMrg d (pAt d i) (pAt d k)).2 = true then ((fMrg d (pAt d i) (pAt d k)).1, 0) else (eD, 7)) else (eD, 2)) else (eD, 1)
noncomputable abbrev oDI (r : TDesign × Int) : RT := .tup [.agg [.nw kI (ints r.1.fBottom), .nw kI (ints r.1.fLeft), .nw kPiece (r.1.fPieces.map enPiece)], .c (.fz (iD r.2))]
theorem pAt_get {d : TDesign} {i : Int} (h : 0 ≤ i ∧ i ≤ (d.fPieces.length : Int) - 1) : d.fPieces[i.toNat]? = some (pAt d i) := by
  unfold pAt
  rw [List.getD, List.getElem?_eq_getElem (by omega)]; rfl
theorem iMP (d : TDesign) (i k : Int) (hb : bdDesign d) : Spec Try.prog 47 [.agg (enDesign d), vI i, vI k] (oDI (fMP d i k)) := by
  have hpl : d.fPieces.length ≤ 1048576 := hb.2.2
  have hV := iValidDesign d
  have hI := iIsIndex i d.fPieces.length ⟨by omega, by omega⟩
  have hK := iIsIndex k d.fPieces.length ⟨by omega, by omega⟩
  refine Spec.walk T.mixed Try.func47 S.ok47 (by simp [Try.f47]) fun hk => ?_
  clear hk
  unfold S.s47
  by_cases h1 : okDes d
  case neg =>
    rw [show fMP d i k = (eD, 1) from if_neg h1]
    rw [bP_not.2 h1] at hV
    repeat' (first | refine R.mv rfl ?_ | refine R.reg ?_ | refine R.nil ?_ | refine R.seq ?_ | refine R.nseq ?_ | refine R.nblk ?_ | refine R.skip ?_ | refine R.blk ?_ | refine R.exit rfl ?_ | refine R.gRun rfl ?_ | refine R.gSkip rfl ?_ | refine R.gSkip0 rfl ?_ | refine R.gUndef rfl ?_ | refine R.gUndef0 rfl ?_ | refine R.ldEp rfl rfl (by assumption) rfl rfl ?_ | refine R.ldaEp rfl rfl (by assumption) (Nat.le_of_ble_eq_true rfl) rfl rfl ?_ | refine R.ld rfl rfl rfl ?_ | refine R.lda rfl rfl (Nat.le_of_ble_eq_true rfl) rfl ?_ | refine R.fa rfl rfl ?_ | refine R.lenM rfl ?_ | refine R.lenO rfl rfl ?_ | refine R.len rfl rfl ?_ | refine R.eql rfl rfl ?_ | refine R.pickT rfl rfl ?_ | refine R.pickF rfl rfl ?_ | refine R.not rfl ?_ | refine R.mvU rfl ?_ | refine R.ext rfl rfl ?_ | refine R.al rfl ?_ | refine R.box rfl rfl rfl ?_ | refine R.stoB rfl rfl rfl rfl ⟨rfl, rfl, Nat.le_of_ble_eq_true rfl⟩ rfl ?_ | refine R.stoE _ rfl rfl rfl rfl rfl (by assumption) rfl ⟨rfl, rfl, Nat.le_of_ble_eq_true rfl⟩ ?_ | refine R.bld rfl rfl ?_ | refine R.condT rfl ?_ | refine R.condF rfl ?_ | refine R.call (bor := false) rfl rfl (hV) rfl rfl rfl ?_ | refine R.call (bor := true) rfl rfl (hV) rfl rfl rfl ?_ | refine R.fcal (bor := false) rfl rfl (hV) rfl rfl rfl ?_ | refine R.fcal (bor := true) rfl rfl (hV) rfl rfl rfl ?_ | refine R.cond rfl (fun hc => ?_) (fun hc => ?_) | refine R.condN rfl (fun hc => ?_) (fun hc => ?_) | refine R.condB rfl (fun hc => ?_) (fun hc => ?_) | refine R.gP rfl (fun hc => ?_) (fun hc => ?_) | refine R.gN rfl (fun hc => ?_) (fun hc => ?_) | refine R.gB rfl (fun hc => ?_) (fun hc => ?_))
    all_goals first
      | (exfalso; omega)
      | exact R.ret ⟨.inr rfl, R.outW (Weak.reifyBox 6 0 900000 kI rfl rfl rfl) (R.outW (Weak.reifyBox 6 1 900001 kI rfl rfl rfl) (R.outW (Weak.reifyBox 6 2 900002 kPiece rfl rfl rfl) (R.outR rfl (.cons (R.cell rfl rfl T.ty86 (Nat.le_of_ble_eq_true rfl) rfl) (.cons (R.tmp rfl) .nil)) rfl rfl rfl ⟨by show ¬ (2 = 1); omega, rfl⟩)))⟩
      | skip
  rw [bP_iff.2 h1] at hV
  by_cases h2 : inIx d i k
  case neg =>
    rw [show fMP d i k = (eD, 2) from (if_pos h1).trans (if_neg h2)]
    unfold inIx at h2
    by_cases g1 : 0 ≤ i ∧ i ≤ (d.fPieces.length : Int) - 1
    · rw [inB_T g1] at hI
      by_cases g2 : 0 ≤ k ∧ k ≤ (d.fPieces.length : Int) - 1
      · rw [inB_T g2] at hK
        repeat' (first | refine R.mv rfl ?_ | refine R.reg ?_ | refine R.nil ?_ | refine R.seq ?_ | refine R.nseq ?_ | refine R.nblk ?_ | refine R.skip ?_ | refine R.blk ?_ | refine R.exit rfl ?_ | refine R.gRun rfl ?_ | refine R.gSkip rfl ?_ | refine R.gSkip0 rfl ?_ | refine R.gUndef rfl ?_ | refine R.gUndef0 rfl ?_ | refine R.ldEp rfl rfl (by assumption) rfl rfl ?_ | refine R.ldaEp rfl rfl (by assumption) (Nat.le_of_ble_eq_true rfl) rfl rfl ?_ | refine R.ld rfl rfl rfl ?_ | refine R.lda rfl rfl (Nat.le_of_ble_eq_true rfl) rfl ?_ | refine R.fa rfl rfl ?_ | refine R.lenM rfl ?_ | refine R.lenO rfl rfl ?_ | refine R.len rfl rfl ?_ | refine R.eql rfl rfl ?_ | refine R.pickT rfl rfl ?_ | refine R.pickF rfl rfl ?_ | refine R.not rfl ?_ | refine R.mvU rfl ?_ | refine R.ext rfl rfl ?_ | refine R.al rfl ?_ | refine R.box rfl rfl rfl ?_ | refine R.stoB rfl rfl rfl rfl ⟨rfl, rfl, Nat.le_of_ble_eq_true rfl⟩ rfl ?_ | refine R.stoE _ rfl rfl rfl rfl rfl (by assumption) rfl ⟨rfl, rfl, Nat.le_of_ble_eq_true rfl⟩ ?_ | refine R.bld rfl rfl ?_ | refine R.condT rfl ?_ | refine R.condF rfl ?_ | refine R.call (bor := false) rfl rfl (hV) rfl rfl rfl ?_ | refine R.call (bor := true) rfl rfl (hV) rfl rfl rfl ?_ | refine R.fcal (bor := false) rfl rfl (hV) rfl rfl rfl ?_ | refine R.fcal (bor := true) rfl rfl (hV) rfl rfl rfl ?_ | refine R.call (bor := false) rfl rfl (hI) rfl rfl rfl ?_ | refine R.call (bor := true) rfl rfl (hI) rfl rfl rfl ?_ | refine R.fcal (bor := false) rfl rfl (hI) rfl rfl rfl ?_ | refine R.fcal (bor := true) rfl rfl (hI) rfl rfl rfl ?_ | refine R.call (bor := false) rfl rfl (hK) rfl rfl rfl ?_ | refine R.call (bor := true) rfl rfl (hK) rfl rfl rfl ?_ | refine R.fcal (bor := false) rfl rfl (hK) rfl rfl rfl ?_ | refine R.fcal (bor := true) rfl rfl (hK) rfl rfl rfl ?_ | refine R.cond rfl (fun hc => ?_) (fun hc => ?_) | refine R.condN rfl (fun hc => ?_) (fun hc => ?_) | refine R.condB rfl (fun hc => ?_) (fun hc => ?_) | refine R.gP rfl (fun hc => ?_) (fun hc => ?_) | refine R.gN rfl (fun hc => ?_) (fun hc => ?_) | refine R.gB rfl (fun hc => ?_) (fun hc => ?_))
        all_goals first
          | (exfalso; omega)
          | exact R.ret ⟨.inr rfl, R.outW (Weak.reifyBox 6 0 900000 kI rfl rfl rfl) (R.outW (Weak.reifyBox 6 1 900001 kI rfl rfl rfl) (R.outW (Weak.reifyBox 6 2 900002 kPiece rfl rfl rfl) (R.outR rfl (.cons (R.cell rfl rfl T.ty86 (Nat.le_of_ble_eq_true rfl) rfl) (.cons (R.tmp rfl) .nil)) rfl rfl rfl ⟨by show ¬ (2 = 1); omega, rfl⟩)))⟩
          | skip
      · rw [inB_F g2] at hK
        repeat' (first | refine R.mv rfl ?_ | refine R.reg ?_ | refine R.nil ?_ | refine R.seq ?_ | refine R.nseq ?_ | refine R.nblk ?_ | refine R.skip ?_ | refine R.blk ?_ | refine R.exit rfl ?_ | refine R.gRun rfl ?_ | refine R.gSkip rfl ?_ | refine R.gSkip0 rfl ?_ | refine R.gUndef rfl ?_ | refine R.gUndef0 rfl ?_ | refine R.ldEp rfl rfl (by assumption) rfl rfl ?_ | refine R.ldaEp rfl rfl (by assumption) (Nat.le_of_ble_eq_true rfl) rfl rfl ?_ | refine R.ld rfl rfl rfl ?_ | refine R.lda rfl rfl (Nat.le_of_ble_eq_true rfl) rfl ?_ | refine R.fa rfl rfl ?_ | refine R.lenM rfl ?_ | refine R.lenO rfl rfl ?_ | refine R.len rfl rfl ?_ | refine R.eql rfl rfl ?_ | refine R.pickT rfl rfl ?_ | refine R.pickF rfl rfl ?_ | refine R.not rfl ?_ | refine R.mvU rfl ?_ | refine R.ext rfl rfl ?_ | refine R.al rfl ?_ | refine R.box rfl rfl rfl ?_ | refine R.stoB rfl rfl rfl rfl ⟨rfl, rfl, Nat.le_of_ble_eq_true rfl⟩ rfl ?_ | refine R.stoE _ rfl rfl rfl rfl rfl (by assumption) rfl ⟨rfl, rfl, Nat.le_of_ble_eq_true rfl⟩ ?_ | refine R.bld rfl rfl ?_ | refine R.condT rfl ?_ | refine R.condF rfl ?_ | refine R.call (bor := false) rfl rfl (hV) rfl rfl rfl ?_ | refine R.call (bor := true) rfl rfl (hV) rfl rfl rfl ?_ | refine R.fcal (bor := false) rfl rfl (hV) rfl rfl rfl ?_ | refine R.fcal (bor := true) rfl rfl (hV) rfl rfl rfl ?_ | refine R.call (bor := false) rfl rfl (hI) rfl rfl rfl ?_ | refine R.call (bor := true) rfl rfl (hI) rfl rfl rfl ?_ | refine R.fcal (bor := false) rfl rfl (hI) rfl rfl rfl ?_ | refine R.fcal (bor := true) rfl rfl (hI) rfl rfl rfl ?_ | refine R.call (bor := false) rfl rfl (hK) rfl rfl rfl ?_ | refine R.call (bor := true) rfl rfl (hK) rfl rfl rfl ?_ | refine R.fcal (bor := false) rfl rfl (hK) rfl rfl rfl ?_ | refine R.fcal (bor := true) rfl rfl (hK) rfl rfl rfl ?_ | refine R.cond rfl (fun hc => ?_) (fun hc => ?_) | refine R.condN rfl (fun hc => ?_) (fun hc => ?_) | refine R.condB rfl (fun hc => ?_) (fun hc => ?_) | refine R.gP rfl (fun hc => ?_) (fun hc => ?_) | refine R.gN rfl (fun hc => ?_) (fun hc => ?_) | refine R.gB rfl (fun hc => ?_) (fun hc => ?_))
        all_goals first
          | (exfalso; omega)
          | exact R.ret ⟨.inr rfl, R.outW (Weak.reifyBox 6 0 900000 kI rfl rfl rfl) (R.outW (Weak.reifyBox 6 1 900001 kI rfl rfl rfl) (R.outW (Weak.reifyBox 6 2 900002 kPiece rfl rfl rfl) (R.outR rfl (.cons (R.cell rfl rfl T.ty86 (Nat.le_of_ble_eq_true rfl) rfl) (.cons (R.tmp rfl) .nil)) rfl rfl rfl ⟨by show ¬ (2 = 1); omega, rfl⟩)))⟩
          | skip
    · rw [inB_F g1] at hI
      repeat' (first | refine R.mv rfl ?_ | refine R.reg ?_ | refine R.nil ?_ | refine R.seq ?_ | refine R.nseq ?_ | refine R.nblk ?_ | refine R.skip ?_ | refine R.blk ?_ | refine R.exit rfl ?_ | refine R.gRun rfl ?_ | refine R.gSkip rfl ?_ | refine R.gSkip0 rfl ?_ | refine R.gUndef rfl ?_ | refine R.gUndef0 rfl ?_ | refine R.ldEp rfl rfl (by assumption) rfl rfl ?_ | refine R.ldaEp rfl rfl (by assumption) (Nat.le_of_ble_eq_true rfl) rfl rfl ?_ | refine R.ld rfl rfl rfl ?_ | refine R.lda rfl rfl (Nat.le_of_ble_eq_true rfl) rfl ?_ | refine R.fa rfl rfl ?_ | refine R.lenM rfl ?_ | refine R.lenO rfl rfl ?_ | refine R.len rfl rfl ?_ | refine R.eql rfl rfl ?_ | refine R.pickT rfl rfl ?_ | refine R.pickF rfl rfl ?_ | refine R.not rfl ?_ | refine R.mvU rfl ?_ | refine R.ext rfl rfl ?_ | refine R.al rfl ?_ | refine R.box rfl rfl rfl ?_ | refine R.stoB rfl rfl rfl rfl ⟨rfl, rfl, Nat.le_of_ble_eq_true rfl⟩ rfl ?_ | refine R.stoE _ rfl rfl rfl rfl rfl (by assumption) rfl ⟨rfl, rfl, Nat.le_of_ble_eq_true rfl⟩ ?_ | refine R.bld rfl rfl ?_ | refine R.condT rfl ?_ | refine R.condF rfl ?_ | refine R.call (bor := false) rfl rfl (hV) rfl rfl rfl ?_ | refine R.call (bor := true) rfl rfl (hV) rfl rfl rfl ?_ | refine R.fcal (bor := false) rfl rfl (hV) rfl rfl rfl ?_ | refine R.fcal (bor := true) rfl rfl (hV) rfl rfl rfl ?_ | refine R.call (bor := false) rfl rfl (hI) rfl rfl rfl ?_ | refine R.call (bor := true) rfl rfl (hI) rfl rfl rfl ?_ | refine R.fcal (bor := false) rfl rfl (hI) rfl rfl rfl ?_ | refine R.fcal (bor := true) rfl rfl (hI) rfl rfl rfl ?_ | refine R.call (bor := false) rfl rfl (hK) rfl rfl rfl ?_ | refine R.call (bor := true) rfl rfl (hK) rfl rfl rfl ?_ | refine R.fcal (bor := false) rfl rfl (hK) rfl rfl rfl ?_ | refine R.fcal (bor := true) rfl rfl (hK) rfl rfl rfl ?_ | refine R.cond rfl (fun hc => ?_) (fun hc => ?_) | refine R.condN rfl (fun hc => ?_) (fun hc => ?_) | refine R.condB rfl (fun hc => ?_) (fun hc => ?_) | refine R.gP rfl (fun hc => ?_) (fun hc => ?_) | refine R.gN rfl (fun hc => ?_) (fun hc => ?_) | refine R.gB rfl (fun hc => ?_) (fun hc => ?_))
      all_goals first
        | (exfalso; omega)
        | exact R.ret ⟨.inr rfl, R.outW (Weak.reifyBox 6 0 900000 kI rfl rfl rfl) (R.outW (Weak.reifyBox 6 1 900001 kI rfl rfl rfl) (R.outW (Weak.reifyBox 6 2 900002 kPiece rfl rfl rfl) (R.outR rfl (.cons (R.cell rfl rfl T.ty86 (Nat.le_of_ble_eq_true rfl) rfl) (.cons (R.tmp rfl) .nil)) rfl rfl rfl ⟨by show ¬ (2 = 1); omega, rfl⟩)))⟩
        | skip
  have h2' := h2
  obtain ⟨g1, g2, g3⟩ := h2'
  rw [inB_T g1] at hI
  rw [inB_T g2] at hK
  have hM := iMergePcs d i.toNat k.toNat (pAt d i) (pAt d k) h1 (pAt_get g1) (pAt_get g2)
  rw [show ((i.toNat : Nat) : Int) = i by omega, show ((k.toNat : Nat) : Int) = k by omega] at hM
  by_cases h3 : (fMrg d (pAt d i) (pAt d k)).2 = true
  · rw [show fMP d i k = ((fMrg d (pAt d i) (pAt d k)).1, 0) from (if_pos h1).trans ((if_pos h2).trans (if_pos h3))]
    unfold oDB at hM
    rw [h3] at hM
    repeat' (first | refine R.mv rfl ?_ | refine R.reg ?_ | refine R.nil ?_ | refine R.seq ?_ | refine R.nseq ?_ | refine R.nblk ?_ | refine R.skip ?_ | refine R.blk ?_ | refine R.exit rfl ?_ | refine R.gRun rfl ?_ | refine R.gSkip rfl ?_ | refine R.gSkip0 rfl ?_ | refine R.gUndef rfl ?_ | refine R.gUndef0 rfl ?_ | refine R.ldEp rfl rfl (by assumption) rfl rfl ?_ | refine R.ldaEp rfl rfl (by assumption) (Nat.le_of_ble_eq_true rfl) rfl rfl ?_ | refine R.ld rfl rfl rfl ?_ | refine R.lda rfl rfl (Nat.le_of_ble_eq_true rfl) rfl ?_ | refine R.fa rfl rfl ?_ | refine R.lenM rfl ?_ | refine R.lenO rfl rfl ?_ | refine R.len rfl rfl ?_ | refine R.eql rfl rfl ?_ | refine R.pickT rfl rfl ?_ | refine R.pickF rfl rfl ?_ | refine R.not rfl ?_ | refine R.mvU rfl ?_ | refine R.ext rfl rfl ?_ | refine R.al rfl ?_ | refine R.box rfl rfl rfl ?_ | refine R.stoB rfl rfl rfl rfl ⟨rfl, rfl, Nat.le_of_ble_eq_true rfl⟩ rfl ?_ | refine R.stoE _ rfl rfl rfl rfl rfl (by assumption) rfl ⟨rfl, rfl, Nat.le_of_ble_eq_true rfl⟩ ?_ | refine R.bld rfl rfl ?_ | refine R.condT rfl ?_ | refine R.condF rfl ?_ | refine R.call (bor := false) rfl rfl (hV) rfl rfl rfl ?_ | refine R.call (bor := true) rfl rfl (hV) rfl rfl rfl ?_ | refine R.fcal (bor := false) rfl rfl (hV) rfl rfl rfl ?_ | refine R.fcal (bor := true) rfl rfl (hV) rfl rfl rfl ?_ | refine R.call (bor := false) rfl rfl (hI) rfl rfl rfl ?_ | refine R.call (bor := true) rfl rfl (hI) rfl rfl rfl ?_ | refine R.fcal (bor := false) rfl rfl (hI) rfl rfl rfl ?_ | refine R.fcal (bor := true) rfl rfl (hI) rfl rfl rfl ?_ | refine R.call (bor := false) rfl rfl (hK) rfl rfl rfl ?_ | refine R.call (bor := true) rfl rfl (hK) rfl rfl rfl ?_ | refine R.fcal (bor := false) rfl rfl (hK) rfl rfl rfl ?_ | refine R.fcal (bor := true) rfl rfl (hK) rfl rfl rfl ?_ | refine R.callN1 (bor := false) rfl rfl (hM) rfl rfl ?_ | refine R.callN1 (bor := true) rfl rfl (hM) rfl rfl ?_ | refine R.callN (bor := false) rfl rfl (hM) rfl rfl rfl rfl rfl ?_ | refine R.callN (bor := true) rfl rfl (hM) rfl rfl rfl rfl rfl ?_ | refine R.cond rfl (fun hc => ?_) (fun hc => ?_) | refine R.condN rfl (fun hc => ?_) (fun hc => ?_) | refine R.condB rfl (fun hc => ?_) (fun hc => ?_) | refine R.gP rfl (fun hc => ?_) (fun hc => ?_) | refine R.gN rfl (fun hc => ?_) (fun hc => ?_) | refine R.gB rfl (fun hc => ?_) (fun hc => ?_))
    all_goals first
      | (exfalso; omega)
      | exact R.ret ⟨.inr rfl, R.outR rfl (.cons (R.cell rfl rfl T.ty86 (Nat.le_of_ble_eq_true rfl) rfl) (.cons (R.tmp rfl) .nil)) rfl rfl rfl ⟨by show ¬ (2 = 1); omega, rfl⟩⟩
      | skip
  · rw [show fMP d i k = (eD, 7) from (if_pos h1).trans ((if_pos h2).trans (if_neg h3))]
    unfold oDB at hM
    rw [Bool.eq_false_iff.2 h3] at hM
    repeat' (first | refine R.mv rfl ?_ | refine R.reg ?_ | refine R.nil ?_ | refine R.seq ?_ | refine R.nseq ?_ | refine R.nblk ?_ | refine R.skip ?_ | refine R.blk ?_ | refine R.exit rfl ?_ | refine R.gRun rfl ?_ | refine R.gSkip rfl ?_ | refine R.gSkip0 rfl ?_ | refine R.gUndef rfl ?_ | refine R.gUndef0 rfl ?_ | refine R.ldEp rfl rfl (by assumption) rfl rfl ?_ | refine R.ldaEp rfl rfl (by assumption) (Nat.le_of_ble_eq_true rfl) rfl rfl ?_ | refine R.ld rfl rfl rfl ?_ | refine R.lda rfl rfl (Nat.le_of_ble_eq_true rfl) rfl ?_ | refine R.fa rfl rfl ?_ | refine R.lenM rfl ?_ | refine R.lenO rfl rfl ?_ | refine R.len rfl rfl ?_ | refine R.eql rfl rfl ?_ | refine R.pickT rfl rfl ?_ | refine R.pickF rfl rfl ?_ | refine R.not rfl ?_ | refine R.mvU rfl ?_ | refine R.ext rfl rfl ?_ | refine R.al rfl ?_ | refine R.box rfl rfl rfl ?_ | refine R.stoB rfl rfl rfl rfl ⟨rfl, rfl, Nat.le_of_ble_eq_true rfl⟩ rfl ?_ | refine R.stoE _ rfl rfl rfl rfl rfl (by assumption) rfl ⟨rfl, rfl, Nat.le_of_ble_eq_true rfl⟩ ?_ | refine R.bld rfl rfl ?_ | refine R.condT rfl ?_ | refine R.condF rfl ?_ | refine R.call (bor := false) rfl rfl (hV) rfl rfl rfl ?_ | refine R.call (bor := true) rfl rfl (hV) rfl rfl rfl ?_ | refine R.fcal (bor := false) rfl rfl (hV) rfl rfl rfl ?_ | refine R.fcal (bor := true) rfl rfl (hV) rfl rfl rfl ?_ | refine R.call (bor := false) rfl rfl (hI) rfl rfl rfl ?_ | refine R.call (bor := true) rfl rfl (hI) rfl rfl rfl ?_ | refine R.fcal (bor := false) rfl rfl (hI) rfl rfl rfl ?_ | refine R.fcal (bor := true) rfl rfl (hI) rfl rfl rfl ?_ | refine R.call (bor := false) rfl rfl (hK) rfl rfl rfl ?_ | refine R.call (bor := true) rfl rfl (hK) rfl rfl rfl ?_ | refine R.fcal (bor := false) rfl rfl (hK) rfl rfl rfl ?_ | refine R.fcal (bor := true) rfl rfl (hK) rfl rfl rfl ?_ | refine R.callN1 (bor := false) rfl rfl (hM) rfl rfl ?_ | refine R.callN1 (bor := true) rfl rfl (hM) rfl rfl ?_ | refine R.callN (bor := false) rfl rfl (hM) rfl rfl rfl rfl rfl ?_ | refine R.callN (bor := true) rfl rfl (hM) rfl rfl rfl rfl rfl ?_ | refine R.cond rfl (fun hc => ?_) (fun hc => ?_) | refine R.condN rfl (fun hc => ?_) (fun hc => ?_) | refine R.condB rfl (fun hc => ?_) (fun hc => ?_) | refine R.gP rfl (fun hc => ?_) (fun hc => ?_) | refine R.gN rfl (fun hc => ?_) (fun hc => ?_) | refine R.gB rfl (fun hc => ?_) (fun hc => ?_))
    all_goals first
      | (exfalso; omega)
      | exact R.ret ⟨.inr rfl, R.outW (Weak.reifyBox 6 0 900000 kI rfl rfl rfl) (R.outW (Weak.reifyBox 6 1 900001 kI rfl rfl rfl) (R.outW (Weak.reifyBox 6 2 900002 kPiece rfl rfl rfl) (R.outR rfl (.cons (R.cell rfl rfl T.ty86 (Nat.le_of_ble_eq_true rfl) rfl) (.cons (R.tmp rfl) .nil)) rfl rfl rfl ⟨by show ¬ (2 = 1); omega, rfl⟩)))⟩
      | skip
end Go.Proofs.Ytnkfbodolbfjpaa
