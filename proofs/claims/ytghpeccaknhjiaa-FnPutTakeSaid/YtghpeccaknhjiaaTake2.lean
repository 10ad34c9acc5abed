/- A tile is taken: the reference. -/
import Derived.Test.YtghpeccaknhjiaaTake1
namespace Go.Proofs.Ytghpeccaknhjiaa
open Go.RowKit
def S.t14_0 : OT SR := .take ⟨(.some 5), .none, .false, (.mv (.const (Go.Value.int Go.IntKind.i64 0)))⟩ .done
def S.t14_1 : OT SR := .take ⟨.none, .none, .false, (.sto 1 (.tmp 4) (.tmp 27))⟩ S.t14_0
def S.t14_2 : OT SR := .take ⟨(.some 27), .none, .false, (.bld [(Go.Value.slice none 0 0)] [(0, 1)] [(0, (.tmp 26))])⟩ S.t14_1
def S.t14_3 : OT SR := .take ⟨(.some 26), .none, .false, (.app (.mk 50 3) 24 (.tmp 20) (.tmp 25))⟩ S.t14_2
def S.t14_4 : OT SR := .take ⟨(.some 25), .none, .false, (.slc (.mk 50 3) (.tmp 22) (.some (.tmp 24)) .none)⟩ S.t14_3
def S.t14_5 : OT SR := .take ⟨(.some 24), .none, .false, (.bin .add (.tmp 23) (.const (Go.Value.int Go.IntKind.i64 1)))⟩ S.t14_4
def S.t14_6 : OT SR := .take ⟨(.some 20), .none, .false, (.app (.mk 50 3) 24 (.tmp 15) (.tmp 19))⟩ S.t14_5
def S.t14_7 : OT SR := .take ⟨(.some 20), .none, .false, (.app (.mk 50 3) 24 (.tmp 15) (.tmp 19))⟩ S.t14_4
def S.t14_8 : OT SR := .take ⟨(.some 20), .none, .false, (.app (.mk 50 3) 24 (.tmp 15) (.tmp 19))⟩ S.t14_3
def S.t14_9 : OT SR := .take ⟨(.some 25), .none, .false, (.slc (.mk 50 3) (.tmp 22) (.some (.tmp 24)) .none)⟩ S.t14_8
def S.t14_10 : OT SR := .both S.t14_7 S.t14_9
def S.t14_11 : OT SR := .take ⟨(.some 24), .none, .false, (.bin .add (.tmp 23) (.const (Go.Value.int Go.IntKind.i64 1)))⟩ S.t14_10
def S.t14_12 : OT SR := .both S.t14_6 S.t14_11
def S.t14_13 : OT SR := .take ⟨(.some 19), .none, .false, (.slc (.mk 50 3) (.tmp 17) .none (.some (.tmp 18)))⟩ S.t14_12
def S.t14_14 : OT SR := .take ⟨(.some 19), .none, .false, (.slc (.mk 50 3) (.tmp 17) .none (.some (.tmp 18)))⟩ S.t14_10
def S.t14_15 : OT SR := .take ⟨(.some 19), .none, .false, (.slc (.mk 50 3) (.tmp 17) .none (.some (.tmp 18)))⟩ S.t14_8
def S.t14_16 : OT SR := .take ⟨(.some 25), .none, .false, (.slc (.mk 50 3) (.tmp 22) (.some (.tmp 24)) .none)⟩ S.t14_15
def S.t14_17 : OT SR := .both S.t14_14 S.t14_16
def S.t14_18 : OT SR := .take ⟨(.some 24), .none, .false, (.bin .add (.tmp 23) (.const (Go.Value.int Go.IntKind.i64 1)))⟩ S.t14_17
def S.t14_19 : OT SR := .both S.t14_13 S.t14_18
def S.t14_20 : OT SR := .take ⟨(.some 15), .none, .false, (.bsl (.mk 50 3) 0 [])⟩ S.t14_19
def S.t14_21 : OT SR := .take ⟨(.some 15), .none, .false, (.bsl (.mk 50 3) 0 [])⟩ S.t14_12
def S.t14_22 : OT SR := .take ⟨(.some 15), .none, .false, (.bsl (.mk 50 3) 0 [])⟩ S.t14_10
def S.t14_23 : OT SR := .take ⟨(.some 15), .none, .false, (.bsl (.mk 50 3) 0 [])⟩ S.t14_8
def S.t14_24 : OT SR := .take ⟨(.some 25), .none, .false, (.slc (.mk 50 3) (.tmp 22) (.some (.tmp 24)) .none)⟩ S.t14_23
def S.t14_25 : OT SR := .both S.t14_22 S.t14_24
def S.t14_26 : OT SR := .take ⟨(.some 24), .none, .false, (.bin .add (.tmp 23) (.const (Go.Value.int Go.IntKind.i64 1)))⟩ S.t14_25
def S.t14_27 : OT SR := .both S.t14_21 S.t14_26
def S.t14_28 : OT SR := .take ⟨(.some 19), .none, .false, (.slc (.mk 50 3) (.tmp 17) .none (.some (.tmp 18)))⟩ S.t14_27
def S.t14_29 : OT SR := .take ⟨(.some 15), .none, .false, (.bsl (.mk 50 3) 0 [])⟩ S.t14_17
def S.t14_30 : OT SR := .take ⟨(.some 19), .none, .false, (.slc (.mk 50 3) (.tmp 17) .none (.some (.tmp 18)))⟩ S.t14_25
def S.t14_31 : OT SR := .take ⟨(.some 15), .none, .false, (.bsl (.mk 50 3) 0 [])⟩ S.t14_15
def S.t14_32 : OT SR := .take ⟨(.some 19), .none, .false, (.slc (.mk 50 3) (.tmp 17) .none (.some (.tmp 18)))⟩ S.t14_23
def S.t14_33 : OT SR := .both S.t14_31 S.t14_32
def S.t14_34 : OT SR := .take ⟨(.some 25), .none, .false, (.slc (.mk 50 3) (.tmp 22) (.some (.tmp 24)) .none)⟩ S.t14_33
def S.t14_35 : OT SR := .both S.t14_30 S.t14_34
def S.t14_36 : OT SR := .both S.t14_29 S.t14_35
def S.t14_37 : OT SR := .take ⟨(.some 24), .none, .false, (.bin .add (.tmp 23) (.const (Go.Value.int Go.IntKind.i64 1)))⟩ S.t14_36
def S.t14_38 : OT SR := .both S.t14_28 S.t14_37
def S.t14_39 : OT SR := .both S.t14_20 S.t14_38
def S.t14_40 : OT SR := .take ⟨(.some 22), .none, .false, (.ld .false 1 (.tmp 21))⟩ S.t14_39
def S.t14_41 : OT SR := .take ⟨(.some 22), .none, .false, (.ld .false 1 (.tmp 21))⟩ S.t14_19
def S.t14_42 : OT SR := .take ⟨(.some 22), .none, .false, (.ld .false 1 (.tmp 21))⟩ S.t14_12
def S.t14_43 : OT SR := .take ⟨(.some 22), .none, .false, (.ld .false 1 (.tmp 21))⟩ S.t14_5
def S.t14_44 : OT SR := .take ⟨(.some 22), .none, .false, (.ld .false 1 (.tmp 21))⟩ S.t14_4
def S.t14_45 : OT SR := .both S.t14_44 .vac
def S.t14_46 : OT SR := .take ⟨(.some 24), .none, .false, (.bin .add (.tmp 23) (.const (Go.Value.int Go.IntKind.i64 1)))⟩ S.t14_45
def S.t14_47 : OT SR := .both S.t14_43 S.t14_46
def S.t14_48 : OT SR := .take ⟨(.some 20), .none, .false, (.app (.mk 50 3) 24 (.tmp 15) (.tmp 19))⟩ S.t14_47
def S.t14_49 : OT SR := .take ⟨(.some 22), .none, .false, (.ld .false 1 (.tmp 21))⟩ S.t14_10
def S.t14_50 : OT SR := .take ⟨(.some 20), .none, .false, (.app (.mk 50 3) 24 (.tmp 15) (.tmp 19))⟩ S.t14_45
def S.t14_51 : OT SR := .both S.t14_49 S.t14_50
def S.t14_52 : OT SR := .take ⟨(.some 24), .none, .false, (.bin .add (.tmp 23) (.const (Go.Value.int Go.IntKind.i64 1)))⟩ S.t14_51
def S.t14_53 : OT SR := .both S.t14_48 S.t14_52
def S.t14_54 : OT SR := .both S.t14_42 S.t14_53
def S.t14_55 : OT SR := .take ⟨(.some 19), .none, .false, (.slc (.mk 50 3) (.tmp 17) .none (.some (.tmp 18)))⟩ S.t14_54
def S.t14_56 : OT SR := .take ⟨(.some 22), .none, .false, (.ld .false 1 (.tmp 21))⟩ S.t14_17
def S.t14_57 : OT SR := .take ⟨(.some 19), .none, .false, (.slc (.mk 50 3) (.tmp 17) .none (.some (.tmp 18)))⟩ S.t14_51
def S.t14_58 : OT SR := .both S.t14_56 S.t14_57
def S.t14_59 : OT SR := .take ⟨(.some 24), .none, .false, (.bin .add (.tmp 23) (.const (Go.Value.int Go.IntKind.i64 1)))⟩ S.t14_58
def S.t14_60 : OT SR := .both S.t14_55 S.t14_59
def S.t14_61 : OT SR := .both S.t14_41 S.t14_60
def S.t14_62 : OT SR := .take ⟨(.some 15), .none, .false, (.bsl (.mk 50 3) 0 [])⟩ S.t14_61
def S.t14_63 : OT SR := .take ⟨(.some 22), .none, .false, (.ld .false 1 (.tmp 21))⟩ S.t14_27
def S.t14_64 : OT SR := .take ⟨(.some 15), .none, .false, (.bsl (.mk 50 3) 0 [])⟩ S.t14_54
def S.t14_65 : OT SR := .take ⟨(.some 22), .none, .false, (.ld .false 1 (.tmp 21))⟩ S.t14_25
def S.t14_66 : OT SR := .take ⟨(.some 15), .none, .false, (.bsl (.mk 50 3) 0 [])⟩ S.t14_51
def S.t14_67 : OT SR := .both S.t14_65 S.t14_66
def S.t14_68 : OT SR := .take ⟨(.some 24), .none, .false, (.bin .add (.tmp 23) (.const (Go.Value.int Go.IntKind.i64 1)))⟩ S.t14_67
def S.t14_69 : OT SR := .both S.t14_64 S.t14_68
def S.t14_70 : OT SR := .both S.t14_63 S.t14_69
def S.t14_71 : OT SR := .take ⟨(.some 19), .none, .false, (.slc (.mk 50 3) (.tmp 17) .none (.some (.tmp 18)))⟩ S.t14_70
def S.t14_72 : OT SR := .take ⟨(.some 22), .none, .false, (.ld .false 1 (.tmp 21))⟩ S.t14_36
def S.t14_73 : OT SR := .take ⟨(.some 15), .none, .false, (.bsl (.mk 50 3) 0 [])⟩ S.t14_58
def S.t14_74 : OT SR := .take ⟨(.some 19), .none, .false, (.slc (.mk 50 3) (.tmp 17) .none (.some (.tmp 18)))⟩ S.t14_67
def S.t14_75 : OT SR := .both S.t14_73 S.t14_74
def S.t14_76 : OT SR := .both S.t14_72 S.t14_75
def S.t14_77 : OT SR := .take ⟨(.some 24), .none, .false, (.bin .add (.tmp 23) (.const (Go.Value.int Go.IntKind.i64 1)))⟩ S.t14_76
def S.t14_78 : OT SR := .both S.t14_71 S.t14_77
def S.t14_79 : OT SR := .both S.t14_62 S.t14_78
def S.t14_80 : OT SR := .both S.t14_40 S.t14_79
def S.t14_81 : OT SR := .take ⟨(.some 17), .none, .false, (.ld .false 1 (.tmp 16))⟩ S.t14_80
def S.t14_82 : OT SR := .take ⟨(.some 17), .none, .false, (.ld .false 1 (.tmp 16))⟩ S.t14_19
def S.t14_83 : OT SR := .take ⟨(.some 17), .none, .false, (.ld .false 1 (.tmp 16))⟩ S.t14_17
def S.t14_84 : OT SR := .take ⟨(.some 17), .none, .false, (.ld .false 1 (.tmp 16))⟩ S.t14_15
def S.t14_85 : OT SR := .both S.t14_84 .vac
def S.t14_86 : OT SR := .take ⟨(.some 25), .none, .false, (.slc (.mk 50 3) (.tmp 22) (.some (.tmp 24)) .none)⟩ S.t14_85
def S.t14_87 : OT SR := .both S.t14_83 S.t14_86
def S.t14_88 : OT SR := .take ⟨(.some 24), .none, .false, (.bin .add (.tmp 23) (.const (Go.Value.int Go.IntKind.i64 1)))⟩ S.t14_87
def S.t14_89 : OT SR := .both S.t14_82 S.t14_88
def S.t14_90 : OT SR := .take ⟨(.some 15), .none, .false, (.bsl (.mk 50 3) 0 [])⟩ S.t14_89
def S.t14_91 : OT SR := .take ⟨(.some 17), .none, .false, (.ld .false 1 (.tmp 16))⟩ S.t14_36
def S.t14_92 : OT SR := .take ⟨(.some 15), .none, .false, (.bsl (.mk 50 3) 0 [])⟩ S.t14_87
def S.t14_93 : OT SR := .take ⟨(.some 17), .none, .false, (.ld .false 1 (.tmp 16))⟩ S.t14_33
def S.t14_94 : OT SR := .take ⟨(.some 15), .none, .false, (.bsl (.mk 50 3) 0 [])⟩ S.t14_85
def S.t14_95 : OT SR := .both S.t14_93 S.t14_94
def S.t14_96 : OT SR := .take ⟨(.some 25), .none, .false, (.slc (.mk 50 3) (.tmp 22) (.some (.tmp 24)) .none)⟩ S.t14_95
def S.t14_97 : OT SR := .both S.t14_92 S.t14_96
def S.t14_98 : OT SR := .both S.t14_91 S.t14_97
def S.t14_99 : OT SR := .take ⟨(.some 24), .none, .false, (.bin .add (.tmp 23) (.const (Go.Value.int Go.IntKind.i64 1)))⟩ S.t14_98
def S.t14_100 : OT SR := .both S.t14_90 S.t14_99
def S.t14_101 : OT SR := .take ⟨(.some 22), .none, .false, (.ld .false 1 (.tmp 21))⟩ S.t14_100
def S.t14_102 : OT SR := .take ⟨(.some 17), .none, .false, (.ld .false 1 (.tmp 16))⟩ S.t14_61
def S.t14_103 : OT SR := .take ⟨(.some 22), .none, .false, (.ld .false 1 (.tmp 21))⟩ S.t14_88
def S.t14_104 : OT SR := .take ⟨(.some 17), .none, .false, (.ld .false 1 (.tmp 16))⟩ S.t14_58
def S.t14_105 : OT SR := .take ⟨(.some 22), .none, .false, (.ld .false 1 (.tmp 21))⟩ S.t14_86
def S.t14_106 : OT SR := .both S.t14_105 .vac
def S.t14_107 : OT SR := .both S.t14_104 S.t14_106
def S.t14_108 : OT SR := .take ⟨(.some 24), .none, .false, (.bin .add (.tmp 23) (.const (Go.Value.int Go.IntKind.i64 1)))⟩ S.t14_107
def S.t14_109 : OT SR := .both S.t14_103 S.t14_108
def S.t14_110 : OT SR := .both S.t14_102 S.t14_109
def S.t14_111 : OT SR := .take ⟨(.some 15), .none, .false, (.bsl (.mk 50 3) 0 [])⟩ S.t14_110
def S.t14_112 : OT SR := .take ⟨(.some 17), .none, .false, (.ld .false 1 (.tmp 16))⟩ S.t14_76
def S.t14_113 : OT SR := .take ⟨(.some 22), .none, .false, (.ld .false 1 (.tmp 21))⟩ S.t14_97
def S.t14_114 : OT SR := .take ⟨(.some 15), .none, .false, (.bsl (.mk 50 3) 0 [])⟩ S.t14_107
def S.t14_115 : OT SR := .both S.t14_113 S.t14_114
def S.t14_116 : OT SR := .both S.t14_112 S.t14_115
def S.t14_117 : OT SR := .take ⟨(.some 24), .none, .false, (.bin .add (.tmp 23) (.const (Go.Value.int Go.IntKind.i64 1)))⟩ S.t14_116
def S.t14_118 : OT SR := .both S.t14_111 S.t14_117
def S.t14_119 : OT SR := .both S.t14_101 S.t14_118
def S.t14_120 : OT SR := .both S.t14_81 S.t14_119
def S.t14_121 : OT SR := .take ⟨(.some 23), .none, .false, (.mv (.tmp 6))⟩ S.t14_120
def S.t14_122 : OT SR := .take ⟨(.some 21), .none, .false, (.fa 0 (.tmp 2))⟩ S.t14_121
def S.t14_123 : OT SR := .take ⟨(.some 18), .none, .false, (.mv (.tmp 6))⟩ S.t14_122
def S.t14_124 : OT SR := .take ⟨(.some 16), .none, .false, (.fa 0 (.tmp 2))⟩ S.t14_123
set_option maxRecDepth 100000 in
def S.s14 : SC := (.seq (.reg [⟨(.some 2), .none, .false, (.box 30 (.tmp 0))⟩, ⟨(.some 3), .none, .false, (.box 34 (.tmp 1))⟩, ⟨(.some 4), .none, .false, (.al 30 [(Go.Value.slice none 0 0)])⟩, ⟨(.some 5), .none, .false, (.mv (.const (Go.Value.int Go.IntKind.i64 0)))⟩]) (.seq (.seq (.reg [⟨(.some 7), .none, .false, (.call (.func 23) [(.tmp 2)])⟩, ⟨(.some 8), .none, .false, (.not (.tmp 7))⟩]) (.cond (.tmp 8) (.seq (.reg [⟨(.some 9), .none, .false, (.bld [(Go.Value.slice none 0 0)] [(0, 1)] [])⟩, ⟨.none, .none, .false, (.sto 1 (.tmp 4) (.tmp 9))⟩, ⟨(.some 5), .none, .false, (.mv (.const (Go.Value.int Go.IntKind.i64 1)))⟩]) .ret) .skip)) (.seq (.reg [⟨(.some 10), .none, .false, (.ld .true 2 (.tmp 3))⟩, ⟨(.some 11), .none, .false, (.call (.func 26) [(.tmp 2), (.tmp 10)])⟩, ⟨(.some 6), .none, .false, (.mv (.tmp 11))⟩]) (.seq (.seq (.reg [⟨(.some 12), .none, .false, (.mv (.tmp 6))⟩, ⟨(.some 13), .none, .false, (.bin .lss (.tmp 12) (.const (Go.Value.int Go.IntKind.i64 0)))⟩]) (.cond (.tmp 13) (.seq (.reg [⟨(.some 14), .none, .false, (.bld [(Go.Value.slice none 0 0)] [(0, 1)] [])⟩, ⟨.none, .none, .false, (.sto 1 (.tmp 4) (.tmp 14))⟩, ⟨(.some 5), .none, .false, (.mv (.const (Go.Value.int Go.IntKind.i64 3)))⟩]) .ret) .skip)) (.seq (.regO S.t14_124) .ret)))))
set_option maxRecDepth 100000 in
theorem S.ok14 : stripF Try.prog Try.f14 = some S.s14 := by kernel_rfl
set_option maxRecDepth 10000
set_option maxHeartbeats 4000000
theorem slc_take (l : List TPlaced) (n : Nat) : sliceOf (l.map enPlaced) 0 n = (l.take n).map enPlaced := by
  unfold sliceOf
  rw [List.drop_zero, List.map_take]
  rfl
theorem slc_drop (l : List TPlaced) (n : Nat) : sliceOf (l.map enPlaced) n l.length = (l.drop n).map enPlaced := by
  unfold sliceOf
  rw [List.map_drop, List.take_of_length_le (by simp)]
theorem take_at {l : List TPlaced} {p : TPoint} {n : Nat} (hs : atTo l l.length) (hn : idxOf (isAt p) l = n) (hlt : n < l.length) : l.take n ++ l.drop (n + 1) = l.filter fun a => !decide (a.fAt ∈ [p]) := by
  unfold idxOf at hn
  cases hf : l.findIdx? (isAt p) with
  | none => rw [hf] at hn; simp at hn
  | some i =>
    rw [hf] at hn
    obtain rfl : i = n := by have hn : (i : Int) = (n : Int) := hn; omega
    rw [List.findIdx?_eq_some_iff_getElem] at hf
    obtain ⟨hi, h1, h2⟩ := hf
    have he : l[i].fAt = p := by simpa [isAt] using h1
    have e1 : l = l.take i ++ l[i] :: l.drop (i + 1) := by rw [List.getElem_cons_drop, List.take_append_drop]
    have e2 : (l.take i).filter (fun a => !decide (a.fAt ∈ [p])) = l.take i := by
      rw [List.filter_eq_self]
      intro a ha
      obtain ⟨j, hj, rfl⟩ := List.mem_take_iff_getElem.1 ha
      have := h2 j (by omega)
      simpa [isAt] using this
    have e3 : (l.drop (i + 1)).filter (fun a => !decide (a.fAt ∈ [p])) = l.drop (i + 1) := by
      rw [List.filter_eq_self]
      intro a ha
      obtain ⟨j, hj, rfl⟩ := List.mem_drop_iff_getElem.1 ha
      have := at_lt hs (i := i) (j := i + 1 + j) (by omega) (List.getElem?_eq_getElem hi) (List.getElem?_eq_getElem (by omega))
      rw [he] at this
      simp only [List.mem_singleton, Bool.not_eq_true', decide_eq_false_iff_not]
      intro hp
      rw [hp] at this
      exact ltP_irrefl p this
    conv => rhs; rw [e1]
    rw [List.filter_append, List.filter_cons, e2, e3]
    simp [he]
theorem sTake (A : TAssembly) (p : TPoint) : Spec Try.prog 14 [.agg (enAssembly A), .agg (enPoint p)] (oAC (fTake A p)) := by
  refine Spec.walk T.mixed Try.func14 S.ok14 (by simp [Try.f14]) fun hk => ?_
  clear hk
  unfold S.s14
  by_cases h1 : okA A.fTiles
  case neg =>
    rw [show fTake A p = ([], 1) from if_neg h1]
    repeat' (first | refine R.mv rfl ?_ | refine R.reg ?_ | refine R.tk ?_ | refine R.tkN ?_ | exact R.vac | refine R.both ?_ ?_ | refine R.nil ?_ | refine R.seq ?_ | refine R.nseq ?_ | refine R.nblk ?_ | refine R.skip ?_ | refine R.blk ?_ | refine R.exit rfl ?_ | refine R.ldEp rfl rfl (by assumption) rfl rfl ?_ | refine R.ldaEp rfl rfl (by assumption) (Nat.le_of_ble_eq_true rfl) rfl rfl ?_ | refine R.ld rfl rfl rfl ?_ | refine R.lda rfl rfl (Nat.le_of_ble_eq_true rfl) rfl ?_ | refine R.fa rfl rfl ?_ | refine R.lss rfl rfl ?_ | refine R.add rfl rfl (by omega) ?_ | refine R.not rfl ?_ | refine R.al rfl ?_ | refine R.box rfl rfl rfl ?_ | refine R.stoB rfl rfl rfl rfl ⟨rfl, rfl, Nat.le_of_ble_eq_true rfl⟩ rfl ?_ | refine R.stoE _ rfl rfl rfl rfl rfl (by assumption) rfl ⟨rfl, rfl, Nat.le_of_ble_eq_true rfl⟩ ?_ | refine R.bld rfl rfl ?_ | refine R.condT rfl ?_ | refine R.condF rfl ?_ | refine R.call (bor := false) rfl rfl (sHasF h1) rfl rfl rfl ?_ | refine R.call (bor := true) rfl rfl (sHasF h1) rfl rfl rfl ?_ | refine R.fcal (bor := false) rfl rfl (sHasF h1) rfl rfl rfl ?_ | refine R.fcal (bor := true) rfl rfl (sHasF h1) rfl rfl rfl ?_ | refine R.cond rfl (fun hc => ?_) (fun hc => ?_) | refine R.condN rfl (fun hc => ?_) (fun hc => ?_) | refine R.condB rfl (fun hc => ?_) (fun hc => ?_))
    all_goals first
      | (exfalso; omega)
      | exact R.ret ⟨.inr rfl, R.outSNil rfl rfl rfl T.ty30 rfl rfl rfl⟩
      | skip
  by_cases h2 : idxOf (isAt p) A.fTiles < 0
  · rw [show fTake A p = ([], 3) from (if_pos h1).trans (if_pos (by rw [idxAt_neg h2]; decide))]
    repeat' (first | refine R.mv rfl ?_ | refine R.reg ?_ | refine R.tk ?_ | refine R.tkN ?_ | exact R.vac | refine R.both ?_ ?_ | refine R.nil ?_ | refine R.seq ?_ | refine R.nseq ?_ | refine R.nblk ?_ | refine R.skip ?_ | refine R.blk ?_ | refine R.exit rfl ?_ | refine R.ldEp rfl rfl (by assumption) rfl rfl ?_ | refine R.ldaEp rfl rfl (by assumption) (Nat.le_of_ble_eq_true rfl) rfl rfl ?_ | refine R.ld rfl rfl rfl ?_ | refine R.lda rfl rfl (Nat.le_of_ble_eq_true rfl) rfl ?_ | refine R.fa rfl rfl ?_ | refine R.lss rfl rfl ?_ | refine R.add rfl rfl (by omega) ?_ | refine R.not rfl ?_ | refine R.al rfl ?_ | refine R.box rfl rfl rfl ?_ | refine R.stoB rfl rfl rfl rfl ⟨rfl, rfl, Nat.le_of_ble_eq_true rfl⟩ rfl ?_ | refine R.stoE _ rfl rfl rfl rfl rfl (by assumption) rfl ⟨rfl, rfl, Nat.le_of_ble_eq_true rfl⟩ ?_ | refine R.bld rfl rfl ?_ | refine R.condT rfl ?_ | refine R.condF rfl ?_ | refine R.call (bor := false) rfl rfl (sHasT h1) rfl rfl rfl ?_ | refine R.call (bor := true) rfl rfl (sHasT h1) rfl rfl rfl ?_ | refine R.fcal (bor := false) rfl rfl (sHasT h1) rfl rfl rfl ?_ | refine R.fcal (bor := true) rfl rfl (sHasT h1) rfl rfl rfl ?_ | refine R.call (bor := false) rfl rfl (sIndexAt A p h1) rfl rfl rfl ?_ | refine R.call (bor := true) rfl rfl (sIndexAt A p h1) rfl rfl rfl ?_ | refine R.fcal (bor := false) rfl rfl (sIndexAt A p h1) rfl rfl rfl ?_ | refine R.fcal (bor := true) rfl rfl (sIndexAt A p h1) rfl rfl rfl ?_ | refine R.cond rfl (fun hc => ?_) (fun hc => ?_) | refine R.condN rfl (fun hc => ?_) (fun hc => ?_) | refine R.condB rfl (fun hc => ?_) (fun hc => ?_))
    all_goals first
      | (exfalso; omega)
      | exact R.ret ⟨.inr rfl, R.outSNil rfl rfl rfl T.ty30 rfl rfl rfl⟩
      | skip
  obtain ⟨n, hn, hlt⟩ := idxAt_lt h2
  have h3 : ¬ tileAt A.fTiles p < 0 := by
    have ht := idxAt_tile hn (List.getElem?_eq_getElem hlt)
    rw [ht]
    have := (h1.2 n _ hlt (List.getElem?_eq_getElem hlt)).1.2.1
    omega
  have hfil := take_at h1.2 hn hlt
  have hl5 := h1.1
  rw [show fTake A p = (A.fTiles.take n ++ A.fTiles.drop (n + 1), 0) from ((if_pos h1).trans (if_neg h3)).trans (by rw [hfil])]
  have hI := sIndexAt A p h1
  rw [hn] at hI
  have hlt1 : (A.fTiles.take n).length = n := by rw [List.length_take]; omega
  have hld : (A.fTiles.drop (n + 1)).length = A.fTiles.length - (n + 1) := List.length_drop ..
  repeat' (first | refine R.mv rfl ?_ | refine R.reg ?_ | refine R.tk ?_ | refine R.tkN ?_ | exact R.vac | refine R.both ?_ ?_ | refine R.nil ?_ | refine R.seq ?_ | refine R.nseq ?_ | refine R.nblk ?_ | refine R.skip ?_ | refine R.blk ?_ | refine R.exit rfl ?_ | refine R.ldEp rfl rfl (by assumption) rfl rfl ?_ | refine R.ldaEp rfl rfl (by assumption) (Nat.le_of_ble_eq_true rfl) rfl rfl ?_ | refine R.ld rfl rfl rfl ?_ | refine R.lda rfl rfl (Nat.le_of_ble_eq_true rfl) rfl ?_ | refine R.fa rfl rfl ?_ | refine R.lss rfl rfl ?_ | refine R.add rfl rfl (by omega) ?_ | refine R.not rfl ?_ | refine R.al rfl ?_ | refine R.box rfl rfl rfl ?_ | refine R.stoB rfl rfl rfl rfl ⟨rfl, rfl, Nat.le_of_ble_eq_true rfl⟩ rfl ?_ | refine R.stoE _ rfl rfl rfl rfl rfl (by assumption) rfl ⟨rfl, rfl, Nat.le_of_ble_eq_true rfl⟩ ?_ | refine R.bld rfl rfl ?_ | refine R.condT rfl ?_ | refine R.condF rfl ?_ | refine R.call (bor := false) rfl rfl (sHasT h1) rfl rfl rfl ?_ | refine R.call (bor := true) rfl rfl (sHasT h1) rfl rfl rfl ?_ | refine R.fcal (bor := false) rfl rfl (sHasT h1) rfl rfl rfl ?_ | refine R.fcal (bor := true) rfl rfl (sHasT h1) rfl rfl rfl ?_ | refine R.call (bor := false) rfl rfl (hI) rfl rfl rfl ?_ | refine R.call (bor := true) rfl rfl (hI) rfl rfl rfl ?_ | refine R.fcal (bor := false) rfl rfl (hI) rfl rfl rfl ?_ | refine R.fcal (bor := true) rfl rfl (hI) rfl rfl rfl ?_ | refine R.cond rfl (fun hc => ?_) (fun hc => ?_) | refine R.condN rfl (fun hc => ?_) (fun hc => ?_) | refine R.condB rfl (fun hc => ?_) (fun hc => ?_))
  all_goals first | (exfalso; omega) | skip
  refine R.regO (⟨frE [(4, .v (.c (.ptr 4 0))), (5, pvA (.int .i64 0))], frO [(4, .box 30 [.own 15]), (15, .arr kPlaced ((A.fTiles.take n ++ A.fTiles.drop (n + 1)).map enPlaced) [])]⟩) ?_ ?_
  · repeat' (first | refine R.mv rfl ?_ | refine R.reg ?_ | refine R.tk ?_ | refine R.tkN ?_ | exact R.vac | refine R.both ?_ ?_ | refine R.nil ?_ | refine R.seq ?_ | refine R.nseq ?_ | refine R.nblk ?_ | refine R.skip ?_ | refine R.blk ?_ | refine R.exit rfl ?_ | refine R.ldEp rfl rfl (by assumption) rfl rfl ?_ | refine R.ldaEp rfl rfl (by assumption) (Nat.le_of_ble_eq_true rfl) rfl rfl ?_ | refine R.ld rfl rfl rfl ?_ | refine R.lda rfl rfl (Nat.le_of_ble_eq_true rfl) rfl ?_ | refine R.fa rfl rfl ?_ | refine R.lss rfl rfl ?_ | refine R.add rfl rfl (by omega) ?_ | refine R.not rfl ?_ | refine R.al rfl ?_ | refine R.box rfl rfl rfl ?_ | refine R.stoB rfl rfl rfl rfl ⟨rfl, rfl, Nat.le_of_ble_eq_true rfl⟩ rfl ?_ | refine R.stoE _ rfl rfl rfl rfl rfl (by assumption) rfl ⟨rfl, rfl, Nat.le_of_ble_eq_true rfl⟩ ?_ | refine R.bld rfl rfl ?_ | refine R.condT rfl ?_ | refine R.condF rfl ?_ | refine R.bsl (f := enPlaced) ([] : List TPlaced) rfl rfl rfl rfl rfl ?_ | refine R.slc (κ' := kPlaced) 0 n rfl rfl ⟨by omega, by simp; omega⟩ rfl ⟨_, rfl⟩ ?_ | refine R.slc (κ' := kPlaced) (n + 1) A.fTiles.length rfl rfl ⟨by omega, by simp⟩ ⟨_, rfl⟩ (by show _ = _; simp) ?_ | refine R.app (f := enPlaced) (l := ([] : List TPlaced)) (l' := A.fTiles.take n) (fun _ => rfl) rfl rfl rfl rfl (congrArg some (slc_take A.fTiles n)) ⟨by simp only [List.length_nil]; omega, by simp only [List.length_nil]; omega⟩ ?_ | refine R.app (f := enPlaced) (l := ([] ++ A.fTiles.take n)) (l' := A.fTiles.drop (n + 1)) (fun _ => rfl) rfl rfl rfl rfl (congrArg some (slc_drop A.fTiles (n + 1))) ⟨by simp only [List.nil_append]; omega, by simp only [List.nil_append]; omega⟩ ?_ | refine R.cond rfl (fun hc => ?_) (fun hc => ?_) | refine R.condN rfl (fun hc => ?_) (fun hc => ?_) | refine R.condB rfl (fun hc => ?_) (fun hc => ?_))
    all_goals exact R.done (Weak.frame _ _ ⟨rfl, rfl, trivial⟩ ⟨rfl, rfl, trivial⟩ rfl rfl)
  · repeat' (first | refine R.mv rfl ?_ | refine R.reg ?_ | refine R.tk ?_ | refine R.tkN ?_ | exact R.vac | refine R.both ?_ ?_ | refine R.nil ?_ | refine R.seq ?_ | refine R.nseq ?_ | refine R.nblk ?_ | refine R.skip ?_ | refine R.blk ?_ | refine R.exit rfl ?_ | refine R.ldEp rfl rfl (by assumption) rfl rfl ?_ | refine R.ldaEp rfl rfl (by assumption) (Nat.le_of_ble_eq_true rfl) rfl rfl ?_ | refine R.ld rfl rfl rfl ?_ | refine R.lda rfl rfl (Nat.le_of_ble_eq_true rfl) rfl ?_ | refine R.fa rfl rfl ?_ | refine R.lss rfl rfl ?_ | refine R.add rfl rfl (by omega) ?_ | refine R.not rfl ?_ | refine R.al rfl ?_ | refine R.box rfl rfl rfl ?_ | refine R.stoB rfl rfl rfl rfl ⟨rfl, rfl, Nat.le_of_ble_eq_true rfl⟩ rfl ?_ | refine R.stoE _ rfl rfl rfl rfl rfl (by assumption) rfl ⟨rfl, rfl, Nat.le_of_ble_eq_true rfl⟩ ?_ | refine R.bld rfl rfl ?_ | refine R.condT rfl ?_ | refine R.condF rfl ?_ | refine R.cond rfl (fun hc => ?_) (fun hc => ?_) | refine R.condN rfl (fun hc => ?_) (fun hc => ?_) | refine R.condB rfl (fun hc => ?_) (fun hc => ?_))
    all_goals first
      | exact R.ret ⟨.inr rfl, R.outSOwn rfl rfl rfl rfl T.ty30 rfl rfl⟩
      | skip
end Go.Proofs.Ytghpeccaknhjiaa
