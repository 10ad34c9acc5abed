/- Texts of one proof, one behind the other. -/
import Derived.Test.YtehkaajakapkmaaGreatFA16
namespace Go.Proofs.YtehkaajakapkmaaGreat
section
open Go.RowKit
set_option maxRecDepth 100000 in
def S.s27 : SC := (.seq (.reg [⟨(.some 2), .none, .false, (.mv (.const (Go.Value.bool false)))⟩]) (.seq (.seq (.reg [⟨(.some 6), .none, .false, (.mv (.tmp 0))⟩, ⟨(.some 7), .none, .false, (.nc (.tmp 6))⟩, ⟨(.some 8), .none, .false, (.fa 0 (.tmp 7))⟩, ⟨(.some 9), .none, .false, (.ld .false 1 (.tmp 8))⟩, ⟨(.some 10), .none, .false, (.call (.func 63) [(.tmp 9), (.const (Go.Value.int Go.IntKind.i64 1)), (.const (Go.Value.int Go.IntKind.i64 4))])⟩, ⟨(.some 11), .none, .false, (.not (.tmp 10))⟩, ⟨(.some 12), .none, .false, (.mv (.tmp 11))⟩, ⟨(.some 13), (.some (12, .false)), .false, (.mv (.tmp 0))⟩, ⟨(.some 14), (.some (12, .false)), .false, (.nc (.tmp 13))⟩, ⟨(.some 15), (.some (12, .false)), .false, (.fa 1 (.tmp 14))⟩, ⟨(.some 16), (.some (12, .false)), .false, (.ld .false 1 (.tmp 15))⟩, ⟨(.some 17), (.some (12, .false)), .false, (.len (.tmp 16))⟩, ⟨(.some 18), (.some (12, .false)), .false, (.bin .gtr (.tmp 17) (.const (Go.Value.int Go.IntKind.i64 20)))⟩, ⟨(.some 19), .none, .false, (.pick (.tmp 12) (.const (Go.Value.bool true)) (.tmp 18))⟩, ⟨(.some 20), .none, .false, (.mv (.tmp 19))⟩, ⟨(.some 21), (.some (20, .false)), .false, (.mv (.tmp 0))⟩, ⟨(.some 22), (.some (20, .false)), .false, (.nc (.tmp 21))⟩, ⟨(.some 23), (.some (20, .false)), .false, (.fa 2 (.tmp 22))⟩, ⟨(.some 24), (.some (20, .false)), .false, (.ld .false 1 (.tmp 23))⟩, ⟨(.some 25), (.some (20, .false)), .false, (.len (.tmp 24))⟩, ⟨(.some 26), (.some (20, .false)), .false, (.call (.func 63) [(.tmp 25), (.const (Go.Value.int Go.IntKind.i64 1)), (.const (Go.Value.int Go.IntKind.i64 3))])⟩, ⟨(.some 27), (.some (20, .false)), .false, (.not (.tmp 26))⟩, ⟨(.some 28), .none, .false, (.pick (.tmp 20) (.const (Go.Value.bool true)) (.tmp 27))⟩]) (.cond (.tmp 28) (.seq (.reg [⟨(.some 2), .none, .false, (.mv (.const (Go.Value.bool false)))⟩]) .ret) .skip)) (.seq (.seq (.reg [⟨(.some 3), .none, .false, (.mv (.const (Go.Value.int Go.IntKind.i64 0)))⟩]) (.block 0 (.loop (.seq (.seq (.reg [⟨(.some 29), .none, .false, (.mv (.tmp 3))⟩, ⟨(.some 30), .none, .false, (.mv (.tmp 0))⟩, ⟨(.some 31), .none, .false, (.nc (.tmp 30))⟩, ⟨(.some 32), .none, .false, (.fa 1 (.tmp 31))⟩, ⟨(.some 33), .none, .false, (.ld .false 1 (.tmp 32))⟩, ⟨(.some 34), .none, .false, (.len (.tmp 33))⟩, ⟨(.some 35), .none, .false, (.bin .lss (.tmp 29) (.tmp 34))⟩]) (.cond (.tmp 35) .skip (.exit 0))) (.seq (.block 1 (.seq (.reg [⟨(.some 38), .none, .false, (.mv (.tmp 0))⟩, ⟨(.some 39), .none, .false, (.nc (.tmp 38))⟩, ⟨(.some 40), .none, .false, (.fa 1 (.tmp 39))⟩, ⟨(.some 41), .none, .false, (.ld .false 1 (.tmp 40))⟩, ⟨(.some 42), .none, .false, (.mv (.tmp 3))⟩, ⟨(.some 43), .none, .false, (.ix (.mk 91 3) (.tmp 41) (.tmp 42))⟩, ⟨(.some 44), .none, .false, (.ld .true 3 (.tmp 43))⟩, ⟨(.some 4), .none, .false, (.al 91 [(Go.Value.int Go.IntKind.i64 0), (Go.Value.int Go.IntKind.i64 0), (Go.Value.int Go.IntKind.i64 0)])⟩, ⟨.none, .none, .false, (.sto 3 (.tmp 4) (.tmp 44))⟩]) (.seq (.reg [⟨(.some 45), .none, .true, (.fa 0 (.tmp 4))⟩, ⟨(.some 46), .none, .true, (.ld .false 1 (.tmp 45))⟩, ⟨(.some 47), .none, .true, (.fcal (.func 63) [(.tmp 46), (.const (Go.Value.int Go.IntKind.i64 1)), (.const (Go.Value.int Go.IntKind.i64 4))])⟩, ⟨(.some 48), .none, .true, (.not (.tmp 47))⟩, ⟨(.some 49), .none, .true, (.mv (.tmp 48))⟩, ⟨(.some 50), (.some (49, .false)), .true, (.fa 1 (.tmp 4))⟩, ⟨(.some 51), (.some (49, .false)), .true, (.ld .false 1 (.tmp 50))⟩, ⟨(.some 52), (.some (49, .false)), .true, (.mv (.tmp 0))⟩, ⟨(.some 53), (.some (49, .false)), .true, (.nc (.tmp 52))⟩, ⟨(.some 54), (.some (49, .false)), .true, (.fa 0 (.tmp 53))⟩, ⟨(.some 55), (.some (49, .false)), .true, (.ld .false 1 (.tmp 54))⟩, ⟨(.some 56), (.some (49, .false)), .true, (.mv (.tmp 3))⟩, ⟨(.some 57), (.some (49, .false)), .true, (.bin .add (.tmp 55) (.tmp 56))⟩, ⟨(.some 58), (.some (49, .false)), .true, (.bin .sub (.tmp 57) (.const (Go.Value.int Go.IntKind.i64 1)))⟩, ⟨(.some 59), (.some (49, .false)), .true, (.fcal (.func 63) [(.tmp 51), (.const (Go.Value.int Go.IntKind.i64 0)), (.tmp 58)])⟩, ⟨(.some 60), (.some (49, .false)), .true, (.not (.tmp 59))⟩, ⟨(.some 61), .none, .true, (.pick (.tmp 49) (.const (Go.Value.bool true)) (.tmp 60))⟩, ⟨(.some 62), .none, .true, (.mv (.tmp 61))⟩, ⟨(.some 63), (.some (62, .false)), .true, (.fa 2 (.tmp 4))⟩, ⟨(.some 64), (.some (62, .false)), .true, (.ld .false 1 (.tmp 63))⟩, ⟨(.some 65), (.some (62, .false)), .true, (.mv (.tmp 0))⟩, ⟨(.some 66), (.some (62, .false)), .true, (.nc (.tmp 65))⟩, ⟨(.some 67), (.some (62, .false)), .true, (.fa 0 (.tmp 66))⟩, ⟨(.some 68), (.some (62, .false)), .true, (.ld .false 1 (.tmp 67))⟩, ⟨(.some 69), (.some (62, .false)), .true, (.mv (.tmp 3))⟩, ⟨(.some 70), (.some (62, .false)), .true, (.bin .add (.tmp 68) (.tmp 69))⟩, ⟨(.some 71), (.some (62, .false)), .true, (.bin .sub (.tmp 70) (.const (Go.Value.int Go.IntKind.i64 1)))⟩, ⟨(.some 72), (.some (62, .false)), .true, (.fcal (.func 63) [(.tmp 64), (.const (Go.Value.int Go.IntKind.i64 0)), (.tmp 71)])⟩, ⟨(.some 73), (.some (62, .false)), .true, (.not (.tmp 72))⟩, ⟨(.some 74), .none, .true, (.pick (.tmp 62) (.const (Go.Value.bool true)) (.tmp 73))⟩, ⟨(.some 75), .none, .true, (.mv (.tmp 74))⟩, ⟨(.some 76), (.some (75, .false)), .true, (.fa 0 (.tmp 4))⟩, ⟨(.some 77), (.some (75, .false)), .true, (.ld .false 1 (.tmp 76))⟩, ⟨(.some 78), (.some (75, .false)), .true, (.bin .eql (.tmp 77) (.const (Go.Value.int Go.IntKind.i64 1)))⟩, ⟨(.some 79), (.some (75, .false)), .true, (.mv (.tmp 78))⟩, ⟨(.some 80), (.some (79, .true)), .true, (.fa 2 (.tmp 4))⟩, ⟨(.some 81), (.some (79, .true)), .true, (.ld .false 1 (.tmp 80))⟩, ⟨(.some 82), (.some (79, .true)), .true, (.fa 1 (.tmp 4))⟩, ⟨(.some 83), (.some (79, .true)), .true, (.ld .false 1 (.tmp 82))⟩, ⟨(.some 84), (.some (79, .true)), .true, (.bin .neq (.tmp 81) (.tmp 83))⟩, ⟨(.some 85), (.some (75, .false)), .true, (.pick (.tmp 79) (.tmp 84) (.const (Go.Value.bool false)))⟩, ⟨(.some 86), .none, .true, (.pick (.tmp 75) (.const (Go.Value.bool true)) (.tmp 85))⟩]) (.cond (.tmp 86) (.seq (.reg [⟨(.some 2), .none, .false, (.mv (.const (Go.Value.bool false)))⟩]) .ret) .skip)))) (.reg [⟨(.some 36), .none, .false, (.mv (.tmp 3))⟩, ⟨(.some 37), .none, .false, (.bin .add (.tmp 36) (.const (Go.Value.int Go.IntKind.i64 1)))⟩, ⟨(.some 3), .none, .false, (.mv (.tmp 37))⟩])))))) (.seq (.seq (.reg [⟨(.some 5), .none, .false, (.mv (.const (Go.Value.int Go.IntKind.i64 0)))⟩]) (.block 2 (.loop (.seq (.seq (.reg [⟨(.some 87), .none, .false, (.mv (.tmp 5))⟩, ⟨(.some 88), .none, .false, (.mv (.tmp 0))⟩, ⟨(.some 89), .none, .false, (.nc (.tmp 88))⟩, ⟨(.some 90), .none, .false, (.fa 2 (.tmp 89))⟩, ⟨(.some 91), .none, .false, (.ld .false 1 (.tmp 90))⟩, ⟨(.some 92), .none, .false, (.len (.tmp 91))⟩, ⟨(.some 93), .none, .false, (.bin .lss (.tmp 87) (.tmp 92))⟩]) (.cond (.tmp 93) .skip (.exit 2))) (.seq (.block 3 (.seq (.reg [⟨(.some 96), .none, .true, (.mv (.tmp 0))⟩, ⟨(.some 97), .none, .true, (.nc (.tmp 96))⟩, ⟨(.some 98), .none, .true, (.fa 2 (.tmp 97))⟩, ⟨(.some 99), .none, .true, (.ld .false 1 (.tmp 98))⟩, ⟨(.some 100), .none, .true, (.mv (.tmp 5))⟩, ⟨(.some 101), .none, .true, (.ix (.mk 2 1) (.tmp 99) (.tmp 100))⟩, ⟨(.some 102), .none, .true, (.ld .false 1 (.tmp 101))⟩, ⟨(.some 103), .none, .true, (.mv (.tmp 0))⟩, ⟨(.some 104), .none, .true, (.nc (.tmp 103))⟩, ⟨(.some 105), .none, .true, (.fa 0 (.tmp 104))⟩, ⟨(.some 106), .none, .true, (.ld .false 1 (.tmp 105))⟩, ⟨(.some 107), .none, .true, (.mv (.tmp 0))⟩, ⟨(.some 108), .none, .true, (.nc (.tmp 107))⟩, ⟨(.some 109), .none, .true, (.fa 1 (.tmp 108))⟩, ⟨(.some 110), .none, .true, (.ld .false 1 (.tmp 109))⟩, ⟨(.some 111), .none, .true, (.len (.tmp 110))⟩, ⟨(.some 112), .none, .true, (.bin .add (.tmp 106) (.tmp 111))⟩, ⟨(.some 113), .none, .true, (.bin .sub (.tmp 112) (.const (Go.Value.int Go.IntKind.i64 1)))⟩, ⟨(.some 114), .none, .false, (.call (.func 63) [(.tmp 102), (.const (Go.Value.int Go.IntKind.i64 0)), (.tmp 113)])⟩, ⟨(.some 115), .none, .false, (.not (.tmp 114))⟩]) (.cond (.tmp 115) (.seq (.reg [⟨(.some 2), .none, .false, (.mv (.const (Go.Value.bool false)))⟩]) .ret) .skip))) (.reg [⟨(.some 94), .none, .false, (.mv (.tmp 5))⟩, ⟨(.some 95), .none, .false, (.bin .add (.tmp 94) (.const (Go.Value.int Go.IntKind.i64 1)))⟩, ⟨(.some 5), .none, .false, (.mv (.tmp 95))⟩])))))) (.seq (.reg [⟨(.some 2), .none, .false, (.mv (.const (Go.Value.bool true)))⟩]) .ret)))))
set_option maxRecDepth 100000 in
theorem S.ok27 : stripF Tryz.prog Tryz.f27 = some S.s27 := by kernel_rfl
set_option maxRecDepth 100000 in
def S.s33 : SC := (.seq (.reg [⟨(.some 1), .none, .false, (.box 35 (.tmp 0))⟩, ⟨(.some 2), .none, .false, (.mv (.const (Go.Value.bool false)))⟩]) (.seq (.seq (.reg [⟨(.some 6), .none, .false, (.fa 0 (.tmp 1))⟩, ⟨(.some 7), .none, .false, (.ld .false 1 (.tmp 6))⟩, ⟨(.some 8), .none, .false, (.call (.func 48) [(.tmp 7)])⟩, ⟨(.some 9), .none, .false, (.not (.tmp 8))⟩, ⟨(.some 10), .none, .false, (.mv (.tmp 9))⟩, ⟨(.some 11), (.some (10, .false)), .false, (.fa 1 (.tmp 1))⟩, ⟨(.some 12), (.some (10, .false)), .false, (.ld .false 1 (.tmp 11))⟩, ⟨(.some 13), (.some (10, .false)), .false, (.len (.tmp 12))⟩, ⟨(.some 14), (.some (10, .false)), .false, (.bin .gtr (.tmp 13) (.const (Go.Value.int Go.IntKind.i64 20)))⟩, ⟨(.some 15), .none, .false, (.pick (.tmp 10) (.const (Go.Value.bool true)) (.tmp 14))⟩, ⟨(.some 16), .none, .false, (.mv (.tmp 15))⟩, ⟨(.some 17), (.some (16, .false)), .false, (.fa 2 (.tmp 1))⟩, ⟨(.some 18), (.some (16, .false)), .false, (.ld .false 1 (.tmp 17))⟩, ⟨(.some 19), (.some (16, .false)), .false, (.len (.tmp 18))⟩, ⟨(.some 20), (.some (16, .false)), .false, (.call (.func 49) [(.tmp 19), (.const (Go.Value.int Go.IntKind.i64 1)), (.const (Go.Value.int Go.IntKind.i64 3))])⟩, ⟨(.some 21), (.some (16, .false)), .false, (.not (.tmp 20))⟩, ⟨(.some 22), .none, .false, (.pick (.tmp 16) (.const (Go.Value.bool true)) (.tmp 21))⟩]) (.cond (.tmp 22) (.seq (.reg [⟨(.some 2), .none, .false, (.mv (.const (Go.Value.bool false)))⟩]) .ret) .skip)) (.seq (.seq (.reg [⟨(.some 23), .none, .false, (.fa 1 (.tmp 1))⟩, ⟨(.some 24), .none, .false, (.ld .false 1 (.tmp 23))⟩, ⟨(.some 25), .none, .false, (.len (.tmp 24))⟩, ⟨(.some 26), .none, .false, (.mv (.const (Go.Value.int Go.IntKind.i64 0)))⟩]) (.block 0 (.loop (.seq (.reg [⟨(.some 27), .none, .false, (.bin .lss (.tmp 26) (.tmp 25))⟩]) (.seq (.cond (.tmp 27) .skip (.exit 0)) (.seq (.block 1 (.seq (.reg [⟨(.some 28), .none, .false, (.mv (.tmp 26))⟩, ⟨(.some 29), .none, .false, (.ix (.mk 91 3) (.tmp 24) (.tmp 26))⟩, ⟨(.some 30), .none, .false, (.ld .true 3 (.tmp 29))⟩, ⟨(.some 4), .none, .false, (.al 91 [(Go.Value.int Go.IntKind.i64 0), (Go.Value.int Go.IntKind.i64 0), (Go.Value.int Go.IntKind.i64 0)])⟩, ⟨(.some 3), .none, .false, (.mv (.tmp 28))⟩, ⟨.none, .none, .false, (.sto 3 (.tmp 4) (.tmp 30))⟩]) (.seq (.reg [⟨(.some 31), .none, .false, (.fa 0 (.tmp 1))⟩, ⟨(.some 32), .none, .false, (.ld .false 1 (.tmp 31))⟩, ⟨(.some 33), .none, .false, (.mv (.tmp 3))⟩, ⟨(.some 34), .none, .false, (.bin .add (.tmp 32) (.tmp 33))⟩, ⟨(.some 5), .none, .false, (.mv (.tmp 34))⟩]) (.seq (.reg [⟨(.some 35), .none, .false, (.fa 0 (.tmp 4))⟩, ⟨(.some 36), .none, .false, (.ld .false 1 (.tmp 35))⟩, ⟨(.some 37), .none, .false, (.call (.func 49) [(.tmp 36), (.const (Go.Value.int Go.IntKind.i64 1)), (.const (Go.Value.int Go.IntKind.i64 4))])⟩, ⟨(.some 38), .none, .false, (.not (.tmp 37))⟩, ⟨(.some 39), .none, .false, (.mv (.tmp 38))⟩, ⟨(.some 40), (.some (39, .false)), .false, (.fa 1 (.tmp 4))⟩, ⟨(.some 41), (.some (39, .false)), .false, (.ld .false 1 (.tmp 40))⟩, ⟨(.some 42), (.some (39, .false)), .false, (.mv (.tmp 5))⟩, ⟨(.some 43), (.some (39, .false)), .false, (.bin .sub (.tmp 42) (.const (Go.Value.int Go.IntKind.i64 1)))⟩, ⟨(.some 44), (.some (39, .false)), .false, (.call (.func 49) [(.tmp 41), (.const (Go.Value.int Go.IntKind.i64 0)), (.tmp 43)])⟩, ⟨(.some 45), (.some (39, .false)), .false, (.not (.tmp 44))⟩, ⟨(.some 46), .none, .false, (.pick (.tmp 39) (.const (Go.Value.bool true)) (.tmp 45))⟩, ⟨(.some 47), .none, .false, (.mv (.tmp 46))⟩, ⟨(.some 48), (.some (47, .false)), .false, (.fa 2 (.tmp 4))⟩, ⟨(.some 49), (.some (47, .false)), .false, (.ld .false 1 (.tmp 48))⟩, ⟨(.some 50), (.some (47, .false)), .false, (.mv (.tmp 5))⟩, ⟨(.some 51), (.some (47, .false)), .false, (.bin .sub (.tmp 50) (.const (Go.Value.int Go.IntKind.i64 1)))⟩, ⟨(.some 52), (.some (47, .false)), .false, (.call (.func 49) [(.tmp 49), (.const (Go.Value.int Go.IntKind.i64 0)), (.tmp 51)])⟩, ⟨(.some 53), (.some (47, .false)), .false, (.not (.tmp 52))⟩, ⟨(.some 54), .none, .false, (.pick (.tmp 47) (.const (Go.Value.bool true)) (.tmp 53))⟩, ⟨(.some 55), .none, .false, (.mv (.tmp 54))⟩, ⟨(.some 56), (.some (55, .false)), .false, (.fa 0 (.tmp 4))⟩, ⟨(.some 57), (.some (55, .false)), .false, (.ld .false 1 (.tmp 56))⟩, ⟨(.some 58), (.some (55, .false)), .false, (.bin .eql (.tmp 57) (.const (Go.Value.int Go.IntKind.i64 1)))⟩, ⟨(.some 59), (.some (55, .false)), .false, (.mv (.tmp 58))⟩, ⟨(.some 60), (.some (59, .true)), .false, (.fa 1 (.tmp 4))⟩, ⟨(.some 61), (.some (59, .true)), .false, (.ld .false 1 (.tmp 60))⟩, ⟨(.some 62), (.some (59, .true)), .false, (.fa 2 (.tmp 4))⟩, ⟨(.some 63), (.some (59, .true)), .false, (.ld .false 1 (.tmp 62))⟩, ⟨(.some 64), (.some (59, .true)), .false, (.bin .neq (.tmp 61) (.tmp 63))⟩, ⟨(.some 65), (.some (55, .false)), .false, (.pick (.tmp 59) (.tmp 64) (.const (Go.Value.bool false)))⟩, ⟨(.some 66), .none, .false, (.pick (.tmp 55) (.const (Go.Value.bool true)) (.tmp 65))⟩]) (.cond (.tmp 66) (.seq (.reg [⟨(.some 2), .none, .false, (.mv (.const (Go.Value.bool false)))⟩]) .ret) .skip))))) (.reg [⟨(.some 67), .none, .false, (.bin .add (.tmp 26) (.const (Go.Value.int Go.IntKind.i64 1)))⟩, ⟨(.some 26), .none, .false, (.mv (.tmp 67))⟩]))))))) (.seq (.reg [⟨(.some 68), .none, .false, (.fa 2 (.tmp 1))⟩, ⟨(.some 69), .none, .false, (.ld .false 1 (.tmp 68))⟩, ⟨(.some 70), .none, .false, (.fa 0 (.tmp 1))⟩, ⟨(.some 71), .none, .false, (.ld .false 1 (.tmp 70))⟩, ⟨(.some 72), .none, .false, (.fa 1 (.tmp 1))⟩, ⟨(.some 73), .none, .false, (.ld .false 1 (.tmp 72))⟩, ⟨(.some 74), .none, .false, (.len (.tmp 73))⟩, ⟨(.some 75), .none, .false, (.bin .add (.tmp 71) (.tmp 74))⟩, ⟨(.some 76), .none, .false, (.call (.func 70) [(.tmp 69), (.tmp 75)])⟩, ⟨(.some 2), .none, .false, (.mv (.tmp 76))⟩]) .ret))))
set_option maxRecDepth 100000 in
theorem S.ok33 : stripF Tryz.prog Tryz.f33 = some S.s33 := by kernel_rfl
set_option maxRecDepth 10000
set_option maxHeartbeats 4000000
def okG (m : Int) (g : TGate) : Prop := (1 ≤ g.fKind ∧ g.fKind ≤ 4) ∧ (0 ≤ g.fA ∧ g.fA ≤ m - 1) ∧ (0 ≤ g.fB ∧ g.fB ≤ m - 1) ∧ (g.fKind = 1 → g.fA = g.fB)
def okC (c : TCircuit) : Prop := (1 ≤ c.fInputs ∧ c.fInputs ≤ 4) ∧ c.fGates.length ≤ 20 ∧ (1 ≤ c.fOutputs.length ∧ c.fOutputs.length ≤ 3) ∧ (∀ (i : Nat) g, c.fGates[i]? = some g → okG (c.fInputs + i) g) ∧ ∀ w ∈ c.fOutputs, 0 ≤ w ∧ w ≤ c.fInputs + c.fGates.length - 1
theorem iValidCircuit (c : TCircuit) : Spec Tryz.prog 33 [.agg (enCircuit c)] (oB (bP (okC c))) := by
  refine Spec.walk T.mixed Tryz.func33 S.ok33 (by simp [Tryz.f33]) fun hk => ?_
  have h1 := (K.a hk 0 0 rfl rfl).i64
  have h2 := (K.a hk 0 1 rfl rfl).lenM
  have h3 := (K.a hk 0 2 rfl rfl).lenM
  unfold S.s33
  repeat' (first|refine R.mv rfl ?_|refine R.reg ?_|refine R.nil ?_|refine R.seq ?_|refine R.nseq ?_|refine R.nblk ?_|refine R.skip ?_|refine R.blk ?_|refine R.exit rfl ?_|refine R.gRun rfl ?_|refine R.gSkip rfl ?_|refine R.gSkip0 rfl ?_|refine R.gUndef rfl ?_|refine R.gUndef0 rfl ?_|refine R.ldEp rfl rfl (by assumption) rfl rfl ?_|refine R.ldaEp rfl rfl (by assumption) (lbT rfl) rfl rfl ?_|refine R.ld rfl rfl rfl ?_|refine R.lda rfl rfl (lbT rfl) rfl ?_|refine R.fa rfl rfl ?_|refine R.lenM rfl ?_|refine R.lenO rfl rfl ?_|refine R.len rfl rfl ?_|refine R.lss rfl rfl ?_|refine R.gtr rfl rfl ?_|refine R.eql rfl rfl ?_|refine R.neq rfl rfl ?_|refine R.add rfl rfl (by omega) ?_|refine R.sub rfl rfl (by omega) ?_|refine R.ixN rfl rfl rfl (by omega) (fun a ha => ?_)|refine R.ixM rfl rfl rfl (by omega) (fun a ha => ?_)|refine R.ixON rfl rfl rfl (by first|omega|(simp; omega)) (fun a' ha' => ?_)|refine R.ixO rfl rfl rfl (by first|omega|(simp; omega)) (fun a' ha' => ?_)|refine R.pickT rfl rfl ?_|refine R.pickF rfl rfl ?_|refine R.not rfl ?_|refine R.al rfl ?_|refine R.box rfl rfl rfl ?_|refine R.stoB rfl rfl rfl rfl ⟨rfl, rfl, Nat.le_of_ble_eq_true rfl⟩ rfl ?_|refine R.stoE _ rfl rfl rfl rfl rfl (by assumption) rfl ⟨rfl, rfl, Nat.le_of_ble_eq_true rfl⟩ ?_|refine R.condT rfl ?_|refine R.condF rfl ?_|refine R.call (bor := false) rfl rfl (iWithin _ _ _) rfl rfl rfl ?_|refine R.call (bor := true) rfl rfl (iWithin _ _ _) rfl rfl rfl ?_|refine R.fcal (bor := false) rfl rfl (iWithin _ _ _) rfl rfl rfl ?_|refine R.fcal (bor := true) rfl rfl (iWithin _ _ _) rfl rfl rfl ?_|refine R.call (bor := false) rfl rfl (iInputsOk _) rfl rfl rfl ?_|refine R.call (bor := true) rfl rfl (iInputsOk _) rfl rfl rfl ?_|refine R.fcal (bor := false) rfl rfl (iInputsOk _) rfl rfl rfl ?_|refine R.fcal (bor := true) rfl rfl (iInputsOk _) rfl rfl rfl ?_|refine R.cond rfl (fun hc => ?_) (fun hc => ?_)|refine R.condN rfl (fun hc => ?_) (fun hc => ?_)|refine R.condB rfl (fun hc => ?_) (fun hc => ?_)|refine R.gP rfl (fun hc => ?_) (fun hc => ?_)|refine R.gN rfl (fun hc => ?_) (fun hc => ?_)|refine R.gB rfl (fun hc => ?_) (fun hc => ?_))
  all_goals first | (refine R.ret ⟨.inr rfl, R.outB rfl rfl (bP_false fun h => ?_)⟩; obtain ⟨q1, q2, q3, q4, q5⟩ := h; omega) | skip
  refine R.loop (G := Nat) (fun i => [(1, .v (.c (.ptr 1 0))), (24, rdA kGate (c.fGates.map enGate)), (25, pvA (.int .i64 c.fGates.length)), (26, pvA (.int .i64 i))]) (fun _ => [(1, .box 35 ((enCircuit c).map B.d))]) (fun i => i ≤ c.fGates.length ∧ ∀ (j : Nat) g, j < i → c.fGates[j]? = some g → okG (c.fInputs + j) g) (fun i => c.fGates.length - i) 0 ⟨by omega, fun j g h => by omega⟩ (Weak.frame _ _ ⟨rfl, rfl, rfl, rfl, trivial⟩ ⟨rfl, trivial⟩ rfl rfl) fun i hi => ?_
  repeat' (first|refine R.mv rfl ?_|refine R.reg ?_|refine R.nil ?_|refine R.seq ?_|refine R.nseq ?_|refine R.nblk ?_|refine R.skip ?_|refine R.blk ?_|refine R.exit rfl ?_|refine R.gRun rfl ?_|refine R.gSkip rfl ?_|refine R.gSkip0 rfl ?_|refine R.gUndef rfl ?_|refine R.gUndef0 rfl ?_|refine R.ldEp rfl rfl (by assumption) rfl rfl ?_|refine R.ldaEp rfl rfl (by assumption) (lbT rfl) rfl rfl ?_|refine R.ld rfl rfl rfl ?_|refine R.lda rfl rfl (lbT rfl) rfl ?_|refine R.fa rfl rfl ?_|refine R.lenM rfl ?_|refine R.lenO rfl rfl ?_|refine R.len rfl rfl ?_|refine R.lss rfl rfl ?_|refine R.gtr rfl rfl ?_|refine R.eql rfl rfl ?_|refine R.neq rfl rfl ?_|refine R.add rfl rfl (by omega) ?_|refine R.sub rfl rfl (by omega) ?_|refine R.ixN rfl rfl rfl (by omega) (fun a ha => ?_)|refine R.ixM rfl rfl rfl (by omega) (fun a ha => ?_)|refine R.ixON rfl rfl rfl (by first|omega|(simp; omega)) (fun a' ha' => ?_)|refine R.ixO rfl rfl rfl (by first|omega|(simp; omega)) (fun a' ha' => ?_)|refine R.pickT rfl rfl ?_|refine R.pickF rfl rfl ?_|refine R.not rfl ?_|refine R.al rfl ?_|refine R.box rfl rfl rfl ?_|refine R.stoB rfl rfl rfl rfl ⟨rfl, rfl, Nat.le_of_ble_eq_true rfl⟩ rfl ?_|refine R.stoE _ rfl rfl rfl rfl rfl (by assumption) rfl ⟨rfl, rfl, Nat.le_of_ble_eq_true rfl⟩ ?_|refine R.condT rfl ?_|refine R.condF rfl ?_|refine R.call (bor := false) rfl rfl (iWithin _ _ _) rfl rfl rfl ?_|refine R.call (bor := true) rfl rfl (iWithin _ _ _) rfl rfl rfl ?_|refine R.fcal (bor := false) rfl rfl (iWithin _ _ _) rfl rfl rfl ?_|refine R.fcal (bor := true) rfl rfl (iWithin _ _ _) rfl rfl rfl ?_|refine R.call (bor := false) rfl rfl (iInputsOk _) rfl rfl rfl ?_|refine R.call (bor := true) rfl rfl (iInputsOk _) rfl rfl rfl ?_|refine R.fcal (bor := false) rfl rfl (iInputsOk _) rfl rfl rfl ?_|refine R.fcal (bor := true) rfl rfl (iInputsOk _) rfl rfl rfl ?_|refine R.call (bor := false) rfl rfl (iBelow _ _ (by omega) (by omega)) rfl rfl rfl ?_|refine R.call (bor := true) rfl rfl (iBelow _ _ (by omega) (by omega)) rfl rfl rfl ?_|refine R.fcal (bor := false) rfl rfl (iBelow _ _ (by omega) (by omega)) rfl rfl rfl ?_|refine R.fcal (bor := true) rfl rfl (iBelow _ _ (by omega) (by omega)) rfl rfl rfl ?_|refine R.cond rfl (fun hc => ?_) (fun hc => ?_)|refine R.condN rfl (fun hc => ?_) (fun hc => ?_)|refine R.condB rfl (fun hc => ?_) (fun hc => ?_)|refine R.gP rfl (fun hc => ?_) (fun hc => ?_)|refine R.gN rfl (fun hc => ?_) (fun hc => ?_)|refine R.gB rfl (fun hc => ?_) (fun hc => ?_))
  all_goals first | (refine R.ret ⟨.inr rfl, R.outB rfl rfl (bP_false fun h => ?_)⟩; obtain ⟨q1, q2, q3, q4, q5⟩ := h; have := q4 i a ha; unfold okG at this; omega) | skip
  all_goals first | (refine R.nloop (R.again (i + 1) ⟨by omega, ?_⟩ (by omega) ⟨rfl, rfl, rfl, rfl, trivial⟩ ⟨rfl, trivial⟩ rfl rfl); intro j g hj hg; rcases Nat.lt_or_ge j i with hlt | hge; (exact hi.2 j g hlt hg); (obtain rfl : j = i := by omega); rw [ha] at hg; cases hg; unfold okG; omega) | skip
  refine R.ret ⟨.inr rfl, R.outB rfl rfl ?_⟩
  have hlen : i = c.fGates.length := by omega
  rw [Bool.eq_iff_iff, bP_iff]
  simp only [List.all_eq_true, decide_eq_true_eq]
  constructor
  · intro h
    exact ⟨by omega, by omega, by omega, fun j g hg => hi.2 j g (by have := (List.getElem?_eq_some_iff.1 hg).1; omega) hg, h⟩
  · intro h
    exact h.2.2.2.2
theorem sOk (c : TCircuit) : Spec Tryz.prog 27 [vP (enCircuit c)] (oB (bP (okC c))) := by
  refine Spec.walk T.mixed Tryz.func27 S.ok27 (by simp [Tryz.f27]) fun hk => ?_
  have h1 := ((K.c hk 0 rfl).cells (iD c.fInputs) (by simp)).i64
  have h2 := ((K.c hk 0 rfl).cells (.rd kGate (c.fGates.map enGate)) (by simp)).lenM
  have h3 := ((K.c hk 0 rfl).cells (.rd kI (ints c.fOutputs)) (by simp)).lenM
  unfold S.s27
  repeat' (first|refine R.mv rfl ?_|refine R.reg ?_|refine R.nil ?_|refine R.seq ?_|refine R.nseq ?_|refine R.nblk ?_|refine R.skip ?_|refine R.blk ?_|refine R.exit rfl ?_|refine R.gRun rfl ?_|refine R.gSkip rfl ?_|refine R.gSkip0 rfl ?_|refine R.gUndef rfl ?_|refine R.gUndef0 rfl ?_|refine R.ldEp rfl rfl (by assumption) rfl rfl ?_|refine R.ldaEp rfl rfl (by assumption) (lbT rfl) rfl rfl ?_|refine R.ld rfl rfl rfl ?_|refine R.lda rfl rfl (lbT rfl) rfl ?_|refine R.fa rfl rfl ?_|refine R.lenM rfl ?_|refine R.lenO rfl rfl ?_|refine R.len rfl rfl ?_|refine R.lss rfl rfl ?_|refine R.gtr rfl rfl ?_|refine R.eql rfl rfl ?_|refine R.neq rfl rfl ?_|refine R.add rfl rfl (by omega) ?_|refine R.sub rfl rfl (by omega) ?_|refine R.ixN rfl rfl rfl (by omega) (fun a ha => ?_)|refine R.ixM rfl rfl rfl (by omega) (fun a ha => ?_)|refine R.ixON rfl rfl rfl (by first|omega|(simp; omega)) (fun a' ha' => ?_)|refine R.ixO rfl rfl rfl (by first|omega|(simp; omega)) (fun a' ha' => ?_)|refine R.pickT rfl rfl ?_|refine R.pickF rfl rfl ?_|refine R.not rfl ?_|refine R.nc rfl rfl ?_|refine R.nc0 rfl rfl ?_|refine R.al rfl ?_|refine R.stoB rfl rfl rfl rfl ⟨rfl, rfl, Nat.le_of_ble_eq_true rfl⟩ rfl ?_|refine R.stoE _ rfl rfl rfl rfl rfl (by assumption) rfl ⟨rfl, rfl, Nat.le_of_ble_eq_true rfl⟩ ?_|refine R.condT rfl ?_|refine R.condF rfl ?_|refine R.call (bor := false) rfl rfl (sIn _ _ _) rfl rfl rfl ?_|refine R.call (bor := true) rfl rfl (sIn _ _ _) rfl rfl rfl ?_|refine R.fcal (bor := false) rfl rfl (sIn _ _ _) rfl rfl rfl ?_|refine R.fcal (bor := true) rfl rfl (sIn _ _ _) rfl rfl rfl ?_|refine R.cond rfl (fun hc => ?_) (fun hc => ?_)|refine R.condN rfl (fun hc => ?_) (fun hc => ?_)|refine R.condB rfl (fun hc => ?_) (fun hc => ?_)|refine R.gP rfl (fun hc => ?_) (fun hc => ?_)|refine R.gN rfl (fun hc => ?_) (fun hc => ?_)|refine R.gB rfl (fun hc => ?_) (fun hc => ?_))
  all_goals first | (refine R.ret ⟨.inr rfl, R.outB rfl rfl (bP_false fun h => ?_)⟩; obtain ⟨q1, q2, q3, q4, q5⟩ := h; omega) | skip
  refine R.loop (G := Nat) (fun i => [(0, .v (.c (.d (.rp (enCircuit c))))), (3, pvA (.int .i64 i))]) (fun _ => []) (fun i => i ≤ c.fGates.length ∧ ∀ (j : Nat) g, j < i → c.fGates[j]? = some g → okG (c.fInputs + j) g) (fun i => c.fGates.length - i) 0 ⟨by omega, fun j g h => by omega⟩ (Weak.frame _ _ ⟨rfl, rfl, trivial⟩ trivial rfl rfl) fun i hi => ?_
  repeat' (first|refine R.mv rfl ?_|refine R.reg ?_|refine R.nil ?_|refine R.seq ?_|refine R.nseq ?_|refine R.nblk ?_|refine R.skip ?_|refine R.blk ?_|refine R.exit rfl ?_|refine R.gRun rfl ?_|refine R.gSkip rfl ?_|refine R.gSkip0 rfl ?_|refine R.gUndef rfl ?_|refine R.gUndef0 rfl ?_|refine R.ldEp rfl rfl (by assumption) rfl rfl ?_|refine R.ldaEp rfl rfl (by assumption) (lbT rfl) rfl rfl ?_|refine R.ld rfl rfl rfl ?_|refine R.lda rfl rfl (lbT rfl) rfl ?_|refine R.fa rfl rfl ?_|refine R.lenM rfl ?_|refine R.lenO rfl rfl ?_|refine R.len rfl rfl ?_|refine R.lss rfl rfl ?_|refine R.gtr rfl rfl ?_|refine R.eql rfl rfl ?_|refine R.neq rfl rfl ?_|refine R.add rfl rfl (by omega) ?_|refine R.sub rfl rfl (by omega) ?_|refine R.ixN rfl rfl rfl (by omega) (fun a ha => ?_)|refine R.ixM rfl rfl rfl (by omega) (fun a ha => ?_)|refine R.ixON rfl rfl rfl (by first|omega|(simp; omega)) (fun a' ha' => ?_)|refine R.ixO rfl rfl rfl (by first|omega|(simp; omega)) (fun a' ha' => ?_)|refine R.pickT rfl rfl ?_|refine R.pickF rfl rfl ?_|refine R.not rfl ?_|refine R.nc rfl rfl ?_|refine R.nc0 rfl rfl ?_|refine R.al rfl ?_|refine R.stoB rfl rfl rfl rfl ⟨rfl, rfl, Nat.le_of_ble_eq_true rfl⟩ rfl ?_|refine R.stoE _ rfl rfl rfl rfl rfl (by assumption) rfl ⟨rfl, rfl, Nat.le_of_ble_eq_true rfl⟩ ?_|refine R.condT rfl ?_|refine R.condF rfl ?_|refine R.call (bor := false) rfl rfl (sIn _ _ _) rfl rfl rfl ?_|refine R.call (bor := true) rfl rfl (sIn _ _ _) rfl rfl rfl ?_|refine R.fcal (bor := false) rfl rfl (sIn _ _ _) rfl rfl rfl ?_|refine R.fcal (bor := true) rfl rfl (sIn _ _ _) rfl rfl rfl ?_|refine R.cond rfl (fun hc => ?_) (fun hc => ?_)|refine R.condN rfl (fun hc => ?_) (fun hc => ?_)|refine R.condB rfl (fun hc => ?_) (fun hc => ?_)|refine R.gP rfl (fun hc => ?_) (fun hc => ?_)|refine R.gN rfl (fun hc => ?_) (fun hc => ?_)|refine R.gB rfl (fun hc => ?_) (fun hc => ?_))
  all_goals first | (refine R.ret ⟨.inr rfl, R.outB rfl rfl (bP_false fun h => ?_)⟩; obtain ⟨q1, q2, q3, q4, q5⟩ := h; have := q4 i a ha; unfold okG at this; omega) | skip
  all_goals first | (refine R.nloop (R.again (i + 1) ⟨by omega, ?_⟩ (by omega) ⟨rfl, rfl, trivial⟩ trivial rfl rfl); intro j g hj hg; rcases Nat.lt_or_ge j i with hlt | hge; (exact hi.2 j g hlt hg); (obtain rfl : j = i := by omega); rw [ha] at hg; cases hg; unfold okG; omega) | skip
  have hlen : i = c.fGates.length := by omega
  refine R.loop (G := Nat) (fun i => [(0, .v (.c (.d (.rp (enCircuit c))))), (5, pvA (.int .i64 i))]) (fun _ => []) (fun i => i ≤ c.fOutputs.length ∧ ∀ w ∈ c.fOutputs.take i, 0 ≤ w ∧ w ≤ c.fInputs + c.fGates.length - 1) (fun i => c.fOutputs.length - i) 0 ⟨by omega, by simp⟩ (Weak.frame _ _ ⟨rfl, rfl, trivial⟩ trivial rfl rfl) fun n hn => ?_
  repeat' (first|refine R.mv rfl ?_|refine R.reg ?_|refine R.nil ?_|refine R.seq ?_|refine R.nseq ?_|refine R.nblk ?_|refine R.skip ?_|refine R.blk ?_|refine R.exit rfl ?_|refine R.gRun rfl ?_|refine R.gSkip rfl ?_|refine R.gSkip0 rfl ?_|refine R.gUndef rfl ?_|refine R.gUndef0 rfl ?_|refine R.ldEp rfl rfl (by assumption) rfl rfl ?_|refine R.ldaEp rfl rfl (by assumption) (lbT rfl) rfl rfl ?_|refine R.ld rfl rfl rfl ?_|refine R.lda rfl rfl (lbT rfl) rfl ?_|refine R.fa rfl rfl ?_|refine R.lenM rfl ?_|refine R.lenO rfl rfl ?_|refine R.len rfl rfl ?_|refine R.lss rfl rfl ?_|refine R.gtr rfl rfl ?_|refine R.eql rfl rfl ?_|refine R.neq rfl rfl ?_|refine R.add rfl rfl (by omega) ?_|refine R.sub rfl rfl (by omega) ?_|refine R.ixN rfl rfl rfl (by omega) (fun a ha => ?_)|refine R.ixM rfl rfl rfl (by omega) (fun a ha => ?_)|refine R.ixON rfl rfl rfl (by first|omega|(simp; omega)) (fun a' ha' => ?_)|refine R.ixO rfl rfl rfl (by first|omega|(simp; omega)) (fun a' ha' => ?_)|refine R.pickT rfl rfl ?_|refine R.pickF rfl rfl ?_|refine R.not rfl ?_|refine R.nc rfl rfl ?_|refine R.nc0 rfl rfl ?_|refine R.al rfl ?_|refine R.stoB rfl rfl rfl rfl ⟨rfl, rfl, Nat.le_of_ble_eq_true rfl⟩ rfl ?_|refine R.stoE _ rfl rfl rfl rfl rfl (by assumption) rfl ⟨rfl, rfl, Nat.le_of_ble_eq_true rfl⟩ ?_|refine R.condT rfl ?_|refine R.condF rfl ?_|refine R.call (bor := false) rfl rfl (sIn _ _ _) rfl rfl rfl ?_|refine R.call (bor := true) rfl rfl (sIn _ _ _) rfl rfl rfl ?_|refine R.fcal (bor := false) rfl rfl (sIn _ _ _) rfl rfl rfl ?_|refine R.fcal (bor := true) rfl rfl (sIn _ _ _) rfl rfl rfl ?_|refine R.cond rfl (fun hc => ?_) (fun hc => ?_)|refine R.condN rfl (fun hc => ?_) (fun hc => ?_)|refine R.condB rfl (fun hc => ?_) (fun hc => ?_)|refine R.gP rfl (fun hc => ?_) (fun hc => ?_)|refine R.gN rfl (fun hc => ?_) (fun hc => ?_)|refine R.gB rfl (fun hc => ?_) (fun hc => ?_))
  · refine R.nloop (R.again (n + 1) ⟨by omega, ?_⟩ (by omega) ⟨rfl, rfl, trivial⟩ trivial rfl rfl)
    rw [take_snoc ha]
    intro w hw
    rcases List.mem_append.1 hw with hw | hw
    · exact hn.2 w hw
    · simp at hw; subst hw; assumption
  · refine R.ret ⟨.inr rfl, R.outB rfl rfl (bP_false fun h => ?_)⟩
    obtain ⟨q1, q2, q3, q4, q5⟩ := h
    have := q5 a (List.mem_of_getElem? ha)
    contradiction
  · refine R.ret ⟨.inr rfl, R.outB rfl rfl (bP_true ?_)⟩
    have hln : n = c.fOutputs.length := by omega
    subst hln
    exact ⟨by omega, by omega, by omega, fun j g hg => hi.2 j g (by have := (List.getElem?_eq_some_iff.1 hg).1; omega) hg, by simpa using hn.2⟩
end
section
open Go.RowKit
set_option maxRecDepth 100000 in
def S.s68 : SC := (.seq (.reg [⟨(.some 2), .none, .false, (.box 56 (.tmp 0))⟩, ⟨(.some 3), .none, .false, (.box 56 (.tmp 1))⟩, ⟨(.some 4), .none, .false, (.mv (.const (Go.Value.bool false)))⟩]) (.seq (.reg [⟨(.some 5), .none, .false, (.fa 0 (.tmp 2))⟩, ⟨(.some 6), .none, .false, (.ld .false 1 (.tmp 5))⟩, ⟨(.some 7), .none, .false, (.fa 0 (.tmp 3))⟩, ⟨(.some 8), .none, .false, (.ld .false 1 (.tmp 7))⟩, ⟨(.some 9), .none, .false, (.bin .lss (.tmp 6) (.tmp 8))⟩, ⟨(.some 10), .none, .false, (.mv (.tmp 9))⟩, ⟨(.some 11), (.some (10, .false)), .false, (.fa 0 (.tmp 2))⟩, ⟨(.some 12), (.some (10, .false)), .false, (.ld .false 1 (.tmp 11))⟩, ⟨(.some 13), (.some (10, .false)), .false, (.fa 0 (.tmp 3))⟩, ⟨(.some 14), (.some (10, .false)), .false, (.ld .false 1 (.tmp 13))⟩, ⟨(.some 15), (.some (10, .false)), .false, (.bin .eql (.tmp 12) (.tmp 14))⟩, ⟨(.some 16), (.some (10, .false)), .false, (.mv (.tmp 15))⟩, ⟨(.some 17), (.some (16, .true)), .false, (.fa 1 (.tmp 2))⟩, ⟨(.some 18), (.some (16, .true)), .false, (.ld .false 1 (.tmp 17))⟩, ⟨(.some 19), (.some (16, .true)), .false, (.fa 1 (.tmp 3))⟩, ⟨(.some 20), (.some (16, .true)), .false, (.ld .false 1 (.tmp 19))⟩, ⟨(.some 21), (.some (16, .true)), .false, (.bin .lss (.tmp 18) (.tmp 20))⟩, ⟨(.some 22), (.some (10, .false)), .false, (.pick (.tmp 16) (.tmp 21) (.const (Go.Value.bool false)))⟩, ⟨(.some 23), .none, .false, (.pick (.tmp 10) (.const (Go.Value.bool true)) (.tmp 22))⟩, ⟨(.some 4), .none, .false, (.mv (.tmp 23))⟩]) .ret))
set_option maxRecDepth 100000 in
theorem S.ok68 : stripF Tryz.prog Tryz.f68 = some S.s68 := by kernel_rfl
set_option maxRecDepth 10000
set_option maxHeartbeats 4000000
def cmpQ (p q : TCube) : Int := if cmpC p.fCare q.fCare = 0 then cmpC p.fValue q.fValue else cmpC p.fCare q.fCare
theorem cmpQ_lt {p q : TCube} : cmpQ p q < 0 ↔ p.fCare < q.fCare ∨ (p.fCare = q.fCare ∧ p.fValue < q.fValue) := by
  unfold cmpQ
  split
  · rename_i h; rw [cmpC_eq] at h; rw [cmpC_lt]; omega
  · rename_i h; rw [cmpC_eq] at h; rw [cmpC_lt]; omega
theorem sBefore (p q : TCube) : Spec Tryz.prog 68 [.agg (enCube p), .agg (enCube q)] (oB (decide (cmpQ p q < 0))) := by
  refine Spec.walk T.mixed Tryz.func68 S.ok68 (by simp [Tryz.f68]) fun hk => ?_
  unfold S.s68
  repeat' (first|refine R.mv rfl ?_|refine R.reg ?_|refine R.nil ?_|refine R.seq ?_|refine R.nseq ?_|refine R.nblk ?_|refine R.skip ?_|refine R.blk ?_|refine R.exit rfl ?_|refine R.gRun rfl ?_|refine R.gSkip rfl ?_|refine R.gSkip0 rfl ?_|refine R.gUndef rfl ?_|refine R.gUndef0 rfl ?_|refine R.ldEp rfl rfl (by assumption) rfl rfl ?_|refine R.ldaEp rfl rfl (by assumption) (lbT rfl) rfl rfl ?_|refine R.ld rfl rfl rfl ?_|refine R.lda rfl rfl (lbT rfl) rfl ?_|refine R.fa rfl rfl ?_|refine R.lss rfl rfl ?_|refine R.eql rfl rfl ?_|refine R.pickT rfl rfl ?_|refine R.pickF rfl rfl ?_|refine R.box rfl rfl rfl ?_|refine R.condT rfl ?_|refine R.condF rfl ?_|refine R.cond rfl (fun hc => ?_) (fun hc => ?_)|refine R.condN rfl (fun hc => ?_) (fun hc => ?_)|refine R.condB rfl (fun hc => ?_) (fun hc => ?_)|refine R.gP rfl (fun hc => ?_) (fun hc => ?_)|refine R.gN rfl (fun hc => ?_) (fun hc => ?_)|refine R.gB rfl (fun hc => ?_) (fun hc => ?_))
  all_goals refine R.ret ⟨.inr rfl, R.outB rfl rfl ?_⟩
  all_goals (rw [Bool.eq_iff_iff]; simp only [decide_eq_true_eq, cmpQ_lt, Bool.false_eq_true, true_iff, false_iff]; omega)
def risesTo (l : List Int) (lo hi : Int) (n : Nat) : Prop := ∀ (i : Nat) a, i < n → l[i]? = some a → (lo ≤ a ∧ a ≤ hi) ∧ ∀ b, 0 < i → l[i - 1]? = some b → b < a
def rises (l : List Int) (lo hi : Int) : Prop := risesTo l lo hi l.length
end
section
open Go.RowKit
instance decTCube : DecidableEq TCube := fun a b => if h : a.fCare = b.fCare ∧ a.fValue = b.fValue then .isTrue (by cases a; cases b; simp only at h; rw [h.1, h.2]) else .isFalse fun e => h ⟨by rw [e], by rw [e]⟩
def cu (l : List TCube) : Nat → List TCube
  | 0 => []
  | j + 1 => match l[j]? with
    | none => cu l j
    | some q => if j = 0 ∨ l[j - 1]? ≠ some q then cu l j ++ [q] else cu l j
theorem cu_keep {l : List TCube} {j : Nat} {q : TCube} (hq : l[j]? = some q) (h : j = 0 ∨ l[j - 1]? ≠ some q) : cu l (j + 1) = cu l j ++ [q] := by
  rw [cu, hq]
  exact if_pos h
theorem cu_skip {l : List TCube} {j : Nat} {q : TCube} (hq : l[j]? = some q) (h0 : 0 < j) (h : l[j - 1]? = some q) : cu l (j + 1) = cu l j := by
  rw [cu, hq]
  exact if_neg fun h' => h'.elim (fun e => by omega) fun e => e h
theorem cu_len (l : List TCube) : ∀ j, (cu l j).length ≤ j
  | 0 => Nat.le_refl _
  | j + 1 => by
    have := cu_len l j
    rw [cu]
    split
    · omega
    · split
      · rw [List.length_append, List.length_singleton]; omega
      · omega
def ltQ (p q : TCube) : Prop := cmpQ p q < 0
instance decLtQ (p q : TCube) : Decidable (ltQ p q) := inferInstanceAs (Decidable (_ < _))
theorem ltQ_iff {p q : TCube} : ltQ p q ↔ p.fCare < q.fCare ∨ (p.fCare = q.fCare ∧ p.fValue < q.fValue) := cmpQ_lt
theorem ltQ_trans {p q r : TCube} (h1 : ltQ p q) (h2 : ltQ q r) : ltQ p r := by rw [ltQ_iff] at *; omega
theorem ltQ_irr (p : TCube) : ¬ ltQ p p := by rw [ltQ_iff]; omega
theorem ltQ_tri {p q : TCube} (h1 : ¬ ltQ p q) (h2 : ¬ ltQ q p) : p = q := by
  rw [ltQ_iff] at *
  have e1 : p.fCare = q.fCare := by omega
  have e2 : p.fValue = q.fValue := by omega
  cases p; cases q; simp only at e1 e2; rw [e1, e2]
theorem le_lt {p q r : TCube} (h1 : ¬ ltQ q p) (h2 : ltQ q r) : ltQ p r := by
  rw [ltQ_iff] at *; omega
theorem sq_uniq : ∀ {l m : List TCube}, l.Pairwise ltQ → m.Pairwise ltQ → (∀ x, x ∈ l ↔ x ∈ m) → l = m
  | [], [], _, _, _ => rfl
  | [], b :: m, _, _, h => absurd ((h b).2 (by simp)) (by simp)
  | a :: l, [], _, _, h => absurd ((h a).1 (by simp)) (by simp)
  | a :: l, b :: m, h1, h2, h => by
    obtain ⟨i1, i2⟩ := List.pairwise_cons.1 h1
    obtain ⟨j1, j2⟩ := List.pairwise_cons.1 h2
    have e : a = b := by
      rcases List.mem_cons.1 ((h a).1 (by simp)) with e | ha
      · exact e
      · rcases List.mem_cons.1 ((h b).2 (by simp)) with e | hb
        · exact e.symm
        · exact absurd (ltQ_trans (i1 b hb) (j1 a ha)) (ltQ_irr a)
    subst e
    rw [sq_uniq i2 j2 fun x => ⟨fun hx => ?_, fun hx => ?_⟩]
    · rcases List.mem_cons.1 ((h x).1 (by simp [hx])) with e | hm
      · subst e; exact absurd (i1 x hx) (ltQ_irr x)
      · exact hm
    · rcases List.mem_cons.1 ((h x).2 (by simp [hx])) with e | hm
      · subst e; exact absurd (j1 x hx) (ltQ_irr x)
      · exact hm
def outP (l : List TCube) (c : TCube) : Nat → List TCube × Bool
  | 0 => ([], false)
  | i + 1 => match l[i]? with
    | none => outP l c i
    | some a => if (outP l c i).2 = false ∧ ¬ ltQ a c then ((if a = c then (outP l c i).1 else (outP l c i).1 ++ [c]) ++ [a], true) else ((outP l c i).1 ++ [a], (outP l c i).2)
theorem outP_len (l : List TCube) (c : TCube) : ∀ i, (outP l c i).1.length + (if (outP l c i).2 then 0 else 1) ≤ i + 1
  | 0 => Nat.le_refl _
  | i + 1 => by
    have := outP_len l c i
    rw [outP]
    split
    · omega
    · split
      · rename_i h
        rw [h.1] at this
        split <;> simp at this ⊢ <;> omega
      · rw [List.length_append, List.length_singleton]
        split <;> simp_all <;> omega
def putQ (l : List TCube) (c : TCube) : List TCube := if (outP l c l.length).2 then (outP l c l.length).1 else (outP l c l.length).1 ++ [c]
theorem pw_snoc {α : Type} {r : α → α → Prop} {l : List α} {a : α} (h : l.Pairwise r) (k : ∀ x ∈ l, r x a) : (l ++ [a]).Pairwise r :=
  List.pairwise_append.2 ⟨h, List.pairwise_singleton _ _, fun x hx y hy => by rw [List.mem_singleton.1 hy]; exact k x hx⟩
theorem pw_take {α : Type} {r : α → α → Prop} {l : List α} {a : α} {i : Nat} (h : l.Pairwise r) (ha : l[i]? = some a) : ∀ x ∈ l.take i, r x a := fun x hx => by
  have h1 : (l.take (i + 1)).Pairwise r := List.Pairwise.sublist (List.take_sublist _ _) h
  rw [take_snoc ha] at h1
  exact (List.pairwise_append.1 h1).2.2 x hx a (by simp)
theorem outP_ok {l : List TCube} {c : TCube} (h : l.Pairwise ltQ) : ∀ i, i ≤ l.length → ((outP l c i).2 = false → (outP l c i).1 = l.take i ∧ ∀ x ∈ l.take i, ltQ x c) ∧ ((outP l c i).2 = true → (outP l c i).1.Pairwise ltQ ∧ (∀ x, x ∈ (outP l c i).1 ↔ x ∈ l.take i ∨ x = c) ∧ ∃ b ∈ l.take i, ¬ ltQ b c)
  | 0, _ => ⟨fun _ => ⟨rfl, fun x hx => by simp at hx⟩, fun h => by cases h⟩
  | i + 1, hi => by
    obtain ⟨h1, h2⟩ := outP_ok (c := c) h i (by omega)
    obtain ⟨a, ha⟩ : ∃ a, l[i]? = some a := ⟨_, List.getElem?_eq_getElem (by omega)⟩
    have hlt := pw_take h ha
    have hpt : (l.take i).Pairwise ltQ := List.Pairwise.sublist (List.take_sublist _ _) h
    rw [outP, ha, take_snoc ha]
    dsimp only
    cases hd : (outP l c i).2 with
    | false =>
      obtain ⟨q1, q2⟩ := h1 hd
      rw [q1]
      by_cases hac : ltQ a c
      · rw [if_neg fun hh => hh.2 hac]
        refine ⟨fun _ => ⟨rfl, fun x hx => ?_⟩, fun hh => by cases hh⟩
        rcases List.mem_append.1 hx with hx | hx
        · exact q2 x hx
        · rw [List.mem_singleton.1 hx]; exact hac
      · rw [if_pos ⟨rfl, hac⟩]
        refine ⟨fun hh => (by cases hh), fun _ => ?_⟩
        by_cases e : a = c
        · subst e
          rw [if_pos rfl]
          refine ⟨pw_snoc hpt hlt, fun x => ?_, a, by simp, ltQ_irr a⟩
          simp only [List.mem_append, List.mem_singleton]
          constructor
          · exact fun hx => .inl hx
          · exact fun hx => hx.elim id .inr
        · rw [if_neg e]
          have hca : ltQ c a := Classical.byContradiction fun hn => e (ltQ_tri hac hn)
          refine ⟨pw_snoc (pw_snoc hpt q2) fun x hx => ?_, fun x => ?_, a, by simp, hac⟩
          · rcases List.mem_append.1 hx with hx | hx
            · exact hlt x hx
            · rw [List.mem_singleton.1 hx]; exact hca
          · simp only [List.mem_append, List.mem_singleton]
            constructor
            · rintro ((hx | hx) | hx)
              · exact .inl (.inl hx)
              · exact .inr hx
              · exact .inl (.inr hx)
            · rintro ((hx | hx) | hx)
              · exact .inl (.inl hx)
              · exact .inr hx
              · exact .inl (.inr hx)
    | true =>
      obtain ⟨q1, q2, b, hb, hbc⟩ := h2 hd
      rw [if_neg fun hh => by cases hh.1]
      refine ⟨fun hh => (by cases hh), fun _ => ⟨pw_snoc q1 fun x hx => ?_, fun x => ?_, b, by simp [hb], hbc⟩⟩
      · rcases (q2 x).1 hx with hx | rfl
        · exact hlt x hx
        · exact le_lt hbc (hlt b hb)
      · simp only [List.mem_append, List.mem_singleton, q2]
        constructor
        · rintro ((hx | hx) | hx)
          · exact .inl (.inl hx)
          · exact .inr hx
          · exact .inl (.inr hx)
        · rintro ((hx | hx) | hx)
          · exact .inl (.inl hx)
          · exact .inr hx
          · exact .inl (.inr hx)
theorem putQ_ok {l : List TCube} {c : TCube} (h : l.Pairwise ltQ) : (putQ l c).Pairwise ltQ ∧ ∀ x, x ∈ putQ l c ↔ x ∈ l ∨ x = c := by
  obtain ⟨h1, h2⟩ := outP_ok (c := c) h l.length (Nat.le_refl _)
  rw [List.take_length] at h1 h2
  unfold putQ
  cases hd : (outP l c l.length).2 with
  | true =>
    obtain ⟨q1, q2, _⟩ := h2 hd
    exact ⟨q1, q2⟩
  | false =>
    obtain ⟨q1, q2⟩ := h1 hd
    rw [q1]
    refine ⟨pw_snoc h q2, fun x => ?_⟩
    simp
theorem putQ_len (l : List TCube) (c : TCube) : (putQ l c).length ≤ l.length + 1 := by
  have := outP_len l c l.length
  unfold putQ
  split
  · omega
  · rename_i h
    rw [if_neg h] at this
    rw [List.length_append, List.length_singleton]; omega
theorem putAll_len : ∀ (cs l : List TCube), (cs.foldl putQ l).length ≤ l.length + cs.length
  | [], l => by simp
  | c :: cs, l => by
    have h1 := putAll_len cs (putQ l c)
    have h2 := putQ_len l c
    rw [List.foldl_cons, List.length_cons]
    omega
theorem putAll_ok : ∀ {cs l : List TCube}, l.Pairwise ltQ → (cs.foldl putQ l).Pairwise ltQ ∧ ∀ x, x ∈ cs.foldl putQ l ↔ x ∈ l ∨ x ∈ cs
  | [], l, h => ⟨h, fun x => by simp⟩
  | c :: cs, l, h => by
    obtain ⟨h1, h2⟩ := putQ_ok (c := c) h
    obtain ⟨i1, i2⟩ := putAll_ok (cs := cs) h1
    refine ⟨i1, fun x => ?_⟩
    rw [List.foldl_cons, i2, h2, List.mem_cons]
    constructor
    · rintro ((hx | hx) | hx)
      · exact .inl hx
      · exact .inr (.inl hx)
      · exact .inr (.inr hx)
    · rintro (hx | hx | hx)
      · exact .inl (.inl hx)
      · exact .inl (.inr hx)
      · exact .inr hx
def leQ (p q : TCube) : Bool := !decide (ltQ q p)
abbrev srtQ (l : List TCube) : List TCube := l.mergeSort leQ
theorem leQ_iff {p q : TCube} : leQ p q = true ↔ ¬ ltQ q p := by simp [leQ]
theorem srtQ_pw (l : List TCube) : (srtQ l).Pairwise fun p q => ¬ ltQ q p := by
  refine (List.pairwise_mergeSort (le := leQ) (fun _ _ _ h1 h2 => ?_) (fun _ _ => ?_) l).imp fun h => leQ_iff.1 h
  · rw [leQ_iff, ltQ_iff] at *; omega
  · rw [Bool.or_eq_true, leQ_iff, leQ_iff, ltQ_iff, ltQ_iff]; omega
theorem srtQ_perm (l : List TCube) : (srtQ l).Perm l := List.mergeSort_perm l leQ
theorem srtQ_uniq {l m : List TCube} (hp : m.Perm l) (hs : m.Pairwise fun p q => ¬ ltQ q p) : m = srtQ l :=
  List.Perm.eq_of_pairwise (le := fun p q => ¬ ltQ q p) (fun _ _ _ _ h1 h2 => ltQ_tri h2 h1) hs (srtQ_pw l) (hp.trans (srtQ_perm l).symm)
theorem cu_ok {L : List TCube} (h : L.Pairwise fun p q => ¬ ltQ q p) : ∀ j, j ≤ L.length → (cu L j).Pairwise ltQ ∧ ∀ x, x ∈ cu L j ↔ x ∈ L.take j
  | 0, _ => ⟨.nil, fun x => by simp [cu]⟩
  | j + 1, hj => by
    obtain ⟨h1, h2⟩ := cu_ok h j (by omega)
    obtain ⟨q, hq⟩ : ∃ q, L[j]? = some q := ⟨_, List.getElem?_eq_getElem (by omega)⟩
    have hle := pw_take h hq
    rw [take_snoc hq]
    by_cases hk : j = 0 ∨ L[j - 1]? ≠ some q
    · rw [cu_keep hq hk]
      refine ⟨pw_snoc h1 fun x hx => ?_, fun x => by simp only [List.mem_append, h2]⟩
      have hx := (h2 x).1 hx
      refine Classical.byContradiction fun hn => ?_
      obtain rfl := ltQ_tri hn (hle x hx)
      have hj0 : 0 < j := by
        rcases Nat.eq_zero_or_pos j with e | e
        · subst e; simp at hx
        · exact e
      obtain ⟨p, hp⟩ : ∃ p, L[j - 1]? = some p := ⟨_, List.getElem?_eq_getElem (by omega)⟩
      have hpq : p ∈ L.take j := by
        have : L.take j = L.take (j - 1) ++ [p] := by rw [← take_snoc hp, show j - 1 + 1 = j by omega]
        rw [this]; simp
      have e1 := hle p hpq
      have e2 : x = p ∨ ¬ ltQ p x := by
        have : L.take j = L.take (j - 1) ++ [p] := by rw [← take_snoc hp, show j - 1 + 1 = j by omega]
        rw [this] at hx
        rcases List.mem_append.1 hx with hx | hx
        · exact .inr (pw_take h hp x hx)
        · exact .inl (List.mem_singleton.1 hx)
      have e3 : p = x := by
        rcases e2 with e | e
        · exact e.symm
        · exact ltQ_tri e e1
      subst e3
      rcases hk with hk | hk
      · omega
      · exact hk hp
    · have hj0 : 0 < j := Nat.pos_of_ne_zero fun e => hk (.inl e)
      have hp : L[j - 1]? = some q := Classical.byContradiction fun e => hk (.inr e)
      rw [cu_skip hq hj0 hp]
      refine ⟨h1, fun x => ?_⟩
      rw [h2, List.mem_append, List.mem_singleton]
      constructor
      · exact fun hx => .inl hx
      · rintro (hx | rfl)
        · exact hx
        · have : L.take j = L.take (j - 1) ++ [x] := by rw [← take_snoc hp, show j - 1 + 1 = j by omega]
          rw [this]; simp
theorem cubes_eq (cs : List TCube) : cu (srtQ cs) (srtQ cs).length = cs.foldl putQ [] := by
  obtain ⟨h1, h2⟩ := cu_ok (srtQ_pw cs) (srtQ cs).length (Nat.le_refl _)
  obtain ⟨i1, i2⟩ := putAll_ok (cs := cs) (l := []) .nil
  refine sq_uniq h1 i1 fun x => ?_
  rw [h2, i2, List.take_length, (srtQ_perm cs).mem_iff]
  simp
def ixQ : List TCube → TCube → Nat
  | [], _ => 0
  | a :: l, c => if a = c then 0 else ixQ l c + 1
theorem ixQ_ok : ∀ {l : List TCube} {c : TCube}, c ∈ l → l[ixQ l c]? = some c ∧ ∀ i, i < ixQ l c → l[i]? ≠ some c
  | a :: l, c, h => by
    unfold ixQ
    by_cases e : a = c
    · rw [if_pos e, e]; exact ⟨rfl, fun i hi => by omega⟩
    · rw [if_neg e]
      have hc : c ∈ l := (List.mem_cons.1 h).resolve_left fun h => e h.symm
      obtain ⟨h1, h2⟩ := ixQ_ok hc
      refine ⟨h1, fun i hi => ?_⟩
      cases i with
      | zero => simpa using e
      | succ i => exact h2 i (by omega)
def sumJ (q : TCube) (k : Nat) (cv : List TCube) : List Int := (cv.filter fun c => decide (c = q)).map fun _ => (k : Int)
def sumK (cs cv : List TCube) (m : Nat) : List Int := (List.range m).flatMap fun k => sumJ (cs.getD k ⟨0, 0⟩) k cv
theorem sumJ_snoc {q : TCube} {k : Nat} {cv : List TCube} {c : TCube} : sumJ q k (cv ++ [c]) = sumJ q k cv ++ (if c = q then [(k : Int)] else []) := by
  unfold sumJ
  rw [List.filter_append, List.map_append]
  by_cases e : c = q <;> simp [e]
theorem sumK_succ {cs cv : List TCube} {m : Nat} : sumK cs cv (m + 1) = sumK cs cv m ++ sumJ (cs.getD m ⟨0, 0⟩) m cv := by
  unfold sumK
  rw [List.range_succ, List.flatMap_append]
  simp
theorem sumJ_len (q : TCube) (k : Nat) (cv : List TCube) : (sumJ q k cv).length ≤ cv.length := by
  unfold sumJ
  rw [List.length_map]
  exact List.length_filter_le _ _
theorem sumK_len (cs cv : List TCube) : ∀ m, (sumK cs cv m).length ≤ m * cv.length
  | 0 => by simp [sumK]
  | m + 1 => by
    have h1 := sumK_len cs cv m
    have h2 := sumJ_len (cs.getD m ⟨0, 0⟩) m cv
    rw [sumK_succ, List.length_append, Nat.succ_mul]
    omega
theorem sumK_mem {cs cv : List TCube} : ∀ {m : Nat} {x : Int}, x ∈ sumK cs cv m → 0 ≤ x ∧ x < m
  | 0, x, h => by simp [sumK] at h
  | m + 1, x, h => by
    rw [sumK_succ] at h
    rcases List.mem_append.1 h with h | h
    · have := sumK_mem h; omega
    · unfold sumJ at h
      obtain ⟨_, _, rfl⟩ := List.mem_map.1 h
      omega
theorem sumK_pw {cs cv : List TCube} : ∀ m, (sumK cs cv m).Pairwise (· ≤ ·)
  | 0 => by simp [sumK]
  | m + 1 => by
    rw [sumK_succ]
    refine List.pairwise_append.2 ⟨sumK_pw m, ?_, fun x hx y hy => ?_⟩
    · unfold sumJ
      exact List.pairwise_map.2 (List.Pairwise.imp (fun _ => Int.le_refl _) (List.pairwise_of_forall (R := fun _ _ => True) fun _ _ => trivial))
    · have := sumK_mem hx
      unfold sumJ at hy
      obtain ⟨_, _, rfl⟩ := List.mem_map.1 hy
      omega
theorem sumK_cons {cs cv : List TCube} {c : TCube} {k0 : Nat} (hnd : ∀ k, cs.getD k ⟨0, 0⟩ = c → k < cs.length → k = k0) (hc : cs.getD k0 ⟨0, 0⟩ = c) : ∀ m, m ≤ cs.length → (sumK cs (c :: cv) m).Perm ((if k0 < m then [(k0 : Int)] else []) ++ sumK cs cv m)
  | 0, _ => by simp [sumK]
  | m + 1, hm => by
    have ih := sumK_cons (cv := cv) hnd hc m (by omega)
    rw [sumK_succ, sumK_succ]
    by_cases e : c = cs.getD m ⟨0, 0⟩
    · have hk := hnd m e.symm (by omega)
      subst hk
      have hj : sumJ (cs.getD m ⟨0, 0⟩) m (c :: cv) = (m : Int) :: sumJ (cs.getD m ⟨0, 0⟩) m cv := by
        unfold sumJ
        rw [List.filter_cons, if_pos (by simpa using e)]
        rfl
      rw [hj, if_pos (by omega)]
      rw [if_neg (by omega), List.nil_append] at ih
      refine (ih.append_right _).trans ?_
      exact List.perm_middle
    · have hj : sumJ (cs.getD m ⟨0, 0⟩) m (c :: cv) = sumJ (cs.getD m ⟨0, 0⟩) m cv := by
        unfold sumJ
        rw [List.filter_cons, if_neg (by simpa using e)]
      have hk : k0 ≠ m := fun hh => e (by rw [← hc, hh])
      rw [hj, show (if k0 < m + 1 then [(k0 : Int)] else []) = (if k0 < m then [(k0 : Int)] else []) by
        by_cases h : k0 < m
        · rw [if_pos h, if_pos (by omega)]
        · rw [if_neg h, if_neg (by omega)]]
      rw [← List.append_assoc]
      exact ih.append_right _
theorem sum_perm {cs : List TCube} (hs : cs.Pairwise ltQ) : ∀ {cv : List TCube}, (∀ c ∈ cv, c ∈ cs) → (cv.map fun c => (ixQ cs c : Int)).Perm (sumK cs cv cs.length)
  | [], _ => by
    have h0 : ∀ m, sumK cs [] m = [] := fun m => by
      unfold sumK sumJ
      simp
    rw [h0]
    exact .nil
  | c :: cv, h => by
    have hc := h c (by simp)
    obtain ⟨h1, h2⟩ := ixQ_ok hc
    have hlt : ixQ cs c < cs.length := (List.getElem?_eq_some_iff.1 h1).1
    have ih := sum_perm hs (cv := cv) fun d hd => h d (by simp [hd])
    have hk := sumK_cons (cs := cs) (cv := cv) (c := c) (k0 := ixQ cs c) (fun k hk hkl => ?_) (by rw [List.getD_eq_getElem?_getD, h1]; rfl) cs.length (Nat.le_refl _)
    · rw [if_pos hlt] at hk
      rw [List.map_cons]
      exact (ih.cons _).trans hk.symm
    · have hkk : cs[k]? = some c := by
        rw [List.getD_eq_getElem?_getD, List.getElem?_eq_getElem hkl, Option.getD_some] at hk
        rw [List.getElem?_eq_getElem hkl, hk]
      rcases Nat.lt_trichotomy k (ixQ cs c) with hh | hh | hh
      · exact absurd hkk (h2 k hh)
      · exact hh
      · have hp := pw_take hs hkk
        have : c ∈ cs.take k := List.mem_of_getElem? (i := ixQ cs c) (by rw [List.getElem?_take_of_lt hh, h1])
        exact absurd (hp c this) (ltQ_irr c)
theorem sum_eq {cs cv : List TCube} (hs : cs.Pairwise ltQ) (h : ∀ c ∈ cv, c ∈ cs) : ((cv.map fun c => (ixQ cs c : Int)).mergeSort fun x y => decide (x ≤ y)) = sumK cs cv cs.length := by
  refine List.Perm.eq_of_pairwise (le := fun x y : Int => x ≤ y) (fun a b _ _ h1 h2 => by omega) ?_ (sumK_pw _) ((List.mergeSort_perm _ _).trans (sum_perm hs h))
  refine (List.pairwise_mergeSort (le := fun x y : Int => decide (x ≤ y)) (fun a b c h1 h2 => ?_) (fun a b => ?_) _).imp fun h => by simpa using h
  · simp only [decide_eq_true_eq] at *; omega
  · simp only [Bool.or_eq_true, decide_eq_true_eq]; omega
end
section

end
section
open Go.RowKit
end
section
open Go.RowKit
set_option maxRecDepth 100000 in
def S.s50 : SC := (.seq (.reg [⟨(.some 3), .none, .false, (.box 56 (.tmp 1))⟩, ⟨(.some 4), .none, .false, (.mv (.const (Go.Value.bool false)))⟩]) (.seq (.reg [⟨(.some 5), .none, .true, (.fa 0 (.tmp 3))⟩, ⟨(.some 6), .none, .true, (.ld .false 1 (.tmp 5))⟩, ⟨(.some 7), .none, .true, (.mv (.tmp 0))⟩, ⟨(.some 8), .none, .true, (.bin .shl (.const (Go.Value.int Go.IntKind.i64 1)) (.tmp 7))⟩, ⟨(.some 9), .none, .true, (.bin .sub (.tmp 8) (.const (Go.Value.int Go.IntKind.i64 1)))⟩, ⟨(.some 10), .none, .true, (.fcal (.func 49) [(.tmp 6), (.const (Go.Value.int Go.IntKind.i64 0)), (.tmp 9)])⟩, ⟨(.some 11), .none, .true, (.mv (.tmp 10))⟩, ⟨(.some 12), (.some (11, .true)), .true, (.fa 1 (.tmp 3))⟩, ⟨(.some 13), (.some (11, .true)), .true, (.ld .false 1 (.tmp 12))⟩, ⟨(.some 14), (.some (11, .true)), .true, (.fa 0 (.tmp 3))⟩, ⟨(.some 15), (.some (11, .true)), .true, (.ld .false 1 (.tmp 14))⟩, ⟨(.some 16), (.some (11, .true)), .true, (.bin .and (.tmp 13) (.tmp 15))⟩, ⟨(.some 17), (.some (11, .true)), .true, (.fa 1 (.tmp 3))⟩, ⟨(.some 18), (.some (11, .true)), .true, (.ld .false 1 (.tmp 17))⟩, ⟨(.some 19), (.some (11, .true)), .true, (.bin .eql (.tmp 16) (.tmp 18))⟩, ⟨(.some 20), .none, .true, (.pick (.tmp 11) (.tmp 19) (.const (Go.Value.bool false)))⟩, ⟨(.some 4), .none, .true, (.mv (.tmp 20))⟩]) .ret))
set_option maxRecDepth 100000 in
theorem S.ok50 : stripF Tryz.prog Tryz.f50 = some S.s50 := by kernel_rfl
set_option maxRecDepth 100000 in
def S.s59 : SC := (.seq (.reg [⟨(.some 2), .none, .false, (.box 56 (.tmp 0))⟩, ⟨(.some 4), .none, .false, (.mv (.const (Go.Value.bool false)))⟩]) (.seq (.reg [⟨(.some 5), .none, .false, (.mv (.tmp 1))⟩, ⟨(.some 6), .none, .false, (.fa 0 (.tmp 2))⟩, ⟨(.some 7), .none, .false, (.ld .false 1 (.tmp 6))⟩, ⟨(.some 8), .none, .false, (.bin .and (.tmp 5) (.tmp 7))⟩, ⟨(.some 9), .none, .false, (.fa 1 (.tmp 2))⟩, ⟨(.some 10), .none, .false, (.ld .false 1 (.tmp 9))⟩, ⟨(.some 11), .none, .false, (.bin .eql (.tmp 8) (.tmp 10))⟩, ⟨(.some 4), .none, .false, (.mv (.tmp 11))⟩]) .ret))
set_option maxRecDepth 100000 in
theorem S.ok59 : stripF Tryz.prog Tryz.f59 = some S.s59 := by kernel_rfl
set_option maxRecDepth 100000 in
def S.s96 : SC := (.seq (.reg [⟨(.some 2), .none, .false, (.box 56 (.tmp 0))⟩, ⟨(.some 4), .none, .false, (.mv (.const (Go.Value.bool false)))⟩]) (.seq (.reg [⟨(.some 5), .none, .false, (.mv (.tmp 1))⟩, ⟨(.some 6), .none, .false, (.fa 0 (.tmp 2))⟩, ⟨(.some 7), .none, .false, (.ld .false 1 (.tmp 6))⟩, ⟨(.some 8), .none, .false, (.bin .and (.tmp 5) (.tmp 7))⟩, ⟨(.some 9), .none, .false, (.fa 1 (.tmp 2))⟩, ⟨(.some 10), .none, .false, (.ld .false 1 (.tmp 9))⟩, ⟨(.some 11), .none, .false, (.bin .eql (.tmp 8) (.tmp 10))⟩, ⟨(.some 4), .none, .false, (.mv (.tmp 11))⟩]) .ret))
set_option maxRecDepth 100000 in
theorem S.ok96 : stripF Tryz.prog Tryz.f96 = some S.s96 := by kernel_rfl
set_option maxRecDepth 10000
set_option maxHeartbeats 4000000
def okQ (n : Int) (q : TCube) : Prop := (0 ≤ q.fCare ∧ q.fCare ≤ 2 ^ n.toNat - 1) ∧ andI q.fValue q.fCare = q.fValue
theorem iIsCube (n : Int) (q : TCube) (h : 1 ≤ n ∧ n ≤ 4) : Spec Tryz.prog 50 [vI n, .agg (enCube q)] (oB (bP (okQ n q))) := by
  refine Spec.walk T.mixed Tryz.func50 S.ok50 (by simp [Tryz.f50]) fun hk => ?_
  unfold S.s50
  repeat' (first|refine R.mv rfl ?_|refine R.reg ?_|refine R.nil ?_|refine R.seq ?_|refine R.nseq ?_|refine R.nblk ?_|refine R.skip ?_|refine R.blk ?_|refine R.exit rfl ?_|refine R.gRun rfl ?_|refine R.gSkip rfl ?_|refine R.gSkip0 rfl ?_|refine R.gUndef rfl ?_|refine R.gUndef0 rfl ?_|refine R.ldEp rfl rfl (by assumption) rfl rfl ?_|refine R.ldaEp rfl rfl (by assumption) (lbT rfl) rfl rfl ?_|refine R.ld rfl rfl rfl ?_|refine R.lda rfl rfl (lbT rfl) rfl ?_|refine R.fa rfl rfl ?_|refine R.eql rfl rfl ?_|refine R.sub rfl rfl (by omega) ?_|refine R.pickT rfl rfl ?_|refine R.pickF rfl rfl ?_|refine R.box rfl rfl rfl ?_|refine R.and rfl rfl ?_|refine R.shl1 rfl rfl (by omega) (fun hp => ?_)|refine R.condT rfl ?_|refine R.condF rfl ?_|refine R.fcal (bor := false) rfl rfl (iWithin _ _ _) rfl rfl rfl ?_|refine R.fcal (bor := true) rfl rfl (iWithin _ _ _) rfl rfl rfl ?_|refine R.cond rfl (fun hc => ?_) (fun hc => ?_)|refine R.condN rfl (fun hc => ?_) (fun hc => ?_)|refine R.condB rfl (fun hc => ?_) (fun hc => ?_)|refine R.gP rfl (fun hc => ?_) (fun hc => ?_)|refine R.gN rfl (fun hc => ?_) (fun hc => ?_)|refine R.gB rfl (fun hc => ?_) (fun hc => ?_))
  · refine R.ret ⟨.inr rfl, R.outB rfl rfl ?_⟩
    rw [Bool.eq_iff_iff, bP_iff, decide_eq_true_eq]
    exact ⟨fun h => ⟨hc, h⟩, fun h => h.2⟩
  · exact R.ret ⟨.inr rfl, R.outB rfl rfl (bP_false fun h => hc h.1)⟩
def inK (l : List Int) (n : Int) : Prop := (l.length : Int) = n ∧ ∀ w ∈ l, 0 ≤ w ∧ w ≤ 1
def hasQ (q : TCube) (n : Int) : Bool := decide (andI n q.fCare = q.fValue)
theorem iHas (q : TCube) (n : Int) : Spec Tryz.prog 59 [.agg (enCube q), vI n] (oB (hasQ q n)) := by
  refine Spec.walk T.mixed Tryz.func59 S.ok59 (by simp [Tryz.f59]) fun hk => ?_
  unfold S.s59
  repeat' (first|refine R.mv rfl ?_|refine R.reg ?_|refine R.nil ?_|refine R.seq ?_|refine R.nseq ?_|refine R.nblk ?_|refine R.skip ?_|refine R.blk ?_|refine R.exit rfl ?_|refine R.ldEp rfl rfl (by assumption) rfl rfl ?_|refine R.ldaEp rfl rfl (by assumption) (lbT rfl) rfl rfl ?_|refine R.ld rfl rfl rfl ?_|refine R.lda rfl rfl (lbT rfl) rfl ?_|refine R.fa rfl rfl ?_|refine R.eql rfl rfl ?_|refine R.box rfl rfl rfl ?_|refine R.and rfl rfl ?_|refine R.condT rfl ?_|refine R.condF rfl ?_|refine R.cond rfl (fun hc => ?_) (fun hc => ?_)|refine R.condN rfl (fun hc => ?_) (fun hc => ?_)|refine R.condB rfl (fun hc => ?_) (fun hc => ?_))
  exact R.ret ⟨.inr rfl, R.outB rfl rfl rfl⟩
theorem sHas (q : TCube) (n : Int) : Spec Tryz.prog 96 [.agg (enCube q), vI n] (oB (hasQ q n)) := by
  refine Spec.walk T.mixed Tryz.func96 S.ok96 (by simp [Tryz.f96]) fun hk => ?_
  unfold S.s96
  repeat' (first|refine R.mv rfl ?_|refine R.reg ?_|refine R.nil ?_|refine R.seq ?_|refine R.nseq ?_|refine R.nblk ?_|refine R.skip ?_|refine R.blk ?_|refine R.exit rfl ?_|refine R.ldEp rfl rfl (by assumption) rfl rfl ?_|refine R.ldaEp rfl rfl (by assumption) (lbT rfl) rfl rfl ?_|refine R.ld rfl rfl rfl ?_|refine R.lda rfl rfl (lbT rfl) rfl ?_|refine R.fa rfl rfl ?_|refine R.eql rfl rfl ?_|refine R.box rfl rfl rfl ?_|refine R.and rfl rfl ?_|refine R.condT rfl ?_|refine R.condF rfl ?_|refine R.cond rfl (fun hc => ?_) (fun hc => ?_)|refine R.condN rfl (fun hc => ?_) (fun hc => ?_)|refine R.condB rfl (fun hc => ?_) (fun hc => ?_))
  exact R.ret ⟨.inr rfl, R.outB rfl rfl rfl⟩
end
end Go.Proofs.YtehkaajakapkmaaGreat
