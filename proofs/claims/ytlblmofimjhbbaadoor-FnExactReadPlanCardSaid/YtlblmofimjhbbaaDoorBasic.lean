/- Small functions of the program and of the library: ranges, comparisons. -/
import Derived.Test.YtlblmofimjhbbaaDoorLib1
import Derived.Test.YtlblmofimjhbbaaDoorY22
namespace Go.Proofs.YtlblmofimjhbbaaDoor
open Go.RowKit
set_option maxRecDepth 100000 in
def S.s15 : SC := (.seq (.reg [⟨(.some 6), .none, .false, (.mv (.const (Go.Value.bool false)))⟩]) (.seq (.reg [⟨(.some 7), .none, .false, (.mv (.tmp 0))⟩, ⟨(.some 8), .none, .false, (.mv (.tmp 1))⟩, ⟨(.some 9), .none, .false, (.bin .geq (.tmp 7) (.tmp 8))⟩, ⟨(.some 10), .none, .false, (.mv (.tmp 9))⟩, ⟨(.some 11), (.some (10, .true)), .false, (.mv (.tmp 0))⟩, ⟨(.some 12), (.some (10, .true)), .false, (.mv (.tmp 2))⟩, ⟨(.some 13), (.some (10, .true)), .false, (.bin .leq (.tmp 11) (.tmp 12))⟩, ⟨(.some 14), .none, .false, (.pick (.tmp 10) (.tmp 13) (.const (Go.Value.bool false)))⟩, ⟨(.some 6), .none, .false, (.mv (.tmp 14))⟩]) .ret))
set_option maxRecDepth 100000 in
theorem S.ok15 : stripF Tryd.prog Tryd.f15 = some S.s15 := by kernel_rfl
set_option maxRecDepth 100000 in
def S.s18 : SC := (.seq (.reg [⟨(.some 6), .none, .false, (.mv (.const (Go.Value.bool false)))⟩]) (.seq (.reg [⟨(.some 7), .none, .false, (.mv (.tmp 0))⟩, ⟨(.some 8), .none, .false, (.mv (.tmp 1))⟩, ⟨(.some 9), .none, .false, (.bin .geq (.tmp 7) (.tmp 8))⟩, ⟨(.some 10), .none, .false, (.mv (.tmp 9))⟩, ⟨(.some 11), (.some (10, .true)), .false, (.mv (.tmp 0))⟩, ⟨(.some 12), (.some (10, .true)), .false, (.mv (.tmp 2))⟩, ⟨(.some 13), (.some (10, .true)), .false, (.bin .leq (.tmp 11) (.tmp 12))⟩, ⟨(.some 14), .none, .false, (.pick (.tmp 10) (.tmp 13) (.const (Go.Value.bool false)))⟩, ⟨(.some 6), .none, .false, (.mv (.tmp 14))⟩]) .ret))
set_option maxRecDepth 100000 in
theorem S.ok18 : stripF Tryd.prog Tryd.f18 = some S.s18 := by kernel_rfl
set_option maxRecDepth 100000 in
def S.s40 : SC := (.seq (.reg [⟨(.some 4), .none, .false, (.mv (.const (Go.Value.int Go.IntKind.i64 0)))⟩]) (.seq (.seq (.reg [⟨(.some 5), .none, .false, (.mv (.tmp 0))⟩, ⟨(.some 6), .none, .false, (.mv (.tmp 1))⟩, ⟨(.some 7), .none, .false, (.bin .lss (.tmp 5) (.tmp 6))⟩]) (.cond (.tmp 7) (.seq (.reg [⟨(.some 8), .none, .false, (.mv (.tmp 0))⟩, ⟨(.some 4), .none, .false, (.mv (.tmp 8))⟩]) .ret) .skip)) (.seq (.reg [⟨(.some 9), .none, .false, (.mv (.tmp 1))⟩, ⟨(.some 4), .none, .false, (.mv (.tmp 9))⟩]) .ret)))
set_option maxRecDepth 100000 in
theorem S.ok40 : stripF Tryd.prog Tryd.f40 = some S.s40 := by kernel_rfl
set_option maxRecDepth 100000 in
def S.s41 : SC := (.seq (.reg [⟨(.some 4), .none, .false, (.mv (.const (Go.Value.int Go.IntKind.i64 0)))⟩]) (.seq (.seq (.reg [⟨(.some 5), .none, .false, (.mv (.tmp 0))⟩, ⟨(.some 6), .none, .false, (.mv (.tmp 1))⟩, ⟨(.some 7), .none, .false, (.bin .gtr (.tmp 5) (.tmp 6))⟩]) (.cond (.tmp 7) (.seq (.reg [⟨(.some 8), .none, .false, (.mv (.tmp 0))⟩, ⟨(.some 4), .none, .false, (.mv (.tmp 8))⟩]) .ret) .skip)) (.seq (.reg [⟨(.some 9), .none, .false, (.mv (.tmp 1))⟩, ⟨(.some 4), .none, .false, (.mv (.tmp 9))⟩]) .ret)))
set_option maxRecDepth 100000 in
theorem S.ok41 : stripF Tryd.prog Tryd.f41 = some S.s41 := by kernel_rfl
set_option maxRecDepth 100000 in
def S.s116 : SC := (.seq (.reg [⟨(.some 2), .none, .false, (.mv (.const (Go.Value.bool false)))⟩]) (.seq (.reg [⟨(.some 3), .none, .false, (.mv (.tmp 0))⟩, ⟨(.some 4), .none, .false, (.mv (.tmp 0))⟩, ⟨(.some 5), .none, .false, (.bin .neq (.tmp 3) (.tmp 4))⟩, ⟨(.some 2), .none, .false, (.mv (.tmp 5))⟩]) .ret))
set_option maxRecDepth 100000 in
theorem S.ok116 : stripF Tryd.prog Tryd.f116 = some S.s116 := by kernel_rfl
set_option maxRecDepth 100000 in
def S.s140 : SC := (.seq (.reg [⟨(.some 4), .none, .false, (.mv (.const (Go.Value.bool false)))⟩]) (.seq (.reg [⟨(.some 5), .none, .false, (.mv (.tmp 0))⟩, ⟨(.some 6), .none, .false, (.mv (.tmp 1))⟩, ⟨(.some 7), .none, .false, (.bin .sub (.tmp 6) (.const (Go.Value.int Go.IntKind.i64 1)))⟩, ⟨(.some 8), .none, .false, (.call (.func 18) [(.tmp 5), (.const (Go.Value.int Go.IntKind.i64 0)), (.tmp 7)])⟩, ⟨(.some 4), .none, .false, (.mv (.tmp 8))⟩]) .ret))
set_option maxRecDepth 100000 in
theorem S.ok140 : stripF Tryd.prog Tryd.f140 = some S.s140 := by kernel_rfl
set_option maxRecDepth 10000
set_option maxHeartbeats 4000000
abbrev inB (n a b : Int) : Bool := decide (a ≤ n ∧ n ≤ b)
theorem iWithin (n a b : Int) : Spec Tryd.prog 18 [vI n, vI a, vI b] (oB (inB n a b)) := by
  refine Spec.walk T.mixed Tryd.func18 S.ok18 (by simp [Tryd.f18]) fun hk => ?_
  unfold S.s18
  repeat' (first | refine R.mv rfl ?_ | refine R.reg ?_ | refine R.nil ?_ | refine R.seq ?_ | refine R.nseq ?_ | refine R.nblk ?_ | refine R.skip ?_ | refine R.blk ?_ | refine R.exit rfl ?_ | refine R.gRun rfl ?_ | refine R.gSkip rfl ?_ | refine R.gSkip0 rfl ?_ | refine R.gUndef rfl ?_ | refine R.gUndef0 rfl ?_ | refine R.leq rfl rfl ?_ | refine R.geq rfl rfl ?_ | refine R.pickT rfl rfl ?_ | refine R.pickF rfl rfl ?_ | refine R.condT rfl ?_ | refine R.condF rfl ?_ | refine R.cond rfl (fun hc => ?_) (fun hc => ?_) | refine R.condN rfl (fun hc => ?_) (fun hc => ?_) | refine R.condB rfl (fun hc => ?_) (fun hc => ?_) | refine R.gP rfl (fun hc => ?_) (fun hc => ?_) | refine R.gN rfl (fun hc => ?_) (fun hc => ?_) | refine R.gB rfl (fun hc => ?_) (fun hc => ?_))
  all_goals refine R.ret ⟨.inr rfl, R.outB rfl rfl ?_⟩
  all_goals simp [inB, *]
theorem sIn (n a b : Int) : Spec Tryd.prog 15 [vI n, vI a, vI b] (oB (inB n a b)) := by
  refine Spec.walk T.mixed Tryd.func15 S.ok15 (by simp [Tryd.f15]) fun hk => ?_
  unfold S.s15
  repeat' (first | refine R.mv rfl ?_ | refine R.reg ?_ | refine R.nil ?_ | refine R.seq ?_ | refine R.nseq ?_ | refine R.nblk ?_ | refine R.skip ?_ | refine R.blk ?_ | refine R.exit rfl ?_ | refine R.gRun rfl ?_ | refine R.gSkip rfl ?_ | refine R.gSkip0 rfl ?_ | refine R.gUndef rfl ?_ | refine R.gUndef0 rfl ?_ | refine R.leq rfl rfl ?_ | refine R.geq rfl rfl ?_ | refine R.pickT rfl rfl ?_ | refine R.pickF rfl rfl ?_ | refine R.condT rfl ?_ | refine R.condF rfl ?_ | refine R.cond rfl (fun hc => ?_) (fun hc => ?_) | refine R.condN rfl (fun hc => ?_) (fun hc => ?_) | refine R.condB rfl (fun hc => ?_) (fun hc => ?_) | refine R.gP rfl (fun hc => ?_) (fun hc => ?_) | refine R.gN rfl (fun hc => ?_) (fun hc => ?_) | refine R.gB rfl (fun hc => ?_) (fun hc => ?_))
  all_goals refine R.ret ⟨.inr rfl, R.outB rfl rfl ?_⟩
  all_goals simp [inB, *]
theorem sMax (a b : Int) : Spec Tryd.prog 41 [vI a, vI b] (oI (max a b)) := by
  refine Spec.walk T.mixed Tryd.func41 S.ok41 (by simp [Tryd.f41]) fun hk => ?_
  unfold S.s41
  repeat' (first | refine R.mv rfl ?_ | refine R.reg ?_ | refine R.nil ?_ | refine R.seq ?_ | refine R.nseq ?_ | refine R.nblk ?_ | refine R.skip ?_ | refine R.blk ?_ | refine R.exit rfl ?_ | refine R.gtr rfl rfl ?_ | refine R.condT rfl ?_ | refine R.condF rfl ?_ | refine R.cond rfl (fun hc => ?_) (fun hc => ?_) | refine R.condN rfl (fun hc => ?_) (fun hc => ?_) | refine R.condB rfl (fun hc => ?_) (fun hc => ?_))
  all_goals refine R.ret ⟨.inr rfl, R.outI rfl rfl ?_⟩
  all_goals omega
theorem sMin (a b : Int) : Spec Tryd.prog 40 [vI a, vI b] (oI (min a b)) := by
  refine Spec.walk T.mixed Tryd.func40 S.ok40 (by simp [Tryd.f40]) fun hk => ?_
  unfold S.s40
  repeat' (first | refine R.mv rfl ?_ | refine R.reg ?_ | refine R.nil ?_ | refine R.seq ?_ | refine R.nseq ?_ | refine R.nblk ?_ | refine R.skip ?_ | refine R.blk ?_ | refine R.exit rfl ?_ | refine R.lss rfl rfl ?_ | refine R.condT rfl ?_ | refine R.condF rfl ?_ | refine R.cond rfl (fun hc => ?_) (fun hc => ?_) | refine R.condN rfl (fun hc => ?_) (fun hc => ?_) | refine R.condB rfl (fun hc => ?_) (fun hc => ?_))
  all_goals refine R.ret ⟨.inr rfl, R.outI rfl rfl ?_⟩
  all_goals omega
theorem iIsIndex (n m : Int) (h : -9223372036854775807 ≤ m ∧ m ≤ 9223372036854775807) : Spec Tryd.prog 140 [vI n, vI m] (oB (inB n 0 (m - 1))) := by
  refine Spec.walk T.mixed Tryd.func140 S.ok140 (by simp [Tryd.f140]) fun hk => ?_
  unfold S.s140
  repeat' (first | refine R.mv rfl ?_ | refine R.reg ?_ | refine R.nil ?_ | refine R.seq ?_ | refine R.nseq ?_ | refine R.nblk ?_ | refine R.skip ?_ | refine R.blk ?_ | refine R.exit rfl ?_ | refine R.sub rfl rfl (by omega) ?_ | refine R.condT rfl ?_ | refine R.condF rfl ?_ | refine R.call (bor := false) rfl rfl (iWithin _ _ _) rfl rfl rfl ?_ | refine R.call (bor := true) rfl rfl (iWithin _ _ _) rfl rfl rfl ?_ | refine R.fcal (bor := false) rfl rfl (iWithin _ _ _) rfl rfl rfl ?_ | refine R.fcal (bor := true) rfl rfl (iWithin _ _ _) rfl rfl rfl ?_ | refine R.cond rfl (fun hc => ?_) (fun hc => ?_) | refine R.condN rfl (fun hc => ?_) (fun hc => ?_) | refine R.condB rfl (fun hc => ?_) (fun hc => ?_))
  exact R.ret ⟨.inr rfl, R.outB rfl rfl rfl⟩
theorem lib_nan (n : Int) : Spec Tryd.prog 116 [vI n] (oB false) := by
  refine Spec.walk T.mixed Tryd.func116 S.ok116 (by simp [Tryd.f116]) fun hk => ?_
  unfold S.s116
  repeat' (first | refine R.mv rfl ?_ | refine R.reg ?_ | refine R.nil ?_ | refine R.seq ?_ | refine R.nseq ?_ | refine R.nblk ?_ | refine R.skip ?_ | refine R.blk ?_ | refine R.exit rfl ?_ | refine R.neq rfl rfl ?_ | refine R.condT rfl ?_ | refine R.condF rfl ?_ | refine R.cond rfl (fun hc => ?_) (fun hc => ?_) | refine R.condN rfl (fun hc => ?_) (fun hc => ?_) | refine R.condB rfl (fun hc => ?_) (fun hc => ?_))
  exact R.ret ⟨.inr rfl, R.outB rfl rfl (by simp)⟩
def cmpC (a b : Int) : Int := if a < b then -1 else if b < a then 1 else 0
theorem cmpC_lt {a b : Int} : cmpC a b < 0 ↔ a < b := by unfold cmpC; split <;> (try split) <;> omega
theorem cmpC_eq {a b : Int} : cmpC a b = 0 ↔ a = b := by unfold cmpC; split <;> (try split) <;> omega
def orV (l : List Int) : Int := (l.find? (fun n => decide (n ≠ 0))).getD 0
theorem orV_some {l : List Int} {i : Nat} {a : Int} (h : ∀ b ∈ l.take i, b = 0) (ha : l[i]? = some a) (hc : ¬ a = 0) : orV l = a := by
  have e : l = l.take i ++ a :: l.drop (i + 1) := by
    obtain ⟨hi, hx⟩ := List.getElem?_eq_some_iff.1 ha
    rw [← hx, ← List.drop_eq_getElem_cons hi, List.take_append_drop]
  unfold orV
  rw [e, List.find?_append]
  have : (l.take i).find? (fun n => decide (n ≠ 0)) = none := by
    rw [List.find?_eq_none]
    intro x hx
    simp [h x hx]
  rw [this]
  simp [hc]
theorem orV_none {l : List Int} (h : ∀ b ∈ l, b = 0) : orV l = 0 := by
  unfold orV
  have : l.find? (fun n => decide (n ≠ 0)) = none := by
    rw [List.find?_eq_none]
    intro x hx
    simp [h x hx]
  rw [this]; rfl
theorem orV_two (a b : Int) : orV [a, b] = if a = 0 then b else a := by
  unfold orV
  by_cases h : a = 0 <;> by_cases h' : b = 0 <;> simp [h, h']
end Go.Proofs.YtlblmofimjhbbaaDoor
