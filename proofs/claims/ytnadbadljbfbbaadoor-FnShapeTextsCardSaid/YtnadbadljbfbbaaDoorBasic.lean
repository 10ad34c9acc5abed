/- Small functions of the program and of the library: ranges, comparisons. -/
import Derived.Test.YtnadbadljbfbbaaDoorLib1
import Derived.Test.YtnadbadljbfbbaaDoorY22
namespace Go.Proofs.YtnadbadljbfbbaaDoor
open Go.RowKit
set_option maxRecDepth 100000 in
def S.s40 : SC := (.seq (.reg [⟨(.some 6), .none, .false, (.mv (.const (Go.Value.bool false)))⟩]) (.seq (.reg [⟨(.some 7), .none, .false, (.mv (.tmp 0))⟩, ⟨(.some 8), .none, .false, (.mv (.tmp 1))⟩, ⟨(.some 9), .none, .false, (.bin .geq (.tmp 7) (.tmp 8))⟩, ⟨(.some 10), .none, .false, (.mv (.tmp 9))⟩, ⟨(.some 11), (.some (10, .true)), .false, (.mv (.tmp 0))⟩, ⟨(.some 12), (.some (10, .true)), .false, (.mv (.tmp 2))⟩, ⟨(.some 13), (.some (10, .true)), .false, (.bin .leq (.tmp 11) (.tmp 12))⟩, ⟨(.some 14), .none, .false, (.pick (.tmp 10) (.tmp 13) (.const (Go.Value.bool false)))⟩, ⟨(.some 6), .none, .false, (.mv (.tmp 14))⟩]) .ret))
set_option maxRecDepth 100000 in
theorem S.ok40 : stripF Tryd.prog Tryd.f40 = some S.s40 := by kernel_rfl
set_option maxRecDepth 100000 in
def S.s43 : SC := (.seq (.reg [⟨(.some 6), .none, .false, (.mv (.const (Go.Value.bool false)))⟩]) (.seq (.reg [⟨(.some 7), .none, .false, (.mv (.tmp 0))⟩, ⟨(.some 8), .none, .false, (.mv (.tmp 1))⟩, ⟨(.some 9), .none, .false, (.bin .geq (.tmp 7) (.tmp 8))⟩, ⟨(.some 10), .none, .false, (.mv (.tmp 9))⟩, ⟨(.some 11), (.some (10, .true)), .false, (.mv (.tmp 0))⟩, ⟨(.some 12), (.some (10, .true)), .false, (.mv (.tmp 2))⟩, ⟨(.some 13), (.some (10, .true)), .false, (.bin .leq (.tmp 11) (.tmp 12))⟩, ⟨(.some 14), .none, .false, (.pick (.tmp 10) (.tmp 13) (.const (Go.Value.bool false)))⟩, ⟨(.some 6), .none, .false, (.mv (.tmp 14))⟩]) .ret))
set_option maxRecDepth 100000 in
theorem S.ok43 : stripF Tryd.prog Tryd.f43 = some S.s43 := by kernel_rfl
set_option maxRecDepth 100000 in
def S.s60 : SC := (.seq (.reg [⟨(.some 4), .none, .false, (.mv (.const (Go.Value.int Go.IntKind.i64 0)))⟩]) (.seq (.seq (.reg [⟨(.some 5), .none, .false, (.mv (.tmp 0))⟩, ⟨(.some 6), .none, .false, (.mv (.tmp 1))⟩, ⟨(.some 7), .none, .false, (.bin .lss (.tmp 5) (.tmp 6))⟩]) (.cond (.tmp 7) (.seq (.reg [⟨(.some 8), .none, .false, (.mv (.tmp 0))⟩, ⟨(.some 4), .none, .false, (.mv (.tmp 8))⟩]) .ret) .skip)) (.seq (.reg [⟨(.some 9), .none, .false, (.mv (.tmp 1))⟩, ⟨(.some 4), .none, .false, (.mv (.tmp 9))⟩]) .ret)))
set_option maxRecDepth 100000 in
theorem S.ok60 : stripF Tryd.prog Tryd.f60 = some S.s60 := by kernel_rfl
set_option maxRecDepth 100000 in
def S.s61 : SC := (.seq (.reg [⟨(.some 4), .none, .false, (.mv (.const (Go.Value.int Go.IntKind.i64 0)))⟩]) (.seq (.seq (.reg [⟨(.some 5), .none, .false, (.mv (.tmp 0))⟩, ⟨(.some 6), .none, .false, (.mv (.tmp 1))⟩, ⟨(.some 7), .none, .false, (.bin .gtr (.tmp 5) (.tmp 6))⟩]) (.cond (.tmp 7) (.seq (.reg [⟨(.some 8), .none, .false, (.mv (.tmp 0))⟩, ⟨(.some 4), .none, .false, (.mv (.tmp 8))⟩]) .ret) .skip)) (.seq (.reg [⟨(.some 9), .none, .false, (.mv (.tmp 1))⟩, ⟨(.some 4), .none, .false, (.mv (.tmp 9))⟩]) .ret)))
set_option maxRecDepth 100000 in
theorem S.ok61 : stripF Tryd.prog Tryd.f61 = some S.s61 := by kernel_rfl
set_option maxRecDepth 100000 in
def S.s81 : SC := (.seq (.reg [⟨(.some 2), .none, .false, (.mv (.const (Go.Value.int Go.IntKind.i64 0)))⟩]) (.seq (.reg [⟨(.some 3), .none, .false, (.mv (.const (Go.Value.int Go.IntKind.i64 0)))⟩]) (.seq (.seq (.reg [⟨(.some 6), .none, .false, (.mv (.tmp 0))⟩, ⟨(.some 7), .none, .false, (.len (.tmp 6))⟩, ⟨(.some 8), .none, .false, (.mv (.const (Go.Value.int Go.IntKind.i64 0)))⟩]) (.block 0 (.loop (.seq (.reg [⟨(.some 9), .none, .false, (.bin .lss (.tmp 8) (.tmp 7))⟩]) (.seq (.cond (.tmp 9) .skip (.exit 0)) (.seq (.block 1 (.seq (.reg [⟨(.some 10), .none, .false, (.ix (.mk 3 1) (.tmp 6) (.tmp 8))⟩, ⟨(.some 11), .none, .false, (.ld .false 1 (.tmp 10))⟩, ⟨(.some 5), .none, .false, (.mv (.tmp 11))⟩]) (.seq (.reg [⟨(.some 12), .none, .false, (.mv (.tmp 5))⟩, ⟨(.some 13), .none, .false, (.mv (.tmp 3))⟩, ⟨(.some 14), .none, .false, (.bin .neq (.tmp 12) (.tmp 13))⟩]) (.cond (.tmp 14) (.seq (.reg [⟨(.some 15), .none, .false, (.mv (.tmp 5))⟩, ⟨(.some 2), .none, .false, (.mv (.tmp 15))⟩]) .ret) .skip)))) (.reg [⟨(.some 16), .none, .false, (.bin .add (.tmp 8) (.const (Go.Value.int Go.IntKind.i64 1)))⟩, ⟨(.some 8), .none, .false, (.mv (.tmp 16))⟩]))))))) (.seq (.reg [⟨(.some 17), .none, .false, (.mv (.tmp 3))⟩, ⟨(.some 2), .none, .false, (.mv (.tmp 17))⟩]) .ret))))
set_option maxRecDepth 100000 in
theorem S.ok81 : stripF Tryd.prog Tryd.f81 = some S.s81 := by kernel_rfl
set_option maxRecDepth 100000 in
def S.s82 : SC := (.seq (.reg [⟨(.some 4), .none, .false, (.mv (.const (Go.Value.int Go.IntKind.i64 0)))⟩]) (.seq (.reg [⟨(.some 7), .none, .false, (.mv (.tmp 0))⟩, ⟨(.some 8), .none, .false, (.call (.func 89) [(.tmp 7)])⟩, ⟨(.some 5), .none, .false, (.mv (.tmp 8))⟩]) (.seq (.reg [⟨(.some 9), .none, .false, (.mv (.tmp 1))⟩, ⟨(.some 10), .none, .false, (.call (.func 89) [(.tmp 9)])⟩, ⟨(.some 6), .none, .false, (.mv (.tmp 10))⟩]) (.seq (.seq (.reg [⟨(.some 11), .none, .false, (.mv (.tmp 5))⟩]) (.cond (.tmp 11) (.seq (.seq (.reg [⟨(.some 12), .none, .false, (.mv (.tmp 6))⟩]) (.cond (.tmp 12) (.seq (.reg [⟨(.some 4), .none, .false, (.mv (.const (Go.Value.int Go.IntKind.i64 0)))⟩]) .ret) .skip)) (.seq (.reg [⟨(.some 4), .none, .false, (.mv (.const (Go.Value.int Go.IntKind.i64 (-1))))⟩]) .ret)) .skip)) (.seq (.seq (.reg [⟨(.some 13), .none, .false, (.mv (.tmp 6))⟩]) (.cond (.tmp 13) (.seq (.reg [⟨(.some 4), .none, .false, (.mv (.const (Go.Value.int Go.IntKind.i64 1)))⟩]) .ret) .skip)) (.seq (.seq (.reg [⟨(.some 14), .none, .false, (.mv (.tmp 0))⟩, ⟨(.some 15), .none, .false, (.mv (.tmp 1))⟩, ⟨(.some 16), .none, .false, (.bin .lss (.tmp 14) (.tmp 15))⟩]) (.cond (.tmp 16) (.seq (.reg [⟨(.some 4), .none, .false, (.mv (.const (Go.Value.int Go.IntKind.i64 (-1))))⟩]) .ret) .skip)) (.seq (.seq (.reg [⟨(.some 17), .none, .false, (.mv (.tmp 0))⟩, ⟨(.some 18), .none, .false, (.mv (.tmp 1))⟩, ⟨(.some 19), .none, .false, (.bin .gtr (.tmp 17) (.tmp 18))⟩]) (.cond (.tmp 19) (.seq (.reg [⟨(.some 4), .none, .false, (.mv (.const (Go.Value.int Go.IntKind.i64 1)))⟩]) .ret) .skip)) (.seq (.reg [⟨(.some 4), .none, .false, (.mv (.const (Go.Value.int Go.IntKind.i64 0)))⟩]) .ret))))))))
set_option maxRecDepth 100000 in
theorem S.ok82 : stripF Tryd.prog Tryd.f82 = some S.s82 := by kernel_rfl
set_option maxRecDepth 100000 in
def S.s89 : SC := (.seq (.reg [⟨(.some 2), .none, .false, (.mv (.const (Go.Value.bool false)))⟩]) (.seq (.reg [⟨(.some 3), .none, .false, (.mv (.tmp 0))⟩, ⟨(.some 4), .none, .false, (.mv (.tmp 0))⟩, ⟨(.some 5), .none, .false, (.bin .neq (.tmp 3) (.tmp 4))⟩, ⟨(.some 2), .none, .false, (.mv (.tmp 5))⟩]) .ret))
set_option maxRecDepth 100000 in
theorem S.ok89 : stripF Tryd.prog Tryd.f89 = some S.s89 := by kernel_rfl
set_option maxRecDepth 10000
set_option maxHeartbeats 4000000
abbrev inB (n a b : Int) : Bool := decide (a ≤ n ∧ n ≤ b)
theorem iWithin (n a b : Int) : Spec Tryd.prog 43 [vI n, vI a, vI b] (oB (inB n a b)) := by
  refine Spec.walk T.mixed Tryd.func43 S.ok43 (by simp [Tryd.f43]) fun hk => ?_
  unfold S.s43
  repeat' (first | refine R.mv rfl ?_ | refine R.reg ?_ | refine R.nil ?_ | refine R.seq ?_ | refine R.nseq ?_ | refine R.nblk ?_ | refine R.skip ?_ | refine R.blk ?_ | refine R.exit rfl ?_ | refine R.gRun rfl ?_ | refine R.gSkip rfl ?_ | refine R.gSkip0 rfl ?_ | refine R.gUndef rfl ?_ | refine R.gUndef0 rfl ?_ | refine R.leq rfl rfl ?_ | refine R.geq rfl rfl ?_ | refine R.pickT rfl rfl ?_ | refine R.pickF rfl rfl ?_ | refine R.condT rfl ?_ | refine R.condF rfl ?_ | refine R.cond rfl (fun hc => ?_) (fun hc => ?_) | refine R.condN rfl (fun hc => ?_) (fun hc => ?_) | refine R.condB rfl (fun hc => ?_) (fun hc => ?_) | refine R.gP rfl (fun hc => ?_) (fun hc => ?_) | refine R.gN rfl (fun hc => ?_) (fun hc => ?_) | refine R.gB rfl (fun hc => ?_) (fun hc => ?_))
  all_goals refine R.ret ⟨.inr rfl, R.outB rfl rfl ?_⟩
  all_goals simp [inB, *]
theorem sIn (n a b : Int) : Spec Tryd.prog 40 [vI n, vI a, vI b] (oB (inB n a b)) := by
  refine Spec.walk T.mixed Tryd.func40 S.ok40 (by simp [Tryd.f40]) fun hk => ?_
  unfold S.s40
  repeat' (first | refine R.mv rfl ?_ | refine R.reg ?_ | refine R.nil ?_ | refine R.seq ?_ | refine R.nseq ?_ | refine R.nblk ?_ | refine R.skip ?_ | refine R.blk ?_ | refine R.exit rfl ?_ | refine R.gRun rfl ?_ | refine R.gSkip rfl ?_ | refine R.gSkip0 rfl ?_ | refine R.gUndef rfl ?_ | refine R.gUndef0 rfl ?_ | refine R.leq rfl rfl ?_ | refine R.geq rfl rfl ?_ | refine R.pickT rfl rfl ?_ | refine R.pickF rfl rfl ?_ | refine R.condT rfl ?_ | refine R.condF rfl ?_ | refine R.cond rfl (fun hc => ?_) (fun hc => ?_) | refine R.condN rfl (fun hc => ?_) (fun hc => ?_) | refine R.condB rfl (fun hc => ?_) (fun hc => ?_) | refine R.gP rfl (fun hc => ?_) (fun hc => ?_) | refine R.gN rfl (fun hc => ?_) (fun hc => ?_) | refine R.gB rfl (fun hc => ?_) (fun hc => ?_))
  all_goals refine R.ret ⟨.inr rfl, R.outB rfl rfl ?_⟩
  all_goals simp [inB, *]
theorem sMax (a b : Int) : Spec Tryd.prog 61 [vI a, vI b] (oI (max a b)) := by
  refine Spec.walk T.mixed Tryd.func61 S.ok61 (by simp [Tryd.f61]) fun hk => ?_
  unfold S.s61
  repeat' (first | refine R.mv rfl ?_ | refine R.reg ?_ | refine R.nil ?_ | refine R.seq ?_ | refine R.nseq ?_ | refine R.nblk ?_ | refine R.skip ?_ | refine R.blk ?_ | refine R.exit rfl ?_ | refine R.gtr rfl rfl ?_ | refine R.condT rfl ?_ | refine R.condF rfl ?_ | refine R.cond rfl (fun hc => ?_) (fun hc => ?_) | refine R.condN rfl (fun hc => ?_) (fun hc => ?_) | refine R.condB rfl (fun hc => ?_) (fun hc => ?_))
  all_goals refine R.ret ⟨.inr rfl, R.outI rfl rfl ?_⟩
  all_goals omega
theorem sMin (a b : Int) : Spec Tryd.prog 60 [vI a, vI b] (oI (min a b)) := by
  refine Spec.walk T.mixed Tryd.func60 S.ok60 (by simp [Tryd.f60]) fun hk => ?_
  unfold S.s60
  repeat' (first | refine R.mv rfl ?_ | refine R.reg ?_ | refine R.nil ?_ | refine R.seq ?_ | refine R.nseq ?_ | refine R.nblk ?_ | refine R.skip ?_ | refine R.blk ?_ | refine R.exit rfl ?_ | refine R.lss rfl rfl ?_ | refine R.condT rfl ?_ | refine R.condF rfl ?_ | refine R.cond rfl (fun hc => ?_) (fun hc => ?_) | refine R.condN rfl (fun hc => ?_) (fun hc => ?_) | refine R.condB rfl (fun hc => ?_) (fun hc => ?_))
  all_goals refine R.ret ⟨.inr rfl, R.outI rfl rfl ?_⟩
  all_goals omega
theorem lib_nan (n : Int) : Spec Tryd.prog 89 [vI n] (oB false) := by
  refine Spec.walk T.mixed Tryd.func89 S.ok89 (by simp [Tryd.f89]) fun hk => ?_
  unfold S.s89
  repeat' (first | refine R.mv rfl ?_ | refine R.reg ?_ | refine R.nil ?_ | refine R.seq ?_ | refine R.nseq ?_ | refine R.nblk ?_ | refine R.skip ?_ | refine R.blk ?_ | refine R.exit rfl ?_ | refine R.neq rfl rfl ?_ | refine R.condT rfl ?_ | refine R.condF rfl ?_ | refine R.cond rfl (fun hc => ?_) (fun hc => ?_) | refine R.condN rfl (fun hc => ?_) (fun hc => ?_) | refine R.condB rfl (fun hc => ?_) (fun hc => ?_))
  exact R.ret ⟨.inr rfl, R.outB rfl rfl (by simp)⟩
def cmpC (a b : Int) : Int := if a < b then -1 else if b < a then 1 else 0
theorem lib_cmp (a b : Int) : Spec Tryd.prog 82 [vI a, vI b] (oI (cmpC a b)) := by
  refine Spec.walk T.mixed Tryd.func82 S.ok82 (by simp [Tryd.f82]) fun hk => ?_
  unfold S.s82
  repeat' (first | refine R.mv rfl ?_ | refine R.reg ?_ | refine R.nil ?_ | refine R.seq ?_ | refine R.nseq ?_ | refine R.nblk ?_ | refine R.skip ?_ | refine R.blk ?_ | refine R.exit rfl ?_ | refine R.lss rfl rfl ?_ | refine R.gtr rfl rfl ?_ | refine R.condT rfl ?_ | refine R.condF rfl ?_ | refine R.call (bor := false) rfl rfl (lib_nan _) rfl rfl rfl ?_ | refine R.call (bor := true) rfl rfl (lib_nan _) rfl rfl rfl ?_ | refine R.fcal (bor := false) rfl rfl (lib_nan _) rfl rfl rfl ?_ | refine R.fcal (bor := true) rfl rfl (lib_nan _) rfl rfl rfl ?_ | refine R.cond rfl (fun hc => ?_) (fun hc => ?_) | refine R.condN rfl (fun hc => ?_) (fun hc => ?_) | refine R.condB rfl (fun hc => ?_) (fun hc => ?_))
  all_goals refine R.ret ⟨.inr rfl, R.outI rfl rfl ?_⟩
  all_goals unfold cmpC
  all_goals split <;> omega
theorem cmpC_lt {a b : Int} : cmpC a b < 0 ↔ a < b := by unfold cmpC; split <;> (try split) <;> omega
theorem cmpC_eq {a b : Int} : cmpC a b = 0 ↔ a = b := by unfold cmpC; split <;> (try split) <;> omega
def orV (l : List Int) : Int := (l.find? (fun n => decide (n ≠ 0))).getD 0
theorem orV_some {l : List Int} {i : Nat} {a : Int} (h : ∀ b ∈ l.take i, b = 0) (ha : l[i]? = some a) (hc : ¬ a = 0) : orV l = a := by
  have e : l = l.take i ++ a :: l.drop (i + 1) := by
    obtain ⟨hi, hx⟩ := List.getElem?_eq_some_iff.1 ha
    rw [← hx, ← List.drop_eq_getElem_cons hi, List.take_append_drop]
  unfold orV
  rw [e, List.find?_append]
  have : (l.take i).find? (fun n => decide (n ≠ 0)) = none := by
    rw [List.find?_eq_none]
    intro x hx
    simp [h x hx]
  rw [this]
  simp [hc]
theorem orV_none {l : List Int} (h : ∀ b ∈ l, b = 0) : orV l = 0 := by
  unfold orV
  have : l.find? (fun n => decide (n ≠ 0)) = none := by
    rw [List.find?_eq_none]
    intro x hx
    simp [h x hx]
  rw [this]; rfl
theorem orV_two (a b : Int) : orV [a, b] = if a = 0 then b else a := by
  unfold orV
  by_cases h : a = 0 <;> by_cases h' : b = 0 <;> simp [h, h']
theorem lib_or (l : List Int) : Spec Tryd.prog 81 [vL kN (ints l)] (oI (orV l)) := by
  refine Spec.walk T.mixed Tryd.func81 S.ok81 (by simp [Tryd.f81]) fun hk => ?_
  have hlen := (K.c hk 0 rfl).lenM
  unfold S.s81
  repeat' (first | refine R.mv rfl ?_ | refine R.reg ?_ | refine R.nil ?_ | refine R.seq ?_ | refine R.nseq ?_ | refine R.nblk ?_ | refine R.skip ?_ | refine R.blk ?_ | refine R.exit rfl ?_ | refine R.ldEp rfl rfl (by assumption) rfl rfl ?_ | refine R.ldaEp rfl rfl (by assumption) (Nat.le_of_ble_eq_true rfl) rfl rfl ?_ | refine R.ld rfl rfl rfl ?_ | refine R.lda rfl rfl (Nat.le_of_ble_eq_true rfl) rfl ?_ | refine R.lenM rfl ?_ | refine R.lenO rfl rfl ?_ | refine R.len rfl rfl ?_ | refine R.lss rfl rfl ?_ | refine R.neq rfl rfl ?_ | refine R.add rfl rfl (by omega) ?_ | refine R.ixN rfl rfl rfl (by omega) (fun a ha => ?_) | refine R.ixM rfl rfl rfl (by omega) (fun a ha => ?_) | refine R.ixON rfl rfl rfl (by first | omega | (simp; omega)) (fun a' ha' => ?_) | refine R.ixO rfl rfl rfl (by first | omega | (simp; omega)) (fun a' ha' => ?_) | refine R.condT rfl ?_ | refine R.condF rfl ?_ | refine R.cond rfl (fun hc => ?_) (fun hc => ?_) | refine R.condN rfl (fun hc => ?_) (fun hc => ?_) | refine R.condB rfl (fun hc => ?_) (fun hc => ?_))
  refine R.loop (G := Nat) (fun i => [(3, pvA (.int .i64 0)), (6, rdA kN (ints l)), (7, pvA (.int .i64 l.length)), (8, pvA (.int .i64 i))]) (fun _ => []) (fun i => i ≤ l.length ∧ ∀ b ∈ l.take i, b = 0) (fun i => l.length - i) 0 ⟨by omega, by simp⟩ (Weak.frame _ _ ⟨rfl, rfl, rfl, rfl, trivial⟩ trivial rfl rfl) fun i hi => ?_
  repeat' (first | refine R.mv rfl ?_ | refine R.reg ?_ | refine R.nil ?_ | refine R.seq ?_ | refine R.nseq ?_ | refine R.nblk ?_ | refine R.skip ?_ | refine R.blk ?_ | refine R.exit rfl ?_ | refine R.ldEp rfl rfl (by assumption) rfl rfl ?_ | refine R.ldaEp rfl rfl (by assumption) (Nat.le_of_ble_eq_true rfl) rfl rfl ?_ | refine R.ld rfl rfl rfl ?_ | refine R.lda rfl rfl (Nat.le_of_ble_eq_true rfl) rfl ?_ | refine R.lenM rfl ?_ | refine R.lenO rfl rfl ?_ | refine R.len rfl rfl ?_ | refine R.lss rfl rfl ?_ | refine R.neq rfl rfl ?_ | refine R.add rfl rfl (by omega) ?_ | refine R.ixN rfl rfl rfl (by omega) (fun a ha => ?_) | refine R.ixM rfl rfl rfl (by omega) (fun a ha => ?_) | refine R.ixON rfl rfl rfl (by first | omega | (simp; omega)) (fun a' ha' => ?_) | refine R.ixO rfl rfl rfl (by first | omega | (simp; omega)) (fun a' ha' => ?_) | refine R.condT rfl ?_ | refine R.condF rfl ?_ | refine R.cond rfl (fun hc => ?_) (fun hc => ?_) | refine R.condN rfl (fun hc => ?_) (fun hc => ?_) | refine R.condB rfl (fun hc => ?_) (fun hc => ?_))
  · refine R.nloop (R.again (i + 1) ⟨by omega, ?_⟩ (by omega) ⟨rfl, rfl, rfl, rfl, trivial⟩ trivial rfl rfl)
    rw [take_snoc ha]
    intro b hb
    rcases List.mem_append.1 hb with hb | hb
    · exact hi.2 b hb
    · simp at hb; subst hb; assumption
  · exact R.ret ⟨.inr rfl, R.outI rfl rfl (orV_some hi.2 ha hc).symm⟩
  · obtain rfl : i = l.length := by omega
    exact R.ret ⟨.inr rfl, R.outI rfl rfl (orV_none (by simpa using hi.2)).symm⟩
end Go.Proofs.YtnadbadljbfbbaaDoor
