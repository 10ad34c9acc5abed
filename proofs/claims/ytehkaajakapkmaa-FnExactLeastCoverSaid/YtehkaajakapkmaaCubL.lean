/- Cubes and bits: what the covers need of them. -/
import Derived.Test.YtehkaajakapkmaaBoilC3
import Derived.Test.YtehkaajakapkmaaBel
import Derived.Test.YtehkaajakapkmaaOutN
namespace Go.Proofs.Ytehkaajakapkmaa
open Go.RowKit
set_option maxRecDepth 100000 in
def S.s18 : SC := (.seq (.reg [⟨(.some 4), .none, .false, (.mv (.const (Go.Value.bool false)))⟩]) (.seq (.seq (.reg [⟨(.some 6), .none, .false, (.mv (.tmp 1))⟩, ⟨(.some 7), .none, .false, (.len (.tmp 6))⟩, ⟨(.some 8), .none, .false, (.mv (.tmp 0))⟩, ⟨(.some 9), .none, .false, (.bin .neq (.tmp 7) (.tmp 8))⟩]) (.cond (.tmp 9) (.seq (.reg [⟨(.some 4), .none, .false, (.mv (.const (Go.Value.bool false)))⟩]) .ret) .skip)) (.seq (.seq (.reg [⟨(.some 5), .none, .false, (.mv (.const (Go.Value.int Go.IntKind.i64 0)))⟩]) (.block 0 (.loop (.seq (.seq (.reg [⟨(.some 10), .none, .false, (.mv (.tmp 5))⟩, ⟨(.some 11), .none, .false, (.mv (.tmp 1))⟩, ⟨(.some 12), .none, .false, (.len (.tmp 11))⟩, ⟨(.some 13), .none, .false, (.bin .lss (.tmp 10) (.tmp 12))⟩]) (.cond (.tmp 13) .skip (.exit 0))) (.seq (.block 1 (.seq (.reg [⟨(.some 16), .none, .false, (.mv (.tmp 1))⟩, ⟨(.some 17), .none, .false, (.mv (.tmp 5))⟩, ⟨(.some 18), .none, .false, (.ix (.mk 2 1) (.tmp 16) (.tmp 17))⟩, ⟨(.some 19), .none, .false, (.ld .false 1 (.tmp 18))⟩, ⟨(.some 20), .none, .false, (.call (.func 17) [(.tmp 19), (.const (Go.Value.int Go.IntKind.i64 0)), (.const (Go.Value.int Go.IntKind.i64 1))])⟩, ⟨(.some 21), .none, .false, (.not (.tmp 20))⟩]) (.cond (.tmp 21) (.seq (.reg [⟨(.some 4), .none, .false, (.mv (.const (Go.Value.bool false)))⟩]) .ret) .skip))) (.reg [⟨(.some 14), .none, .false, (.mv (.tmp 5))⟩, ⟨(.some 15), .none, .false, (.bin .add (.tmp 14) (.const (Go.Value.int Go.IntKind.i64 1)))⟩, ⟨(.some 5), .none, .false, (.mv (.tmp 15))⟩])))))) (.seq (.reg [⟨(.some 4), .none, .false, (.mv (.const (Go.Value.bool true)))⟩]) .ret))))
set_option maxRecDepth 100000 in
theorem S.ok18 : stripF Try.prog Try.f18 = some S.s18 := by kernel_rfl
set_option maxRecDepth 100000 in
def S.s22 : SC := (.seq (.reg [⟨(.some 4), .none, .false, (.mv (.const (Go.Value.bool false)))⟩]) (.seq (.reg [⟨(.some 5), .none, .false, (.mv (.tmp 0))⟩, ⟨(.some 6), .none, .false, (.len (.tmp 5))⟩, ⟨(.some 7), .none, .false, (.mv (.tmp 1))⟩, ⟨(.some 8), .none, .false, (.bin .eql (.tmp 6) (.tmp 7))⟩, ⟨(.some 9), .none, .false, (.mv (.tmp 8))⟩, ⟨(.some 10), (.some (9, .true)), .false, (.mv (.tmp 0))⟩, ⟨(.some 11), (.some (9, .true)), .false, (.call (.func 30) [(.tmp 10), (.const (Go.Value.int Go.IntKind.i64 2))])⟩, ⟨(.some 12), .none, .false, (.pick (.tmp 9) (.tmp 11) (.const (Go.Value.bool false)))⟩, ⟨(.some 4), .none, .false, (.mv (.tmp 12))⟩]) .ret))
set_option maxRecDepth 100000 in
theorem S.ok22 : stripF Try.prog Try.f22 = some S.s22 := by kernel_rfl
set_option maxRecDepth 100000 in
def S.s27 : SC := (.seq (.reg [⟨(.some 2), .none, .false, (.box 35 (.tmp 0))⟩, ⟨(.some 4), .none, .false, (.mv (.const (Go.Value.bool false)))⟩]) (.seq (.reg [⟨(.some 5), .none, .false, (.mv (.tmp 1))⟩, ⟨(.some 6), .none, .false, (.fa 0 (.tmp 2))⟩, ⟨(.some 7), .none, .false, (.ld .false 1 (.tmp 6))⟩, ⟨(.some 8), .none, .false, (.bin .and (.tmp 5) (.tmp 7))⟩, ⟨(.some 9), .none, .false, (.fa 1 (.tmp 2))⟩, ⟨(.some 10), .none, .false, (.ld .false 1 (.tmp 9))⟩, ⟨(.some 11), .none, .false, (.bin .eql (.tmp 8) (.tmp 10))⟩, ⟨(.some 4), .none, .false, (.mv (.tmp 11))⟩]) .ret))
set_option maxRecDepth 100000 in
theorem S.ok27 : stripF Try.prog Try.f27 = some S.s27 := by kernel_rfl
set_option maxRecDepth 100000 in
def S.s31 : SC := (.seq (.reg [⟨(.some 3), .none, .false, (.box 35 (.tmp 1))⟩, ⟨(.some 4), .none, .false, (.mv (.const (Go.Value.bool false)))⟩]) (.seq (.reg [⟨(.some 5), .none, .true, (.fa 0 (.tmp 3))⟩, ⟨(.some 6), .none, .true, (.ld .false 1 (.tmp 5))⟩, ⟨(.some 7), .none, .true, (.mv (.tmp 0))⟩, ⟨(.some 8), .none, .true, (.bin .shl (.const (Go.Value.int Go.IntKind.i64 1)) (.tmp 7))⟩, ⟨(.some 9), .none, .true, (.bin .sub (.tmp 8) (.const (Go.Value.int Go.IntKind.i64 1)))⟩, ⟨(.some 10), .none, .true, (.fcal (.func 29) [(.tmp 6), (.const (Go.Value.int Go.IntKind.i64 0)), (.tmp 9)])⟩, ⟨(.some 11), .none, .true, (.mv (.tmp 10))⟩, ⟨(.some 12), (.some (11, .true)), .true, (.fa 1 (.tmp 3))⟩, ⟨(.some 13), (.some (11, .true)), .true, (.ld .false 1 (.tmp 12))⟩, ⟨(.some 14), (.some (11, .true)), .true, (.fa 0 (.tmp 3))⟩, ⟨(.some 15), (.some (11, .true)), .true, (.ld .false 1 (.tmp 14))⟩, ⟨(.some 16), (.some (11, .true)), .true, (.bin .and (.tmp 13) (.tmp 15))⟩, ⟨(.some 17), (.some (11, .true)), .true, (.fa 1 (.tmp 3))⟩, ⟨(.some 18), (.some (11, .true)), .true, (.ld .false 1 (.tmp 17))⟩, ⟨(.some 19), (.some (11, .true)), .true, (.bin .eql (.tmp 16) (.tmp 18))⟩, ⟨(.some 20), .none, .true, (.pick (.tmp 11) (.tmp 19) (.const (Go.Value.bool false)))⟩, ⟨(.some 4), .none, .true, (.mv (.tmp 20))⟩]) .ret))
set_option maxRecDepth 100000 in
theorem S.ok31 : stripF Try.prog Try.f31 = some S.s31 := by kernel_rfl
set_option maxRecDepth 100000 in
def S.s34 : SC := (.seq (.reg [⟨(.some 2), .none, .false, (.box 35 (.tmp 0))⟩, ⟨(.some 4), .none, .false, (.mv (.const (Go.Value.bool false)))⟩]) (.seq (.reg [⟨(.some 5), .none, .false, (.mv (.tmp 1))⟩, ⟨(.some 6), .none, .false, (.fa 0 (.tmp 2))⟩, ⟨(.some 7), .none, .false, (.ld .false 1 (.tmp 6))⟩, ⟨(.some 8), .none, .false, (.bin .and (.tmp 5) (.tmp 7))⟩, ⟨(.some 9), .none, .false, (.fa 1 (.tmp 2))⟩, ⟨(.some 10), .none, .false, (.ld .false 1 (.tmp 9))⟩, ⟨(.some 11), .none, .false, (.bin .eql (.tmp 8) (.tmp 10))⟩, ⟨(.some 4), .none, .false, (.mv (.tmp 11))⟩]) .ret))
set_option maxRecDepth 100000 in
theorem S.ok34 : stripF Try.prog Try.f34 = some S.s34 := by kernel_rfl
set_option maxRecDepth 10000
set_option maxHeartbeats 4000000
def okQ (n : Int) (q : TCube) : Prop := (0 ≤ q.fCare ∧ q.fCare ≤ 2 ^ n.toNat - 1) ∧ andI q.fValue q.fCare = q.fValue
theorem iIsCube (n : Int) (q : TCube) (h : 1 ≤ n ∧ n ≤ 4) : Spec Try.prog 31 [vI n, .agg (enCube q)] (oB (bP (okQ n q))) := by
  refine Spec.walk T.mixed Try.func31 S.ok31 (by simp [Try.f31]) fun hk => ?_
  unfold S.s31
  repeat' (first | refine R.mv rfl ?_ | refine R.reg ?_ | refine R.nil ?_ | refine R.seq ?_ | refine R.nseq ?_ | refine R.nblk ?_ | refine R.skip ?_ | refine R.blk ?_ | refine R.exit rfl ?_ | refine R.gRun rfl ?_ | refine R.gSkip rfl ?_ | refine R.gSkip0 rfl ?_ | refine R.gUndef rfl ?_ | refine R.gUndef0 rfl ?_ | refine R.ldEp rfl rfl (by assumption) rfl rfl ?_ | refine R.ldaEp rfl rfl (by assumption) (Nat.le_of_ble_eq_true rfl) rfl rfl ?_ | refine R.ld rfl rfl rfl ?_ | refine R.lda rfl rfl (Nat.le_of_ble_eq_true rfl) rfl ?_ | refine R.fa rfl rfl ?_ | refine R.eql rfl rfl ?_ | refine R.sub rfl rfl (by omega) ?_ | refine R.pickT rfl rfl ?_ | refine R.pickF rfl rfl ?_ | refine R.box rfl rfl rfl ?_ | refine R.and rfl rfl ?_ | refine R.shl1 rfl rfl (by omega) (fun hp => ?_) | refine R.condT rfl ?_ | refine R.condF rfl ?_ | refine R.call (bor := false) rfl rfl (iWithin _ _ _) rfl rfl rfl ?_ | refine R.call (bor := true) rfl rfl (iWithin _ _ _) rfl rfl rfl ?_ | refine R.fcal (bor := false) rfl rfl (iWithin _ _ _) rfl rfl rfl ?_ | refine R.fcal (bor := true) rfl rfl (iWithin _ _ _) rfl rfl rfl ?_ | refine R.cond rfl (fun hc => ?_) (fun hc => ?_) | refine R.condN rfl (fun hc => ?_) (fun hc => ?_) | refine R.condB rfl (fun hc => ?_) (fun hc => ?_) | refine R.gP rfl (fun hc => ?_) (fun hc => ?_) | refine R.gN rfl (fun hc => ?_) (fun hc => ?_) | refine R.gB rfl (fun hc => ?_) (fun hc => ?_))
  · refine R.ret ⟨.inr rfl, R.outB rfl rfl ?_⟩
    rw [Bool.eq_iff_iff, bP_iff, decide_eq_true_eq]
    exact ⟨fun h => ⟨hc, h⟩, fun h => h.2⟩
  · exact R.ret ⟨.inr rfl, R.outB rfl rfl (bP_false fun h => hc h.1)⟩
def inK (l : List Int) (n : Int) : Prop := (l.length : Int) = n ∧ ∀ w ∈ l, 0 ≤ w ∧ w ≤ 1
def hasQ (q : TCube) (n : Int) : Bool := decide (andI n q.fCare = q.fValue)
theorem iHas (q : TCube) (n : Int) : Spec Try.prog 34 [.agg (enCube q), vI n] (oB (hasQ q n)) := by
  refine Spec.walk T.mixed Try.func34 S.ok34 (by simp [Try.f34]) fun hk => ?_
  unfold S.s34
  repeat' (first | refine R.mv rfl ?_ | refine R.reg ?_ | refine R.nil ?_ | refine R.seq ?_ | refine R.nseq ?_ | refine R.nblk ?_ | refine R.skip ?_ | refine R.blk ?_ | refine R.exit rfl ?_ | refine R.ldEp rfl rfl (by assumption) rfl rfl ?_ | refine R.ldaEp rfl rfl (by assumption) (Nat.le_of_ble_eq_true rfl) rfl rfl ?_ | refine R.ld rfl rfl rfl ?_ | refine R.lda rfl rfl (Nat.le_of_ble_eq_true rfl) rfl ?_ | refine R.fa rfl rfl ?_ | refine R.eql rfl rfl ?_ | refine R.box rfl rfl rfl ?_ | refine R.and rfl rfl ?_ | refine R.condT rfl ?_ | refine R.condF rfl ?_ | refine R.cond rfl (fun hc => ?_) (fun hc => ?_) | refine R.condN rfl (fun hc => ?_) (fun hc => ?_) | refine R.condB rfl (fun hc => ?_) (fun hc => ?_))
  exact R.ret ⟨.inr rfl, R.outB rfl rfl rfl⟩
theorem iBits (l : List Int) (n : Int) : Spec Try.prog 22 [vL kI (ints l), vI n] (oB (bP (inK l n))) := by
  refine Spec.walk T.mixed Try.func22 S.ok22 (by simp [Try.f22]) fun hk => ?_
  unfold S.s22
  repeat' (first | refine R.mv rfl ?_ | refine R.reg ?_ | refine R.nil ?_ | refine R.seq ?_ | refine R.nseq ?_ | refine R.nblk ?_ | refine R.skip ?_ | refine R.blk ?_ | refine R.exit rfl ?_ | refine R.gRun rfl ?_ | refine R.gSkip rfl ?_ | refine R.gSkip0 rfl ?_ | refine R.gUndef rfl ?_ | refine R.gUndef0 rfl ?_ | refine R.lenM rfl ?_ | refine R.lenO rfl rfl ?_ | refine R.len rfl rfl ?_ | refine R.eql rfl rfl ?_ | refine R.pickT rfl rfl ?_ | refine R.pickF rfl rfl ?_ | refine R.condT rfl ?_ | refine R.condF rfl ?_ | refine R.call (bor := false) rfl rfl (iBelowP _ 2 (by omega) (by omega)) rfl rfl rfl ?_ | refine R.call (bor := true) rfl rfl (iBelowP _ 2 (by omega) (by omega)) rfl rfl rfl ?_ | refine R.fcal (bor := false) rfl rfl (iBelowP _ 2 (by omega) (by omega)) rfl rfl rfl ?_ | refine R.fcal (bor := true) rfl rfl (iBelowP _ 2 (by omega) (by omega)) rfl rfl rfl ?_ | refine R.cond rfl (fun hc => ?_) (fun hc => ?_) | refine R.condN rfl (fun hc => ?_) (fun hc => ?_) | refine R.condB rfl (fun hc => ?_) (fun hc => ?_) | refine R.gP rfl (fun hc => ?_) (fun hc => ?_) | refine R.gN rfl (fun hc => ?_) (fun hc => ?_) | refine R.gB rfl (fun hc => ?_) (fun hc => ?_))
  all_goals refine R.ret ⟨.inr rfl, R.outB rfl rfl ?_⟩
  all_goals rw [Bool.eq_iff_iff, bP_iff]
  · rw [bP_iff]
    exact ⟨fun h => ⟨by assumption, h⟩, fun h => h.2⟩
  · exact ⟨fun h => (by cases h), fun h => absurd h.1 (by assumption)⟩
theorem iBitsT {l : List Int} {n : Int} (h : inK l n) : Spec Try.prog 22 [vL kI (ints l), vI n] (oB true) := by have := iBits l n; rwa [bP_iff.2 h] at this
theorem iBitsF {l : List Int} {n : Int} (h : ¬ inK l n) : Spec Try.prog 22 [vL kI (ints l), vI n] (oB false) := by have := iBits l n; rwa [bP_not.2 h] at this
theorem sHas (q : TCube) (n : Int) : Spec Try.prog 27 [.agg (enCube q), vI n] (oB (hasQ q n)) := by
  refine Spec.walk T.mixed Try.func27 S.ok27 (by simp [Try.f27]) fun hk => ?_
  unfold S.s27
  repeat' (first | refine R.mv rfl ?_ | refine R.reg ?_ | refine R.nil ?_ | refine R.seq ?_ | refine R.nseq ?_ | refine R.nblk ?_ | refine R.skip ?_ | refine R.blk ?_ | refine R.exit rfl ?_ | refine R.ldEp rfl rfl (by assumption) rfl rfl ?_ | refine R.ldaEp rfl rfl (by assumption) (Nat.le_of_ble_eq_true rfl) rfl rfl ?_ | refine R.ld rfl rfl rfl ?_ | refine R.lda rfl rfl (Nat.le_of_ble_eq_true rfl) rfl ?_ | refine R.fa rfl rfl ?_ | refine R.eql rfl rfl ?_ | refine R.box rfl rfl rfl ?_ | refine R.and rfl rfl ?_ | refine R.condT rfl ?_ | refine R.condF rfl ?_ | refine R.cond rfl (fun hc => ?_) (fun hc => ?_) | refine R.condN rfl (fun hc => ?_) (fun hc => ?_) | refine R.condB rfl (fun hc => ?_) (fun hc => ?_))
  exact R.ret ⟨.inr rfl, R.outB rfl rfl rfl⟩
theorem sBits (l : List Int) (n : Int) : Spec Try.prog 18 [vI n, vL kI (ints l)] (oB (bP (inK l n))) := by
  refine Spec.walk T.mixed Try.func18 S.ok18 (by simp [Try.f18]) fun hk => ?_
  have h3 := (K.c hk 1 rfl).lenM
  unfold S.s18
  by_cases hl : (l.length : Int) = n
  case neg =>
    repeat' (first | refine R.mv rfl ?_ | refine R.reg ?_ | refine R.nil ?_ | refine R.seq ?_ | refine R.nseq ?_ | refine R.nblk ?_ | refine R.skip ?_ | refine R.blk ?_ | refine R.exit rfl ?_ | refine R.ldEp rfl rfl (by assumption) rfl rfl ?_ | refine R.ldaEp rfl rfl (by assumption) (Nat.le_of_ble_eq_true rfl) rfl rfl ?_ | refine R.ld rfl rfl rfl ?_ | refine R.lda rfl rfl (Nat.le_of_ble_eq_true rfl) rfl ?_ | refine R.lenM rfl ?_ | refine R.lenO rfl rfl ?_ | refine R.len rfl rfl ?_ | refine R.lss rfl rfl ?_ | refine R.neq rfl rfl ?_ | refine R.add rfl rfl (by omega) ?_ | refine R.ixN rfl rfl rfl (by omega) (fun a ha => ?_) | refine R.ixM rfl rfl rfl (by omega) (fun a ha => ?_) | refine R.ixON rfl rfl rfl (by first | omega | (simp; omega)) (fun a' ha' => ?_) | refine R.ixO rfl rfl rfl (by first | omega | (simp; omega)) (fun a' ha' => ?_) | refine R.not rfl ?_ | refine R.condT rfl ?_ | refine R.condF rfl ?_ | refine R.cond rfl (fun hc => ?_) (fun hc => ?_) | refine R.condN rfl (fun hc => ?_) (fun hc => ?_) | refine R.condB rfl (fun hc => ?_) (fun hc => ?_))
    all_goals first | (exfalso; omega) | exact R.ret ⟨.inr rfl, R.outB rfl rfl (bP_false fun h => hl h.1)⟩
  repeat' (first | refine R.mv rfl ?_ | refine R.reg ?_ | refine R.nil ?_ | refine R.seq ?_ | refine R.nseq ?_ | refine R.nblk ?_ | refine R.skip ?_ | refine R.blk ?_ | refine R.exit rfl ?_ | refine R.ldEp rfl rfl (by assumption) rfl rfl ?_ | refine R.ldaEp rfl rfl (by assumption) (Nat.le_of_ble_eq_true rfl) rfl rfl ?_ | refine R.ld rfl rfl rfl ?_ | refine R.lda rfl rfl (Nat.le_of_ble_eq_true rfl) rfl ?_ | refine R.lenM rfl ?_ | refine R.lenO rfl rfl ?_ | refine R.len rfl rfl ?_ | refine R.lss rfl rfl ?_ | refine R.neq rfl rfl ?_ | refine R.add rfl rfl (by omega) ?_ | refine R.ixN rfl rfl rfl (by omega) (fun a ha => ?_) | refine R.ixM rfl rfl rfl (by omega) (fun a ha => ?_) | refine R.ixON rfl rfl rfl (by first | omega | (simp; omega)) (fun a' ha' => ?_) | refine R.ixO rfl rfl rfl (by first | omega | (simp; omega)) (fun a' ha' => ?_) | refine R.not rfl ?_ | refine R.condT rfl ?_ | refine R.condF rfl ?_ | refine R.cond rfl (fun hc => ?_) (fun hc => ?_) | refine R.condN rfl (fun hc => ?_) (fun hc => ?_) | refine R.condB rfl (fun hc => ?_) (fun hc => ?_))
  all_goals first | (exfalso; omega) | skip
  refine R.loop (G := Nat) (fun i => [(1, rdA kI (ints l)), (5, pvA (.int .i64 i))]) (fun _ => []) (fun i => i ≤ l.length ∧ ∀ w ∈ l.take i, 0 ≤ w ∧ w ≤ 1) (fun i => l.length - i) 0 ⟨by omega, by simp⟩ (Weak.frame _ _ ⟨rfl, rfl, trivial⟩ trivial rfl rfl) fun n hn => ?_
  repeat' (first | refine R.mv rfl ?_ | refine R.reg ?_ | refine R.nil ?_ | refine R.seq ?_ | refine R.nseq ?_ | refine R.nblk ?_ | refine R.skip ?_ | refine R.blk ?_ | refine R.exit rfl ?_ | refine R.ldEp rfl rfl (by assumption) rfl rfl ?_ | refine R.ldaEp rfl rfl (by assumption) (Nat.le_of_ble_eq_true rfl) rfl rfl ?_ | refine R.ld rfl rfl rfl ?_ | refine R.lda rfl rfl (Nat.le_of_ble_eq_true rfl) rfl ?_ | refine R.lenM rfl ?_ | refine R.lenO rfl rfl ?_ | refine R.len rfl rfl ?_ | refine R.lss rfl rfl ?_ | refine R.neq rfl rfl ?_ | refine R.add rfl rfl (by omega) ?_ | refine R.ixN rfl rfl rfl (by omega) (fun a ha => ?_) | refine R.ixM rfl rfl rfl (by omega) (fun a ha => ?_) | refine R.ixON rfl rfl rfl (by first | omega | (simp; omega)) (fun a' ha' => ?_) | refine R.ixO rfl rfl rfl (by first | omega | (simp; omega)) (fun a' ha' => ?_) | refine R.not rfl ?_ | refine R.condT rfl ?_ | refine R.condF rfl ?_ | refine R.call (bor := false) rfl rfl (sIn _ _ _) rfl rfl rfl ?_ | refine R.call (bor := true) rfl rfl (sIn _ _ _) rfl rfl rfl ?_ | refine R.fcal (bor := false) rfl rfl (sIn _ _ _) rfl rfl rfl ?_ | refine R.fcal (bor := true) rfl rfl (sIn _ _ _) rfl rfl rfl ?_ | refine R.cond rfl (fun hc => ?_) (fun hc => ?_) | refine R.condN rfl (fun hc => ?_) (fun hc => ?_) | refine R.condB rfl (fun hc => ?_) (fun hc => ?_))
  · refine R.nloop (R.again (n + 1) ⟨by omega, ?_⟩ (by omega) ⟨rfl, rfl, trivial⟩ trivial rfl rfl)
    rw [take_snoc ha]
    intro w hw
    rcases List.mem_append.1 hw with hw | hw
    · exact hn.2 w hw
    · simp at hw; subst hw; assumption
  · refine R.ret ⟨.inr rfl, R.outB rfl rfl (bP_false fun h => ?_)⟩
    have := h.2 a (List.mem_of_getElem? ha)
    contradiction
  · refine R.ret ⟨.inr rfl, R.outB rfl rfl (bP_true ⟨hl, ?_⟩)⟩
    have hln : n = l.length := by omega
    subst hln
    simpa using hn.2
theorem sBitsT {l : List Int} {n : Int} (h : inK l n) : Spec Try.prog 18 [vI n, vL kI (ints l)] (oB true) := by have := sBits l n; rwa [bP_iff.2 h] at this
theorem sBitsF {l : List Int} {n : Int} (h : ¬ inK l n) : Spec Try.prog 18 [vI n, vL kI (ints l)] (oB false) := by have := sBits l n; rwa [bP_not.2 h] at this
end Go.Proofs.Ytehkaajakapkmaa
