/- Lists of numbers below a limit; answers that are known. -/
import Derived.Test.YtehkaajakapkmaaY23
import Derived.Test.YtehkaajakapkmaaBoil
namespace Go.Proofs.Ytehkaajakapkmaa
open Go.RowKit
set_option maxRecDepth 100000 in
def S.s21 : SC := (.seq (.reg [⟨(.some 2), .none, .false, (.mv (.const (Go.Value.bool false)))⟩]) (.seq (.reg [⟨(.some 3), .none, .false, (.mv (.tmp 0))⟩, ⟨(.some 4), .none, .false, (.call (.func 29) [(.tmp 3), (.const (Go.Value.int Go.IntKind.i64 1)), (.const (Go.Value.int Go.IntKind.i64 4))])⟩, ⟨(.some 2), .none, .false, (.mv (.tmp 4))⟩]) .ret))
set_option maxRecDepth 100000 in
theorem S.ok21 : stripF Try.prog Try.f21 = some S.s21 := by kernel_rfl
set_option maxRecDepth 100000 in
def S.s30 : SC := (.seq (.reg [⟨(.some 3), .none, .false, (.box 2 (.tmp 1))⟩, ⟨(.some 4), .none, .false, (.mv (.const (Go.Value.bool false)))⟩]) (.seq (.reg [⟨(.some 5), .none, .false, (.mv (.tmp 0))⟩, ⟨(.some 6), .none, .false, (.mkf 37 [(.tmp 3)])⟩, ⟨(.some 7), .none, .false, (.call (.func 36) [(.tmp 5), (.tmp 6)])⟩, ⟨(.some 8), .none, .false, (.not (.tmp 7))⟩, ⟨(.some 4), .none, .false, (.mv (.tmp 8))⟩]) .ret))
set_option maxRecDepth 100000 in
theorem S.ok30 : stripF Try.prog Try.f30 = some S.s30 := by kernel_rfl
set_option maxRecDepth 100000 in
def S.s37 : SC := (.seq (.reg [⟨(.some 3), .none, .false, (.mv (.const (Go.Value.bool false)))⟩]) (.seq (.reg [⟨(.some 4), .none, .false, (.mv (.tmp 0))⟩, ⟨(.some 5), .none, .false, (.ld .false 1 (.tmp 1))⟩, ⟨(.some 6), .none, .false, (.bin .sub (.tmp 5) (.const (Go.Value.int Go.IntKind.i64 1)))⟩, ⟨(.some 7), .none, .false, (.call (.func 29) [(.tmp 4), (.const (Go.Value.int Go.IntKind.i64 0)), (.tmp 6)])⟩, ⟨(.some 8), .none, .false, (.not (.tmp 7))⟩, ⟨(.some 3), .none, .false, (.mv (.tmp 8))⟩]) .ret))
set_option maxRecDepth 100000 in
theorem S.ok37 : stripF Try.prog Try.f37 = some S.s37 := by kernel_rfl
set_option maxRecDepth 10000
set_option maxHeartbeats 4000000
theorem inB_T {n a b : Int} (h : a ≤ n ∧ n ≤ b) : inB n a b = true := decide_eq_true h
theorem inB_F {n a b : Int} (h : ¬ (a ≤ n ∧ n ≤ b)) : inB n a b = false := decide_eq_false h
theorem iWinT {n a b : Int} (h : a ≤ n ∧ n ≤ b) : Spec Try.prog 29 [vI n, vI a, vI b] (oB true) := by have := iWithin n a b; rwa [inB_T h] at this
theorem iWinF {n a b : Int} (h : ¬ (a ≤ n ∧ n ≤ b)) : Spec Try.prog 29 [vI n, vI a, vI b] (oB false) := by have := iWithin n a b; rwa [inB_F h] at this
theorem sInT {n a b : Int} (h : a ≤ n ∧ n ≤ b) : Spec Try.prog 17 [vI n, vI a, vI b] (oB true) := by have := sIn n a b; rwa [inB_T h] at this
theorem sInF {n a b : Int} (h : ¬ (a ≤ n ∧ n ≤ b)) : Spec Try.prog 17 [vI n, vI a, vI b] (oB false) := by have := sIn n a b; rwa [inB_F h] at this
theorem iInputsOk (n : Int) : Spec Try.prog 21 [vI n] (oB (inB n 1 4)) := by
  refine Spec.walk T.mixed Try.func21 S.ok21 (by simp [Try.f21]) fun hk => ?_
  unfold S.s21
  repeat' (first | refine R.mv rfl ?_ | refine R.reg ?_ | refine R.nil ?_ | refine R.seq ?_ | refine R.nseq ?_ | refine R.nblk ?_ | refine R.skip ?_ | refine R.blk ?_ | refine R.exit rfl ?_ | refine R.condT rfl ?_ | refine R.condF rfl ?_ | refine R.call (bor := false) rfl rfl (iWithin _ _ _) rfl rfl rfl ?_ | refine R.call (bor := true) rfl rfl (iWithin _ _ _) rfl rfl rfl ?_ | refine R.fcal (bor := false) rfl rfl (iWithin _ _ _) rfl rfl rfl ?_ | refine R.fcal (bor := true) rfl rfl (iWithin _ _ _) rfl rfl rfl ?_ | refine R.cond rfl (fun hc => ?_) (fun hc => ?_) | refine R.condN rfl (fun hc => ?_) (fun hc => ?_) | refine R.condB rfl (fun hc => ?_) (fun hc => ?_))
  exact R.ret ⟨.inr rfl, R.outB rfl rfl rfl⟩
theorem iInT {n : Int} (h : 1 ≤ n ∧ n ≤ 4) : Spec Try.prog 21 [vI n] (oB true) := by have := iInputsOk n; rwa [inB_T h] at this
theorem iInF {n : Int} (h : ¬ (1 ≤ n ∧ n ≤ 4)) : Spec Try.prog 21 [vI n] (oB false) := by have := iInputsOk n; rwa [inB_F h] at this
theorem iBelow1 (m n : Int) (hm : -9223372036854775807 ≤ m) (hm' : m ≤ 9223372036854775807) : Spec Try.prog 37 [vI n, vP [iD m]] (oB (!(inB n 0 (m - 1)))) := by
  refine Spec.walk T.mixed Try.func37 S.ok37 (by simp [Try.f37]) fun hk => ?_
  unfold S.s37
  repeat' (first | refine R.mv rfl ?_ | refine R.reg ?_ | refine R.nil ?_ | refine R.seq ?_ | refine R.nseq ?_ | refine R.nblk ?_ | refine R.skip ?_ | refine R.blk ?_ | refine R.exit rfl ?_ | refine R.ldEp rfl rfl (by assumption) rfl rfl ?_ | refine R.ldaEp rfl rfl (by assumption) (Nat.le_of_ble_eq_true rfl) rfl rfl ?_ | refine R.ld rfl rfl rfl ?_ | refine R.lda rfl rfl (Nat.le_of_ble_eq_true rfl) rfl ?_ | refine R.sub rfl rfl (by omega) ?_ | refine R.not rfl ?_ | refine R.condT rfl ?_ | refine R.condF rfl ?_ | refine R.call (bor := false) rfl rfl (iWithin _ _ _) rfl rfl rfl ?_ | refine R.call (bor := true) rfl rfl (iWithin _ _ _) rfl rfl rfl ?_ | refine R.fcal (bor := false) rfl rfl (iWithin _ _ _) rfl rfl rfl ?_ | refine R.fcal (bor := true) rfl rfl (iWithin _ _ _) rfl rfl rfl ?_ | refine R.cond rfl (fun hc => ?_) (fun hc => ?_) | refine R.condN rfl (fun hc => ?_) (fun hc => ?_) | refine R.condB rfl (fun hc => ?_) (fun hc => ?_))
  exact R.ret ⟨.inr rfl, R.outB rfl rfl rfl⟩
theorem iBelow (l : List Int) (m : Int) (hm : -9223372036854775807 ≤ m) (hm' : m ≤ 9223372036854775807) : Spec Try.prog 30 [vL kI (ints l), vI m] (oB (l.all fun n => inB n 0 (m - 1))) := by
  refine Spec.walk T.mixed Try.func30 S.ok30 (by simp [Try.f30]) fun hk => ?_
  unfold S.s30
  repeat' (first | refine R.mv rfl ?_ | refine R.reg ?_ | refine R.nil ?_ | refine R.seq ?_ | refine R.nseqF rfl rfl rfl ?_ | refine R.nseq ?_ | refine R.nblk ?_ | refine R.skip ?_ | refine R.blk ?_ | refine R.exit rfl ?_ | refine R.not rfl ?_ | refine R.mkf rfl ?_ | refine R.box rfl rfl rfl ?_ | refine R.condT rfl ?_ | refine R.condF rfl ?_ | refine R.call (bor := false) rfl rfl (lib_anyI (p := fun n => !(inB n 0 (m - 1))) fun a _ => iBelow1 m a hm hm') rfl rfl rfl ?_ | refine R.call (bor := true) rfl rfl (lib_anyI (p := fun n => !(inB n 0 (m - 1))) fun a _ => iBelow1 m a hm hm') rfl rfl rfl ?_ | refine R.fcal (bor := false) rfl rfl (lib_anyI (p := fun n => !(inB n 0 (m - 1))) fun a _ => iBelow1 m a hm hm') rfl rfl rfl ?_ | refine R.fcal (bor := true) rfl rfl (lib_anyI (p := fun n => !(inB n 0 (m - 1))) fun a _ => iBelow1 m a hm hm') rfl rfl rfl ?_ | refine R.cond rfl (fun hc => ?_) (fun hc => ?_) | refine R.condN rfl (fun hc => ?_) (fun hc => ?_) | refine R.condB rfl (fun hc => ?_) (fun hc => ?_))
  refine R.ret ⟨.inr rfl, R.outB rfl rfl ?_⟩
  simp [inB, List.not_any_eq_all_not]
theorem allBelow {l : List Int} {m : Int} : (l.all fun n => inB n 0 (m - 1)) = bP (∀ n ∈ l, 0 ≤ n ∧ n ≤ m - 1) := by
  rw [Bool.eq_iff_iff, bP_iff]
  simp [inB]
theorem iBelowP (l : List Int) (m : Int) (hm : -9223372036854775807 ≤ m) (hm' : m ≤ 9223372036854775807) : Spec Try.prog 30 [vL kI (ints l), vI m] (oB (bP (∀ n ∈ l, 0 ≤ n ∧ n ≤ m - 1))) := by
  have := iBelow l m hm hm'
  rwa [allBelow] at this
end Go.Proofs.Ytehkaajakapkmaa
