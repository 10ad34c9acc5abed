/- Lists of numbers below a limit; answers that are known. -/
import Derived.Test.YtnadbadljbfbbaaDoorY23
import Derived.Test.YtnadbadljbfbbaaDoorBoil
namespace Go.Proofs.YtnadbadljbfbbaaDoor
open Go.RowKit
set_option maxRecDepth 100000 in
def S.s44 : SC := (.seq (.reg [⟨(.some 3), .none, .false, (.box 2 (.tmp 1))⟩, ⟨(.some 4), .none, .false, (.mv (.const (Go.Value.bool false)))⟩]) (.seq (.reg [⟨(.some 5), .none, .false, (.mv (.tmp 0))⟩, ⟨(.some 6), .none, .false, (.mkf 66 [(.tmp 3)])⟩, ⟨(.some 7), .none, .false, (.call (.func 65) [(.tmp 5), (.tmp 6)])⟩, ⟨(.some 8), .none, .false, (.not (.tmp 7))⟩, ⟨(.some 4), .none, .false, (.mv (.tmp 8))⟩]) .ret))
set_option maxRecDepth 100000 in
theorem S.ok44 : stripF Tryd.prog Tryd.f44 = some S.s44 := by kernel_rfl
set_option maxRecDepth 100000 in
def S.s66 : SC := (.seq (.reg [⟨(.some 3), .none, .false, (.mv (.const (Go.Value.bool false)))⟩]) (.seq (.reg [⟨(.some 4), .none, .false, (.mv (.tmp 0))⟩, ⟨(.some 5), .none, .false, (.ld .false 1 (.tmp 1))⟩, ⟨(.some 6), .none, .false, (.bin .sub (.tmp 5) (.const (Go.Value.int Go.IntKind.i64 1)))⟩, ⟨(.some 7), .none, .false, (.call (.func 43) [(.tmp 4), (.const (Go.Value.int Go.IntKind.i64 0)), (.tmp 6)])⟩, ⟨(.some 8), .none, .false, (.not (.tmp 7))⟩, ⟨(.some 3), .none, .false, (.mv (.tmp 8))⟩]) .ret))
set_option maxRecDepth 100000 in
theorem S.ok66 : stripF Tryd.prog Tryd.f66 = some S.s66 := by kernel_rfl
set_option maxRecDepth 10000
set_option maxHeartbeats 4000000
theorem inB_T {n a b : Int} (h : a ≤ n ∧ n ≤ b) : inB n a b = true := decide_eq_true h
theorem inB_F {n a b : Int} (h : ¬ (a ≤ n ∧ n ≤ b)) : inB n a b = false := decide_eq_false h
theorem iWinT {n a b : Int} (h : a ≤ n ∧ n ≤ b) : Spec Tryd.prog 43 [vI n, vI a, vI b] (oB true) := by have := iWithin n a b; rwa [inB_T h] at this
theorem iWinF {n a b : Int} (h : ¬ (a ≤ n ∧ n ≤ b)) : Spec Tryd.prog 43 [vI n, vI a, vI b] (oB false) := by have := iWithin n a b; rwa [inB_F h] at this
theorem sInT {n a b : Int} (h : a ≤ n ∧ n ≤ b) : Spec Tryd.prog 40 [vI n, vI a, vI b] (oB true) := by have := sIn n a b; rwa [inB_T h] at this
theorem sInF {n a b : Int} (h : ¬ (a ≤ n ∧ n ≤ b)) : Spec Tryd.prog 40 [vI n, vI a, vI b] (oB false) := by have := sIn n a b; rwa [inB_F h] at this
theorem iBelow1 (m n : Int) (hm : -9223372036854775807 ≤ m) (hm' : m ≤ 9223372036854775807) : Spec Tryd.prog 66 [vI n, vP [iD m]] (oB (!(inB n 0 (m - 1)))) := by
  refine Spec.walk T.mixed Tryd.func66 S.ok66 (by simp [Tryd.f66]) fun hk => ?_
  unfold S.s66
  repeat' (first | refine R.mv rfl ?_ | refine R.reg ?_ | refine R.nil ?_ | refine R.seq ?_ | refine R.nseq ?_ | refine R.nblk ?_ | refine R.skip ?_ | refine R.blk ?_ | refine R.exit rfl ?_ | refine R.ldEp rfl rfl (by assumption) rfl rfl ?_ | refine R.ldaEp rfl rfl (by assumption) (Nat.le_of_ble_eq_true rfl) rfl rfl ?_ | refine R.ld rfl rfl rfl ?_ | refine R.lda rfl rfl (Nat.le_of_ble_eq_true rfl) rfl ?_ | refine R.sub rfl rfl (by omega) ?_ | refine R.not rfl ?_ | refine R.condT rfl ?_ | refine R.condF rfl ?_ | refine R.call (bor := false) rfl rfl (iWithin _ _ _) rfl rfl rfl ?_ | refine R.call (bor := true) rfl rfl (iWithin _ _ _) rfl rfl rfl ?_ | refine R.fcal (bor := false) rfl rfl (iWithin _ _ _) rfl rfl rfl ?_ | refine R.fcal (bor := true) rfl rfl (iWithin _ _ _) rfl rfl rfl ?_ | refine R.cond rfl (fun hc => ?_) (fun hc => ?_) | refine R.condN rfl (fun hc => ?_) (fun hc => ?_) | refine R.condB rfl (fun hc => ?_) (fun hc => ?_))
  exact R.ret ⟨.inr rfl, R.outB rfl rfl rfl⟩
theorem iBelow (l : List Int) (m : Int) (hm : -9223372036854775807 ≤ m) (hm' : m ≤ 9223372036854775807) : Spec Tryd.prog 44 [vL kI (ints l), vI m] (oB (l.all fun n => inB n 0 (m - 1))) := by
  refine Spec.walk T.mixed Tryd.func44 S.ok44 (by simp [Tryd.f44]) fun hk => ?_
  unfold S.s44
  repeat' (first | refine R.mv rfl ?_ | refine R.reg ?_ | refine R.nil ?_ | refine R.seq ?_ | refine R.nseqF rfl rfl rfl ?_ | refine R.nseq ?_ | refine R.nblk ?_ | refine R.skip ?_ | refine R.blk ?_ | refine R.exit rfl ?_ | refine R.not rfl ?_ | refine R.mkf rfl ?_ | refine R.box rfl rfl rfl ?_ | refine R.condT rfl ?_ | refine R.condF rfl ?_ | refine R.call (bor := false) rfl rfl (lib_anyI (p := fun n => !(inB n 0 (m - 1))) fun a _ => iBelow1 m a hm hm') rfl rfl rfl ?_ | refine R.call (bor := true) rfl rfl (lib_anyI (p := fun n => !(inB n 0 (m - 1))) fun a _ => iBelow1 m a hm hm') rfl rfl rfl ?_ | refine R.fcal (bor := false) rfl rfl (lib_anyI (p := fun n => !(inB n 0 (m - 1))) fun a _ => iBelow1 m a hm hm') rfl rfl rfl ?_ | refine R.fcal (bor := true) rfl rfl (lib_anyI (p := fun n => !(inB n 0 (m - 1))) fun a _ => iBelow1 m a hm hm') rfl rfl rfl ?_ | refine R.cond rfl (fun hc => ?_) (fun hc => ?_) | refine R.condN rfl (fun hc => ?_) (fun hc => ?_) | refine R.condB rfl (fun hc => ?_) (fun hc => ?_))
  refine R.ret ⟨.inr rfl, R.outB rfl rfl ?_⟩
  simp [inB, List.not_any_eq_all_not]
theorem allBelow {l : List Int} {m : Int} : (l.all fun n => inB n 0 (m - 1)) = bP (∀ n ∈ l, 0 ≤ n ∧ n ≤ m - 1) := by
  rw [Bool.eq_iff_iff, bP_iff]
  simp [inB]
theorem iBelowP (l : List Int) (m : Int) (hm : -9223372036854775807 ≤ m) (hm' : m ≤ 9223372036854775807) : Spec Tryd.prog 44 [vL kI (ints l), vI m] (oB (bP (∀ n ∈ l, 0 ≤ n ∧ n ≤ m - 1))) := by
  have := iBelow l m hm hm'
  rwa [allBelow] at this
end Go.Proofs.YtnadbadljbfbbaaDoor
