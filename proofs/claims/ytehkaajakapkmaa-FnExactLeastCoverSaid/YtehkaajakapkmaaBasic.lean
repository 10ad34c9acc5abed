/- Small functions of the program and of the library: ranges, comparisons. -/
import Derived.Test.YtehkaajakapkmaaLib1
import Derived.Test.YtehkaajakapkmaaY22
namespace Go.Proofs.Ytehkaajakapkmaa
open Go.RowKit
set_option maxRecDepth 100000 in
def S.s17 : SC := (.seq (.reg [⟨(.some 6), .none, .false, (.mv (.const (Go.Value.bool false)))⟩]) (.seq (.reg [⟨(.some 7), .none, .false, (.mv (.tmp 0))⟩, ⟨(.some 8), .none, .false, (.mv (.tmp 1))⟩, ⟨(.some 9), .none, .false, (.bin .geq (.tmp 7) (.tmp 8))⟩, ⟨(.some 10), .none, .false, (.mv (.tmp 9))⟩, ⟨(.some 11), (.some (10, .true)), .false, (.mv (.tmp 0))⟩, ⟨(.some 12), (.some (10, .true)), .false, (.mv (.tmp 2))⟩, ⟨(.some 13), (.some (10, .true)), .false, (.bin .leq (.tmp 11) (.tmp 12))⟩, ⟨(.some 14), .none, .false, (.pick (.tmp 10) (.tmp 13) (.const (Go.Value.bool false)))⟩, ⟨(.some 6), .none, .false, (.mv (.tmp 14))⟩]) .ret))
set_option maxRecDepth 100000 in
theorem S.ok17 : stripF Try.prog Try.f17 = some S.s17 := by kernel_rfl
set_option maxRecDepth 100000 in
def S.s29 : SC := (.seq (.reg [⟨(.some 6), .none, .false, (.mv (.const (Go.Value.bool false)))⟩]) (.seq (.reg [⟨(.some 7), .none, .false, (.mv (.tmp 0))⟩, ⟨(.some 8), .none, .false, (.mv (.tmp 1))⟩, ⟨(.some 9), .none, .false, (.bin .geq (.tmp 7) (.tmp 8))⟩, ⟨(.some 10), .none, .false, (.mv (.tmp 9))⟩, ⟨(.some 11), (.some (10, .true)), .false, (.mv (.tmp 0))⟩, ⟨(.some 12), (.some (10, .true)), .false, (.mv (.tmp 2))⟩, ⟨(.some 13), (.some (10, .true)), .false, (.bin .leq (.tmp 11) (.tmp 12))⟩, ⟨(.some 14), .none, .false, (.pick (.tmp 10) (.tmp 13) (.const (Go.Value.bool false)))⟩, ⟨(.some 6), .none, .false, (.mv (.tmp 14))⟩]) .ret))
set_option maxRecDepth 100000 in
theorem S.ok29 : stripF Try.prog Try.f29 = some S.s29 := by kernel_rfl
set_option maxRecDepth 10000
set_option maxHeartbeats 4000000
abbrev inB (n a b : Int) : Bool := decide (a ≤ n ∧ n ≤ b)
theorem iWithin (n a b : Int) : Spec Try.prog 29 [vI n, vI a, vI b] (oB (inB n a b)) := by
  refine Spec.walk T.mixed Try.func29 S.ok29 (by simp [Try.f29]) fun hk => ?_
  unfold S.s29
  repeat' (first | refine R.mv rfl ?_ | refine R.reg ?_ | refine R.nil ?_ | refine R.seq ?_ | refine R.nseq ?_ | refine R.nblk ?_ | refine R.skip ?_ | refine R.blk ?_ | refine R.exit rfl ?_ | refine R.gRun rfl ?_ | refine R.gSkip rfl ?_ | refine R.gSkip0 rfl ?_ | refine R.gUndef rfl ?_ | refine R.gUndef0 rfl ?_ | refine R.leq rfl rfl ?_ | refine R.geq rfl rfl ?_ | refine R.pickT rfl rfl ?_ | refine R.pickF rfl rfl ?_ | refine R.condT rfl ?_ | refine R.condF rfl ?_ | refine R.cond rfl (fun hc => ?_) (fun hc => ?_) | refine R.condN rfl (fun hc => ?_) (fun hc => ?_) | refine R.condB rfl (fun hc => ?_) (fun hc => ?_) | refine R.gP rfl (fun hc => ?_) (fun hc => ?_) | refine R.gN rfl (fun hc => ?_) (fun hc => ?_) | refine R.gB rfl (fun hc => ?_) (fun hc => ?_))
  all_goals refine R.ret ⟨.inr rfl, R.outB rfl rfl ?_⟩
  all_goals simp [inB, *]
theorem sIn (n a b : Int) : Spec Try.prog 17 [vI n, vI a, vI b] (oB (inB n a b)) := by
  refine Spec.walk T.mixed Try.func17 S.ok17 (by simp [Try.f17]) fun hk => ?_
  unfold S.s17
  repeat' (first | refine R.mv rfl ?_ | refine R.reg ?_ | refine R.nil ?_ | refine R.seq ?_ | refine R.nseq ?_ | refine R.nblk ?_ | refine R.skip ?_ | refine R.blk ?_ | refine R.exit rfl ?_ | refine R.gRun rfl ?_ | refine R.gSkip rfl ?_ | refine R.gSkip0 rfl ?_ | refine R.gUndef rfl ?_ | refine R.gUndef0 rfl ?_ | refine R.leq rfl rfl ?_ | refine R.geq rfl rfl ?_ | refine R.pickT rfl rfl ?_ | refine R.pickF rfl rfl ?_ | refine R.condT rfl ?_ | refine R.condF rfl ?_ | refine R.cond rfl (fun hc => ?_) (fun hc => ?_) | refine R.condN rfl (fun hc => ?_) (fun hc => ?_) | refine R.condB rfl (fun hc => ?_) (fun hc => ?_) | refine R.gP rfl (fun hc => ?_) (fun hc => ?_) | refine R.gN rfl (fun hc => ?_) (fun hc => ?_) | refine R.gB rfl (fun hc => ?_) (fun hc => ?_))
  all_goals refine R.ret ⟨.inr rfl, R.outB rfl rfl ?_⟩
  all_goals simp [inB, *]
def cmpC (a b : Int) : Int := if a < b then -1 else if b < a then 1 else 0
theorem cmpC_lt {a b : Int} : cmpC a b < 0 ↔ a < b := by unfold cmpC; split <;> (try split) <;> omega
theorem cmpC_eq {a b : Int} : cmpC a b = 0 ↔ a = b := by unfold cmpC; split <;> (try split) <;> omega
def orV (l : List Int) : Int := (l.find? (fun n => decide (n ≠ 0))).getD 0
theorem orV_some {l : List Int} {i : Nat} {a : Int} (h : ∀ b ∈ l.take i, b = 0) (ha : l[i]? = some a) (hc : ¬ a = 0) : orV l = a := by
  have e : l = l.take i ++ a :: l.drop (i + 1) := by
    obtain ⟨hi, hx⟩ := List.getElem?_eq_some_iff.1 ha
    rw [← hx, ← List.drop_eq_getElem_cons hi, List.take_append_drop]
  unfold orV
  rw [e, List.find?_append]
  have : (l.take i).find? (fun n => decide (n ≠ 0)) = none := by
    rw [List.find?_eq_none]
    intro x hx
    simp [h x hx]
  rw [this]
  simp [hc]
theorem orV_none {l : List Int} (h : ∀ b ∈ l, b = 0) : orV l = 0 := by
  unfold orV
  have : l.find? (fun n => decide (n ≠ 0)) = none := by
    rw [List.find?_eq_none]
    intro x hx
    simp [h x hx]
  rw [this]; rfl
theorem orV_two (a b : Int) : orV [a, b] = if a = 0 then b else a := by
  unfold orV
  by_cases h : a = 0 <;> by_cases h' : b = 0 <;> simp [h, h']
end Go.Proofs.Ytehkaajakapkmaa
