/- Small functions of the program and of the library: ranges, comparisons. -/
import Derived.Test.YtefpjlokediieaaLib1
import Derived.Test.YtefpjlokediieaaY22
namespace Go.Proofs.Ytefpjlokediieaa
open Go.RowKit
set_option maxRecDepth 100000 in
def S.s36 : SC := (.seq (.reg [⟨(.some 6), .none, .false, (.mv (.const (Go.Value.bool false)))⟩]) (.seq (.reg [⟨(.some 7), .none, .false, (.mv (.tmp 0))⟩, ⟨(.some 8), .none, .false, (.mv (.tmp 1))⟩, ⟨(.some 9), .none, .false, (.bin .geq (.tmp 7) (.tmp 8))⟩, ⟨(.some 10), .none, .false, (.mv (.tmp 9))⟩, ⟨(.some 11), (.some (10, .true)), .false, (.mv (.tmp 0))⟩, ⟨(.some 12), (.some (10, .true)), .false, (.mv (.tmp 2))⟩, ⟨(.some 13), (.some (10, .true)), .false, (.bin .leq (.tmp 11) (.tmp 12))⟩, ⟨(.some 14), .none, .false, (.pick (.tmp 10) (.tmp 13) (.const (Go.Value.bool false)))⟩, ⟨(.some 6), .none, .false, (.mv (.tmp 14))⟩]) .ret))
set_option maxRecDepth 100000 in
theorem S.ok36 : stripF Try.prog Try.f36 = some S.s36 := by kernel_rfl
set_option maxRecDepth 100000 in
def S.s37 : SC := (.seq (.reg [⟨(.some 6), .none, .false, (.mv (.const (Go.Value.bool false)))⟩]) (.seq (.reg [⟨(.some 7), .none, .false, (.mv (.tmp 0))⟩, ⟨(.some 8), .none, .false, (.mv (.tmp 1))⟩, ⟨(.some 9), .none, .false, (.bin .geq (.tmp 7) (.tmp 8))⟩, ⟨(.some 10), .none, .false, (.mv (.tmp 9))⟩, ⟨(.some 11), (.some (10, .true)), .false, (.mv (.tmp 0))⟩, ⟨(.some 12), (.some (10, .true)), .false, (.mv (.tmp 2))⟩, ⟨(.some 13), (.some (10, .true)), .false, (.bin .leq (.tmp 11) (.tmp 12))⟩, ⟨(.some 14), .none, .false, (.pick (.tmp 10) (.tmp 13) (.const (Go.Value.bool false)))⟩, ⟨(.some 6), .none, .false, (.mv (.tmp 14))⟩]) .ret))
set_option maxRecDepth 100000 in
theorem S.ok37 : stripF Try.prog Try.f37 = some S.s37 := by kernel_rfl
set_option maxRecDepth 10000
set_option maxHeartbeats 4000000
abbrev inB (n a b : Int) : Bool := decide (a ≤ n ∧ n ≤ b)
theorem iWithin (n a b : Int) : Spec Try.prog 37 [vI n, vI a, vI b] (oB (inB n a b)) := by
  refine Spec.walk T.mixed Try.func37 S.ok37 (by simp [Try.f37]) fun hk => ?_
  unfold S.s37
  repeat' (first | refine R.mv rfl ?_ | refine R.reg ?_ | refine R.regA ?_ | refine R.tk ?_ | refine R.tkN ?_ | refine R.both ?_ ?_ | refine R.nal rfl ?_ | refine R.nal0 ?_ | refine R.kil ?_ | refine R.nil ?_ | refine R.seq ?_ | refine R.nseqF rfl rfl rfl ?_ | refine R.nseq ?_ | refine R.nblk ?_ | refine R.skip ?_ | refine R.blk ?_ | refine R.exit rfl ?_ | refine R.gRun rfl ?_ | refine R.gSkip rfl ?_ | refine R.gSkip0 rfl ?_ | refine R.gUndef rfl ?_ | refine R.gUndef0 rfl ?_ | refine R.ldEp rfl rfl (by assumption) rfl rfl ?_ | refine R.ldaEp rfl rfl (by assumption) (Nat.le_of_ble_eq_true rfl) rfl rfl ?_ | refine R.ld rfl rfl rfl ?_ | refine R.lda rfl rfl (Nat.le_of_ble_eq_true rfl) rfl ?_ | refine R.fa rfl rfl ?_ | refine R.fld rfl rfl ?_ | refine R.flda rfl rfl ?_ | refine R.lenM rfl ?_ | refine R.lenO rfl rfl ?_ | refine R.len rfl rfl ?_ | refine R.slen rfl ?_ | refine R.lss rfl rfl ?_ | refine R.leq rfl rfl ?_ | refine R.gtr rfl rfl ?_ | refine R.geq rfl rfl ?_ | refine R.eql rfl rfl ?_ | refine R.neq rfl rfl ?_ | refine R.add rfl rfl (by omega) ?_ | refine R.sub rfl rfl (by omega) ?_ | refine R.ixN rfl rfl rfl (by omega) (fun a ha => ?_) | refine R.ixM rfl rfl rfl (by omega) (fun a ha => ?_) | refine R.ixON rfl rfl rfl (by first | omega | (simp; omega)) (fun a' ha' => ?_) | refine R.ixO rfl rfl rfl (by first | omega | (simp; omega)) (fun a' ha' => ?_) | refine R.six rfl rfl (by omega) (fun a ha => ?_) | refine R.cv64 rfl (by omega) ?_ | refine R.pickT rfl rfl ?_ | refine R.pickF rfl rfl ?_ | refine R.not rfl ?_ | refine R.beql rfl rfl ?_ | refine R.bneq rfl rfl ?_ | refine R.neg rfl (by omega) ?_ | refine R.mvU rfl ?_ | refine R.ext rfl rfl ?_ | refine R.max rfl rfl ?_ | refine R.min rfl rfl ?_ | refine R.nc rfl rfl ?_ | refine R.mkf rfl ?_ | refine R.nc0 rfl rfl ?_ | refine R.al rfl ?_ | refine R.box rfl rfl rfl ?_ | refine R.stoB rfl rfl rfl rfl ⟨rfl, rfl, Nat.le_of_ble_eq_true rfl⟩ rfl ?_ | refine R.stoE _ rfl rfl rfl rfl rfl (by assumption) rfl ⟨rfl, rfl, Nat.le_of_ble_eq_true rfl⟩ ?_ | refine R.bld rfl rfl ?_ | refine R.and rfl rfl ?_ | refine R.or rfl rfl ?_ | refine R.xor rfl rfl ?_ | refine R.andNot rfl rfl ?_ | refine R.shl1 rfl rfl (by omega) (fun hp => ?_) | refine R.shr rfl rfl (by omega) ?_ | refine R.shrU1 rfl rfl ?_ | refine R.shrU rfl rfl (by omega) ?_ | refine R.cvU rfl (by omega) ?_ | refine R.quo rfl rfl (by omega) ?_ | refine R.rem rfl rfl (by omega) ?_ | refine R.eqs rfl rfl rfl rfl rfl ?_ | refine R.neqs rfl rfl rfl rfl rfl ?_ | refine R.isn rfl rfl ?_ | refine R.isnn rfl rfl ?_ | refine R.condT rfl ?_ | refine R.condF rfl ?_ | refine R.cond rfl (fun hc => ?_) (fun hc => ?_) | refine R.condN rfl (fun hc => ?_) (fun hc => ?_) | refine R.condB rfl (fun hc => ?_) (fun hc => ?_) | refine R.gP rfl (fun hc => ?_) (fun hc => ?_) | refine R.gN rfl (fun hc => ?_) (fun hc => ?_) | refine R.gB rfl (fun hc => ?_) (fun hc => ?_) | refine R.isn2 rfl (fun hc => ?_) ?_ | refine R.isn2O rfl rfl (fun hc => ?_) ?_)
  all_goals refine R.ret ⟨.inr rfl, R.outB rfl rfl ?_⟩
  all_goals simp [inB, *]
theorem sIn (n a b : Int) : Spec Try.prog 36 [vI n, vI a, vI b] (oB (inB n a b)) := by
  refine Spec.walk T.mixed Try.func36 S.ok36 (by simp [Try.f36]) fun hk => ?_
  unfold S.s36
  repeat' (first | refine R.mv rfl ?_ | refine R.reg ?_ | refine R.regA ?_ | refine R.tk ?_ | refine R.tkN ?_ | refine R.both ?_ ?_ | refine R.nal rfl ?_ | refine R.nal0 ?_ | refine R.kil ?_ | refine R.nil ?_ | refine R.seq ?_ | refine R.nseqF rfl rfl rfl ?_ | refine R.nseq ?_ | refine R.nblk ?_ | refine R.skip ?_ | refine R.blk ?_ | refine R.exit rfl ?_ | refine R.gRun rfl ?_ | refine R.gSkip rfl ?_ | refine R.gSkip0 rfl ?_ | refine R.gUndef rfl ?_ | refine R.gUndef0 rfl ?_ | refine R.ldEp rfl rfl (by assumption) rfl rfl ?_ | refine R.ldaEp rfl rfl (by assumption) (Nat.le_of_ble_eq_true rfl) rfl rfl ?_ | refine R.ld rfl rfl rfl ?_ | refine R.lda rfl rfl (Nat.le_of_ble_eq_true rfl) rfl ?_ | refine R.fa rfl rfl ?_ | refine R.fld rfl rfl ?_ | refine R.flda rfl rfl ?_ | refine R.lenM rfl ?_ | refine R.lenO rfl rfl ?_ | refine R.len rfl rfl ?_ | refine R.slen rfl ?_ | refine R.lss rfl rfl ?_ | refine R.leq rfl rfl ?_ | refine R.gtr rfl rfl ?_ | refine R.geq rfl rfl ?_ | refine R.eql rfl rfl ?_ | refine R.neq rfl rfl ?_ | refine R.add rfl rfl (by omega) ?_ | refine R.sub rfl rfl (by omega) ?_ | refine R.ixN rfl rfl rfl (by omega) (fun a ha => ?_) | refine R.ixM rfl rfl rfl (by omega) (fun a ha => ?_) | refine R.ixON rfl rfl rfl (by first | omega | (simp; omega)) (fun a' ha' => ?_) | refine R.ixO rfl rfl rfl (by first | omega | (simp; omega)) (fun a' ha' => ?_) | refine R.six rfl rfl (by omega) (fun a ha => ?_) | refine R.cv64 rfl (by omega) ?_ | refine R.pickT rfl rfl ?_ | refine R.pickF rfl rfl ?_ | refine R.not rfl ?_ | refine R.beql rfl rfl ?_ | refine R.bneq rfl rfl ?_ | refine R.neg rfl (by omega) ?_ | refine R.mvU rfl ?_ | refine R.ext rfl rfl ?_ | refine R.max rfl rfl ?_ | refine R.min rfl rfl ?_ | refine R.nc rfl rfl ?_ | refine R.mkf rfl ?_ | refine R.nc0 rfl rfl ?_ | refine R.al rfl ?_ | refine R.box rfl rfl rfl ?_ | refine R.stoB rfl rfl rfl rfl ⟨rfl, rfl, Nat.le_of_ble_eq_true rfl⟩ rfl ?_ | refine R.stoE _ rfl rfl rfl rfl rfl (by assumption) rfl ⟨rfl, rfl, Nat.le_of_ble_eq_true rfl⟩ ?_ | refine R.bld rfl rfl ?_ | refine R.and rfl rfl ?_ | refine R.or rfl rfl ?_ | refine R.xor rfl rfl ?_ | refine R.andNot rfl rfl ?_ | refine R.shl1 rfl rfl (by omega) (fun hp => ?_) | refine R.shr rfl rfl (by omega) ?_ | refine R.shrU1 rfl rfl ?_ | refine R.shrU rfl rfl (by omega) ?_ | refine R.cvU rfl (by omega) ?_ | refine R.quo rfl rfl (by omega) ?_ | refine R.rem rfl rfl (by omega) ?_ | refine R.eqs rfl rfl rfl rfl rfl ?_ | refine R.neqs rfl rfl rfl rfl rfl ?_ | refine R.isn rfl rfl ?_ | refine R.isnn rfl rfl ?_ | refine R.condT rfl ?_ | refine R.condF rfl ?_ | refine R.cond rfl (fun hc => ?_) (fun hc => ?_) | refine R.condN rfl (fun hc => ?_) (fun hc => ?_) | refine R.condB rfl (fun hc => ?_) (fun hc => ?_) | refine R.gP rfl (fun hc => ?_) (fun hc => ?_) | refine R.gN rfl (fun hc => ?_) (fun hc => ?_) | refine R.gB rfl (fun hc => ?_) (fun hc => ?_) | refine R.isn2 rfl (fun hc => ?_) ?_ | refine R.isn2O rfl rfl (fun hc => ?_) ?_)
  all_goals refine R.ret ⟨.inr rfl, R.outB rfl rfl ?_⟩
  all_goals simp [inB, *]
def cmpC (a b : Int) : Int := if a < b then -1 else if b < a then 1 else 0
theorem cmpC_lt {a b : Int} : cmpC a b < 0 ↔ a < b := by unfold cmpC; split <;> (try split) <;> omega
theorem cmpC_eq {a b : Int} : cmpC a b = 0 ↔ a = b := by unfold cmpC; split <;> (try split) <;> omega
def orV (l : List Int) : Int := (l.find? (fun n => decide (n ≠ 0))).getD 0
theorem orV_some {l : List Int} {i : Nat} {a : Int} (h : ∀ b ∈ l.take i, b = 0) (ha : l[i]? = some a) (hc : ¬ a = 0) : orV l = a := by
  have e : l = l.take i ++ a :: l.drop (i + 1) := by
    obtain ⟨hi, hx⟩ := List.getElem?_eq_some_iff.1 ha
    rw [← hx, ← List.drop_eq_getElem_cons hi, List.take_append_drop]
  unfold orV
  rw [e, List.find?_append]
  have : (l.take i).find? (fun n => decide (n ≠ 0)) = none := by
    rw [List.find?_eq_none]
    intro x hx
    simp [h x hx]
  rw [this]
  simp [hc]
theorem orV_none {l : List Int} (h : ∀ b ∈ l, b = 0) : orV l = 0 := by
  unfold orV
  have : l.find? (fun n => decide (n ≠ 0)) = none := by
    rw [List.find?_eq_none]
    intro x hx
    simp [h x hx]
  rw [this]; rfl
theorem orV_two (a b : Int) : orV [a, b] = if a = 0 then b else a := by
  unfold orV
  by_cases h : a = 0 <;> by_cases h' : b = 0 <;> simp [h, h']
end Go.Proofs.Ytefpjlokediieaa
