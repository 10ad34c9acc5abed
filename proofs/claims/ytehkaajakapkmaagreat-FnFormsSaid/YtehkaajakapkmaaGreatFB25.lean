/- Texts of one proof, one behind the other. -/
import Derived.Test.YtehkaajakapkmaaGreatFB24
namespace Go.Proofs.YtehkaajakapkmaaGreat
section
open Go.RowKit
set_option maxRecDepth 100000 in
def S.s18 : SC := (.seq (.reg [⟨(.some 2), .none, .false, (.box 35 (.tmp 0))⟩, ⟨(.some 4), .none, .false, (.mv (.const (Go.Value.slice none 0 0)))⟩, ⟨(.some 5), .none, .false, (.mv (.const (Go.Value.int Go.IntKind.i64 0)))⟩]) (.seq (.block 0 (.seq (.reg [⟨(.some 7), .none, .false, (.ld .true 3 (.tmp 2))⟩, ⟨(.some 8), .none, .false, (.call (.func 33) [(.tmp 7)])⟩, ⟨(.some 9), .none, .false, (.not (.tmp 8))⟩, ⟨(.some 6), .none, .false, (.mv (.tmp 9))⟩]) (.cond (.tmp 6) (.seq (.reg [⟨(.some 4), .none, .false, (.mv (.const (Go.Value.slice none 0 0)))⟩, ⟨(.some 5), .none, .false, (.mv (.const (Go.Value.int Go.IntKind.i64 1)))⟩]) .ret) (.seq (.reg [⟨(.some 11), .none, .false, (.mv (.tmp 1))⟩, ⟨(.some 12), .none, .false, (.fa 0 (.tmp 2))⟩, ⟨(.some 13), .none, .false, (.ld .false 1 (.tmp 12))⟩, ⟨(.some 14), .none, .false, (.call (.func 55) [(.tmp 11), (.tmp 13)])⟩, ⟨(.some 15), .none, .false, (.not (.tmp 14))⟩, ⟨(.some 10), .none, .false, (.mv (.tmp 15))⟩]) (.cond (.tmp 10) (.seq (.reg [⟨(.some 4), .none, .false, (.mv (.const (Go.Value.slice none 0 0)))⟩, ⟨(.some 5), .none, .false, (.mv (.const (Go.Value.int Go.IntKind.i64 2)))⟩]) .ret) .skip))))) (.seq (.reg [⟨(.some 16), .none, .false, (.ld .true 3 (.tmp 2))⟩, ⟨(.some 17), .none, .false, (.mv (.tmp 1))⟩, ⟨(.some 18), .none, .false, (.call (.func 56) [(.tmp 16), (.tmp 17)])⟩, ⟨(.some 4), .none, .false, (.mv (.tmp 18))⟩, ⟨(.some 5), .none, .false, (.mv (.const (Go.Value.int Go.IntKind.i64 0)))⟩]) .ret)))
set_option maxRecDepth 100000 in
theorem S.ok18 : stripF Tryz.prog Tryz.f18 = some S.s18 := by kernel_rfl
set_option maxRecDepth 100000 in
def S.s56 : SC := (.seq (.reg [⟨(.some 2), .none, .false, (.box 35 (.tmp 0))⟩, ⟨(.some 4), .none, .false, (.mv (.const (Go.Value.slice none 0 0)))⟩]) (.seq (.reg [⟨(.some 11), .none, .false, (.mv (.tmp 1))⟩, ⟨(.some 12), .none, .false, (.call (.func 86) [(.tmp 11)])⟩, ⟨(.some 5), .none, .false, (.mv (.tmp 12))⟩]) (.seq (.seq (.reg [⟨(.some 13), .none, .false, (.fa 1 (.tmp 2))⟩, ⟨(.some 14), .none, .false, (.ld .false 1 (.tmp 13))⟩, ⟨(.some 15), .none, .false, (.len (.tmp 14))⟩, ⟨(.some 16), .none, .false, (.mv (.const (Go.Value.int Go.IntKind.i64 0)))⟩]) (.block 0 (.loop (.seq (.reg [⟨(.some 17), .none, .false, (.bin .lss (.tmp 16) (.tmp 15))⟩]) (.seq (.cond (.tmp 17) .skip (.exit 0)) (.seq (.block 1 (.seq (.reg [⟨(.some 18), .none, .false, (.ix (.mk 91 3) (.tmp 14) (.tmp 16))⟩, ⟨(.some 19), .none, .false, (.ld .true 3 (.tmp 18))⟩, ⟨(.some 7), .none, .false, (.al 91 [(Go.Value.int Go.IntKind.i64 0), (Go.Value.int Go.IntKind.i64 0), (Go.Value.int Go.IntKind.i64 0)])⟩, ⟨.none, .none, .false, (.sto 3 (.tmp 7) (.tmp 19))⟩]) (.reg [⟨(.some 20), .none, .true, (.mv (.tmp 5))⟩, ⟨(.some 21), .none, .true, (.ld .true 3 (.tmp 7))⟩, ⟨(.some 22), .none, .true, (.mv (.tmp 5))⟩, ⟨(.some 23), .none, .true, (.fa 1 (.tmp 7))⟩, ⟨(.some 24), .none, .true, (.ld .false 1 (.tmp 23))⟩, ⟨(.some 25), .none, .true, (.ix (.mk 2 1) (.tmp 22) (.tmp 24))⟩, ⟨(.some 26), .none, .true, (.ld .false 1 (.tmp 25))⟩, ⟨(.some 27), .none, .true, (.mv (.tmp 5))⟩, ⟨(.some 28), .none, .true, (.fa 2 (.tmp 7))⟩, ⟨(.some 29), .none, .true, (.ld .false 1 (.tmp 28))⟩, ⟨(.some 30), .none, .true, (.ix (.mk 2 1) (.tmp 27) (.tmp 29))⟩, ⟨(.some 31), .none, .true, (.ld .false 1 (.tmp 30))⟩, ⟨(.some 32), .none, .false, (.call (.func 87) [(.tmp 21), (.tmp 26), (.tmp 31)])⟩, ⟨(.some 33), .none, .false, (.bsl (.mk 2 1) 1 [(0, (.tmp 32))])⟩, ⟨(.some 34), .none, .false, (.app (.mk 2 1) 8 (.tmp 20) (.tmp 33))⟩, ⟨(.some 5), .none, .false, (.mv (.tmp 34))⟩]))) (.reg [⟨(.some 35), .none, .false, (.bin .add (.tmp 16) (.const (Go.Value.int Go.IntKind.i64 1)))⟩, ⟨(.some 16), .none, .false, (.mv (.tmp 35))⟩]))))))) (.seq (.reg [⟨(.some 8), .none, .false, (.mv (.const (Go.Value.slice none 0 0)))⟩]) (.seq (.seq (.reg [⟨(.some 36), .none, .false, (.fa 2 (.tmp 2))⟩, ⟨(.some 37), .none, .false, (.ld .false 1 (.tmp 36))⟩, ⟨(.some 38), .none, .false, (.len (.tmp 37))⟩, ⟨(.some 39), .none, .false, (.mv (.const (Go.Value.int Go.IntKind.i64 0)))⟩]) (.block 2 (.loop (.seq (.reg [⟨(.some 40), .none, .false, (.bin .lss (.tmp 39) (.tmp 38))⟩]) (.seq (.cond (.tmp 40) .skip (.exit 2)) (.seq (.block 3 (.seq (.reg [⟨(.some 41), .none, .false, (.ix (.mk 2 1) (.tmp 37) (.tmp 39))⟩, ⟨(.some 42), .none, .false, (.ld .false 1 (.tmp 41))⟩, ⟨(.some 10), .none, .false, (.mv (.tmp 42))⟩]) (.reg [⟨(.some 43), .none, .false, (.mv (.tmp 8))⟩, ⟨(.some 44), .none, .false, (.mv (.tmp 5))⟩, ⟨(.some 45), .none, .false, (.mv (.tmp 10))⟩, ⟨(.some 46), .none, .false, (.ix (.mk 2 1) (.tmp 44) (.tmp 45))⟩, ⟨(.some 47), .none, .false, (.ld .false 1 (.tmp 46))⟩, ⟨(.some 48), .none, .false, (.bsl (.mk 2 1) 1 [(0, (.tmp 47))])⟩, ⟨(.some 49), .none, .false, (.app (.mk 2 1) 8 (.tmp 43) (.tmp 48))⟩, ⟨(.some 8), .none, .false, (.mv (.tmp 49))⟩]))) (.reg [⟨(.some 50), .none, .false, (.bin .add (.tmp 39) (.const (Go.Value.int Go.IntKind.i64 1)))⟩, ⟨(.some 39), .none, .false, (.mv (.tmp 50))⟩]))))))) (.seq (.reg [⟨(.some 51), .none, .false, (.mv (.tmp 8))⟩, ⟨(.some 4), .none, .false, (.mv (.tmp 51))⟩]) .ret))))))
set_option maxRecDepth 100000 in
theorem S.ok56 : stripF Tryz.prog Tryz.f56 = some S.s56 := by kernel_rfl
set_option maxRecDepth 100000 in
def S.s64 : SC := (.seq (.reg [⟨(.some 4), .none, .false, (.mv (.const (Go.Value.slice none 0 0)))⟩]) (.seq (.reg [⟨(.some 10), .none, .false, (.mv (.tmp 1))⟩, ⟨(.some 11), .none, .false, (.call (.func 93) [(.tmp 10)])⟩, ⟨(.some 5), .none, .false, (.mv (.tmp 11))⟩]) (.seq (.seq (.reg [⟨(.some 6), .none, .false, (.mv (.const (Go.Value.int Go.IntKind.i64 0)))⟩]) (.block 0 (.loop (.seq (.seq (.reg [⟨(.some 12), .none, .false, (.mv (.tmp 6))⟩, ⟨(.some 13), .none, .false, (.mv (.tmp 0))⟩, ⟨(.some 14), .none, .false, (.nc (.tmp 13))⟩, ⟨(.some 15), .none, .false, (.fa 1 (.tmp 14))⟩, ⟨(.some 16), .none, .false, (.ld .false 1 (.tmp 15))⟩, ⟨(.some 17), .none, .false, (.len (.tmp 16))⟩, ⟨(.some 18), .none, .false, (.bin .lss (.tmp 12) (.tmp 17))⟩]) (.cond (.tmp 18) .skip (.exit 0))) (.seq (.block 1 (.seq (.reg [⟨(.some 21), .none, .false, (.mv (.tmp 0))⟩, ⟨(.some 22), .none, .false, (.nc (.tmp 21))⟩, ⟨(.some 23), .none, .false, (.fa 1 (.tmp 22))⟩, ⟨(.some 24), .none, .false, (.ld .false 1 (.tmp 23))⟩, ⟨(.some 25), .none, .false, (.mv (.tmp 6))⟩, ⟨(.some 26), .none, .false, (.ix (.mk 91 3) (.tmp 24) (.tmp 25))⟩, ⟨(.some 27), .none, .false, (.ld .true 3 (.tmp 26))⟩, ⟨(.some 7), .none, .false, (.al 91 [(Go.Value.int Go.IntKind.i64 0), (Go.Value.int Go.IntKind.i64 0), (Go.Value.int Go.IntKind.i64 0)])⟩, ⟨.none, .none, .false, (.sto 3 (.tmp 7) (.tmp 27))⟩]) (.reg [⟨(.some 28), .none, .true, (.mv (.tmp 5))⟩, ⟨(.some 29), .none, .true, (.fa 0 (.tmp 7))⟩, ⟨(.some 30), .none, .true, (.ld .false 1 (.tmp 29))⟩, ⟨(.some 31), .none, .true, (.mv (.tmp 5))⟩, ⟨(.some 32), .none, .true, (.fa 1 (.tmp 7))⟩, ⟨(.some 33), .none, .true, (.ld .false 1 (.tmp 32))⟩, ⟨(.some 34), .none, .true, (.ix (.mk 2 1) (.tmp 31) (.tmp 33))⟩, ⟨(.some 35), .none, .true, (.ld .false 1 (.tmp 34))⟩, ⟨(.some 36), .none, .true, (.mv (.tmp 5))⟩, ⟨(.some 37), .none, .true, (.fa 2 (.tmp 7))⟩, ⟨(.some 38), .none, .true, (.ld .false 1 (.tmp 37))⟩, ⟨(.some 39), .none, .true, (.ix (.mk 2 1) (.tmp 36) (.tmp 38))⟩, ⟨(.some 40), .none, .true, (.ld .false 1 (.tmp 39))⟩, ⟨(.some 41), .none, .false, (.call (.func 94) [(.tmp 30), (.tmp 35), (.tmp 40)])⟩, ⟨(.some 42), .none, .false, (.bsl (.mk 2 1) 1 [(0, (.tmp 41))])⟩, ⟨(.some 43), .none, .false, (.app (.mk 2 1) 8 (.tmp 28) (.tmp 42))⟩, ⟨(.some 5), .none, .false, (.mv (.tmp 43))⟩]))) (.reg [⟨(.some 19), .none, .false, (.mv (.tmp 6))⟩, ⟨(.some 20), .none, .false, (.bin .add (.tmp 19) (.const (Go.Value.int Go.IntKind.i64 1)))⟩, ⟨(.some 6), .none, .false, (.mv (.tmp 20))⟩])))))) (.seq (.reg [⟨(.some 44), .none, .false, (.bsl (.mk 2 1) 0 [])⟩, ⟨(.some 8), .none, .false, (.mv (.tmp 44))⟩]) (.seq (.seq (.reg [⟨(.some 9), .none, .false, (.mv (.const (Go.Value.int Go.IntKind.i64 0)))⟩]) (.block 2 (.loop (.seq (.seq (.reg [⟨(.some 45), .none, .false, (.mv (.tmp 9))⟩, ⟨(.some 46), .none, .false, (.mv (.tmp 0))⟩, ⟨(.some 47), .none, .false, (.nc (.tmp 46))⟩, ⟨(.some 48), .none, .false, (.fa 2 (.tmp 47))⟩, ⟨(.some 49), .none, .false, (.ld .false 1 (.tmp 48))⟩, ⟨(.some 50), .none, .false, (.len (.tmp 49))⟩, ⟨(.some 51), .none, .false, (.bin .lss (.tmp 45) (.tmp 50))⟩]) (.cond (.tmp 51) .skip (.exit 2))) (.seq (.block 3 (.reg [⟨(.some 54), .none, .false, (.mv (.tmp 8))⟩, ⟨(.some 55), .none, .false, (.mv (.tmp 5))⟩, ⟨(.some 56), .none, .false, (.mv (.tmp 0))⟩, ⟨(.some 57), .none, .false, (.nc (.tmp 56))⟩, ⟨(.some 58), .none, .false, (.fa 2 (.tmp 57))⟩, ⟨(.some 59), .none, .false, (.ld .false 1 (.tmp 58))⟩, ⟨(.some 60), .none, .false, (.mv (.tmp 9))⟩, ⟨(.some 61), .none, .false, (.ix (.mk 2 1) (.tmp 59) (.tmp 60))⟩, ⟨(.some 62), .none, .false, (.ld .false 1 (.tmp 61))⟩, ⟨(.some 63), .none, .false, (.ix (.mk 2 1) (.tmp 55) (.tmp 62))⟩, ⟨(.some 64), .none, .false, (.ld .false 1 (.tmp 63))⟩, ⟨(.some 65), .none, .false, (.bsl (.mk 2 1) 1 [(0, (.tmp 64))])⟩, ⟨(.some 66), .none, .false, (.app (.mk 2 1) 8 (.tmp 54) (.tmp 65))⟩, ⟨(.some 8), .none, .false, (.mv (.tmp 66))⟩])) (.reg [⟨(.some 52), .none, .false, (.mv (.tmp 9))⟩, ⟨(.some 53), .none, .false, (.bin .add (.tmp 52) (.const (Go.Value.int Go.IntKind.i64 1)))⟩, ⟨(.some 9), .none, .false, (.mv (.tmp 53))⟩])))))) (.seq (.reg [⟨(.some 67), .none, .false, (.mv (.tmp 8))⟩, ⟨(.some 4), .none, .false, (.mv (.tmp 67))⟩]) .ret))))))
set_option maxRecDepth 100000 in
theorem S.ok64 : stripF Tryz.prog Tryz.f64 = some S.s64 := by kernel_rfl
set_option maxRecDepth 100000 in
def S.s86 : SC := (.seq (.reg [⟨(.some 2), .none, .false, (.mv (.const (Go.Value.slice none 0 0)))⟩]) (.seq (.seq (.reg [⟨(.some 3), .none, .false, (.mv (.tmp 0))⟩, ⟨(.some 4), .none, .false, (.isn .false (.tmp 3))⟩]) (.cond (.tmp 4) (.seq (.reg [⟨(.some 2), .none, .false, (.mv (.const (Go.Value.slice none 0 0)))⟩]) .ret) .skip)) (.seq (.reg [⟨(.some 5), .none, .false, (.bsl (.mk 2 1) 0 [])⟩, ⟨(.some 6), .none, .false, (.mv (.tmp 0))⟩, ⟨(.some 7), .none, .false, (.app (.mk 2 1) 8 (.tmp 5) (.tmp 6))⟩, ⟨(.some 2), .none, .false, (.mv (.tmp 7))⟩]) .ret)))
set_option maxRecDepth 100000 in
theorem S.ok86 : stripF Tryz.prog Tryz.f86 = some S.s86 := by kernel_rfl
set_option maxRecDepth 100000 in
def S.s93 : SC := (.seq (.reg [⟨(.some 2), .none, .false, (.mv (.const (Go.Value.slice none 0 0)))⟩]) (.seq (.reg [⟨(.some 3), .none, .false, (.bsl (.mk 2 1) 0 [])⟩, ⟨(.some 4), .none, .false, (.mv (.tmp 0))⟩, ⟨(.some 5), .none, .false, (.app (.mk 2 1) 8 (.tmp 3) (.tmp 4))⟩, ⟨(.some 2), .none, .false, (.mv (.tmp 5))⟩]) .ret))
set_option maxRecDepth 100000 in
theorem S.ok93 : stripF Tryz.prog Tryz.f93 = some S.s93 := by kernel_rfl
set_option maxRecDepth 100000 in
def S.s94 : SC := (.seq (.reg [⟨(.some 6), .none, .false, (.mv (.const (Go.Value.int Go.IntKind.i64 0)))⟩]) (.seq (.seq (.reg [⟨(.some 7), .none, .false, (.mv (.tmp 0))⟩]) (.block 0 (.seq (.reg [⟨(.some 9), .none, .false, (.bin .eql (.tmp 7) (.const (Go.Value.int Go.IntKind.i64 1)))⟩, ⟨(.some 8), .none, .false, (.mv (.tmp 9))⟩]) (.cond (.tmp 8) (.seq (.reg [⟨(.some 10), .none, .false, (.mv (.tmp 1))⟩, ⟨(.some 11), .none, .false, (.bin .sub (.const (Go.Value.int Go.IntKind.i64 1)) (.tmp 10))⟩, ⟨(.some 6), .none, .false, (.mv (.tmp 11))⟩]) .ret) (.seq (.reg [⟨(.some 13), .none, .false, (.bin .eql (.tmp 7) (.const (Go.Value.int Go.IntKind.i64 2)))⟩, ⟨(.some 12), .none, .false, (.mv (.tmp 13))⟩]) (.cond (.tmp 12) (.seq (.reg [⟨(.some 14), .none, .false, (.mv (.tmp 1))⟩, ⟨(.some 15), .none, .false, (.mv (.tmp 2))⟩, ⟨(.some 16), .none, .false, (.bin .and (.tmp 14) (.tmp 15))⟩, ⟨(.some 6), .none, .false, (.mv (.tmp 16))⟩]) .ret) (.seq (.reg [⟨(.some 18), .none, .false, (.bin .eql (.tmp 7) (.const (Go.Value.int Go.IntKind.i64 3)))⟩, ⟨(.some 17), .none, .false, (.mv (.tmp 18))⟩]) (.cond (.tmp 17) (.seq (.reg [⟨(.some 19), .none, .false, (.mv (.tmp 1))⟩, ⟨(.some 20), .none, .false, (.mv (.tmp 2))⟩, ⟨(.some 21), .none, .false, (.bin .or (.tmp 19) (.tmp 20))⟩, ⟨(.some 6), .none, .false, (.mv (.tmp 21))⟩]) .ret) .skip)))))))) (.seq (.reg [⟨(.some 22), .none, .false, (.mv (.tmp 1))⟩, ⟨(.some 23), .none, .false, (.mv (.tmp 2))⟩, ⟨(.some 24), .none, .false, (.bin .xor (.tmp 22) (.tmp 23))⟩, ⟨(.some 6), .none, .false, (.mv (.tmp 24))⟩]) .ret)))
set_option maxRecDepth 100000 in
theorem S.ok94 : stripF Tryz.prog Tryz.f94 = some S.s94 := by kernel_rfl
set_option maxRecDepth 10000
set_option maxHeartbeats 4000000
def gAt (c : TCircuit) (i : Nat) : TGate := c.fGates.getD i ⟨0, 0, 0⟩
def wr (c : TCircuit) (l : List Int) : Nat → List Int
  | 0 => l
  | i + 1 => wr c l i ++ [gateV (gAt c i).fKind ((wr c l i).getD (gAt c i).fA.toNat 0) ((wr c l i).getD (gAt c i).fB.toNat 0)]
theorem wr_len {c : TCircuit} {l : List Int} : ∀ i : Nat, (wr c l i).length = l.length + i
  | 0 => rfl
  | i + 1 => by
    have := wr_len (c := c) (l := l) i
    simp only [wr, List.length_append, List.length_singleton]
    omega
theorem getD_bit {m : List Int} (h : ∀ w ∈ m, 0 ≤ w ∧ w ≤ 1) (k : Nat) : 0 ≤ m.getD k 0 ∧ m.getD k 0 ≤ 1 := by
  rw [List.getD_eq_getElem?_getD]
  cases hx : m[k]? with
  | none => simp
  | some v => exact h v (List.mem_of_getElem? hx)
theorem wr_bit {c : TCircuit} {l : List Int} (h : ∀ w ∈ l, 0 ≤ w ∧ w ≤ 1) : ∀ (i : Nat), ∀ w ∈ wr c l i, 0 ≤ w ∧ w ≤ 1
  | 0 => h
  | i + 1 => fun w hw => by
    rcases List.mem_append.1 hw with hw | hw
    · exact wr_bit h i w hw
    · rw [List.mem_singleton.1 hw]
      exact gateV_bit (getD_bit (wr_bit h i) _) (getD_bit (wr_bit h i) _)
def evC (c : TCircuit) (l : List Int) : List Int := c.fOutputs.map fun w => (wr c l c.fGates.length).getD w.toNat 0
open Classical in
noncomputable def fEvC (c : TCircuit) (l : List Int) : List Int × Int := if okC c then if inK l c.fInputs then (evC c l, 0) else ([], 2) else ([], 1)
theorem lib_cloneI (l : List Int) (h : l.length ≤ 1048576) : Spec Tryz.prog 86 [vL kI (ints l)] (oN kI (ints l)) := by
  refine Spec.walk T.mixed Tryz.func86 S.ok86 (by simp [Tryz.f86]) fun hk => ?_
  unfold S.s86
  repeat' (first|refine R.mv rfl ?_|refine R.reg ?_|refine R.nil ?_|refine R.seq ?_|refine R.nseq ?_|refine R.skip ?_|refine R.condT rfl ?_|refine R.condF rfl ?_|refine R.bsl (f := enI) ([] : List Int) rfl rfl rfl rfl rfl ?_|refine R.app (f := enI) (fun _ => rfl) rfl rfl rfl rfl rfl ⟨by simp only [List.length_nil]; omega, by simp only [List.length_nil]; omega⟩ ?_|refine R.isn2 rfl (fun hc => ?_) ?_)
  · subst hc; exact R.ret ⟨.inr rfl, R.outE rfl rfl rfl⟩
  · exact R.ret ⟨.inr rfl, R.outN rfl rfl (arr_eq (by simp))⟩
theorem sOwn (l : List Int) (h : l.length ≤ 1048576) : Spec Tryz.prog 93 [vL kI (ints l)] (oN kI (ints l)) := by
  refine Spec.walk T.mixed Tryz.func93 S.ok93 (by simp [Tryz.f93]) fun hk => ?_
  unfold S.s93
  repeat' (first|refine R.mv rfl ?_|refine R.reg ?_|refine R.nil ?_|refine R.seq ?_|refine R.nseq ?_|refine R.bsl (f := enI) ([] : List Int) rfl rfl rfl rfl rfl ?_|refine R.app (f := enI) (fun _ => rfl) rfl rfl rfl rfl rfl ⟨by simp only [List.length_nil]; omega, by simp only [List.length_nil]; omega⟩ ?_)
  exact R.ret ⟨.inr rfl, R.outN rfl rfl (arr_eq (by simp))⟩
theorem iEvC (c : TCircuit) (l : List Int) (h1 : okC c) (h2 : inK l c.fInputs) : Spec Tryz.prog 56 [.agg (enCircuit c), vL kI (ints l)] (oN kI (ints (evC c l))) := by
  refine Spec.walk T.mixed Tryz.func56 S.ok56 (by simp [Tryz.f56]) fun hk => ?_
  obtain ⟨hn, hG, hO, hgs, hos⟩ := h1
  obtain ⟨hl, hbits⟩ := h2
  unfold S.s56
  repeat' (first|refine R.mv rfl ?_|refine R.reg ?_|refine R.nil ?_|refine R.seq ?_|refine R.nseq ?_|refine R.blk ?_|refine R.ld rfl rfl rfl ?_|refine R.fa rfl rfl ?_|refine R.lenM rfl ?_|refine R.box rfl rfl rfl ?_|refine R.callN1 (bor := false) rfl rfl (lib_cloneI l (by omega)) rfl rfl ?_)
  refine R.loop (G := Nat) (fun i => [(2, .v (.c (.ptr 2 0))), (5, .v (.c (.own 14000))), (14, rdA kGate (c.fGates.map enGate)), (15, pvA (.int .i64 c.fGates.length)), (16, pvA (.int .i64 i))]) (fun i => [(2, .box 35 ((enCircuit c).map B.d)), (14000, .arr kI (ints (wr c l i)) [])]) (fun i => i ≤ c.fGates.length) (fun i => c.fGates.length - i) 0 (by omega) (Weak.frame _ _ ⟨rfl, rfl, rfl, rfl, rfl, trivial⟩ ⟨rfl, rfl, trivial⟩ rfl rfl) fun i hi => ?_
  have hwl := wr_len (c := c) (l := l) i
  have hwb := wr_bit (c := c) hbits i
  by_cases hil : i < c.fGates.length
  · obtain ⟨g, hgx⟩ : ∃ g, c.fGates[i]? = some g := ⟨_, List.getElem?_eq_getElem hil⟩
    have hg := hgs i g hgx
    have hga : gAt c i = g := by simp [gAt, List.getD, hgx]
    obtain ⟨gk, ga, gb⟩ := g
    unfold okG at hg
    dsimp only at hg
    obtain ⟨ma, rfl⟩ : ∃ m : Nat, ga = m := ⟨ga.toNat, by omega⟩
    obtain ⟨mb, rfl⟩ : ∃ m : Nat, gb = m := ⟨gb.toNat, by omega⟩
    obtain ⟨u, hu⟩ : ∃ u, (wr c l i)[ma]? = some u := ⟨_, List.getElem?_eq_getElem (by omega)⟩
    obtain ⟨v, hv⟩ : ∃ v, (wr c l i)[mb]? = some v := ⟨_, List.getElem?_eq_getElem (by omega)⟩
    have hu1 := hwb u (List.mem_of_getElem? hu)
    have hv1 := hwb v (List.mem_of_getElem? hv)
    have hnx : wr c l (i + 1) = wr c l i ++ [gateV gk u v] := by simp [wr, hga, List.getD, hu, hv]
    repeat' (first|refine R.ixK (⟨gk, ma, mb⟩ : TGate) hgx rfl rfl rfl ?_|refine R.ixOK u hu rfl rfl rfl ?_|refine R.ixOK v hv rfl rfl rfl ?_|refine R.mv rfl ?_|refine R.reg ?_|refine R.nil ?_|refine R.seq ?_|refine R.nseq ?_|refine R.nblk ?_|refine R.skip ?_|refine R.blk ?_|refine R.exit rfl ?_|refine R.ldEp rfl rfl (by assumption) rfl rfl ?_|refine R.ld rfl rfl rfl ?_|refine R.lda rfl rfl (lbT rfl) rfl ?_|refine R.fa rfl rfl ?_|refine R.lenM rfl ?_|refine R.lss rfl rfl ?_|refine R.add rfl rfl (by omega) ?_|refine R.al rfl ?_|refine R.stoB rfl rfl rfl rfl ⟨rfl, rfl, Nat.le_of_ble_eq_true rfl⟩ rfl ?_|refine R.call (bor := false) rfl rfl (iGateV ⟨gk, ma, mb⟩ u v ⟨hg.1.1, hg.1.2⟩ hu1 hv1) rfl rfl rfl ?_|refine R.bsl (f := enI) [gateV gk u v] rfl rfl rfl rfl rfl ?_|refine R.app (f := enI) (fun _ => rfl) rfl rfl rfl rfl rfl ⟨by simp only [List.length_singleton]; omega, by simp only [List.length_singleton]; omega⟩ ?_|refine R.cond rfl (fun hc => ?_) (fun hc => ?_))
    all_goals first
      | (exfalso; omega)
      | exact R.nloop (R.again (i + 1) (by omega) (by omega) ⟨rfl, rfl, rfl, rfl, rfl, trivial⟩ ⟨rfl, arr_eq (by rw [hnx]), trivial⟩ rfl rfl)
  obtain rfl : i = c.fGates.length := by omega
  repeat' (first|refine R.mv rfl ?_|refine R.reg ?_|refine R.nil ?_|refine R.seq ?_|refine R.nseq ?_|refine R.skip ?_|refine R.blk ?_|refine R.exit rfl ?_|refine R.ldEp rfl rfl (by assumption) rfl rfl ?_|refine R.ld rfl rfl rfl ?_|refine R.lda rfl rfl (lbT rfl) rfl ?_|refine R.fa rfl rfl ?_|refine R.lenM rfl ?_|refine R.lss rfl rfl ?_|refine R.ixN rfl rfl rfl (by omega) (fun a ha => ?_)|refine R.ixO rfl rfl rfl (by first|omega|(simp; omega)) (fun a' ha' => ?_)|refine R.al rfl ?_|refine R.stoB rfl rfl rfl rfl ⟨rfl, rfl, Nat.le_of_ble_eq_true rfl⟩ rfl ?_|refine R.cond rfl (fun hc => ?_) (fun hc => ?_))
  all_goals first | (exfalso; omega) | skip
  refine R.loop (G := Nat) (fun i => [(5, .v (.c (.own 14000))), (8, .v (.c (.own 8))), (37, rdA kI (ints c.fOutputs)), (38, pvA (.int .i64 c.fOutputs.length)), (39, pvA (.int .i64 i))]) (fun i => [(8, .arr kI (ints ((c.fOutputs.take i).map fun w => (wr c l c.fGates.length).getD w.toNat 0)) []), (14000, .arr kI (ints (wr c l c.fGates.length)) [])]) (fun i => i ≤ c.fOutputs.length) (fun i => c.fOutputs.length - i) 0 (by omega) (Weak.trans (Weak.reify 8 8 kI rfl rfl) (Weak.frame _ _ ⟨rfl, rfl, rfl, rfl, rfl, trivial⟩ ⟨rfl, rfl, trivial⟩ rfl rfl)) fun i hi => ?_
  by_cases hil : i < c.fOutputs.length
  · obtain ⟨w, hw⟩ : ∃ w, c.fOutputs[i]? = some w := ⟨_, List.getElem?_eq_getElem hil⟩
    have hwo := hos w (List.mem_of_getElem? hw)
    obtain ⟨m, rfl⟩ : ∃ m : Nat, w = m := ⟨w.toNat, by omega⟩
    obtain ⟨u, hu⟩ : ∃ u, (wr c l c.fGates.length)[m]? = some u := ⟨_, List.getElem?_eq_getElem (by omega)⟩
    have hgd : (wr c l c.fGates.length).getD ((m : Int)).toNat 0 = u := by simp [List.getD, hu]
    repeat' (first|refine R.ixK (m : Int) hw rfl rfl rfl ?_|refine R.ixOK u hu rfl rfl rfl ?_|refine R.mv rfl ?_|refine R.reg ?_|refine R.nil ?_|refine R.seq ?_|refine R.nseq ?_|refine R.nblk ?_|refine R.skip ?_|refine R.blk ?_|refine R.exit rfl ?_|refine R.ldEp rfl rfl (by assumption) rfl rfl ?_|refine R.ld rfl rfl rfl ?_|refine R.lss rfl rfl ?_|refine R.add rfl rfl (by omega) ?_|refine R.bsl (f := enI) [u] rfl rfl rfl rfl rfl ?_|refine R.app (f := enI) (fun _ => rfl) rfl rfl rfl rfl rfl ⟨by simp only [List.length_map, List.length_take, List.length_singleton]; omega, by simp only [List.length_map, List.length_take, List.length_singleton]; omega⟩ ?_|refine R.cond rfl (fun hc => ?_) (fun hc => ?_))
    all_goals first
      | (exfalso; omega)
      | exact R.nloop (R.again (i + 1) (by omega) (by omega) ⟨rfl, rfl, rfl, rfl, rfl, trivial⟩ ⟨arr_eq (by rw [take_snoc hw, List.map_append, List.map_singleton, hgd]), rfl, trivial⟩ rfl rfl)
  obtain rfl : i = c.fOutputs.length := by omega
  repeat' (first|refine R.mv rfl ?_|refine R.reg ?_|refine R.nil ?_|refine R.seq ?_|refine R.nseq ?_|refine R.skip ?_|refine R.blk ?_|refine R.exit rfl ?_|refine R.ldEp rfl rfl (by assumption) rfl rfl ?_|refine R.ld rfl rfl rfl ?_|refine R.lss rfl rfl ?_|refine R.ixN rfl rfl rfl (by omega) (fun a ha => ?_)|refine R.ixO rfl rfl rfl (by first|omega|(simp; omega)) (fun a' ha' => ?_)|refine R.cond rfl (fun hc => ?_) (fun hc => ?_))
  all_goals first
    | (exfalso; omega)
    | exact R.ret ⟨.inr rfl, R.outN rfl rfl (arr_eq (by rw [List.take_length]; rfl))⟩
theorem iCirT {c : TCircuit} (h : okC c) : Spec Tryz.prog 33 [.agg (enCircuit c)] (oB true) := by have := iValidCircuit c; rwa [bP_iff.2 h] at this
theorem iCirF {c : TCircuit} (h : ¬ okC c) : Spec Tryz.prog 33 [.agg (enCircuit c)] (oB false) := by have := iValidCircuit c; rwa [bP_not.2 h] at this
theorem iEvalCircuit (c : TCircuit) (l : List Int) : Spec Tryz.prog 18 [.agg (enCircuit c), vL kI (ints l)] (.tup [cN kI (ints (fEvC c l).1), cI (fEvC c l).2]) := by
  refine Spec.walk T.mixed Tryz.func18 S.ok18 (by simp [Tryz.f18]) fun hk => ?_
  unfold S.s18
  by_cases h1 : okC c
  case neg =>
    rw [show fEvC c l = ([], 1) from if_neg h1]
    repeat' (first|refine R.mv rfl ?_|refine R.reg ?_|refine R.nil ?_|refine R.seq ?_|refine R.nseq ?_|refine R.blk ?_|refine R.lda rfl rfl (lbT rfl) rfl ?_|refine R.not rfl ?_|refine R.box rfl rfl rfl ?_|refine R.condT rfl ?_|refine R.call (bor := false) rfl rfl (iCirF h1) rfl rfl rfl ?_)
    exact R.ret ⟨.inr rfl, R.outNilI rfl rfl rfl rfl rfl rfl⟩
  by_cases h2 : inK l c.fInputs
  case neg =>
    rw [show fEvC c l = ([], 2) from (if_pos h1).trans (if_neg h2)]
    repeat' (first|refine R.mv rfl ?_|refine R.reg ?_|refine R.nil ?_|refine R.seq ?_|refine R.nseq ?_|refine R.blk ?_|refine R.ld rfl rfl rfl ?_|refine R.lda rfl rfl (lbT rfl) rfl ?_|refine R.fa rfl rfl ?_|refine R.not rfl ?_|refine R.box rfl rfl rfl ?_|refine R.condT rfl ?_|refine R.condF rfl ?_|refine R.call (bor := false) rfl rfl (iCirT h1) rfl rfl rfl ?_|refine R.call (bor := false) rfl rfl (iBitsF h2) rfl rfl rfl ?_)
    exact R.ret ⟨.inr rfl, R.outNilI rfl rfl rfl rfl rfl rfl⟩
  rw [show fEvC c l = (evC c l, 0) from (if_pos h1).trans (if_pos h2)]
  repeat' (first|refine R.mv rfl ?_|refine R.reg ?_|refine R.nil ?_|refine R.seq ?_|refine R.nseq ?_|refine R.nblk ?_|refine R.skip ?_|refine R.blk ?_|refine R.ld rfl rfl rfl ?_|refine R.lda rfl rfl (lbT rfl) rfl ?_|refine R.fa rfl rfl ?_|refine R.not rfl ?_|refine R.box rfl rfl rfl ?_|refine R.condF rfl ?_|refine R.call (bor := false) rfl rfl (iCirT h1) rfl rfl rfl ?_|refine R.call (bor := false) rfl rfl (iBitsT h2) rfl rfl rfl ?_|refine R.callN1 (bor := false) rfl rfl (iEvC c l h1 h2) rfl rfl ?_)
  exact R.ret ⟨.inr rfl, R.outNI rfl rfl rfl rfl rfl⟩
theorem sGateV (k x y : Int) (_ : 1 ≤ k ∧ k ≤ 4) (hx : 0 ≤ x ∧ x ≤ 1) : Spec Tryz.prog 94 [vI k, vI x, vI y] (oI (gateV k x y)) := by
  refine Spec.walk T.mixed Tryz.func94 S.ok94 (by simp [Tryz.f94]) fun hk => ?_
  unfold S.s94
  repeat' (first|refine R.mv rfl ?_|refine R.reg ?_|refine R.nil ?_|refine R.seq ?_|refine R.nseq ?_|refine R.nblk ?_|refine R.skip ?_|refine R.blk ?_|refine R.eql rfl rfl ?_|refine R.sub rfl rfl (by omega) ?_|refine R.and rfl rfl ?_|refine R.or rfl rfl ?_|refine R.xor rfl rfl ?_|refine R.cond rfl (fun hc => ?_) (fun hc => ?_))
  all_goals first
    | (exfalso; omega)
    | (refine R.ret ⟨.inr rfl, R.outI rfl rfl ?_⟩; unfold gateV; simp_all; done)
theorem sEvC (c : TCircuit) (l : List Int) (h1 : okC c) (h2 : inK l c.fInputs) : Spec Tryz.prog 64 [vP (enCircuit c), vL kI (ints l)] (oN kI (ints (evC c l))) := by
  refine Spec.walk T.mixed Tryz.func64 S.ok64 (by simp [Tryz.f64]) fun hk => ?_
  obtain ⟨hn, hG, hO, hgs, hos⟩ := h1
  obtain ⟨hl, hbits⟩ := h2
  unfold S.s64
  repeat' (first|refine R.mv rfl ?_|refine R.reg ?_|refine R.nil ?_|refine R.seq ?_|refine R.nseq ?_|refine R.blk ?_|refine R.callN1 (bor := false) rfl rfl (sOwn l (by omega)) rfl rfl ?_)
  refine R.loop (G := Nat) (fun i => [(0, .v (.c (.d (.rp (enCircuit c))))), (5, .v (.c (.own 13000))), (6, pvA (.int .i64 i))]) (fun i => [(13000, .arr kI (ints (wr c l i)) [])]) (fun i => i ≤ c.fGates.length) (fun i => c.fGates.length - i) 0 (by omega) (Weak.frame _ _ ⟨rfl, rfl, rfl, trivial⟩ ⟨rfl, trivial⟩ rfl rfl) fun i hi => ?_
  have hwl := wr_len (c := c) (l := l) i
  have hwb := wr_bit (c := c) hbits i
  by_cases hil : i < c.fGates.length
  · obtain ⟨g, hgx⟩ : ∃ g, c.fGates[i]? = some g := ⟨_, List.getElem?_eq_getElem hil⟩
    have hg := hgs i g hgx
    have hga : gAt c i = g := by simp [gAt, List.getD, hgx]
    obtain ⟨gk, ga, gb⟩ := g
    unfold okG at hg
    dsimp only at hg
    obtain ⟨ma, rfl⟩ : ∃ m : Nat, ga = m := ⟨ga.toNat, by omega⟩
    obtain ⟨mb, rfl⟩ : ∃ m : Nat, gb = m := ⟨gb.toNat, by omega⟩
    obtain ⟨u, hu⟩ : ∃ u, (wr c l i)[ma]? = some u := ⟨_, List.getElem?_eq_getElem (by omega)⟩
    obtain ⟨v, hv⟩ : ∃ v, (wr c l i)[mb]? = some v := ⟨_, List.getElem?_eq_getElem (by omega)⟩
    have hu1 := hwb u (List.mem_of_getElem? hu)
    have hv1 := hwb v (List.mem_of_getElem? hv)
    have hnx : wr c l (i + 1) = wr c l i ++ [gateV gk u v] := by simp [wr, hga, List.getD, hu, hv]
    repeat' (first|refine R.ixK (⟨gk, ma, mb⟩ : TGate) hgx rfl rfl rfl ?_|refine R.ixOK u hu rfl rfl rfl ?_|refine R.ixOK v hv rfl rfl rfl ?_|refine R.mv rfl ?_|refine R.reg ?_|refine R.nil ?_|refine R.seq ?_|refine R.nseq ?_|refine R.nblk ?_|refine R.skip ?_|refine R.blk ?_|refine R.exit rfl ?_|refine R.ldEp rfl rfl (by assumption) rfl rfl ?_|refine R.ld rfl rfl rfl ?_|refine R.lda rfl rfl (lbT rfl) rfl ?_|refine R.fa rfl rfl ?_|refine R.lenM rfl ?_|refine R.lss rfl rfl ?_|refine R.add rfl rfl (by omega) ?_|refine R.nc rfl rfl ?_|refine R.al rfl ?_|refine R.stoB rfl rfl rfl rfl ⟨rfl, rfl, Nat.le_of_ble_eq_true rfl⟩ rfl ?_|refine R.call (bor := false) rfl rfl (sGateV gk u v ⟨hg.1.1, hg.1.2⟩ hu1) rfl rfl rfl ?_|refine R.bsl (f := enI) [gateV gk u v] rfl rfl rfl rfl rfl ?_|refine R.app (f := enI) (fun _ => rfl) rfl rfl rfl rfl rfl ⟨by simp only [List.length_singleton]; omega, by simp only [List.length_singleton]; omega⟩ ?_|refine R.cond rfl (fun hc => ?_) (fun hc => ?_))
    all_goals first
      | (exfalso; omega)
      | exact R.nloop (R.again (i + 1) (by omega) (by omega) ⟨rfl, rfl, rfl, trivial⟩ ⟨arr_eq (by rw [hnx]), trivial⟩ rfl rfl)
  obtain rfl : i = c.fGates.length := by omega
  repeat' (first|refine R.mv rfl ?_|refine R.reg ?_|refine R.nil ?_|refine R.seq ?_|refine R.nseq ?_|refine R.skip ?_|refine R.blk ?_|refine R.exit rfl ?_|refine R.ldEp rfl rfl (by assumption) rfl rfl ?_|refine R.ld rfl rfl rfl ?_|refine R.lda rfl rfl (lbT rfl) rfl ?_|refine R.fa rfl rfl ?_|refine R.lenM rfl ?_|refine R.lss rfl rfl ?_|refine R.ixN rfl rfl rfl (by omega) (fun a ha => ?_)|refine R.ixO rfl rfl rfl (by first|omega|(simp; omega)) (fun a' ha' => ?_)|refine R.nc rfl rfl ?_|refine R.al rfl ?_|refine R.stoB rfl rfl rfl rfl ⟨rfl, rfl, Nat.le_of_ble_eq_true rfl⟩ rfl ?_|refine R.bsl (f := enI) ([] : List Int) rfl rfl rfl rfl rfl ?_|refine R.cond rfl (fun hc => ?_) (fun hc => ?_))
  all_goals first | (exfalso; omega) | skip
  refine R.loop (G := Nat) (fun i => [(0, .v (.c (.d (.rp (enCircuit c))))), (5, .v (.c (.own 13000))), (8, .v (.c (.own 44))), (9, pvA (.int .i64 i))]) (fun i => [(13000, .arr kI (ints (wr c l c.fGates.length)) []), (44, .arr kI (ints ((c.fOutputs.take i).map fun w => (wr c l c.fGates.length).getD w.toNat 0)) [])]) (fun i => i ≤ c.fOutputs.length) (fun i => c.fOutputs.length - i) 0 (by omega) (Weak.frame _ _ ⟨rfl, rfl, rfl, rfl, trivial⟩ ⟨rfl, rfl, trivial⟩ rfl rfl) fun i hi => ?_
  by_cases hil : i < c.fOutputs.length
  · obtain ⟨w, hw⟩ : ∃ w, c.fOutputs[i]? = some w := ⟨_, List.getElem?_eq_getElem hil⟩
    have hwo := hos w (List.mem_of_getElem? hw)
    obtain ⟨m, rfl⟩ : ∃ m : Nat, w = m := ⟨w.toNat, by omega⟩
    obtain ⟨u, hu⟩ : ∃ u, (wr c l c.fGates.length)[m]? = some u := ⟨_, List.getElem?_eq_getElem (by omega)⟩
    have hgd : (wr c l c.fGates.length).getD ((m : Int)).toNat 0 = u := by simp [List.getD, hu]
    repeat' (first|refine R.ixK (m : Int) hw rfl rfl rfl ?_|refine R.ixOK u hu rfl rfl rfl ?_|refine R.mv rfl ?_|refine R.reg ?_|refine R.nil ?_|refine R.seq ?_|refine R.nseq ?_|refine R.nblk ?_|refine R.skip ?_|refine R.blk ?_|refine R.exit rfl ?_|refine R.ldEp rfl rfl (by assumption) rfl rfl ?_|refine R.ld rfl rfl rfl ?_|refine R.fa rfl rfl ?_|refine R.lenM rfl ?_|refine R.lss rfl rfl ?_|refine R.add rfl rfl (by omega) ?_|refine R.nc rfl rfl ?_|refine R.bsl (f := enI) [u] rfl rfl rfl rfl rfl ?_|refine R.app (f := enI) (fun _ => rfl) rfl rfl rfl rfl rfl ⟨by simp only [List.length_map, List.length_take, List.length_singleton]; omega, by simp only [List.length_map, List.length_take, List.length_singleton]; omega⟩ ?_|refine R.cond rfl (fun hc => ?_) (fun hc => ?_))
    all_goals first
      | (exfalso; omega)
      | exact R.nloop (R.again (i + 1) (by omega) (by omega) ⟨rfl, rfl, rfl, rfl, trivial⟩ ⟨rfl, arr_eq (by rw [take_snoc hw, List.map_append, List.map_singleton, hgd]), trivial⟩ rfl rfl)
  obtain rfl : i = c.fOutputs.length := by omega
  repeat' (first|refine R.mv rfl ?_|refine R.reg ?_|refine R.nil ?_|refine R.seq ?_|refine R.nseq ?_|refine R.skip ?_|refine R.blk ?_|refine R.exit rfl ?_|refine R.ldEp rfl rfl (by assumption) rfl rfl ?_|refine R.ld rfl rfl rfl ?_|refine R.fa rfl rfl ?_|refine R.lenM rfl ?_|refine R.lss rfl rfl ?_|refine R.ixN rfl rfl rfl (by omega) (fun a ha => ?_)|refine R.ixO rfl rfl rfl (by first|omega|(simp; omega)) (fun a' ha' => ?_)|refine R.nc rfl rfl ?_|refine R.cond rfl (fun hc => ?_) (fun hc => ?_))
  all_goals first
    | (exfalso; omega)
    | exact R.ret ⟨.inr rfl, R.outN rfl rfl (arr_eq (by rw [List.take_length]; rfl))⟩
theorem sCirT {c : TCircuit} (h : okC c) : Spec Tryz.prog 27 [vP (enCircuit c)] (oB true) := by have := sOk c; rwa [bP_iff.2 h] at this
theorem sCirF {c : TCircuit} (h : ¬ okC c) : Spec Tryz.prog 27 [vP (enCircuit c)] (oB false) := by have := sOk c; rwa [bP_not.2 h] at this
end
end Go.Proofs.YtehkaajakapkmaaGreat
