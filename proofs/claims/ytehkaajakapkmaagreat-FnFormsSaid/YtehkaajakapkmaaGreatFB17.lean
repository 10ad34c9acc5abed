/- Texts of one proof, one behind the other. -/
import Derived.Test.YtehkaajakapkmaaGreatFB16
namespace Go.Proofs.YtehkaajakapkmaaGreat
section
open Go.RowKit
set_option maxRecDepth 100000 in
def S.s49 : SC := (.seq (.reg [⟨(.some 6), .none, .false, (.mv (.const (Go.Value.bool false)))⟩]) (.seq (.reg [⟨(.some 7), .none, .false, (.mv (.tmp 0))⟩, ⟨(.some 8), .none, .false, (.mv (.tmp 1))⟩, ⟨(.some 9), .none, .false, (.bin .geq (.tmp 7) (.tmp 8))⟩, ⟨(.some 10), .none, .false, (.mv (.tmp 9))⟩, ⟨(.some 11), (.some (10, .true)), .false, (.mv (.tmp 0))⟩, ⟨(.some 12), (.some (10, .true)), .false, (.mv (.tmp 2))⟩, ⟨(.some 13), (.some (10, .true)), .false, (.bin .leq (.tmp 11) (.tmp 12))⟩, ⟨(.some 14), .none, .false, (.pick (.tmp 10) (.tmp 13) (.const (Go.Value.bool false)))⟩, ⟨(.some 6), .none, .false, (.mv (.tmp 14))⟩]) .ret))
set_option maxRecDepth 100000 in
theorem S.ok49 : stripF Tryz.prog Tryz.f49 = some S.s49 := by kernel_rfl
set_option maxRecDepth 100000 in
def S.s63 : SC := (.seq (.reg [⟨(.some 6), .none, .false, (.mv (.const (Go.Value.bool false)))⟩]) (.seq (.reg [⟨(.some 7), .none, .false, (.mv (.tmp 0))⟩, ⟨(.some 8), .none, .false, (.mv (.tmp 1))⟩, ⟨(.some 9), .none, .false, (.bin .geq (.tmp 7) (.tmp 8))⟩, ⟨(.some 10), .none, .false, (.mv (.tmp 9))⟩, ⟨(.some 11), (.some (10, .true)), .false, (.mv (.tmp 0))⟩, ⟨(.some 12), (.some (10, .true)), .false, (.mv (.tmp 2))⟩, ⟨(.some 13), (.some (10, .true)), .false, (.bin .leq (.tmp 11) (.tmp 12))⟩, ⟨(.some 14), .none, .false, (.pick (.tmp 10) (.tmp 13) (.const (Go.Value.bool false)))⟩, ⟨(.some 6), .none, .false, (.mv (.tmp 14))⟩]) .ret))
set_option maxRecDepth 100000 in
theorem S.ok63 : stripF Tryz.prog Tryz.f63 = some S.s63 := by kernel_rfl
set_option maxRecDepth 100000 in
def S.s80 : SC := (.seq (.reg [⟨(.some 4), .none, .false, (.mv (.const (Go.Value.int Go.IntKind.i64 0)))⟩]) (.seq (.seq (.reg [⟨(.some 5), .none, .false, (.mv (.tmp 0))⟩, ⟨(.some 6), .none, .false, (.mv (.tmp 1))⟩, ⟨(.some 7), .none, .false, (.bin .lss (.tmp 5) (.tmp 6))⟩]) (.cond (.tmp 7) (.seq (.reg [⟨(.some 8), .none, .false, (.mv (.tmp 0))⟩, ⟨(.some 4), .none, .false, (.mv (.tmp 8))⟩]) .ret) .skip)) (.seq (.reg [⟨(.some 9), .none, .false, (.mv (.tmp 1))⟩, ⟨(.some 4), .none, .false, (.mv (.tmp 9))⟩]) .ret)))
set_option maxRecDepth 100000 in
theorem S.ok80 : stripF Tryz.prog Tryz.f80 = some S.s80 := by kernel_rfl
set_option maxRecDepth 100000 in
def S.s82 : SC := (.seq (.reg [⟨(.some 2), .none, .false, (.mv (.const (Go.Value.int Go.IntKind.i64 0)))⟩]) (.seq (.reg [⟨(.some 3), .none, .false, (.mv (.const (Go.Value.int Go.IntKind.i64 0)))⟩]) (.seq (.seq (.reg [⟨(.some 6), .none, .false, (.mv (.tmp 0))⟩, ⟨(.some 7), .none, .false, (.len (.tmp 6))⟩, ⟨(.some 8), .none, .false, (.mv (.const (Go.Value.int Go.IntKind.i64 0)))⟩]) (.block 0 (.loop (.seq (.reg [⟨(.some 9), .none, .false, (.bin .lss (.tmp 8) (.tmp 7))⟩]) (.seq (.cond (.tmp 9) .skip (.exit 0)) (.seq (.block 1 (.seq (.reg [⟨(.some 10), .none, .false, (.ix (.mk 3 1) (.tmp 6) (.tmp 8))⟩, ⟨(.some 11), .none, .false, (.ld .false 1 (.tmp 10))⟩, ⟨(.some 5), .none, .false, (.mv (.tmp 11))⟩]) (.seq (.reg [⟨(.some 12), .none, .false, (.mv (.tmp 5))⟩, ⟨(.some 13), .none, .false, (.mv (.tmp 3))⟩, ⟨(.some 14), .none, .false, (.bin .neq (.tmp 12) (.tmp 13))⟩]) (.cond (.tmp 14) (.seq (.reg [⟨(.some 15), .none, .false, (.mv (.tmp 5))⟩, ⟨(.some 2), .none, .false, (.mv (.tmp 15))⟩]) .ret) .skip)))) (.reg [⟨(.some 16), .none, .false, (.bin .add (.tmp 8) (.const (Go.Value.int Go.IntKind.i64 1)))⟩, ⟨(.some 8), .none, .false, (.mv (.tmp 16))⟩]))))))) (.seq (.reg [⟨(.some 17), .none, .false, (.mv (.tmp 3))⟩, ⟨(.some 2), .none, .false, (.mv (.tmp 17))⟩]) .ret))))
set_option maxRecDepth 100000 in
theorem S.ok82 : stripF Tryz.prog Tryz.f82 = some S.s82 := by kernel_rfl
set_option maxRecDepth 100000 in
def S.s83 : SC := (.seq (.reg [⟨(.some 4), .none, .false, (.mv (.const (Go.Value.int Go.IntKind.i64 0)))⟩]) (.seq (.reg [⟨(.some 7), .none, .false, (.mv (.tmp 0))⟩, ⟨(.some 8), .none, .false, (.call (.func 103) [(.tmp 7)])⟩, ⟨(.some 5), .none, .false, (.mv (.tmp 8))⟩]) (.seq (.reg [⟨(.some 9), .none, .false, (.mv (.tmp 1))⟩, ⟨(.some 10), .none, .false, (.call (.func 103) [(.tmp 9)])⟩, ⟨(.some 6), .none, .false, (.mv (.tmp 10))⟩]) (.seq (.seq (.reg [⟨(.some 11), .none, .false, (.mv (.tmp 5))⟩]) (.cond (.tmp 11) (.seq (.seq (.reg [⟨(.some 12), .none, .false, (.mv (.tmp 6))⟩]) (.cond (.tmp 12) (.seq (.reg [⟨(.some 4), .none, .false, (.mv (.const (Go.Value.int Go.IntKind.i64 0)))⟩]) .ret) .skip)) (.seq (.reg [⟨(.some 4), .none, .false, (.mv (.const (Go.Value.int Go.IntKind.i64 (-1))))⟩]) .ret)) .skip)) (.seq (.seq (.reg [⟨(.some 13), .none, .false, (.mv (.tmp 6))⟩]) (.cond (.tmp 13) (.seq (.reg [⟨(.some 4), .none, .false, (.mv (.const (Go.Value.int Go.IntKind.i64 1)))⟩]) .ret) .skip)) (.seq (.seq (.reg [⟨(.some 14), .none, .false, (.mv (.tmp 0))⟩, ⟨(.some 15), .none, .false, (.mv (.tmp 1))⟩, ⟨(.some 16), .none, .false, (.bin .lss (.tmp 14) (.tmp 15))⟩]) (.cond (.tmp 16) (.seq (.reg [⟨(.some 4), .none, .false, (.mv (.const (Go.Value.int Go.IntKind.i64 (-1))))⟩]) .ret) .skip)) (.seq (.seq (.reg [⟨(.some 17), .none, .false, (.mv (.tmp 0))⟩, ⟨(.some 18), .none, .false, (.mv (.tmp 1))⟩, ⟨(.some 19), .none, .false, (.bin .gtr (.tmp 17) (.tmp 18))⟩]) (.cond (.tmp 19) (.seq (.reg [⟨(.some 4), .none, .false, (.mv (.const (Go.Value.int Go.IntKind.i64 1)))⟩]) .ret) .skip)) (.seq (.reg [⟨(.some 4), .none, .false, (.mv (.const (Go.Value.int Go.IntKind.i64 0)))⟩]) .ret))))))))
set_option maxRecDepth 100000 in
theorem S.ok83 : stripF Tryz.prog Tryz.f83 = some S.s83 := by kernel_rfl
set_option maxRecDepth 100000 in
def S.s85 : SC := (.seq (.reg [⟨(.some 4), .none, .false, (.mv (.const (Go.Value.bool false)))⟩]) (.seq (.reg [⟨(.some 5), .none, .false, (.mv (.tmp 0))⟩, ⟨(.some 6), .none, .false, (.mv (.tmp 1))⟩, ⟨(.some 7), .none, .false, (.bin .sub (.tmp 6) (.const (Go.Value.int Go.IntKind.i64 1)))⟩, ⟨(.some 8), .none, .false, (.call (.func 49) [(.tmp 5), (.const (Go.Value.int Go.IntKind.i64 0)), (.tmp 7)])⟩, ⟨(.some 4), .none, .false, (.mv (.tmp 8))⟩]) .ret))
set_option maxRecDepth 100000 in
theorem S.ok85 : stripF Tryz.prog Tryz.f85 = some S.s85 := by kernel_rfl
set_option maxRecDepth 100000 in
def S.s103 : SC := (.seq (.reg [⟨(.some 2), .none, .false, (.mv (.const (Go.Value.bool false)))⟩]) (.seq (.reg [⟨(.some 3), .none, .false, (.mv (.tmp 0))⟩, ⟨(.some 4), .none, .false, (.mv (.tmp 0))⟩, ⟨(.some 5), .none, .false, (.bin .neq (.tmp 3) (.tmp 4))⟩, ⟨(.some 2), .none, .false, (.mv (.tmp 5))⟩]) .ret))
set_option maxRecDepth 100000 in
theorem S.ok103 : stripF Tryz.prog Tryz.f103 = some S.s103 := by kernel_rfl
set_option maxRecDepth 10000
set_option maxHeartbeats 4000000
abbrev inB (n a b : Int) : Bool := decide (a ≤ n ∧ n ≤ b)
theorem iWithin (n a b : Int) : Spec Tryz.prog 49 [vI n, vI a, vI b] (oB (inB n a b)) := by
  refine Spec.walk T.mixed Tryz.func49 S.ok49 (by simp [Tryz.f49]) fun hk => ?_
  unfold S.s49
  repeat' (first|refine R.mv rfl ?_|refine R.reg ?_|refine R.nil ?_|refine R.seq ?_|refine R.nseq ?_|refine R.gRun rfl ?_|refine R.gSkip rfl ?_|refine R.leq rfl rfl ?_|refine R.geq rfl rfl ?_|refine R.pickT rfl rfl ?_|refine R.pickF rfl rfl ?_|refine R.gP rfl (fun hc => ?_) (fun hc => ?_))
  all_goals refine R.ret ⟨.inr rfl, R.outB rfl rfl ?_⟩
  all_goals simp [inB, *]
theorem sIn (n a b : Int) : Spec Tryz.prog 63 [vI n, vI a, vI b] (oB (inB n a b)) := by
  refine Spec.walk T.mixed Tryz.func63 S.ok63 (by simp [Tryz.f63]) fun hk => ?_
  unfold S.s63
  repeat' (first|refine R.mv rfl ?_|refine R.reg ?_|refine R.nil ?_|refine R.seq ?_|refine R.nseq ?_|refine R.gRun rfl ?_|refine R.gSkip rfl ?_|refine R.leq rfl rfl ?_|refine R.geq rfl rfl ?_|refine R.pickT rfl rfl ?_|refine R.pickF rfl rfl ?_|refine R.gP rfl (fun hc => ?_) (fun hc => ?_))
  all_goals refine R.ret ⟨.inr rfl, R.outB rfl rfl ?_⟩
  all_goals simp [inB, *]
theorem sMin (a b : Int) : Spec Tryz.prog 80 [vI a, vI b] (oI (min a b)) := by
  refine Spec.walk T.mixed Tryz.func80 S.ok80 (by simp [Tryz.f80]) fun hk => ?_
  unfold S.s80
  repeat' (first|refine R.mv rfl ?_|refine R.reg ?_|refine R.nil ?_|refine R.seq ?_|refine R.nseq ?_|refine R.skip ?_|refine R.lss rfl rfl ?_|refine R.cond rfl (fun hc => ?_) (fun hc => ?_))
  all_goals refine R.ret ⟨.inr rfl, R.outI rfl rfl ?_⟩
  all_goals omega
theorem iIsIndex (n m : Int) (h : -9223372036854775807 ≤ m ∧ m ≤ 9223372036854775807) : Spec Tryz.prog 85 [vI n, vI m] (oB (inB n 0 (m - 1))) := by
  refine Spec.walk T.mixed Tryz.func85 S.ok85 (by simp [Tryz.f85]) fun hk => ?_
  unfold S.s85
  repeat' (first|refine R.mv rfl ?_|refine R.reg ?_|refine R.nil ?_|refine R.seq ?_|refine R.nseq ?_|refine R.sub rfl rfl (by omega) ?_|refine R.call (bor := false) rfl rfl (iWithin _ _ _) rfl rfl rfl ?_)
  exact R.ret ⟨.inr rfl, R.outB rfl rfl rfl⟩
theorem lib_nan (n : Int) : Spec Tryz.prog 103 [vI n] (oB false) := by
  refine Spec.walk T.mixed Tryz.func103 S.ok103 (by simp [Tryz.f103]) fun hk => ?_
  unfold S.s103
  repeat' (first|refine R.mv rfl ?_|refine R.reg ?_|refine R.nil ?_|refine R.seq ?_|refine R.nseq ?_|refine R.neq rfl rfl ?_)
  exact R.ret ⟨.inr rfl, R.outB rfl rfl (by simp)⟩
def cmpC (a b : Int) : Int := if a < b then -1 else if b < a then 1 else 0
theorem lib_cmp (a b : Int) : Spec Tryz.prog 83 [vI a, vI b] (oI (cmpC a b)) := by
  refine Spec.walk T.mixed Tryz.func83 S.ok83 (by simp [Tryz.f83]) fun hk => ?_
  unfold S.s83
  repeat' (first|refine R.mv rfl ?_|refine R.reg ?_|refine R.nil ?_|refine R.seq ?_|refine R.nseq ?_|refine R.skip ?_|refine R.lss rfl rfl ?_|refine R.gtr rfl rfl ?_|refine R.condF rfl ?_|refine R.call (bor := false) rfl rfl (lib_nan _) rfl rfl rfl ?_|refine R.cond rfl (fun hc => ?_) (fun hc => ?_))
  all_goals refine R.ret ⟨.inr rfl, R.outI rfl rfl ?_⟩
  all_goals unfold cmpC
  all_goals split <;> omega
theorem cmpC_lt {a b : Int} : cmpC a b < 0 ↔ a < b := by unfold cmpC; split <;> (try split) <;> omega
theorem cmpC_eq {a b : Int} : cmpC a b = 0 ↔ a = b := by unfold cmpC; split <;> (try split) <;> omega
def orV (l : List Int) : Int := (l.find? (fun n => decide (n ≠ 0))).getD 0
theorem orV_some {l : List Int} {i : Nat} {a : Int} (h : ∀ b ∈ l.take i, b = 0) (ha : l[i]? = some a) (hc : ¬ a = 0) : orV l = a := by
  have e : l = l.take i ++ a :: l.drop (i + 1) := by
    obtain ⟨hi, hx⟩ := List.getElem?_eq_some_iff.1 ha
    rw [← hx, ← List.drop_eq_getElem_cons hi, List.take_append_drop]
  unfold orV
  rw [e, List.find?_append]
  have : (l.take i).find? (fun n => decide (n ≠ 0)) = none := by
    rw [List.find?_eq_none]
    intro x hx
    simp [h x hx]
  rw [this]
  simp [hc]
theorem orV_none {l : List Int} (h : ∀ b ∈ l, b = 0) : orV l = 0 := by
  unfold orV
  have : l.find? (fun n => decide (n ≠ 0)) = none := by
    rw [List.find?_eq_none]
    intro x hx
    simp [h x hx]
  rw [this]; rfl
theorem lib_or (l : List Int) : Spec Tryz.prog 82 [vL kN (ints l)] (oI (orV l)) := by
  refine Spec.walk T.mixed Tryz.func82 S.ok82 (by simp [Tryz.f82]) fun hk => ?_
  have hlen := (K.c hk 0 rfl).lenM
  unfold S.s82
  repeat' (first|refine R.mv rfl ?_|refine R.reg ?_|refine R.nil ?_|refine R.seq ?_|refine R.nseq ?_|refine R.blk ?_|refine R.lenM rfl ?_)
  refine R.loop (G := Nat) (fun i => [(3, pvA (.int .i64 0)), (6, rdA kN (ints l)), (7, pvA (.int .i64 l.length)), (8, pvA (.int .i64 i))]) (fun _ => []) (fun i => i ≤ l.length ∧ ∀ b ∈ l.take i, b = 0) (fun i => l.length - i) 0 ⟨by omega, by simp⟩ (Weak.frame _ _ ⟨rfl, rfl, rfl, rfl, trivial⟩ trivial rfl rfl) fun i hi => ?_
  repeat' (first|refine R.mv rfl ?_|refine R.reg ?_|refine R.nil ?_|refine R.seq ?_|refine R.nseq ?_|refine R.nblk ?_|refine R.skip ?_|refine R.blk ?_|refine R.exit rfl ?_|refine R.ld rfl rfl rfl ?_|refine R.lss rfl rfl ?_|refine R.neq rfl rfl ?_|refine R.add rfl rfl (by omega) ?_|refine R.ixN rfl rfl rfl (by omega) (fun a ha => ?_)|refine R.cond rfl (fun hc => ?_) (fun hc => ?_)|refine R.condN rfl (fun hc => ?_) (fun hc => ?_))
  · refine R.nloop (R.again (i + 1) ⟨by omega, ?_⟩ (by omega) ⟨rfl, rfl, rfl, rfl, trivial⟩ trivial rfl rfl)
    rw [take_snoc ha]
    intro b hb
    rcases List.mem_append.1 hb with hb | hb
    · exact hi.2 b hb
    · simp at hb; subst hb; assumption
  · exact R.ret ⟨.inr rfl, R.outI rfl rfl (orV_some hi.2 ha hc).symm⟩
  · obtain rfl : i = l.length := by omega
    exact R.ret ⟨.inr rfl, R.outI rfl rfl (orV_none (by simpa using hi.2)).symm⟩
end
section
open Go.RowKit
set_option maxRecDepth 10000
set_option maxHeartbeats 4000000
-- sizes
-- marks
def mkS0 {α : Type} (m : α → Int → α) (c : α → Nat) : List α → Int → List α
  | [], _ => []
  | a :: l, k => m a k :: mkS0 m c l (k + c a)
@[irreducible] def mkS {α : Type} (m : α → Int → α) (c : α → Nat) (l : List α) (k : Int) : List α := mkS0 m c l k
@[irreducible] def cnt {α : Type} (c : α → Nat) (l : List α) : Nat := (l.map c).sum
abbrev pin (i : Nat) : Nat := 1000000 + i
def c1 {α : Type} (_ : α) : Nat := 1
end
section
open Go.RowKit
set_option maxRecDepth 10000
set_option maxHeartbeats 4000000
def enR (r : List Int) : List D := [.rd kI (r.map enI)]
abbrev kR : Ky := ⟨23, 1⟩
structure TGate where
  fKind : Int
  fA : Int
  fB : Int
abbrev enGate (x : TGate) : List D := [iD x.fKind, iD x.fA, iD x.fB]
abbrev kGate : Ky := ⟨91, 3⟩
structure TCircuit where
  fInputs : Int
  fGates : List TGate
  fOutputs : List Int
abbrev enCircuit (x : TCircuit) : List D := [iD x.fInputs, .rd kGate (x.fGates.map enGate), .rd kI (x.fOutputs.map enI)]
end
section
open Go.RowKit
set_option maxRecDepth 10000
set_option maxHeartbeats 4000000
structure TCube where
  fCare : Int
  fValue : Int
abbrev enCube (x : TCube) : List D := [iD x.fCare, iD x.fValue]
abbrev kCube : Ky := ⟨56, 2⟩
structure TForm where
  fInputs : Int
  fCubes : List TCube
  fSums : List (List Int)
abbrev enForm (x : TForm) : List D := [iD x.fInputs, .rd kCube (x.fCubes.map enCube), .rd kR (x.fSums.map enR)]
end
section
open Go.RowKit
section
variable {P : Program}
end
section
variable {P : Program} {Q : Exit → St → Prop} {ks : List Fr} {e : Nat → AV} {o : Nat → Option Ob} {d : Nat} {fr : Bool} {x y z : Operand} {rest : List SR}
theorem R.callX {bor : Bool} (ρ : List (Nat × Nat)) {dst : Option Nat} {g : FuncId} {f : Operand} {xs : List Operand} {caps : List D} {args as' : List V1} {ins outs : List (Nat × Ob)} {r : AV} (h1 : ev e f = .v (.c (.d (.fn g caps)))) (hc : SpecM P g as' ins r outs) (h2 : argsC (hobOf bor ρ o) ρ e xs = some args) (h3 : (args ++ caps.map fun d => .c (.d d)) = as') (h4 : insC o (hobOf bor ρ o) ρ ρ = some ins)
    (h5 : (nodupB (ρ.map (·.1)) && nodupB (ρ.map (·.2)) && outsOk o ρ (callId (dst.getD 0)) outs) = true) (hb : (!bor || (r.pu && outs.all fun x => x.2.pu)) = true) (k : WL P rest ks Q (putD (stAfter ⟨e, o⟩ ρ (callId (dst.getD 0)) outs) dst (r.ren (sg ρ (callId (dst.getD 0)))))) : WL P (⟨dst, none, false, .call f xs⟩ :: rest) ks Q ⟨e, o⟩ := by
  unfold WL at k
  refine WL.wr (.inl ⟨g, caps, bor, ρ, args, ins, r, outs, h1, h2, h4, by rw [h3]; exact hc, h5, fun hbt => ?_, k⟩)
  subst hbt
  simp only [Bool.not_true, Bool.false_or, Bool.and_eq_true] at hb
  exact ⟨hb.1, R.call.allPu hb.2⟩
end
theorem R.regOB {P : Program} {Q : Exit → St → Prop} {ks : List Fr} {t : OT SR} {b : SC} {id : Nat} {st : St} (mid : St) (h : WT P t (fun s => Weak s mid) st) (k : WC P b ks Q mid) : WC P (.regO t) (.blk id :: .seq b :: ks) Q st := by
  unfold WT at h
  unfold WC at k ⊢
  show VT P t (kQ P (.blk id :: .seq b :: ks) Q .normal) st
  exact VT_mono (fun s hs => Wk.of hs k) h
end
section
open Go.RowKit
set_option maxRecDepth 100000 in
def S.s48 : SC := (.seq (.reg [⟨(.some 2), .none, .false, (.mv (.const (Go.Value.bool false)))⟩]) (.seq (.reg [⟨(.some 3), .none, .false, (.mv (.tmp 0))⟩, ⟨(.some 4), .none, .false, (.call (.func 49) [(.tmp 3), (.const (Go.Value.int Go.IntKind.i64 1)), (.const (Go.Value.int Go.IntKind.i64 4))])⟩, ⟨(.some 2), .none, .false, (.mv (.tmp 4))⟩]) .ret))
set_option maxRecDepth 100000 in
theorem S.ok48 : stripF Tryz.prog Tryz.f48 = some S.s48 := by kernel_rfl
set_option maxRecDepth 100000 in
def S.s70 : SC := (.seq (.reg [⟨(.some 3), .none, .false, (.box 2 (.tmp 1))⟩, ⟨(.some 4), .none, .false, (.mv (.const (Go.Value.bool false)))⟩]) (.seq (.reg [⟨(.some 5), .none, .false, (.mv (.tmp 0))⟩, ⟨(.some 6), .none, .false, (.mkf 98 [(.tmp 3)])⟩, ⟨(.some 7), .none, .false, (.call (.func 57) [(.tmp 5), (.tmp 6)])⟩, ⟨(.some 8), .none, .false, (.not (.tmp 7))⟩, ⟨(.some 4), .none, .false, (.mv (.tmp 8))⟩]) .ret))
set_option maxRecDepth 100000 in
theorem S.ok70 : stripF Tryz.prog Tryz.f70 = some S.s70 := by kernel_rfl
set_option maxRecDepth 100000 in
def S.s98 : SC := (.seq (.reg [⟨(.some 3), .none, .false, (.mv (.const (Go.Value.bool false)))⟩]) (.seq (.reg [⟨(.some 4), .none, .false, (.mv (.tmp 0))⟩, ⟨(.some 5), .none, .false, (.ld .false 1 (.tmp 1))⟩, ⟨(.some 6), .none, .false, (.bin .sub (.tmp 5) (.const (Go.Value.int Go.IntKind.i64 1)))⟩, ⟨(.some 7), .none, .false, (.call (.func 49) [(.tmp 4), (.const (Go.Value.int Go.IntKind.i64 0)), (.tmp 6)])⟩, ⟨(.some 8), .none, .false, (.not (.tmp 7))⟩, ⟨(.some 3), .none, .false, (.mv (.tmp 8))⟩]) .ret))
set_option maxRecDepth 100000 in
theorem S.ok98 : stripF Tryz.prog Tryz.f98 = some S.s98 := by kernel_rfl
set_option maxRecDepth 10000
set_option maxHeartbeats 4000000
theorem inB_T {n a b : Int} (h : a ≤ n ∧ n ≤ b) : inB n a b = true := decide_eq_true h
theorem inB_F {n a b : Int} (h : ¬ (a ≤ n ∧ n ≤ b)) : inB n a b = false := decide_eq_false h
theorem iInputsOk (n : Int) : Spec Tryz.prog 48 [vI n] (oB (inB n 1 4)) := by
  refine Spec.walk T.mixed Tryz.func48 S.ok48 (by simp [Tryz.f48]) fun hk => ?_
  unfold S.s48
  repeat' (first|refine R.mv rfl ?_|refine R.reg ?_|refine R.nil ?_|refine R.seq ?_|refine R.nseq ?_|refine R.call (bor := false) rfl rfl (iWithin _ _ _) rfl rfl rfl ?_)
  exact R.ret ⟨.inr rfl, R.outB rfl rfl rfl⟩
theorem iInT {n : Int} (h : 1 ≤ n ∧ n ≤ 4) : Spec Tryz.prog 48 [vI n] (oB true) := by have := iInputsOk n; rwa [inB_T h] at this
theorem iInF {n : Int} (h : ¬ (1 ≤ n ∧ n ≤ 4)) : Spec Tryz.prog 48 [vI n] (oB false) := by have := iInputsOk n; rwa [inB_F h] at this
theorem iBelow1 (m n : Int) (hm : -9223372036854775807 ≤ m) (hm' : m ≤ 9223372036854775807) : Spec Tryz.prog 98 [vI n, vP [iD m]] (oB (!(inB n 0 (m - 1)))) := by
  refine Spec.walk T.mixed Tryz.func98 S.ok98 (by simp [Tryz.f98]) fun hk => ?_
  unfold S.s98
  repeat' (first|refine R.mv rfl ?_|refine R.reg ?_|refine R.nil ?_|refine R.seq ?_|refine R.nseq ?_|refine R.ld rfl rfl rfl ?_|refine R.sub rfl rfl (by omega) ?_|refine R.not rfl ?_|refine R.call (bor := false) rfl rfl (iWithin _ _ _) rfl rfl rfl ?_)
  exact R.ret ⟨.inr rfl, R.outB rfl rfl rfl⟩
theorem iBelow (l : List Int) (m : Int) (hm : -9223372036854775807 ≤ m) (hm' : m ≤ 9223372036854775807) : Spec Tryz.prog 70 [vL kI (ints l), vI m] (oB (l.all fun n => inB n 0 (m - 1))) := by
  refine Spec.walk T.mixed Tryz.func70 S.ok70 (by simp [Tryz.f70]) fun hk => ?_
  unfold S.s70
  repeat' (first|refine R.mv rfl ?_|refine R.reg ?_|refine R.nil ?_|refine R.seq ?_|refine R.nseqF rfl rfl rfl ?_|refine R.nseq ?_|refine R.not rfl ?_|refine R.mkf rfl ?_|refine R.box rfl rfl rfl ?_|refine R.call (bor := false) rfl rfl (lib_anyI (p := fun n => !(inB n 0 (m - 1))) fun a _ => iBelow1 m a hm hm') rfl rfl rfl ?_)
  refine R.ret ⟨.inr rfl, R.outB rfl rfl ?_⟩
  simp [inB, List.not_any_eq_all_not]
theorem allBelow {l : List Int} {m : Int} : (l.all fun n => inB n 0 (m - 1)) = bP (∀ n ∈ l, 0 ≤ n ∧ n ≤ m - 1) := by
  rw [Bool.eq_iff_iff, bP_iff]
  simp [inB]
theorem iBelowP (l : List Int) (m : Int) (hm : -9223372036854775807 ≤ m) (hm' : m ≤ 9223372036854775807) : Spec Tryz.prog 70 [vL kI (ints l), vI m] (oB (bP (∀ n ∈ l, 0 ≤ n ∧ n ≤ m - 1))) := by
  have := iBelow l m hm hm'
  rwa [allBelow] at this
end
end Go.Proofs.YtehkaajakapkmaaGreat
