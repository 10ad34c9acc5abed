/- A rule's rectangle: the program, walked. -/
import Derived.Test.YtnkfbodolbfjpaaRul3
import Derived.Test.YtnkfbodolbfjpaaRul4
namespace Go.Proofs.Ytnkfbodolbfjpaa
open Go.RowKit
set_option maxRecDepth 100000 in
def S.s80 : SC := (.seq (.reg [⟨(.some 2), .none, .false, (.mv (.const (Go.Value.slice none 0 0)))⟩]) (.seq (.seq (.reg [⟨(.some 3), .none, .false, (.mv (.tmp 0))⟩, ⟨(.some 4), .none, .false, (.isn .false (.tmp 3))⟩]) (.cond (.tmp 4) (.seq (.reg [⟨(.some 2), .none, .false, (.mv (.const (Go.Value.slice none 0 0)))⟩]) .ret) .skip)) (.seq (.reg [⟨(.some 5), .none, .false, (.bsl (.mk 2 1) 0 [])⟩, ⟨(.some 6), .none, .false, (.mv (.tmp 0))⟩, ⟨(.some 7), .none, .false, (.app (.mk 2 1) 8 (.tmp 5) (.tmp 6))⟩, ⟨(.some 2), .none, .false, (.mv (.tmp 7))⟩]) .ret)))
set_option maxRecDepth 100000 in
theorem S.ok80 : stripF Try.prog Try.f80 = some S.s80 := by kernel_rfl
set_option maxRecDepth 100000 in
def S.s125 : SC := (.seq (.reg [⟨(.some 3), .none, .false, (.box 101 (.tmp 0))⟩, ⟨(.some 6), .none, .false, (.mv (.const (Go.Value.int Go.IntKind.i64 0)))⟩]) (.seq (.block 0 (.seq (.reg [⟨(.some 8), .none, .false, (.ld .true 2 (.tmp 3))⟩, ⟨(.some 9), .none, .false, (.call (.func 200) [(.tmp 8)])⟩, ⟨(.some 10), .none, .false, (.not (.tmp 9))⟩, ⟨(.some 7), .none, .false, (.mv (.tmp 10))⟩]) (.cond (.tmp 7) (.seq (.reg [⟨(.some 6), .none, .false, (.mv (.const (Go.Value.int Go.IntKind.i64 1)))⟩]) .ret) (.seq (.reg [⟨(.some 12), .none, .false, (.ld .true 2 (.tmp 3))⟩, ⟨(.some 13), .none, .false, (.mv (.tmp 1))⟩, ⟨(.some 14), .none, .false, (.call (.func 201) [(.tmp 12), (.tmp 13)])⟩, ⟨(.some 15), .none, .false, (.not (.tmp 14))⟩, ⟨(.some 16), .none, .false, (.mv (.tmp 15))⟩, ⟨(.some 17), (.some (16, .false)), .false, (.ld .true 2 (.tmp 3))⟩, ⟨(.some 18), (.some (16, .false)), .false, (.mv (.tmp 2))⟩, ⟨(.some 19), (.some (16, .false)), .false, (.call (.func 201) [(.tmp 17), (.tmp 18)])⟩, ⟨(.some 20), (.some (16, .false)), .false, (.not (.tmp 19))⟩, ⟨(.some 21), .none, .false, (.pick (.tmp 16) (.const (Go.Value.bool true)) (.tmp 20))⟩, ⟨(.some 11), .none, .false, (.mv (.tmp 21))⟩]) (.cond (.tmp 11) (.seq (.reg [⟨(.some 6), .none, .false, (.mv (.const (Go.Value.int Go.IntKind.i64 2)))⟩]) .ret) .skip))))) (.seq (.reg [⟨(.some 6), .none, .false, (.mv (.const (Go.Value.int Go.IntKind.i64 0)))⟩]) .ret)))
set_option maxRecDepth 100000 in
theorem S.ok125 : stripF Try.prog Try.f125 = some S.s125 := by kernel_rfl
set_option maxRecDepth 100000
set_option maxHeartbeats 2000000
theorem iSides (r : TRule) (w s : List Int) : Spec Try.prog 125 [.agg (enRule r), vL kI (ints w), vL kI (ints s)] (oI (fRR r w s).2) := by
  refine Spec.walk T.mixed Try.func125 S.ok125 (by simp [Try.f125]) fun hk => ?_
  clear hk
  unfold S.s125
  by_cases h : okRu r
  case neg =>
    rw [show fRR r w s = ([], 1) from if_neg h]
    repeat' (first | refine R.mv rfl ?_ | refine R.reg ?_ | refine R.nil ?_ | refine R.seq ?_ | refine R.nseq ?_ | refine R.nblk ?_ | refine R.skip ?_ | refine R.blk ?_ | refine R.exit rfl ?_ | refine R.gRun rfl ?_ | refine R.gSkip rfl ?_ | refine R.gSkip0 rfl ?_ | refine R.gUndef rfl ?_ | refine R.gUndef0 rfl ?_ | refine R.ldEp rfl rfl (by assumption) rfl rfl ?_ | refine R.ldaEp rfl rfl (by assumption) (Nat.le_of_ble_eq_true rfl) rfl rfl ?_ | refine R.ld rfl rfl rfl ?_ | refine R.lda rfl rfl (Nat.le_of_ble_eq_true rfl) rfl ?_ | refine R.pickT rfl rfl ?_ | refine R.pickF rfl rfl ?_ | refine R.not rfl ?_ | refine R.box rfl rfl rfl ?_ | refine R.condT rfl ?_ | refine R.condF rfl ?_ | refine R.call (bor := false) rfl rfl (iRuleF h) rfl rfl rfl ?_ | refine R.call (bor := true) rfl rfl (iRuleF h) rfl rfl rfl ?_ | refine R.fcal (bor := false) rfl rfl (iRuleF h) rfl rfl rfl ?_ | refine R.fcal (bor := true) rfl rfl (iRuleF h) rfl rfl rfl ?_ | refine R.cond rfl (fun hc => ?_) (fun hc => ?_) | refine R.condN rfl (fun hc => ?_) (fun hc => ?_) | refine R.condB rfl (fun hc => ?_) (fun hc => ?_) | refine R.gP rfl (fun hc => ?_) (fun hc => ?_) | refine R.gN rfl (fun hc => ?_) (fun hc => ?_) | refine R.gB rfl (fun hc => ?_) (fun hc => ?_))
    all_goals first | (exfalso; omega) | exact R.ret ⟨.inr rfl, R.outI rfl rfl rfl⟩ | skip
  have hA := iSideOk r w h.1
  have hB := iSideOk r s h.1
  by_cases h1 : okSd r.fStates w
  case neg =>
    rw [show fRR r w s = ([], 2) by unfold fRR; rw [if_pos h, if_neg fun h' => h1 h'.1]]
    rw [bP_not.2 h1] at hA
    repeat' (first | refine R.mv rfl ?_ | refine R.reg ?_ | refine R.nil ?_ | refine R.seq ?_ | refine R.nseq ?_ | refine R.nblk ?_ | refine R.skip ?_ | refine R.blk ?_ | refine R.exit rfl ?_ | refine R.gRun rfl ?_ | refine R.gSkip rfl ?_ | refine R.gSkip0 rfl ?_ | refine R.gUndef rfl ?_ | refine R.gUndef0 rfl ?_ | refine R.ldEp rfl rfl (by assumption) rfl rfl ?_ | refine R.ldaEp rfl rfl (by assumption) (Nat.le_of_ble_eq_true rfl) rfl rfl ?_ | refine R.ld rfl rfl rfl ?_ | refine R.lda rfl rfl (Nat.le_of_ble_eq_true rfl) rfl ?_ | refine R.pickT rfl rfl ?_ | refine R.pickF rfl rfl ?_ | refine R.not rfl ?_ | refine R.box rfl rfl rfl ?_ | refine R.condT rfl ?_ | refine R.condF rfl ?_ | refine R.call (bor := false) rfl rfl (iRuleT h) rfl rfl rfl ?_ | refine R.call (bor := true) rfl rfl (iRuleT h) rfl rfl rfl ?_ | refine R.fcal (bor := false) rfl rfl (iRuleT h) rfl rfl rfl ?_ | refine R.fcal (bor := true) rfl rfl (iRuleT h) rfl rfl rfl ?_ | refine R.call (bor := false) rfl rfl (hA) rfl rfl rfl ?_ | refine R.call (bor := true) rfl rfl (hA) rfl rfl rfl ?_ | refine R.fcal (bor := false) rfl rfl (hA) rfl rfl rfl ?_ | refine R.fcal (bor := true) rfl rfl (hA) rfl rfl rfl ?_ | refine R.cond rfl (fun hc => ?_) (fun hc => ?_) | refine R.condN rfl (fun hc => ?_) (fun hc => ?_) | refine R.condB rfl (fun hc => ?_) (fun hc => ?_) | refine R.gP rfl (fun hc => ?_) (fun hc => ?_) | refine R.gN rfl (fun hc => ?_) (fun hc => ?_) | refine R.gB rfl (fun hc => ?_) (fun hc => ?_))
    all_goals first | (exfalso; omega) | exact R.ret ⟨.inr rfl, R.outI rfl rfl rfl⟩ | skip
  rw [bP_iff.2 h1] at hA
  by_cases h2 : okSd r.fStates s
  · rw [show fRR r w s = (rws r.fStates r.fTable w s w.length, 0) by unfold fRR; rw [if_pos h, if_pos ⟨h1, h2⟩]]
    rw [bP_iff.2 h2] at hB
    repeat' (first | refine R.mv rfl ?_ | refine R.reg ?_ | refine R.nil ?_ | refine R.seq ?_ | refine R.nseq ?_ | refine R.nblk ?_ | refine R.skip ?_ | refine R.blk ?_ | refine R.exit rfl ?_ | refine R.gRun rfl ?_ | refine R.gSkip rfl ?_ | refine R.gSkip0 rfl ?_ | refine R.gUndef rfl ?_ | refine R.gUndef0 rfl ?_ | refine R.ldEp rfl rfl (by assumption) rfl rfl ?_ | refine R.ldaEp rfl rfl (by assumption) (Nat.le_of_ble_eq_true rfl) rfl rfl ?_ | refine R.ld rfl rfl rfl ?_ | refine R.lda rfl rfl (Nat.le_of_ble_eq_true rfl) rfl ?_ | refine R.pickT rfl rfl ?_ | refine R.pickF rfl rfl ?_ | refine R.not rfl ?_ | refine R.box rfl rfl rfl ?_ | refine R.condT rfl ?_ | refine R.condF rfl ?_ | refine R.call (bor := false) rfl rfl (iRuleT h) rfl rfl rfl ?_ | refine R.call (bor := true) rfl rfl (iRuleT h) rfl rfl rfl ?_ | refine R.fcal (bor := false) rfl rfl (iRuleT h) rfl rfl rfl ?_ | refine R.fcal (bor := true) rfl rfl (iRuleT h) rfl rfl rfl ?_ | refine R.call (bor := false) rfl rfl (hA) rfl rfl rfl ?_ | refine R.call (bor := true) rfl rfl (hA) rfl rfl rfl ?_ | refine R.fcal (bor := false) rfl rfl (hA) rfl rfl rfl ?_ | refine R.fcal (bor := true) rfl rfl (hA) rfl rfl rfl ?_ | refine R.call (bor := false) rfl rfl (hB) rfl rfl rfl ?_ | refine R.call (bor := true) rfl rfl (hB) rfl rfl rfl ?_ | refine R.fcal (bor := false) rfl rfl (hB) rfl rfl rfl ?_ | refine R.fcal (bor := true) rfl rfl (hB) rfl rfl rfl ?_ | refine R.cond rfl (fun hc => ?_) (fun hc => ?_) | refine R.condN rfl (fun hc => ?_) (fun hc => ?_) | refine R.condB rfl (fun hc => ?_) (fun hc => ?_) | refine R.gP rfl (fun hc => ?_) (fun hc => ?_) | refine R.gN rfl (fun hc => ?_) (fun hc => ?_) | refine R.gB rfl (fun hc => ?_) (fun hc => ?_))
    all_goals first | (exfalso; omega) | exact R.ret ⟨.inr rfl, R.outI rfl rfl rfl⟩ | skip
  · rw [show fRR r w s = ([], 2) by unfold fRR; rw [if_pos h, if_neg fun h' => h2 h'.2]]
    rw [bP_not.2 h2] at hB
    repeat' (first | refine R.mv rfl ?_ | refine R.reg ?_ | refine R.nil ?_ | refine R.seq ?_ | refine R.nseq ?_ | refine R.nblk ?_ | refine R.skip ?_ | refine R.blk ?_ | refine R.exit rfl ?_ | refine R.gRun rfl ?_ | refine R.gSkip rfl ?_ | refine R.gSkip0 rfl ?_ | refine R.gUndef rfl ?_ | refine R.gUndef0 rfl ?_ | refine R.ldEp rfl rfl (by assumption) rfl rfl ?_ | refine R.ldaEp rfl rfl (by assumption) (Nat.le_of_ble_eq_true rfl) rfl rfl ?_ | refine R.ld rfl rfl rfl ?_ | refine R.lda rfl rfl (Nat.le_of_ble_eq_true rfl) rfl ?_ | refine R.pickT rfl rfl ?_ | refine R.pickF rfl rfl ?_ | refine R.not rfl ?_ | refine R.box rfl rfl rfl ?_ | refine R.condT rfl ?_ | refine R.condF rfl ?_ | refine R.call (bor := false) rfl rfl (iRuleT h) rfl rfl rfl ?_ | refine R.call (bor := true) rfl rfl (iRuleT h) rfl rfl rfl ?_ | refine R.fcal (bor := false) rfl rfl (iRuleT h) rfl rfl rfl ?_ | refine R.fcal (bor := true) rfl rfl (iRuleT h) rfl rfl rfl ?_ | refine R.call (bor := false) rfl rfl (hA) rfl rfl rfl ?_ | refine R.call (bor := true) rfl rfl (hA) rfl rfl rfl ?_ | refine R.fcal (bor := false) rfl rfl (hA) rfl rfl rfl ?_ | refine R.fcal (bor := true) rfl rfl (hA) rfl rfl rfl ?_ | refine R.call (bor := false) rfl rfl (hB) rfl rfl rfl ?_ | refine R.call (bor := true) rfl rfl (hB) rfl rfl rfl ?_ | refine R.fcal (bor := false) rfl rfl (hB) rfl rfl rfl ?_ | refine R.fcal (bor := true) rfl rfl (hB) rfl rfl rfl ?_ | refine R.cond rfl (fun hc => ?_) (fun hc => ?_) | refine R.condN rfl (fun hc => ?_) (fun hc => ?_) | refine R.condB rfl (fun hc => ?_) (fun hc => ?_) | refine R.gP rfl (fun hc => ?_) (fun hc => ?_) | refine R.gN rfl (fun hc => ?_) (fun hc => ?_) | refine R.gB rfl (fun hc => ?_) (fun hc => ?_))
    all_goals first | (exfalso; omega) | exact R.ret ⟨.inr rfl, R.outI rfl rfl rfl⟩ | skip
theorem lib_cloneI5 (l : List Int) (h : l.length ≤ 1048576) : Spec Try.prog 80 [vL kI (ints l)] (oN kI (ints l)) := by
  refine Spec.walk T.mixed Try.func80 S.ok80 (by simp [Try.f80]) fun hk => ?_
  unfold S.s80
  repeat' (first | refine R.mv rfl ?_ | refine R.reg ?_ | refine R.nil ?_ | refine R.seq ?_ | refine R.nseq ?_ | refine R.nblk ?_ | refine R.skip ?_ | refine R.blk ?_ | refine R.exit rfl ?_ | refine R.isn rfl rfl ?_ | refine R.isnn rfl rfl ?_ | refine R.condT rfl ?_ | refine R.condF rfl ?_ | refine R.bsl (f := enI) ([] : List Int) rfl rfl rfl rfl rfl ?_ | refine R.app (f := enI) (fun _ => rfl) rfl rfl rfl rfl rfl ⟨by simp only [List.length_nil]; omega, by simp only [List.length_nil]; omega⟩ ?_ | refine R.cond rfl (fun hc => ?_) (fun hc => ?_) | refine R.condN rfl (fun hc => ?_) (fun hc => ?_) | refine R.condB rfl (fun hc => ?_) (fun hc => ?_) | refine R.isn2 rfl (fun hc => ?_) ?_ | refine R.isn2O rfl rfl (fun hc => ?_) ?_)
  · subst hc; exact R.ret ⟨.inr rfl, R.outE rfl rfl rfl⟩
  · exact R.ret ⟨.inr rfl, R.outN rfl rfl (arr_eq (by simp))⟩
theorem spec_args {W : World} {R : Nat → Prop} {vs : List Value} {args : List VD} (h : F2 (RVD W R) vs args) : F2 (RV1 W R (fun _ => undef) (domO (frO []))) vs (args.map VD.v1) := by
  induction h with
  | nil => exact .nil
  | cons h1 _ ih =>
    refine .cons ?_ ih
    rename_i v x _ _ _
    cases x with
    | c y => exact h1
    | agg ys => obtain ⟨us, e, h2⟩ := h1; exact ⟨us, e, F2.map_right (f := B.d) (fun _ _ h => h) h2⟩
theorem noTab (w : World) (R : Nat → Prop) : TabW w R := fun x hx => by simp [tabG] at hx
/-- A contract whose result is data, at a world. -/
theorem spec_call {P : Program} {k : FuncId} {args : List VD} {d : D} (h : Spec P k args (.v (.c (.fz d)))) {W : World} {R : Nat → Prop} {vs : List Value} (hR : ∀ b, R b → b < W.heap.size) (hF : F2 (RVD W R) vs args) :
    Calls P k vs.toArray W fun e W' => ∃ v, e = .returned v ∧ Below W.heap.size W W' ∧ ∃ R' : Nat → Prop, RD W' R' v d := by
  refine (h.2 W R (fun _ => undef) (fun _ => []) vs hR (spec_args hF) ⟨fun o x h => (by cases h), fun o x h => (by cases h), fun o p x y g h => (by cases h), noTab _ _⟩).mono fun e W' => ?_
  rintro ⟨v, rfl, R', ι', φ', hb, hs, hz, _, hra, _⟩
  exact ⟨v, rfl, hb.below (fun g ⟨o, x, h, _⟩ => by cases h), R', hra⟩
theorem ET.ofInts5 {W : World} : ∀ {l : List Int} {vs : List Value} {S1 : List Nat}, ET W vs (l.map iD) S1 → vs = l.map (Value.int .i64) ∧ S1 = [] ∧ ∀ n ∈ l, okI (.int .i64 n)
  | [], _, _, h => by cases h; exact ⟨rfl, rfl, fun n h => by cases h⟩
  | n :: l, _, _, h => by
    cases h with
    | pv h1 hi h2 =>
      obtain ⟨rfl, rfl, h3⟩ := ET.ofInts5 h2
      exact ⟨rfl, rfl, fun m hm => by
        rcases List.mem_cons.1 hm with rfl | hm
        · exact hi
        · exact h3 m hm⟩
theorem ET.toInts5 {W : World} : ∀ {l : List Int}, (∀ n ∈ l, okI (.int .i64 n)) → ET W (l.map (Value.int .i64)) (l.map iD) []
  | [], _ => .nil
  | n :: l, h => .pv rfl (h n (by simp)) (ET.toInts5 fun m hm => h m (by simp [hm]))
theorem flat_ints5 : ∀ l : List Int, (ints l).flatten = l.map iD
  | [] => rfl
  | n :: l => by
    show [iD n] ++ (ints l).flatten = _
    rw [flat_ints5 l]; rfl
/-- A contract whose result is a new row, at a world. -/
theorem spec_callN {P : Program} {k : FuncId} {args : List VD} {l : List Int} (h : Spec P k args (oN kI (ints l))) {W : World} {R : Nat → Prop} {vs : List Value} (hR : ∀ b, R b → b < W.heap.size) (hF : F2 (RVD W R) vs args) :
    Calls P k vs.toArray W fun e W' => ∃ v, e = .returned v ∧ Below W.heap.size W W' ∧ W'.ownsRow 0 2 1 v l.length (l.map (Value.int .i64)) ∧ ∀ g, v.ownBlock = some g → W.heap.size ≤ g := by
  refine (h.2 W R (fun _ => undef) (fun _ => []) vs hR (spec_args hF) ⟨fun o x h => (by cases h), fun o x h => (by cases h), fun o p x y g h => (by cases h), noTab _ _⟩).mono fun e W' => ?_
  rintro ⟨v, rfl, R', ι', φ', hb, hs, hz, _, hra, hO, hfp, _⟩
  have hX : frO (oN kI (ints l)).outs 0 = some (.arr kI (ints l) []) := rfl
  obtain ⟨_, hv⟩ := hra
  obtain ⟨_, xs, S1, how, heh, hS, _⟩ := hO.1 _ _ hX
  have heh : EH W' ι' (domO (frO (oN kI (ints l)).outs)) xs ((ints l).flatten.map .d) S1 := heh
  have het := EH.to_ET heh
  rw [flat_ints5] at het
  obtain ⟨rfl, rfl, _⟩ := ET.ofInts5 het
  have hlen : (ints l).length = l.length := by simp
  rw [← hv, hlen] at how
  refine ⟨v, rfl, hb.below (fun g ⟨o, x, h, _⟩ => by cases h), how, fun g hg => ?_⟩
  rcases hfp g ⟨0, _, hX, by rw [hS, ← hv, hg]; simp⟩ with h1 | h1
  · obtain ⟨o, x, h, _⟩ := h1
    cases h
  · exact h1
end Go.Proofs.Ytnkfbodolbfjpaa
