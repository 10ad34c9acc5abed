/- A rule's rectangle: the reference's function. -/
import Derived.Test.YtnkfbodolbfjpaaRul3
namespace Go.Proofs.Ytnkfbodolbfjpaa
open Go.RowKit
set_option maxRecDepth 100000 in
def S.s55 : SC := (.seq (.reg [⟨(.some 3), .none, .false, (.box 101 (.tmp 0))⟩, ⟨(.some 6), .none, .false, (.mv (.const (Go.Value.slice none 0 0)))⟩, ⟨(.some 7), .none, .false, (.mv (.const (Go.Value.int Go.IntKind.i64 0)))⟩]) (.seq (.reg [⟨(.some 9), .none, .false, (.mv (.tmp 1))⟩, ⟨(.some 10), .none, .false, (.mv (.tmp 2))⟩, ⟨(.some 11), .none, .false, (.call (.func 123) [(.tmp 3), (.tmp 9), (.tmp 10)])⟩, ⟨(.some 8), .none, .false, (.mv (.tmp 11))⟩]) (.seq (.seq (.reg [⟨(.some 12), .none, .false, (.mv (.tmp 8))⟩, ⟨(.some 13), .none, .false, (.bin .neq (.tmp 12) (.const (Go.Value.int Go.IntKind.i64 0)))⟩]) (.cond (.tmp 13) (.seq (.reg [⟨(.some 14), .none, .false, (.mv (.tmp 8))⟩, ⟨(.some 6), .none, .false, (.mv (.const (Go.Value.slice none 0 0)))⟩, ⟨(.some 7), .none, .false, (.mv (.tmp 14))⟩]) .ret) .skip)) (.seq (.reg [⟨(.some 15), .none, .false, (.mv (.tmp 1))⟩, ⟨(.some 16), .none, .false, (.mv (.tmp 2))⟩, ⟨(.some 17), .none, .false, (.call (.func 124) [(.tmp 3), (.tmp 15), (.tmp 16)])⟩, ⟨(.some 6), .none, .false, (.mv (.tmp 17))⟩, ⟨(.some 7), .none, .false, (.mv (.const (Go.Value.int Go.IntKind.i64 0)))⟩]) .ret))))
set_option maxRecDepth 100000 in
theorem S.ok55 : stripF Try.prog Try.f55 = some S.s55 := by kernel_rfl
set_option maxRecDepth 100000 in
def S.s123 : SC := (.seq (.reg [⟨(.some 6), .none, .false, (.mv (.const (Go.Value.int Go.IntKind.i64 0)))⟩]) (.seq (.seq (.reg [⟨(.some 7), .none, .false, (.mv (.tmp 0))⟩, ⟨(.some 8), .none, .false, (.call (.func 198) [(.tmp 7)])⟩, ⟨(.some 9), .none, .false, (.not (.tmp 8))⟩]) (.cond (.tmp 9) (.seq (.reg [⟨(.some 6), .none, .false, (.mv (.const (Go.Value.int Go.IntKind.i64 1)))⟩]) .ret) .skip)) (.seq (.seq (.reg [⟨(.some 10), .none, .false, (.mv (.tmp 0))⟩, ⟨(.some 11), .none, .false, (.mv (.tmp 1))⟩, ⟨(.some 12), .none, .false, (.call (.func 199) [(.tmp 10), (.tmp 11)])⟩, ⟨(.some 13), .none, .false, (.not (.tmp 12))⟩, ⟨(.some 14), .none, .false, (.mv (.tmp 13))⟩, ⟨(.some 15), (.some (14, .false)), .false, (.mv (.tmp 0))⟩, ⟨(.some 16), (.some (14, .false)), .false, (.mv (.tmp 2))⟩, ⟨(.some 17), (.some (14, .false)), .false, (.call (.func 199) [(.tmp 15), (.tmp 16)])⟩, ⟨(.some 18), (.some (14, .false)), .false, (.not (.tmp 17))⟩, ⟨(.some 19), .none, .false, (.pick (.tmp 14) (.const (Go.Value.bool true)) (.tmp 18))⟩]) (.cond (.tmp 19) (.seq (.reg [⟨(.some 6), .none, .false, (.mv (.const (Go.Value.int Go.IntKind.i64 2)))⟩]) .ret) .skip)) (.seq (.reg [⟨(.some 6), .none, .false, (.mv (.const (Go.Value.int Go.IntKind.i64 0)))⟩]) .ret))))
set_option maxRecDepth 100000 in
theorem S.ok123 : stripF Try.prog Try.f123 = some S.s123 := by kernel_rfl
set_option maxRecDepth 10000
set_option maxHeartbeats 4000000
def codeR (r : TRule) (w s : List Int) : Prop := okRu r ∧ okSd r.fStates w ∧ okSd r.fStates s
open Classical in
noncomputable def fRR (r : TRule) (w s : List Int) : List (List Int) × Int := if okRu r then (if okSd r.fStates w ∧ okSd r.fStates s then (rws r.fStates r.fTable w s w.length, 0) else ([], 2)) else ([], 1)
theorem sAsked (r : TRule) (w s : List Int) : Spec Try.prog 123 [vP (enRule r), vL kI (ints w), vL kI (ints s)] (oI (fRR r w s).2) := by
  refine Spec.walk T.mixed Try.func123 S.ok123 (by simp [Try.f123]) fun hk => ?_
  clear hk
  unfold S.s123
  by_cases h : okRu r
  case neg =>
    rw [show fRR r w s = ([], 1) from if_neg h]
    repeat' (first | refine R.mv rfl ?_ | refine R.reg ?_ | refine R.nil ?_ | refine R.seq ?_ | refine R.nseq ?_ | refine R.nblk ?_ | refine R.skip ?_ | refine R.blk ?_ | refine R.exit rfl ?_ | refine R.gRun rfl ?_ | refine R.gSkip rfl ?_ | refine R.gSkip0 rfl ?_ | refine R.gUndef rfl ?_ | refine R.gUndef0 rfl ?_ | refine R.pickT rfl rfl ?_ | refine R.pickF rfl rfl ?_ | refine R.not rfl ?_ | refine R.condT rfl ?_ | refine R.condF rfl ?_ | refine R.call (bor := false) rfl rfl (sRuleF h) rfl rfl rfl ?_ | refine R.call (bor := true) rfl rfl (sRuleF h) rfl rfl rfl ?_ | refine R.fcal (bor := false) rfl rfl (sRuleF h) rfl rfl rfl ?_ | refine R.fcal (bor := true) rfl rfl (sRuleF h) rfl rfl rfl ?_ | refine R.cond rfl (fun hc => ?_) (fun hc => ?_) | refine R.condN rfl (fun hc => ?_) (fun hc => ?_) | refine R.condB rfl (fun hc => ?_) (fun hc => ?_) | refine R.gP rfl (fun hc => ?_) (fun hc => ?_) | refine R.gN rfl (fun hc => ?_) (fun hc => ?_) | refine R.gB rfl (fun hc => ?_) (fun hc => ?_))
    all_goals first | (exfalso; omega) | exact R.ret ⟨.inr rfl, R.outI rfl rfl rfl⟩ | skip
  by_cases h1 : okSd r.fStates w
  case neg =>
    rw [show fRR r w s = ([], 2) by unfold fRR; rw [if_pos h, if_neg fun h' => h1 h'.1]]
    repeat' (first | refine R.mv rfl ?_ | refine R.reg ?_ | refine R.nil ?_ | refine R.seq ?_ | refine R.nseq ?_ | refine R.nblk ?_ | refine R.skip ?_ | refine R.blk ?_ | refine R.exit rfl ?_ | refine R.gRun rfl ?_ | refine R.gSkip rfl ?_ | refine R.gSkip0 rfl ?_ | refine R.gUndef rfl ?_ | refine R.gUndef0 rfl ?_ | refine R.pickT rfl rfl ?_ | refine R.pickF rfl rfl ?_ | refine R.not rfl ?_ | refine R.condT rfl ?_ | refine R.condF rfl ?_ | refine R.call (bor := false) rfl rfl (sRuleT h) rfl rfl rfl ?_ | refine R.call (bor := true) rfl rfl (sRuleT h) rfl rfl rfl ?_ | refine R.fcal (bor := false) rfl rfl (sRuleT h) rfl rfl rfl ?_ | refine R.fcal (bor := true) rfl rfl (sRuleT h) rfl rfl rfl ?_ | refine R.call (bor := false) rfl rfl (sStatesF h.1 h1) rfl rfl rfl ?_ | refine R.call (bor := true) rfl rfl (sStatesF h.1 h1) rfl rfl rfl ?_ | refine R.fcal (bor := false) rfl rfl (sStatesF h.1 h1) rfl rfl rfl ?_ | refine R.fcal (bor := true) rfl rfl (sStatesF h.1 h1) rfl rfl rfl ?_ | refine R.cond rfl (fun hc => ?_) (fun hc => ?_) | refine R.condN rfl (fun hc => ?_) (fun hc => ?_) | refine R.condB rfl (fun hc => ?_) (fun hc => ?_) | refine R.gP rfl (fun hc => ?_) (fun hc => ?_) | refine R.gN rfl (fun hc => ?_) (fun hc => ?_) | refine R.gB rfl (fun hc => ?_) (fun hc => ?_))
    all_goals first | (exfalso; omega) | exact R.ret ⟨.inr rfl, R.outI rfl rfl rfl⟩ | skip
  by_cases h2 : okSd r.fStates s
  · rw [show fRR r w s = (rws r.fStates r.fTable w s w.length, 0) by unfold fRR; rw [if_pos h, if_pos ⟨h1, h2⟩]]
    repeat' (first | refine R.mv rfl ?_ | refine R.reg ?_ | refine R.nil ?_ | refine R.seq ?_ | refine R.nseq ?_ | refine R.nblk ?_ | refine R.skip ?_ | refine R.blk ?_ | refine R.exit rfl ?_ | refine R.gRun rfl ?_ | refine R.gSkip rfl ?_ | refine R.gSkip0 rfl ?_ | refine R.gUndef rfl ?_ | refine R.gUndef0 rfl ?_ | refine R.pickT rfl rfl ?_ | refine R.pickF rfl rfl ?_ | refine R.not rfl ?_ | refine R.condT rfl ?_ | refine R.condF rfl ?_ | refine R.call (bor := false) rfl rfl (sRuleT h) rfl rfl rfl ?_ | refine R.call (bor := true) rfl rfl (sRuleT h) rfl rfl rfl ?_ | refine R.fcal (bor := false) rfl rfl (sRuleT h) rfl rfl rfl ?_ | refine R.fcal (bor := true) rfl rfl (sRuleT h) rfl rfl rfl ?_ | refine R.call (bor := false) rfl rfl (sStatesT h.1 h1) rfl rfl rfl ?_ | refine R.call (bor := true) rfl rfl (sStatesT h.1 h1) rfl rfl rfl ?_ | refine R.fcal (bor := false) rfl rfl (sStatesT h.1 h1) rfl rfl rfl ?_ | refine R.fcal (bor := true) rfl rfl (sStatesT h.1 h1) rfl rfl rfl ?_ | refine R.call (bor := false) rfl rfl (sStatesT h.1 h2) rfl rfl rfl ?_ | refine R.call (bor := true) rfl rfl (sStatesT h.1 h2) rfl rfl rfl ?_ | refine R.fcal (bor := false) rfl rfl (sStatesT h.1 h2) rfl rfl rfl ?_ | refine R.fcal (bor := true) rfl rfl (sStatesT h.1 h2) rfl rfl rfl ?_ | refine R.cond rfl (fun hc => ?_) (fun hc => ?_) | refine R.condN rfl (fun hc => ?_) (fun hc => ?_) | refine R.condB rfl (fun hc => ?_) (fun hc => ?_) | refine R.gP rfl (fun hc => ?_) (fun hc => ?_) | refine R.gN rfl (fun hc => ?_) (fun hc => ?_) | refine R.gB rfl (fun hc => ?_) (fun hc => ?_))
    all_goals first | (exfalso; omega) | exact R.ret ⟨.inr rfl, R.outI rfl rfl rfl⟩ | skip
  · rw [show fRR r w s = ([], 2) by unfold fRR; rw [if_pos h, if_neg fun h' => h2 h'.2]]
    repeat' (first | refine R.mv rfl ?_ | refine R.reg ?_ | refine R.nil ?_ | refine R.seq ?_ | refine R.nseq ?_ | refine R.nblk ?_ | refine R.skip ?_ | refine R.blk ?_ | refine R.exit rfl ?_ | refine R.gRun rfl ?_ | refine R.gSkip rfl ?_ | refine R.gSkip0 rfl ?_ | refine R.gUndef rfl ?_ | refine R.gUndef0 rfl ?_ | refine R.pickT rfl rfl ?_ | refine R.pickF rfl rfl ?_ | refine R.not rfl ?_ | refine R.condT rfl ?_ | refine R.condF rfl ?_ | refine R.call (bor := false) rfl rfl (sRuleT h) rfl rfl rfl ?_ | refine R.call (bor := true) rfl rfl (sRuleT h) rfl rfl rfl ?_ | refine R.fcal (bor := false) rfl rfl (sRuleT h) rfl rfl rfl ?_ | refine R.fcal (bor := true) rfl rfl (sRuleT h) rfl rfl rfl ?_ | refine R.call (bor := false) rfl rfl (sStatesT h.1 h1) rfl rfl rfl ?_ | refine R.call (bor := true) rfl rfl (sStatesT h.1 h1) rfl rfl rfl ?_ | refine R.fcal (bor := false) rfl rfl (sStatesT h.1 h1) rfl rfl rfl ?_ | refine R.fcal (bor := true) rfl rfl (sStatesT h.1 h1) rfl rfl rfl ?_ | refine R.call (bor := false) rfl rfl (sStatesF h.1 h2) rfl rfl rfl ?_ | refine R.call (bor := true) rfl rfl (sStatesF h.1 h2) rfl rfl rfl ?_ | refine R.fcal (bor := false) rfl rfl (sStatesF h.1 h2) rfl rfl rfl ?_ | refine R.fcal (bor := true) rfl rfl (sStatesF h.1 h2) rfl rfl rfl ?_ | refine R.cond rfl (fun hc => ?_) (fun hc => ?_) | refine R.condN rfl (fun hc => ?_) (fun hc => ?_) | refine R.condB rfl (fun hc => ?_) (fun hc => ?_) | refine R.gP rfl (fun hc => ?_) (fun hc => ?_) | refine R.gN rfl (fun hc => ?_) (fun hc => ?_) | refine R.gB rfl (fun hc => ?_) (fun hc => ?_))
    all_goals first | (exfalso; omega) | exact R.ret ⟨.inr rfl, R.outI rfl rfl rfl⟩ | skip
theorem sRun (r : TRule) (w s : List Int) (h : okRu r) (h1 : okSd r.fStates w) (h2 : okSd r.fStates s) : Spec Try.prog 124 [vP (enRule r), vL kI (ints w), vL kI (ints s)] (.v (.c (.fz (.rd kR ((rws r.fStates r.fTable w s w.length).map enR))))) := by
  refine ⟨callFunc_enter Try.func124 rfl (by simp [Try.f124]), fun W R ι φ vs hR hF ho => ?_⟩
  cases hF with | cons q1 hF => cases hF with | cons q2 hF => cases hF with | cons q3 hF =>
  cases hF
  rename_i v1 v2 v3
  have q1 : RD W R v1 (.rp (enRule r)) := q1
  have q2 : RD W R v2 (.rd kI (ints w)) := q2
  have q3 : RD W R v3 (.rd kI (ints s)) := q3
  cases q1 with
  | rp cc hRb hc hr =>
    rename_i rb ro
    have c0 := hc 0 (by simp)
    have c1 := hc 1 (by simp)
    have r0 := hr 0 _ rfl
    have r1 := hr 1 _ rfl
    generalize cc 0 = u0 at c0 r0
    generalize cc 1 = u1 at c1 r1
    cases r0
    have hrun := run16 (st := r.fStates) (tb := r.fTable) (west := w) (south := s) h h1.2 h2.2 (by have := h1.1; omega) (by have := h2.1; omega) rb ro u1 v2 v3 W R hR (hR _ hRb) c0 c1 (rowI_of hR r1) (rowI_of hR q2) q3
    refine hrun.mono ?_
    rintro e w1 ⟨v, rfl, hbl, hrd⟩
    have hn : ∀ o x, frO [] o = some x → False := fun o x h => by simp [frO] at h
    have hO : ObjsOk w1 (fun b => R b ∨ (W.heap.size ≤ b ∧ b < w1.heap.size)) ι φ (frO []) := ⟨fun o x h => (hn o x h).elim, fun o x h => (hn o x h).elim, fun o p x y g h => (hn o x h).elim, ho.2.2.2.keep (fun _ h => .inl h) fun b hb => hbl.block b (hR b hb)⟩
    refine ⟨v, rfl, fun b => R b ∨ (W.heap.size ≤ b ∧ b < w1.heap.size), ι, φ, BelowM.of_below hbl, fun b h => .inl h, fun b h => h.elim (fun h => Nat.lt_of_lt_of_le (hR b h) hbl.size) fun h => h.2, fun b h hlt => h.elim .inl fun h => by omega, hrd, hO, fun g h => ?_, fun o h => rfl⟩
    obtain ⟨o, x, h, _⟩ := h
    exact (hn o x h).elim
theorem sRunRule (r : TRule) (w s : List Int) : Spec Try.prog 55 [.agg (enRule r), vL kI (ints w), vL kI (ints s)] (.tup [.c (.fz (.rd kR ((fRR r w s).1.map enR))), cI (fRR r w s).2]) := by
  refine Spec.walk T.mixed Try.func55 S.ok55 (by simp [Try.f55]) fun hk => ?_
  clear hk
  unfold S.s55
  have hA := sAsked r w s
  by_cases h : okRu r
  case neg =>
    rw [show fRR r w s = ([], 1) from if_neg h] at hA ⊢
    repeat' (first | refine R.mv rfl ?_ | refine R.reg ?_ | refine R.nil ?_ | refine R.seq ?_ | refine R.nseq ?_ | refine R.nblk ?_ | refine R.skip ?_ | refine R.blk ?_ | refine R.exit rfl ?_ | refine R.neq rfl rfl ?_ | refine R.box rfl rfl rfl ?_ | refine R.condT rfl ?_ | refine R.condF rfl ?_ | refine R.call (bor := false) rfl rfl (hA) rfl rfl rfl ?_ | refine R.call (bor := true) rfl rfl (hA) rfl rfl rfl ?_ | refine R.fcal (bor := false) rfl rfl (hA) rfl rfl rfl ?_ | refine R.fcal (bor := true) rfl rfl (hA) rfl rfl rfl ?_ | refine R.cond rfl (fun hc => ?_) (fun hc => ?_) | refine R.condN rfl (fun hc => ?_) (fun hc => ?_) | refine R.condB rfl (fun hc => ?_) (fun hc => ?_))
    all_goals first
      | (exfalso; omega)
      | exact R.ret ⟨.inr rfl, R.outW (Weak.trans (Weak.reify 6 6 kR rfl rfl) (Weak.freeze 6 rfl rfl)) (R.outR rfl (.cons (R.tmp rfl) (.cons (R.tmp rfl) .nil)) rfl rfl rfl ⟨by show ¬ (2 = 1); omega, rfl⟩)⟩
      | exact R.ret ⟨.inr rfl, R.outR rfl (.cons (R.tmp rfl) (.cons (R.tmp rfl) .nil)) rfl rfl rfl ⟨by show ¬ (2 = 1); omega, rfl⟩⟩
      | skip
  by_cases h1 : okSd r.fStates w ∧ okSd r.fStates s
  · rw [show fRR r w s = (rws r.fStates r.fTable w s w.length, 0) by unfold fRR; rw [if_pos h, if_pos h1]] at hA ⊢
    repeat' (first | refine R.mv rfl ?_ | refine R.reg ?_ | refine R.nil ?_ | refine R.seq ?_ | refine R.nseq ?_ | refine R.nblk ?_ | refine R.skip ?_ | refine R.blk ?_ | refine R.exit rfl ?_ | refine R.neq rfl rfl ?_ | refine R.box rfl rfl rfl ?_ | refine R.condT rfl ?_ | refine R.condF rfl ?_ | refine R.call (bor := false) rfl rfl (hA) rfl rfl rfl ?_ | refine R.call (bor := true) rfl rfl (hA) rfl rfl rfl ?_ | refine R.fcal (bor := false) rfl rfl (hA) rfl rfl rfl ?_ | refine R.fcal (bor := true) rfl rfl (hA) rfl rfl rfl ?_ | refine R.weak (Weak.freeze 3 rfl rfl) (R.call (bor := false) rfl rfl (sRun _ _ _ h h1.1 h1.2) rfl rfl rfl ?_) | refine R.cond rfl (fun hc => ?_) (fun hc => ?_) | refine R.condN rfl (fun hc => ?_) (fun hc => ?_) | refine R.condB rfl (fun hc => ?_) (fun hc => ?_))
    all_goals first
      | (exfalso; omega)
      | exact R.ret ⟨.inr rfl, R.outW (Weak.trans (Weak.reify 6 6 kR rfl rfl) (Weak.freeze 6 rfl rfl)) (R.outR rfl (.cons (R.tmp rfl) (.cons (R.tmp rfl) .nil)) rfl rfl rfl ⟨by show ¬ (2 = 1); omega, rfl⟩)⟩
      | exact R.ret ⟨.inr rfl, R.outR rfl (.cons (R.tmp rfl) (.cons (R.tmp rfl) .nil)) rfl rfl rfl ⟨by show ¬ (2 = 1); omega, rfl⟩⟩
      | skip
  · rw [show fRR r w s = ([], 2) by unfold fRR; rw [if_pos h, if_neg h1]] at hA ⊢
    repeat' (first | refine R.mv rfl ?_ | refine R.reg ?_ | refine R.nil ?_ | refine R.seq ?_ | refine R.nseq ?_ | refine R.nblk ?_ | refine R.skip ?_ | refine R.blk ?_ | refine R.exit rfl ?_ | refine R.neq rfl rfl ?_ | refine R.box rfl rfl rfl ?_ | refine R.condT rfl ?_ | refine R.condF rfl ?_ | refine R.call (bor := false) rfl rfl (hA) rfl rfl rfl ?_ | refine R.call (bor := true) rfl rfl (hA) rfl rfl rfl ?_ | refine R.fcal (bor := false) rfl rfl (hA) rfl rfl rfl ?_ | refine R.fcal (bor := true) rfl rfl (hA) rfl rfl rfl ?_ | refine R.cond rfl (fun hc => ?_) (fun hc => ?_) | refine R.condN rfl (fun hc => ?_) (fun hc => ?_) | refine R.condB rfl (fun hc => ?_) (fun hc => ?_))
    all_goals first
      | (exfalso; omega)
      | exact R.ret ⟨.inr rfl, R.outW (Weak.trans (Weak.reify 6 6 kR rfl rfl) (Weak.freeze 6 rfl rfl)) (R.outR rfl (.cons (R.tmp rfl) (.cons (R.tmp rfl) .nil)) rfl rfl rfl ⟨by show ¬ (2 = 1); omega, rfl⟩)⟩
      | exact R.ret ⟨.inr rfl, R.outR rfl (.cons (R.tmp rfl) (.cons (R.tmp rfl) .nil)) rfl rfl rfl ⟨by show ¬ (2 = 1); omega, rfl⟩⟩
      | skip
end Go.Proofs.Ytnkfbodolbfjpaa
