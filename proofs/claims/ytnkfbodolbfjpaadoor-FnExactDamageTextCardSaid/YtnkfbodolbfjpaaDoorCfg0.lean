/- The text of a configuration: what it is; the reference's side. -/
import Derived.Test.YtnkfbodolbfjpaaDoorDec2
import Derived.Test.YtnkfbodolbfjpaaDoorBoilCf
namespace Go.Proofs.YtnkfbodolbfjpaaDoor
open Go.RowKit
set_option maxRecDepth 100000 in
def S.s7 : SC := (.seq (.reg [⟨(.some 1), .none, .false, (.box 27 (.tmp 0))⟩, ⟨(.some 2), .none, .false, (.mv (.const (Go.Value.string { data := #[] })))⟩]) (.seq (.reg [⟨(.some 5), .none, .false, (.fa 2 (.tmp 1))⟩, ⟨(.some 6), .none, .false, (.ld .false 1 (.tmp 5))⟩, ⟨(.some 7), .none, .false, (.call (.func 22) [(.tmp 6)])⟩, ⟨(.some 8), .none, .false, (.bin .add (.tmp 7) (.const (Go.Value.string { data := #[58] })))⟩, ⟨(.some 3), .none, .false, (.mv (.tmp 8))⟩]) (.seq (.seq (.reg [⟨(.some 4), .none, .false, (.mv (.const (Go.Value.int Go.IntKind.i64 0)))⟩]) (.block 0 (.loop (.seq (.seq (.reg [⟨(.some 9), .none, .false, (.mv (.tmp 4))⟩, ⟨(.some 10), .none, .false, (.fa 0 (.tmp 1))⟩, ⟨(.some 11), .none, .false, (.ld .false 1 (.tmp 10))⟩, ⟨(.some 12), .none, .false, (.len (.tmp 11))⟩, ⟨(.some 13), .none, .false, (.bin .lss (.tmp 9) (.tmp 12))⟩]) (.cond (.tmp 13) .skip (.exit 0))) (.seq (.block 1 (.seq (.reg [⟨(.some 16), .none, .false, (.mv (.tmp 4))⟩, ⟨(.some 17), .none, .false, (.fa 1 (.tmp 1))⟩, ⟨(.some 18), .none, .false, (.ld .false 1 (.tmp 17))⟩, ⟨(.some 19), .none, .false, (.bin .eql (.tmp 16) (.tmp 18))⟩]) (.cond (.tmp 19) (.reg [⟨(.some 20), .none, .false, (.mv (.tmp 3))⟩, ⟨(.some 21), .none, .false, (.fa 0 (.tmp 1))⟩, ⟨(.some 22), .none, .false, (.ld .false 1 (.tmp 21))⟩, ⟨(.some 23), .none, .false, (.mv (.tmp 4))⟩, ⟨(.some 24), .none, .false, (.ix (.mk 2 1) (.tmp 22) (.tmp 23))⟩, ⟨(.some 25), .none, .false, (.ld .false 1 (.tmp 24))⟩, ⟨(.some 26), .none, .false, (.call (.func 22) [(.tmp 25)])⟩, ⟨(.some 27), .none, .false, (.bin .add (.const (Go.Value.string { data := #[91] })) (.tmp 26))⟩, ⟨(.some 28), .none, .false, (.bin .add (.tmp 27) (.const (Go.Value.string { data := #[93] })))⟩, ⟨(.some 29), .none, .false, (.bin .add (.tmp 20) (.tmp 28))⟩, ⟨(.some 3), .none, .false, (.mv (.tmp 29))⟩]) (.reg [⟨(.some 30), .none, .false, (.mv (.tmp 3))⟩, ⟨(.some 31), .none, .false, (.fa 0 (.tmp 1))⟩, ⟨(.some 32), .none, .false, (.ld .false 1 (.tmp 31))⟩, ⟨(.some 33), .none, .false, (.mv (.tmp 4))⟩, ⟨(.some 34), .none, .false, (.ix (.mk 2 1) (.tmp 32) (.tmp 33))⟩, ⟨(.some 35), .none, .false, (.ld .false 1 (.tmp 34))⟩, ⟨(.some 36), .none, .false, (.call (.func 22) [(.tmp 35)])⟩, ⟨(.some 37), .none, .false, (.bin .add (.const (Go.Value.string { data := #[32] })) (.tmp 36))⟩, ⟨(.some 38), .none, .false, (.bin .add (.tmp 30) (.tmp 37))⟩, ⟨(.some 3), .none, .false, (.mv (.tmp 38))⟩])))) (.reg [⟨(.some 14), .none, .false, (.mv (.tmp 4))⟩, ⟨(.some 15), .none, .false, (.bin .add (.tmp 14) (.const (Go.Value.int Go.IntKind.i64 1)))⟩, ⟨(.some 4), .none, .false, (.mv (.tmp 15))⟩])))))) (.seq (.reg [⟨(.some 39), .none, .false, (.mv (.tmp 3))⟩, ⟨(.some 2), .none, .false, (.mv (.tmp 39))⟩]) .ret))))
set_option maxRecDepth 100000 in
theorem S.ok7 : stripF Tryd.prog Tryd.f7 = some S.s7 := by kernel_rfl
set_option maxRecDepth 10000
set_option maxHeartbeats 4000000
def i64 (n : Int) : Prop := -9223372036854775808 ≤ n ∧ n ≤ 9223372036854775807
/-- A cell's text. -/
def cellL (hd : Int) (i : Nat) (s : Int) : List UInt8 := if (i : Int) = hd then [91] ++ decL s ++ [93] else [32] ++ decL s
/-- The text of the state and of so many cells. -/
def cfL (tape : List Int) (hd st : Int) : Nat → List UInt8
  | 0 => decL st ++ [58]
  | i + 1 => cfL tape hd st i ++ cellL hd i (tape.getD i 0)
theorem cfL_succ {tape : List Int} {hd st : Int} {i : Nat} {s : Int} (h : tape[i]? = some s) : cfL tape hd st (i + 1) = cfL tape hd st i ++ cellL hd i s := by
  rw [cfL, List.getD, h]
  rfl
theorem cellL_len {hd : Int} {i : Nat} {s : Int} (h : i64 s) : (cellL hd i s).length ≤ 22 := by
  have := decL_len h
  unfold cellL
  split
  · simp only [List.length_append, List.length_cons, List.length_nil]
    omega
  · simp only [List.length_append, List.length_cons, List.length_nil]
    omega
theorem cfL_len {tape : List Int} {hd st : Int} (hs : i64 st) (ht : ∀ n ∈ tape, i64 n) : ∀ i, i ≤ tape.length → (cfL tape hd st i).length ≤ 22 * (i + 1)
  | 0, _ => by
    have := decL_len hs
    rw [cfL, List.length_append, List.length_singleton]
    omega
  | i + 1, hi => by
    have h1 := cfL_len (hd := hd) hs ht i (by omega)
    have hg : tape[i]? = some (tape[i]'(by omega)) := List.getElem?_eq_getElem (by omega)
    have h2 := cellL_len (hd := hd) (i := i) (ht _ (List.mem_of_getElem? hg))
    rw [cfL_succ hg, List.length_append]
    omega
def okCfg (c : TConfig) : Prop := c.fTape.length ≤ 1048576 ∧ i64 c.fState ∧ ∀ n ∈ c.fTape, i64 n
def fCf (c : TConfig) : List UInt8 := cfL c.fTape c.fHead c.fState c.fTape.length
theorem sConfigText (c : TConfig) (h : okCfg c) : Spec Tryd.prog 7 [.agg (enConfig c)] (oS (bA (fCf c))) := by
  obtain ⟨hl, hs, ht⟩ := h
  have hsl := decL_len hs
  refine Spec.walk T.mixed Tryd.func7 S.ok7 (by simp [Tryd.f7]) fun hk => ?_
  clear hk
  unfold S.s7
  repeat' (first | refine R.mv rfl ?_ | refine R.reg ?_ | refine R.nil ?_ | refine R.seq ?_ | refine R.nseq ?_ | refine R.nblk ?_ | refine R.skip ?_ | refine R.blk ?_ | refine R.exit rfl ?_ | refine R.ldEp rfl rfl (by assumption) rfl rfl ?_ | refine R.ldaEp rfl rfl (by assumption) (Nat.le_of_ble_eq_true rfl) rfl rfl ?_ | refine R.ld rfl rfl rfl ?_ | refine R.lda rfl rfl (Nat.le_of_ble_eq_true rfl) rfl ?_ | refine R.fa rfl rfl ?_ | refine R.lenM rfl ?_ | refine R.lenO rfl rfl ?_ | refine R.len rfl rfl ?_ | refine R.lss rfl rfl ?_ | refine R.eql rfl rfl ?_ | refine R.add rfl rfl (by omega) ?_ | refine R.ixN rfl rfl rfl (by omega) (fun a ha => ?_) | refine R.ixM rfl rfl rfl (by omega) (fun a ha => ?_) | refine R.ixON rfl rfl rfl (by first | omega | (simp; omega)) (fun a' ha' => ?_) | refine R.ixO rfl rfl rfl (by first | omega | (simp; omega)) (fun a' ha' => ?_) | refine R.box rfl rfl rfl ?_ | refine R.condT rfl ?_ | refine R.condF rfl ?_ | refine R.call (bor := false) rfl rfl (sDec _ hs) rfl rfl rfl ?_ | refine R.call (bor := true) rfl rfl (sDec _ hs) rfl rfl rfl ?_ | refine R.fcal (bor := false) rfl rfl (sDec _ hs) rfl rfl rfl ?_ | refine R.fcal (bor := true) rfl rfl (sDec _ hs) rfl rfl rfl ?_ | refine R.sadd (t := [58]) rfl rfl (by simp only [List.length_cons, List.length_nil]; omega) ?_ | refine R.cond rfl (fun hc => ?_) (fun hc => ?_) | refine R.condN rfl (fun hc => ?_) (fun hc => ?_) | refine R.condB rfl (fun hc => ?_) (fun hc => ?_))
  refine R.loop (G := Nat) (fun i => [(1, .v (.c (.ptr 1 0))), (3, pvA (.string (bA (cfL c.fTape c.fHead c.fState i)))), (4, pvA (.int .i64 i))]) (fun _ => [(1, .box 27 ((enConfig c).map B.d))]) (fun i => i ≤ c.fTape.length) (fun i => c.fTape.length - i) 0 (Nat.zero_le _) (Weak.frame _ _ ⟨rfl, rfl, rfl, trivial⟩ ⟨rfl, trivial⟩ rfl rfl) fun i hi => ?_
  have hcl := cfL_len (hd := c.fHead) hs ht i hi
  by_cases hil : i < c.fTape.length
  case neg =>
    obtain rfl : i = c.fTape.length := by omega
    repeat' (first | refine R.mv rfl ?_ | refine R.reg ?_ | refine R.nil ?_ | refine R.seq ?_ | refine R.nseq ?_ | refine R.nblk ?_ | refine R.skip ?_ | refine R.blk ?_ | refine R.exit rfl ?_ | refine R.ldEp rfl rfl (by assumption) rfl rfl ?_ | refine R.ldaEp rfl rfl (by assumption) (Nat.le_of_ble_eq_true rfl) rfl rfl ?_ | refine R.ld rfl rfl rfl ?_ | refine R.lda rfl rfl (Nat.le_of_ble_eq_true rfl) rfl ?_ | refine R.fa rfl rfl ?_ | refine R.lenM rfl ?_ | refine R.lenO rfl rfl ?_ | refine R.len rfl rfl ?_ | refine R.lss rfl rfl ?_ | refine R.eql rfl rfl ?_ | refine R.add rfl rfl (by omega) ?_ | refine R.ixN rfl rfl rfl (by omega) (fun a ha => ?_) | refine R.ixM rfl rfl rfl (by omega) (fun a ha => ?_) | refine R.ixON rfl rfl rfl (by first | omega | (simp; omega)) (fun a' ha' => ?_) | refine R.ixO rfl rfl rfl (by first | omega | (simp; omega)) (fun a' ha' => ?_) | refine R.box rfl rfl rfl ?_ | refine R.condT rfl ?_ | refine R.condF rfl ?_ | refine R.cond rfl (fun hc => ?_) (fun hc => ?_) | refine R.condN rfl (fun hc => ?_) (fun hc => ?_) | refine R.condB rfl (fun hc => ?_) (fun hc => ?_))
    all_goals first
      | (exfalso; omega)
      | exact R.ret ⟨.inr rfl, R.outS rfl rfl rfl⟩
      | skip
  obtain ⟨s, hg⟩ : ∃ s, c.fTape[i]? = some s := ⟨_, List.getElem?_eq_getElem hil⟩
  have hsb := ht s (List.mem_of_getElem? hg)
  have hdl := decL_len hsb
  have hst := cfL_succ (hd := c.fHead) (st := c.fState) hg
  by_cases hh : (i : Int) = c.fHead
  · rw [show cellL c.fHead i s = [91] ++ decL s ++ [93] from if_pos hh] at hst
    repeat' (first | refine R.ixK s hg rfl rfl rfl ?_ | refine R.mv rfl ?_ | refine R.reg ?_ | refine R.nil ?_ | refine R.seq ?_ | refine R.nseq ?_ | refine R.nblk ?_ | refine R.skip ?_ | refine R.blk ?_ | refine R.exit rfl ?_ | refine R.ldEp rfl rfl (by assumption) rfl rfl ?_ | refine R.ldaEp rfl rfl (by assumption) (Nat.le_of_ble_eq_true rfl) rfl rfl ?_ | refine R.ld rfl rfl rfl ?_ | refine R.lda rfl rfl (Nat.le_of_ble_eq_true rfl) rfl ?_ | refine R.fa rfl rfl ?_ | refine R.lenM rfl ?_ | refine R.lenO rfl rfl ?_ | refine R.len rfl rfl ?_ | refine R.lss rfl rfl ?_ | refine R.eql rfl rfl ?_ | refine R.add rfl rfl (by omega) ?_ | refine R.ixN rfl rfl rfl (by omega) (fun a ha => ?_) | refine R.ixM rfl rfl rfl (by omega) (fun a ha => ?_) | refine R.ixON rfl rfl rfl (by first | omega | (simp; omega)) (fun a' ha' => ?_) | refine R.ixO rfl rfl rfl (by first | omega | (simp; omega)) (fun a' ha' => ?_) | refine R.box rfl rfl rfl ?_ | refine R.condT rfl ?_ | refine R.condF rfl ?_ | refine R.call (bor := false) rfl rfl (sDec _ hsb) rfl rfl rfl ?_ | refine R.call (bor := true) rfl rfl (sDec _ hsb) rfl rfl rfl ?_ | refine R.fcal (bor := false) rfl rfl (sDec _ hsb) rfl rfl rfl ?_ | refine R.fcal (bor := true) rfl rfl (sDec _ hsb) rfl rfl rfl ?_ | refine R.sadd (s := [91]) rfl rfl (by simp only [List.length_cons, List.length_nil]; omega) ?_ | refine R.sadd (t := [93]) rfl rfl (by simp only [List.length_append, List.length_cons, List.length_nil]; omega) ?_ | refine R.sadd rfl rfl (by simp only [List.length_append, List.length_cons, List.length_nil]; omega) ?_ | refine R.cond rfl (fun hc => ?_) (fun hc => ?_) | refine R.condN rfl (fun hc => ?_) (fun hc => ?_) | refine R.condB rfl (fun hc => ?_) (fun hc => ?_))
    all_goals first
      | (exfalso; omega)
      | exact R.nloop (R.again (i + 1) (by omega) (by omega) ⟨rfl, congrArg (fun z => pvA (.string (bA z))) hst.symm, rfl, trivial⟩ ⟨rfl, trivial⟩ rfl rfl)
      | skip
  · rw [show cellL c.fHead i s = [32] ++ decL s from if_neg hh] at hst
    repeat' (first | refine R.ixK s hg rfl rfl rfl ?_ | refine R.mv rfl ?_ | refine R.reg ?_ | refine R.nil ?_ | refine R.seq ?_ | refine R.nseq ?_ | refine R.nblk ?_ | refine R.skip ?_ | refine R.blk ?_ | refine R.exit rfl ?_ | refine R.ldEp rfl rfl (by assumption) rfl rfl ?_ | refine R.ldaEp rfl rfl (by assumption) (Nat.le_of_ble_eq_true rfl) rfl rfl ?_ | refine R.ld rfl rfl rfl ?_ | refine R.lda rfl rfl (Nat.le_of_ble_eq_true rfl) rfl ?_ | refine R.fa rfl rfl ?_ | refine R.lenM rfl ?_ | refine R.lenO rfl rfl ?_ | refine R.len rfl rfl ?_ | refine R.lss rfl rfl ?_ | refine R.eql rfl rfl ?_ | refine R.add rfl rfl (by omega) ?_ | refine R.ixN rfl rfl rfl (by omega) (fun a ha => ?_) | refine R.ixM rfl rfl rfl (by omega) (fun a ha => ?_) | refine R.ixON rfl rfl rfl (by first | omega | (simp; omega)) (fun a' ha' => ?_) | refine R.ixO rfl rfl rfl (by first | omega | (simp; omega)) (fun a' ha' => ?_) | refine R.box rfl rfl rfl ?_ | refine R.condT rfl ?_ | refine R.condF rfl ?_ | refine R.call (bor := false) rfl rfl (sDec _ hsb) rfl rfl rfl ?_ | refine R.call (bor := true) rfl rfl (sDec _ hsb) rfl rfl rfl ?_ | refine R.fcal (bor := false) rfl rfl (sDec _ hsb) rfl rfl rfl ?_ | refine R.fcal (bor := true) rfl rfl (sDec _ hsb) rfl rfl rfl ?_ | refine R.sadd (s := [32]) rfl rfl (by simp only [List.length_cons, List.length_nil]; omega) ?_ | refine R.sadd rfl rfl (by simp only [List.length_append, List.length_cons, List.length_nil]; omega) ?_ | refine R.cond rfl (fun hc => ?_) (fun hc => ?_) | refine R.condN rfl (fun hc => ?_) (fun hc => ?_) | refine R.condB rfl (fun hc => ?_) (fun hc => ?_))
    all_goals first
      | (exfalso; omega)
      | exact R.nloop (R.again (i + 1) (by omega) (by omega) ⟨rfl, congrArg (fun z => pvA (.string (bA z))) hst.symm, rfl, trivial⟩ ⟨rfl, trivial⟩ rfl rfl)
      | skip
end Go.Proofs.YtnkfbodolbfjpaaDoor
