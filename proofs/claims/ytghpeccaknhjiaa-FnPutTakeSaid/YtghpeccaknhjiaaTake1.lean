/- A tile is taken: both sides. -/
import Derived.Test.YtghpeccaknhjiaaDelF
import Derived.Test.YtghpeccaknhjiaaOutS
namespace Go.Proofs.Ytghpeccaknhjiaa
open Go.RowKit
set_option maxRecDepth 100000 in
def S.s15 : SC := (.seq (.reg [⟨(.some 2), .none, .false, (.box 30 (.tmp 0))⟩, ⟨(.some 3), .none, .false, (.box 34 (.tmp 1))⟩, ⟨(.some 4), .none, .false, (.al 30 [(Go.Value.slice none 0 0)])⟩, ⟨(.some 5), .none, .false, (.mv (.const (Go.Value.int Go.IntKind.i64 0)))⟩]) (.seq (.block 0 (.seq (.reg [⟨(.some 7), .none, .false, (.ld .true 1 (.tmp 2))⟩, ⟨(.some 8), .none, .false, (.call (.func 29) [(.tmp 7)])⟩, ⟨(.some 9), .none, .false, (.not (.tmp 8))⟩, ⟨(.some 6), .none, .false, (.mv (.tmp 9))⟩]) (.cond (.tmp 6) (.seq (.reg [⟨(.some 10), .none, .false, (.bld [(Go.Value.slice none 0 0)] [(0, 1)] [])⟩, ⟨.none, .none, .false, (.sto 1 (.tmp 4) (.tmp 10))⟩, ⟨(.some 5), .none, .false, (.mv (.const (Go.Value.int Go.IntKind.i64 1)))⟩]) .ret) (.seq (.reg [⟨(.some 12), .none, .false, (.ld .true 1 (.tmp 2))⟩, ⟨(.some 13), .none, .false, (.ld .true 2 (.tmp 3))⟩, ⟨(.some 14), .none, .false, (.call (.func 32) [(.tmp 12), (.tmp 13)])⟩, ⟨(.some 15), .none, .false, (.bin .lss (.tmp 14) (.const (Go.Value.int Go.IntKind.i64 0)))⟩, ⟨(.some 11), .none, .false, (.mv (.tmp 15))⟩]) (.cond (.tmp 11) (.seq (.reg [⟨(.some 16), .none, .false, (.bld [(Go.Value.slice none 0 0)] [(0, 1)] [])⟩, ⟨.none, .none, .false, (.sto 1 (.tmp 4) (.tmp 16))⟩, ⟨(.some 5), .none, .false, (.mv (.const (Go.Value.int Go.IntKind.i64 3)))⟩]) .ret) .skip))))) (.seq (.reg [⟨(.some 17), .none, .false, (.ld .true 1 (.tmp 2))⟩, ⟨(.some 18), .none, .false, (.ld .true 2 (.tmp 3))⟩, ⟨(.some 19), .none, .false, (.bsl (.mk 34 2) 1 [(0, (.tmp 18))])⟩, ⟨(.some 20), .none, .false, (.call (.func 37) [(.tmp 17), (.tmp 19)])⟩, ⟨.none, .none, .false, (.sto 1 (.tmp 4) (.tmp 20))⟩, ⟨(.some 5), .none, .false, (.mv (.const (Go.Value.int Go.IntKind.i64 0)))⟩]) .ret)))
set_option maxRecDepth 100000 in
theorem S.ok15 : stripF Try.prog Try.f15 = some S.s15 := by kernel_rfl
set_option maxRecDepth 100000 in
def S.s37 : SC := (.seq (.reg [⟨(.some 2), .none, .false, (.box 30 (.tmp 0))⟩, ⟨(.some 3), .none, .false, (.box 47 (.tmp 1))⟩, ⟨(.some 4), .none, .false, (.al 30 [(Go.Value.slice none 0 0)])⟩]) (.seq (.reg [⟨(.some 5), .none, .false, (.fa 0 (.tmp 2))⟩, ⟨(.some 6), .none, .false, (.ld .false 1 (.tmp 5))⟩, ⟨(.some 7), .none, .false, (.call (.func 55) [(.tmp 6)])⟩, ⟨(.some 8), .none, .false, (.mkf 58 [(.tmp 3)])⟩, ⟨(.some 9), .none, .false, (.call (.func 57) [(.tmp 7), (.tmp 8)])⟩, ⟨(.some 10), .none, .false, (.bld [(Go.Value.slice none 0 0)] [(0, 1)] [(0, (.tmp 9))])⟩, ⟨.none, .none, .false, (.sto 1 (.tmp 4) (.tmp 10))⟩]) .ret))
set_option maxRecDepth 100000 in
theorem S.ok37 : stripF Try.prog Try.f37 = some S.s37 := by kernel_rfl
set_option maxRecDepth 100000 in
def S.s55 : SC := (.seq (.reg [⟨(.some 2), .none, .false, (.mv (.const (Go.Value.slice none 0 0)))⟩]) (.seq (.seq (.reg [⟨(.some 3), .none, .false, (.mv (.tmp 0))⟩, ⟨(.some 4), .none, .false, (.isn .false (.tmp 3))⟩]) (.cond (.tmp 4) (.seq (.reg [⟨(.some 2), .none, .false, (.mv (.const (Go.Value.slice none 0 0)))⟩]) .ret) .skip)) (.seq (.reg [⟨(.some 5), .none, .false, (.bsl (.mk 50 3) 0 [])⟩, ⟨(.some 6), .none, .false, (.mv (.tmp 0))⟩, ⟨(.some 7), .none, .false, (.app (.mk 50 3) 24 (.tmp 5) (.tmp 6))⟩, ⟨(.some 2), .none, .false, (.mv (.tmp 7))⟩]) .ret)))
set_option maxRecDepth 100000 in
theorem S.ok55 : stripF Try.prog Try.f55 = some S.s55 := by kernel_rfl
set_option maxRecDepth 100000 in
def S.s58 : SC := (.seq (.reg [⟨(.some 2), .none, .false, (.box 50 (.tmp 0))⟩, ⟨(.some 3), .none, .false, (.mv (.const (Go.Value.bool false)))⟩]) (.seq (.reg [⟨(.some 4), .none, .false, (.ld .false 1 (.tmp 1))⟩, ⟨(.some 5), .none, .false, (.fa 0 (.tmp 2))⟩, ⟨(.some 6), .none, .false, (.ld .true 2 (.tmp 5))⟩, ⟨(.some 7), .none, .false, (.call (.func 59) [(.tmp 4), (.tmp 6)])⟩, ⟨(.some 3), .none, .false, (.mv (.tmp 7))⟩]) .ret))
set_option maxRecDepth 100000 in
theorem S.ok58 : stripF Try.prog Try.f58 = some S.s58 := by kernel_rfl
set_option maxRecDepth 100000 in
def S.s59 : SC := (.seq (.reg [⟨(.some 3), .none, .false, (.box 34 (.tmp 1))⟩, ⟨(.some 4), .none, .false, (.mv (.const (Go.Value.bool false)))⟩]) (.seq (.reg [⟨(.some 5), .none, .false, (.mv (.tmp 0))⟩, ⟨(.some 6), .none, .false, (.ld .true 2 (.tmp 3))⟩, ⟨(.some 7), .none, .false, (.call (.func 70) [(.tmp 5), (.tmp 6)])⟩, ⟨(.some 8), .none, .false, (.bin .geq (.tmp 7) (.const (Go.Value.int Go.IntKind.i64 0)))⟩, ⟨(.some 4), .none, .false, (.mv (.tmp 8))⟩]) .ret))
set_option maxRecDepth 100000 in
theorem S.ok59 : stripF Try.prog Try.f59 = some S.s59 := by kernel_rfl
set_option maxRecDepth 100000 in
def S.s70 : SC := (.seq (.reg [⟨(.some 3), .none, .false, (.box 34 (.tmp 1))⟩, ⟨(.some 4), .none, .false, (.mv (.const (Go.Value.int Go.IntKind.i64 0)))⟩]) (.seq (.seq (.reg [⟨(.some 6), .none, .false, (.mv (.tmp 0))⟩, ⟨(.some 7), .none, .false, (.len (.tmp 6))⟩, ⟨(.some 8), .none, .false, (.mv (.const (Go.Value.int Go.IntKind.i64 0)))⟩]) (.block 0 (.loop (.seq (.reg [⟨(.some 9), .none, .false, (.bin .lss (.tmp 8) (.tmp 7))⟩]) (.seq (.cond (.tmp 9) .skip (.exit 0)) (.seq (.block 1 (.seq (.reg [⟨(.some 10), .none, .false, (.mv (.tmp 8))⟩, ⟨(.some 5), .none, .false, (.mv (.tmp 10))⟩]) (.seq (.reg [⟨(.some 11), .none, .true, (.ld .true 2 (.tmp 3))⟩, ⟨(.some 12), .none, .true, (.mv (.tmp 0))⟩, ⟨(.some 13), .none, .true, (.mv (.tmp 5))⟩, ⟨(.some 14), .none, .true, (.ix (.mk 34 2) (.tmp 12) (.tmp 13))⟩, ⟨(.some 15), .none, .true, (.ld .true 2 (.tmp 14))⟩, ⟨(.some 16), .none, .true, (.eqs .false [(.i .i64), (.i .i64)] (.tmp 11) (.tmp 15))⟩]) (.cond (.tmp 16) (.seq (.reg [⟨(.some 17), .none, .false, (.mv (.tmp 5))⟩, ⟨(.some 4), .none, .false, (.mv (.tmp 17))⟩]) .ret) .skip)))) (.reg [⟨(.some 18), .none, .false, (.bin .add (.tmp 8) (.const (Go.Value.int Go.IntKind.i64 1)))⟩, ⟨(.some 8), .none, .false, (.mv (.tmp 18))⟩]))))))) (.seq (.reg [⟨(.some 4), .none, .false, (.mv (.const (Go.Value.int Go.IntKind.i64 (-1))))⟩]) .ret)))
set_option maxRecDepth 100000 in
theorem S.ok70 : stripF Try.prog Try.f70 = some S.s70 := by kernel_rfl
set_option maxRecDepth 10000
set_option maxHeartbeats 4000000
theorem lib_clonePlaced (l : List TPlaced) (h : l.length ≤ 1048576) : Spec Try.prog 55 [vL kPlaced (l.map enPlaced)] (oN kPlaced (l.map enPlaced)) := by
  refine Spec.walk T.mixed Try.func55 S.ok55 (by simp [Try.f55]) fun hk => ?_
  unfold S.s55
  repeat' (first | refine R.mv rfl ?_ | refine R.reg ?_ | refine R.nil ?_ | refine R.seq ?_ | refine R.nseq ?_ | refine R.nblk ?_ | refine R.skip ?_ | refine R.blk ?_ | refine R.exit rfl ?_ | refine R.isn rfl rfl ?_ | refine R.isnn rfl rfl ?_ | refine R.condT rfl ?_ | refine R.condF rfl ?_ | refine R.bsl (f := enPlaced) ([] : List TPlaced) rfl rfl rfl rfl rfl ?_ | refine R.app (f := enPlaced) (fun _ => rfl) rfl rfl rfl rfl rfl ⟨by simp only [List.length_nil]; omega, by simp only [List.length_nil]; omega⟩ ?_ | refine R.cond rfl (fun hc => ?_) (fun hc => ?_) | refine R.condN rfl (fun hc => ?_) (fun hc => ?_) | refine R.condB rfl (fun hc => ?_) (fun hc => ?_) | refine R.isn2 rfl (fun hc => ?_) ?_ | refine R.isn2O rfl rfl (fun hc => ?_) ?_)
  · subst hc; exact R.ret ⟨.inr rfl, R.outE rfl rfl rfl⟩
  · exact R.ret ⟨.inr rfl, R.outN rfl rfl (arr_eq (by simp))⟩
theorem lib_indexP (l : List TPoint) (n : TPoint) : Spec Try.prog 70 [vL kPoint (l.map enPoint), .agg (enPoint n)] (oI (idxOf (fun x => decide (n = x)) l)) := by
  refine Spec.walk T.mixed Try.func70 S.ok70 (by simp [Try.f70]) fun hk => ?_
  have hlen := (K.c hk 0 rfl).lenM
  unfold S.s70
  repeat' (first | refine R.mv rfl ?_ | refine R.reg ?_ | refine R.nil ?_ | refine R.seq ?_ | refine R.nseq ?_ | refine R.nblk ?_ | refine R.skip ?_ | refine R.blk ?_ | refine R.exit rfl ?_ | refine R.ldEp rfl rfl (by assumption) rfl rfl ?_ | refine R.ldaEp rfl rfl (by assumption) (Nat.le_of_ble_eq_true rfl) rfl rfl ?_ | refine R.ld rfl rfl rfl ?_ | refine R.lda rfl rfl (Nat.le_of_ble_eq_true rfl) rfl ?_ | refine R.lenM rfl ?_ | refine R.lenO rfl rfl ?_ | refine R.len rfl rfl ?_ | refine R.lss rfl rfl ?_ | refine R.add rfl rfl (by omega) ?_ | refine R.ixN rfl rfl rfl (by omega) (fun a ha => ?_) | refine R.ixM rfl rfl rfl (by omega) (fun a ha => ?_) | refine R.ixON rfl rfl rfl (by first | omega | (simp; omega)) (fun a' ha' => ?_) | refine R.ixO rfl rfl rfl (by first | omega | (simp; omega)) (fun a' ha' => ?_) | refine R.box rfl rfl rfl ?_ | refine R.eqs rfl rfl rfl rfl rfl ?_ | refine R.neqs rfl rfl rfl rfl rfl ?_ | refine R.condT rfl ?_ | refine R.condF rfl ?_ | refine R.cond rfl (fun hc => ?_) (fun hc => ?_) | refine R.condN rfl (fun hc => ?_) (fun hc => ?_) | refine R.condB rfl (fun hc => ?_) (fun hc => ?_))
  refine R.loop (G := Nat) (fun i => [(0, rdA kPoint (l.map enPoint)), (3, .v (.c (.ptr 3 0))), (7, pvA (.int .i64 l.length)), (8, pvA (.int .i64 i))]) (fun _ => [(3, .box 34 ((enPoint n).map B.d))]) (fun i => i ≤ l.length ∧ ∀ b ∈ l.take i, decide (n = b) = false) (fun i => l.length - i) 0 ⟨by omega, by simp⟩ (Weak.frame _ _ ⟨rfl, rfl, rfl, rfl, trivial⟩ ⟨rfl, trivial⟩ rfl rfl) fun i hi => ?_
  obtain ⟨hi, hm⟩ := hi
  by_cases hil : i < l.length
  · obtain ⟨v, hv⟩ : ∃ v, l[i]? = some v := ⟨_, List.getElem?_eq_getElem hil⟩
    by_cases he : n = v
    · repeat' (first | refine R.ixK v hv rfl rfl rfl ?_ | refine R.mv rfl ?_ | refine R.reg ?_ | refine R.nil ?_ | refine R.seq ?_ | refine R.nseq ?_ | refine R.nblk ?_ | refine R.skip ?_ | refine R.blk ?_ | refine R.exit rfl ?_ | refine R.ldEp rfl rfl (by assumption) rfl rfl ?_ | refine R.ldaEp rfl rfl (by assumption) (Nat.le_of_ble_eq_true rfl) rfl rfl ?_ | refine R.ld rfl rfl rfl ?_ | refine R.lda rfl rfl (Nat.le_of_ble_eq_true rfl) rfl ?_ | refine R.lenM rfl ?_ | refine R.lenO rfl rfl ?_ | refine R.len rfl rfl ?_ | refine R.lss rfl rfl ?_ | refine R.add rfl rfl (by omega) ?_ | refine R.ixN rfl rfl rfl (by omega) (fun a ha => ?_) | refine R.ixM rfl rfl rfl (by omega) (fun a ha => ?_) | refine R.ixON rfl rfl rfl (by first | omega | (simp; omega)) (fun a' ha' => ?_) | refine R.ixO rfl rfl rfl (by first | omega | (simp; omega)) (fun a' ha' => ?_) | refine R.box rfl rfl rfl ?_ | refine R.eqs rfl rfl rfl rfl rfl ?_ | refine R.neqs rfl rfl rfl rfl rfl ?_ | refine R.condT rfl ?_ | refine R.condF rfl ?_ | refine R.cond rfl (fun hc => ?_) (fun hc => ?_) | refine R.condN rfl (fun hc => ?_) (fun hc => ?_) | refine R.condB rfl (fun hc => ?_) (fun hc => ?_))
      all_goals first
        | (exfalso; omega)
        | exact R.ret ⟨.inr rfl, R.outI rfl rfl (idxOf_some hm hv (decide_eq_true he)).symm⟩
        | (exfalso; simp_all [eqPt]; done)
        | skip
    · repeat' (first | refine R.ixK v hv rfl rfl rfl ?_ | refine R.mv rfl ?_ | refine R.reg ?_ | refine R.nil ?_ | refine R.seq ?_ | refine R.nseq ?_ | refine R.nblk ?_ | refine R.skip ?_ | refine R.blk ?_ | refine R.exit rfl ?_ | refine R.ldEp rfl rfl (by assumption) rfl rfl ?_ | refine R.ldaEp rfl rfl (by assumption) (Nat.le_of_ble_eq_true rfl) rfl rfl ?_ | refine R.ld rfl rfl rfl ?_ | refine R.lda rfl rfl (Nat.le_of_ble_eq_true rfl) rfl ?_ | refine R.lenM rfl ?_ | refine R.lenO rfl rfl ?_ | refine R.len rfl rfl ?_ | refine R.lss rfl rfl ?_ | refine R.add rfl rfl (by omega) ?_ | refine R.ixN rfl rfl rfl (by omega) (fun a ha => ?_) | refine R.ixM rfl rfl rfl (by omega) (fun a ha => ?_) | refine R.ixON rfl rfl rfl (by first | omega | (simp; omega)) (fun a' ha' => ?_) | refine R.ixO rfl rfl rfl (by first | omega | (simp; omega)) (fun a' ha' => ?_) | refine R.box rfl rfl rfl ?_ | refine R.eqs rfl rfl rfl rfl rfl ?_ | refine R.neqs rfl rfl rfl rfl rfl ?_ | refine R.condT rfl ?_ | refine R.condF rfl ?_ | refine R.cond rfl (fun hc => ?_) (fun hc => ?_) | refine R.condN rfl (fun hc => ?_) (fun hc => ?_) | refine R.condB rfl (fun hc => ?_) (fun hc => ?_))
      all_goals first
        | (exfalso; omega)
        | (refine R.nloop (R.again (i + 1) ⟨by omega, ?_⟩ (by omega) ⟨rfl, rfl, rfl, rfl, trivial⟩ ⟨rfl, trivial⟩ rfl rfl)
           rw [take_snoc hv]
           intro b hb
           rcases List.mem_append.1 hb with hb | hb
           · exact hm b hb
           · rw [List.mem_singleton.1 hb]; exact decide_eq_false he)
        | (exfalso; exact he (by simpa [eqPt] using hc))
        | skip
  obtain rfl : i = l.length := by omega
  rw [List.take_length] at hm
  repeat' (first | refine R.mv rfl ?_ | refine R.reg ?_ | refine R.nil ?_ | refine R.seq ?_ | refine R.nseq ?_ | refine R.nblk ?_ | refine R.skip ?_ | refine R.blk ?_ | refine R.exit rfl ?_ | refine R.ldEp rfl rfl (by assumption) rfl rfl ?_ | refine R.ldaEp rfl rfl (by assumption) (Nat.le_of_ble_eq_true rfl) rfl rfl ?_ | refine R.ld rfl rfl rfl ?_ | refine R.lda rfl rfl (Nat.le_of_ble_eq_true rfl) rfl ?_ | refine R.lenM rfl ?_ | refine R.lenO rfl rfl ?_ | refine R.len rfl rfl ?_ | refine R.lss rfl rfl ?_ | refine R.add rfl rfl (by omega) ?_ | refine R.ixN rfl rfl rfl (by omega) (fun a ha => ?_) | refine R.ixM rfl rfl rfl (by omega) (fun a ha => ?_) | refine R.ixON rfl rfl rfl (by first | omega | (simp; omega)) (fun a' ha' => ?_) | refine R.ixO rfl rfl rfl (by first | omega | (simp; omega)) (fun a' ha' => ?_) | refine R.box rfl rfl rfl ?_ | refine R.eqs rfl rfl rfl rfl rfl ?_ | refine R.neqs rfl rfl rfl rfl rfl ?_ | refine R.condT rfl ?_ | refine R.condF rfl ?_ | refine R.cond rfl (fun hc => ?_) (fun hc => ?_) | refine R.condN rfl (fun hc => ?_) (fun hc => ?_) | refine R.condB rfl (fun hc => ?_) (fun hc => ?_))
  all_goals first
    | (exfalso; omega)
    | exact R.ret ⟨.inr rfl, R.outI rfl rfl (idxOf_none hm).symm⟩
    | skip
theorem lib_containsP (l : List TPoint) (n : TPoint) : Spec Try.prog 59 [vL kPoint (l.map enPoint), .agg (enPoint n)] (oB (decide (n ∈ l))) := by
  have h1 : decide (0 ≤ idxOf (fun x => decide (n = x)) l) = decide (n ∈ l) := by
    rw [idxOf_any]
    rw [Bool.eq_iff_iff]
    simp
  refine Spec.walk T.mixed Try.func59 S.ok59 (by simp [Try.f59]) fun hk => ?_
  unfold S.s59
  repeat' (first | refine R.mv rfl ?_ | refine R.reg ?_ | refine R.nil ?_ | refine R.seq ?_ | refine R.nseq ?_ | refine R.nblk ?_ | refine R.skip ?_ | refine R.blk ?_ | refine R.exit rfl ?_ | refine R.ldEp rfl rfl (by assumption) rfl rfl ?_ | refine R.ldaEp rfl rfl (by assumption) (Nat.le_of_ble_eq_true rfl) rfl rfl ?_ | refine R.ld rfl rfl rfl ?_ | refine R.lda rfl rfl (Nat.le_of_ble_eq_true rfl) rfl ?_ | refine R.geq rfl rfl ?_ | refine R.box rfl rfl rfl ?_ | refine R.condT rfl ?_ | refine R.condF rfl ?_ | refine R.call (bor := false) rfl rfl (lib_indexP _ _) rfl rfl rfl ?_ | refine R.call (bor := true) rfl rfl (lib_indexP _ _) rfl rfl rfl ?_ | refine R.fcal (bor := false) rfl rfl (lib_indexP _ _) rfl rfl rfl ?_ | refine R.fcal (bor := true) rfl rfl (lib_indexP _ _) rfl rfl rfl ?_ | refine R.cond rfl (fun hc => ?_) (fun hc => ?_) | refine R.condN rfl (fun hc => ?_) (fun hc => ?_) | refine R.condB rfl (fun hc => ?_) (fun hc => ?_))
  exact R.ret ⟨.inr rfl, R.outB rfl rfl h1⟩
theorem iWithout1 (l : List TPoint) (a : TPlaced) : Spec Try.prog 58 ([.agg (enPlaced a)] ++ [D.rp [.rd kPoint (l.map enPoint)]].map .c) (oB (decide (a.fAt ∈ l))) := by
  refine Spec.walk T.mixed Try.func58 S.ok58 (by simp [Try.f58]) fun hk => ?_
  unfold S.s58
  repeat' (first | refine R.mv rfl ?_ | refine R.reg ?_ | refine R.nil ?_ | refine R.seq ?_ | refine R.nseq ?_ | refine R.nblk ?_ | refine R.skip ?_ | refine R.blk ?_ | refine R.exit rfl ?_ | refine R.ldEp rfl rfl (by assumption) rfl rfl ?_ | refine R.ldaEp rfl rfl (by assumption) (Nat.le_of_ble_eq_true rfl) rfl rfl ?_ | refine R.ld rfl rfl rfl ?_ | refine R.lda rfl rfl (Nat.le_of_ble_eq_true rfl) rfl ?_ | refine R.fa rfl rfl ?_ | refine R.box rfl rfl rfl ?_ | refine R.condT rfl ?_ | refine R.condF rfl ?_ | refine R.call (bor := false) rfl rfl (lib_containsP l a.fAt) rfl rfl rfl ?_ | refine R.call (bor := true) rfl rfl (lib_containsP l a.fAt) rfl rfl rfl ?_ | refine R.fcal (bor := false) rfl rfl (lib_containsP l a.fAt) rfl rfl rfl ?_ | refine R.fcal (bor := true) rfl rfl (lib_containsP l a.fAt) rfl rfl rfl ?_ | refine R.cond rfl (fun hc => ?_) (fun hc => ?_) | refine R.condN rfl (fun hc => ?_) (fun hc => ?_) | refine R.condB rfl (fun hc => ?_) (fun hc => ?_))
  exact R.ret ⟨.inr rfl, R.outB rfl rfl rfl⟩
theorem iWithout (A : TAssembly) (l : List TPoint) (h : A.fTiles.length ≤ 1048576) : Spec Try.prog 37 [.agg (enAssembly A), vL kPoint (l.map enPoint)] (.v (.agg [.nw kPlaced ((A.fTiles.filter fun a => !decide (a.fAt ∈ l)).map enPlaced)])) := by
  refine Spec.walk T.mixed Try.func37 S.ok37 (by simp [Try.f37]) fun hk => ?_
  unfold S.s37
  repeat' (first | refine R.mv rfl ?_ | refine R.reg ?_ | refine R.nil ?_ | refine R.seq ?_ | refine R.nseqF rfl rfl rfl ?_ | refine R.nseq ?_ | refine R.nblk ?_ | refine R.skip ?_ | refine R.blk ?_ | refine R.exit rfl ?_ | refine R.ldEp rfl rfl (by assumption) rfl rfl ?_ | refine R.ldaEp rfl rfl (by assumption) (Nat.le_of_ble_eq_true rfl) rfl rfl ?_ | refine R.ld rfl rfl rfl ?_ | refine R.lda rfl rfl (Nat.le_of_ble_eq_true rfl) rfl ?_ | refine R.fa rfl rfl ?_ | refine R.mkf rfl ?_ | refine R.al rfl ?_ | refine R.box rfl rfl rfl ?_ | refine R.stoB rfl rfl rfl rfl ⟨rfl, rfl, Nat.le_of_ble_eq_true rfl⟩ rfl ?_ | refine R.stoE _ rfl rfl rfl rfl rfl (by assumption) rfl ⟨rfl, rfl, Nat.le_of_ble_eq_true rfl⟩ ?_ | refine R.bld rfl rfl ?_ | refine R.condT rfl ?_ | refine R.condF rfl ?_ | refine R.callN1 (bor := false) rfl rfl (lib_clonePlaced _ h) rfl rfl ?_ | refine R.callN1 (bor := true) rfl rfl (lib_clonePlaced _ h) rfl rfl ?_ | refine R.callN (bor := false) rfl rfl (lib_clonePlaced _ h) rfl rfl rfl rfl rfl ?_ | refine R.callN (bor := true) rfl rfl (lib_clonePlaced _ h) rfl rfl rfl rfl rfl ?_ | refine R.callX (bor := false) [(9000, pin 0)] rfl (lib_delPlaced fun a _ => iWithout1 l a) rfl rfl rfl rfl rfl ?_ | refine R.cond rfl (fun hc => ?_) (fun hc => ?_) | refine R.condN rfl (fun hc => ?_) (fun hc => ?_) | refine R.condB rfl (fun hc => ?_) (fun hc => ?_))
  exact R.ret ⟨.inr rfl, R.outS1 rfl rfl rfl rfl T.ty30⟩
open Classical in
noncomputable def fTake (A : TAssembly) (p : TPoint) : List TPlaced × Int := if okA A.fTiles then (if tileAt A.fTiles p < 0 then ([], 3) else (A.fTiles.filter (fun a => !decide (a.fAt ∈ [p])), 0)) else ([], 1)
theorem fTake_len {A : TAssembly} {p : TPoint} : (fTake A p).1.length ≤ 500 := by
  unfold fTake
  split
  · rename_i h
    split
    · exact Nat.zero_le _
    · exact Nat.le_trans (List.length_filter_le _ _) h.1
  · exact Nat.zero_le _
abbrev oAC (r : List TPlaced × Int) : RT := .tup [.agg [.nw kPlaced (r.1.map enPlaced)], .c (.fz (iD r.2))]
theorem iTake (A : TAssembly) (p : TPoint) : Spec Try.prog 15 [.agg (enAssembly A), .agg (enPoint p)] (oAC (fTake A p)) := by
  refine Spec.walk T.mixed Try.func15 S.ok15 (by simp [Try.f15]) fun hk => ?_
  unfold S.s15
  by_cases h1 : okA A.fTiles
  case neg =>
    rw [show fTake A p = ([], 1) from if_neg h1]
    repeat' (first | refine R.mv rfl ?_ | refine R.reg ?_ | refine R.nil ?_ | refine R.seq ?_ | refine R.nseq ?_ | refine R.nblk ?_ | refine R.skip ?_ | refine R.blk ?_ | refine R.exit rfl ?_ | refine R.ldEp rfl rfl (by assumption) rfl rfl ?_ | refine R.ldaEp rfl rfl (by assumption) (Nat.le_of_ble_eq_true rfl) rfl rfl ?_ | refine R.ld rfl rfl rfl ?_ | refine R.lda rfl rfl (Nat.le_of_ble_eq_true rfl) rfl ?_ | refine R.lss rfl rfl ?_ | refine R.not rfl ?_ | refine R.al rfl ?_ | refine R.box rfl rfl rfl ?_ | refine R.stoB rfl rfl rfl rfl ⟨rfl, rfl, Nat.le_of_ble_eq_true rfl⟩ rfl ?_ | refine R.stoE _ rfl rfl rfl rfl rfl (by assumption) rfl ⟨rfl, rfl, Nat.le_of_ble_eq_true rfl⟩ ?_ | refine R.bld rfl rfl ?_ | refine R.condT rfl ?_ | refine R.condF rfl ?_ | refine R.call (bor := false) rfl rfl (iHasF h1) rfl rfl rfl ?_ | refine R.call (bor := true) rfl rfl (iHasF h1) rfl rfl rfl ?_ | refine R.fcal (bor := false) rfl rfl (iHasF h1) rfl rfl rfl ?_ | refine R.fcal (bor := true) rfl rfl (iHasF h1) rfl rfl rfl ?_ | refine R.cond rfl (fun hc => ?_) (fun hc => ?_) | refine R.condN rfl (fun hc => ?_) (fun hc => ?_) | refine R.condB rfl (fun hc => ?_) (fun hc => ?_))
    all_goals first
      | (exfalso; omega)
      | exact R.ret ⟨.inr rfl, R.outSNil rfl rfl rfl T.ty30 rfl rfl rfl⟩
      | skip
  by_cases h2 : tileAt A.fTiles p < 0
  · rw [show fTake A p = ([], 3) from (if_pos h1).trans (if_pos h2)]
    repeat' (first | refine R.mv rfl ?_ | refine R.reg ?_ | refine R.nil ?_ | refine R.seq ?_ | refine R.nseq ?_ | refine R.nblk ?_ | refine R.skip ?_ | refine R.blk ?_ | refine R.exit rfl ?_ | refine R.ldEp rfl rfl (by assumption) rfl rfl ?_ | refine R.ldaEp rfl rfl (by assumption) (Nat.le_of_ble_eq_true rfl) rfl rfl ?_ | refine R.ld rfl rfl rfl ?_ | refine R.lda rfl rfl (Nat.le_of_ble_eq_true rfl) rfl ?_ | refine R.lss rfl rfl ?_ | refine R.not rfl ?_ | refine R.al rfl ?_ | refine R.box rfl rfl rfl ?_ | refine R.stoB rfl rfl rfl rfl ⟨rfl, rfl, Nat.le_of_ble_eq_true rfl⟩ rfl ?_ | refine R.stoE _ rfl rfl rfl rfl rfl (by assumption) rfl ⟨rfl, rfl, Nat.le_of_ble_eq_true rfl⟩ ?_ | refine R.bld rfl rfl ?_ | refine R.condT rfl ?_ | refine R.condF rfl ?_ | refine R.call (bor := false) rfl rfl (iHasT h1) rfl rfl rfl ?_ | refine R.call (bor := true) rfl rfl (iHasT h1) rfl rfl rfl ?_ | refine R.fcal (bor := false) rfl rfl (iHasT h1) rfl rfl rfl ?_ | refine R.fcal (bor := true) rfl rfl (iHasT h1) rfl rfl rfl ?_ | refine R.call (bor := false) rfl rfl (iTileAt' A p h1) rfl rfl rfl ?_ | refine R.call (bor := true) rfl rfl (iTileAt' A p h1) rfl rfl rfl ?_ | refine R.fcal (bor := false) rfl rfl (iTileAt' A p h1) rfl rfl rfl ?_ | refine R.fcal (bor := true) rfl rfl (iTileAt' A p h1) rfl rfl rfl ?_ | refine R.cond rfl (fun hc => ?_) (fun hc => ?_) | refine R.condN rfl (fun hc => ?_) (fun hc => ?_) | refine R.condB rfl (fun hc => ?_) (fun hc => ?_))
    all_goals first
      | (exfalso; omega)
      | exact R.ret ⟨.inr rfl, R.outSNil rfl rfl rfl T.ty30 rfl rfl rfl⟩
      | skip
  · rw [show fTake A p = (A.fTiles.filter (fun a => !decide (a.fAt ∈ [p])), 0) from (if_pos h1).trans (if_neg h2)]
    have hl : A.fTiles.length ≤ 1048576 := Nat.le_trans h1.1 (by omega)
    repeat' (first | refine R.mv rfl ?_ | refine R.reg ?_ | refine R.nil ?_ | refine R.seq ?_ | refine R.nseq ?_ | refine R.nblk ?_ | refine R.skip ?_ | refine R.blk ?_ | refine R.exit rfl ?_ | refine R.ldEp rfl rfl (by assumption) rfl rfl ?_ | refine R.ldaEp rfl rfl (by assumption) (Nat.le_of_ble_eq_true rfl) rfl rfl ?_ | refine R.ld rfl rfl rfl ?_ | refine R.lda rfl rfl (Nat.le_of_ble_eq_true rfl) rfl ?_ | refine R.lss rfl rfl ?_ | refine R.not rfl ?_ | refine R.al rfl ?_ | refine R.box rfl rfl rfl ?_ | refine R.stoB rfl rfl rfl rfl ⟨rfl, rfl, Nat.le_of_ble_eq_true rfl⟩ rfl ?_ | refine R.stoE _ rfl rfl rfl rfl rfl (by assumption) rfl ⟨rfl, rfl, Nat.le_of_ble_eq_true rfl⟩ ?_ | refine R.bld rfl rfl ?_ | refine R.condT rfl ?_ | refine R.condF rfl ?_ | refine R.call (bor := false) rfl rfl (iHasT h1) rfl rfl rfl ?_ | refine R.call (bor := true) rfl rfl (iHasT h1) rfl rfl rfl ?_ | refine R.fcal (bor := false) rfl rfl (iHasT h1) rfl rfl rfl ?_ | refine R.fcal (bor := true) rfl rfl (iHasT h1) rfl rfl rfl ?_ | refine R.call (bor := false) rfl rfl (iTileAt' A p h1) rfl rfl rfl ?_ | refine R.call (bor := true) rfl rfl (iTileAt' A p h1) rfl rfl rfl ?_ | refine R.fcal (bor := false) rfl rfl (iTileAt' A p h1) rfl rfl rfl ?_ | refine R.fcal (bor := true) rfl rfl (iTileAt' A p h1) rfl rfl rfl ?_ | refine R.bsl (f := enPoint) [p] rfl rfl rfl rfl rfl ?_ | refine R.callN1 (bor := false) rfl rfl (iWithout A [p] hl) rfl rfl ?_ | refine R.callN1 (bor := true) rfl rfl (iWithout A [p] hl) rfl rfl ?_ | refine R.callN (bor := false) rfl rfl (iWithout A [p] hl) rfl rfl rfl rfl rfl ?_ | refine R.callN (bor := true) rfl rfl (iWithout A [p] hl) rfl rfl rfl rfl rfl ?_ | refine R.cond rfl (fun hc => ?_) (fun hc => ?_) | refine R.condN rfl (fun hc => ?_) (fun hc => ?_) | refine R.condB rfl (fun hc => ?_) (fun hc => ?_))
    all_goals first
      | (exfalso; omega)
      | exact R.ret ⟨.inr rfl, R.outSOwn rfl rfl rfl rfl T.ty30 rfl rfl⟩
      | skip
end Go.Proofs.Ytghpeccaknhjiaa
