/- Texts of one proof, one behind the other. -/
import Derived.Test.YtehkaajakapkmaaGreatFB27
import Derived.Test.YtehkaajakapkmaaGreatFB31
import Derived.Test.YtehkaajakapkmaaGreatFB34
import Derived.Test.YtehkaajakapkmaaGreatFB35
namespace Go.Proofs.YtehkaajakapkmaaGreat
section
open Go.RowKit
set_option maxRecDepth 100000 in
def S.s8 : SC := (.seq (.reg [⟨(.some 1), .none, .false, (.box 35 (.tmp 0))⟩, ⟨(.some 2), .none, .false, (.al 30 [(Go.Value.int Go.IntKind.i64 0), (Go.Value.slice none 0 0), (Go.Value.slice none 0 0)])⟩, ⟨(.some 3), .none, .false, (.mv (.const (Go.Value.int Go.IntKind.i64 0)))⟩]) (.seq (.seq (.reg [⟨(.some 4), .none, .false, (.ld .true 3 (.tmp 1))⟩, ⟨(.some 5), .none, .false, (.call (.func 33) [(.tmp 4)])⟩, ⟨(.some 6), .none, .false, (.not (.tmp 5))⟩]) (.cond (.tmp 6) (.seq (.reg [⟨(.some 7), .none, .false, (.bld [(Go.Value.int Go.IntKind.i64 0), (Go.Value.slice none 0 0), (Go.Value.slice none 0 0)] [(0, 1), (1, 1), (2, 1)] [])⟩, ⟨.none, .none, .false, (.sto 3 (.tmp 2) (.tmp 7))⟩, ⟨(.some 3), .none, .false, (.mv (.const (Go.Value.int Go.IntKind.i64 1)))⟩]) .ret) .skip)) (.seq (.reg [⟨(.some 8), .none, .false, (.ld .true 3 (.tmp 1))⟩, ⟨(.some 9), .none, .false, (.call (.func 34) [(.tmp 8)])⟩, ⟨.none, .none, .false, (.sto 3 (.tmp 2) (.tmp 9))⟩, ⟨(.some 3), .none, .false, (.mv (.const (Go.Value.int Go.IntKind.i64 0)))⟩]) .ret)))
set_option maxRecDepth 100000 in
theorem S.ok8 : stripF Tryz.prog Tryz.f8 = some S.s8 := by kernel_rfl
set_option maxRecDepth 100000 in
def S.s34 : SC := (.seq (.reg [⟨(.some 1), .none, .false, (.box 35 (.tmp 0))⟩, ⟨(.some 2), .none, .false, (.al 30 [(Go.Value.int Go.IntKind.i64 0), (Go.Value.slice none 0 0), (Go.Value.slice none 0 0)])⟩]) (.seq (.reg [⟨(.some 12), .none, .false, (.fa 0 (.tmp 1))⟩, ⟨(.some 13), .none, .false, (.ld .false 1 (.tmp 12))⟩, ⟨(.some 14), .none, .false, (.bld [(Go.Value.int Go.IntKind.i64 0), (Go.Value.slice none 0 0), (Go.Value.slice none 0 0)] [(0, 1), (1, 1), (2, 1)] [(0, (.tmp 13))])⟩, ⟨(.some 3), .none, .false, (.al 30 [(Go.Value.int Go.IntKind.i64 0), (Go.Value.slice none 0 0), (Go.Value.slice none 0 0)])⟩, ⟨.none, .none, .false, (.sto 3 (.tmp 3) (.tmp 14))⟩]) (.seq (.reg [⟨(.some 4), .none, .false, (.mv (.const (Go.Value.slice none 0 0)))⟩]) (.seq (.seq (.reg [⟨(.some 15), .none, .false, (.ld .true 3 (.tmp 1))⟩, ⟨(.some 16), .none, .false, (.call (.func 47) [(.tmp 15)])⟩, ⟨(.some 17), .none, .false, (.len (.tmp 16))⟩, ⟨(.some 18), .none, .false, (.mv (.const (Go.Value.int Go.IntKind.i64 0)))⟩]) (.block 0 (.loop (.seq (.reg [⟨(.some 19), .none, .false, (.bin .lss (.tmp 18) (.tmp 17))⟩]) (.seq (.cond (.tmp 19) .skip (.exit 0)) (.seq (.block 1 (.seq (.reg [⟨(.some 20), .none, .false, (.ix (.mk 23 1) (.tmp 16) (.tmp 18))⟩, ⟨(.some 21), .none, .false, (.ld .false 1 (.tmp 20))⟩, ⟨(.some 6), .none, .false, (.mv (.tmp 21))⟩]) (.seq (.reg [⟨(.some 22), .none, .false, (.mv (.tmp 4))⟩, ⟨(.some 23), .none, .false, (.fa 0 (.tmp 1))⟩, ⟨(.some 24), .none, .false, (.ld .false 1 (.tmp 23))⟩, ⟨(.some 25), .none, .false, (.mv (.tmp 6))⟩, ⟨(.some 26), .none, .false, (.call (.func 61) [(.tmp 24), (.tmp 25)])⟩, ⟨(.some 27), .none, .false, (.bsl (.mk 27 1) 1 [(0, (.tmp 26))])⟩, ⟨(.some 28), .none, .false, (.app (.mk 27 1) 24 (.tmp 22) (.tmp 27))⟩, ⟨(.some 4), .none, .false, (.mv (.tmp 28))⟩]) (.regO (.take ⟨(.some 29), .none, .false, (.fa 1 (.tmp 3))⟩ (.take ⟨(.some 31), .none, .false, (.mv (.tmp 4))⟩ (.both (.take ⟨(.some 30), .none, .false, (.ld .false 1 (.tmp 29))⟩ (.take ⟨(.some 32), .none, .false, (.call (.func 71) [(.tmp 31)])⟩ (.take ⟨(.some 33), .none, .false, (.app (.mk 56 2) 16 (.tmp 30) (.tmp 32))⟩ (.take ⟨(.some 34), .none, .false, (.fa 1 (.tmp 3))⟩ (.take ⟨.none, .none, .false, (.sto 1 (.tmp 34) (.tmp 33))⟩ .done))))) (.take ⟨(.some 32), .none, .false, (.call (.func 71) [(.tmp 31)])⟩ (.take ⟨(.some 30), .none, .false, (.ld .false 1 (.tmp 29))⟩ (.take ⟨(.some 33), .none, .false, (.app (.mk 56 2) 16 (.tmp 30) (.tmp 32))⟩ (.take ⟨(.some 34), .none, .false, (.fa 1 (.tmp 3))⟩ (.take ⟨.none, .none, .false, (.sto 1 (.tmp 34) (.tmp 33))⟩ .done)))))))))))) (.reg [⟨(.some 35), .none, .false, (.bin .add (.tmp 18) (.const (Go.Value.int Go.IntKind.i64 1)))⟩, ⟨(.some 18), .none, .false, (.mv (.tmp 35))⟩]))))))) (.seq (.reg [⟨(.some 36), .none, .false, (.fa 1 (.tmp 3))⟩, ⟨(.some 37), .none, .false, (.ld .false 1 (.tmp 36))⟩, ⟨(.some 38), .none, .false, (.call (.func 72) [(.tmp 37), (.func 51)])⟩]) (.seq (.reg [⟨(.some 39), .none, .false, (.fa 1 (.tmp 3))⟩, ⟨(.some 40), .none, .false, (.ld .false 1 (.tmp 39))⟩, ⟨(.some 41), .none, .false, (.call (.func 73) [(.tmp 40)])⟩, ⟨(.some 42), .none, .false, (.fa 1 (.tmp 3))⟩, ⟨.none, .none, .false, (.sto 1 (.tmp 42) (.tmp 41))⟩]) (.seq (.seq (.reg [⟨(.some 43), .none, .false, (.mv (.tmp 4))⟩, ⟨(.some 44), .none, .false, (.len (.tmp 43))⟩, ⟨(.some 45), .none, .false, (.mv (.const (Go.Value.int Go.IntKind.i64 0)))⟩]) (.block 2 (.loop (.seq (.reg [⟨(.some 46), .none, .false, (.bin .lss (.tmp 45) (.tmp 44))⟩]) (.seq (.cond (.tmp 46) .skip (.exit 2)) (.seq (.block 3 (.seq (.reg [⟨(.some 47), .none, .false, (.ix (.mk 27 1) (.tmp 43) (.tmp 45))⟩, ⟨(.some 48), .none, .false, (.ld .false 1 (.tmp 47))⟩, ⟨(.some 8), .none, .false, (.mv (.tmp 48))⟩]) (.seq (.reg [⟨(.some 9), .none, .false, (.mv (.const (Go.Value.slice none 0 0)))⟩]) (.seq (.seq (.reg [⟨(.some 49), .none, .false, (.mv (.tmp 8))⟩, ⟨(.some 50), .none, .false, (.len (.tmp 49))⟩, ⟨(.some 51), .none, .false, (.mv (.const (Go.Value.int Go.IntKind.i64 0)))⟩]) (.block 4 (.loop (.seq (.reg [⟨(.some 52), .none, .false, (.bin .lss (.tmp 51) (.tmp 50))⟩]) (.seq (.cond (.tmp 52) .skip (.exit 4)) (.seq (.block 5 (.seq (.reg [⟨(.some 53), .none, .false, (.ix (.mk 56 2) (.tmp 49) (.tmp 51))⟩, ⟨(.some 54), .none, .false, (.ld .true 2 (.tmp 53))⟩, ⟨(.some 11), .none, .false, (.al 56 [(Go.Value.int Go.IntKind.i64 0), (Go.Value.int Go.IntKind.i64 0)])⟩, ⟨.none, .none, .false, (.sto 2 (.tmp 11) (.tmp 54))⟩]) (.reg [⟨(.some 55), .none, .false, (.mv (.tmp 9))⟩, ⟨(.some 56), .none, .false, (.fa 1 (.tmp 3))⟩, ⟨(.some 57), .none, .false, (.ld .false 1 (.tmp 56))⟩, ⟨(.some 58), .none, .false, (.ld .true 2 (.tmp 11))⟩, ⟨(.some 59), .none, .false, (.call (.func 74) [(.tmp 57), (.tmp 58)])⟩, ⟨(.some 60), .none, .false, (.bsl (.mk 2 1) 1 [(0, (.tmp 59))])⟩, ⟨(.some 61), .none, .false, (.app (.mk 2 1) 8 (.tmp 55) (.tmp 60))⟩, ⟨(.some 9), .none, .false, (.mv (.tmp 61))⟩]))) (.reg [⟨(.some 62), .none, .false, (.bin .add (.tmp 51) (.const (Go.Value.int Go.IntKind.i64 1)))⟩, ⟨(.some 51), .none, .false, (.mv (.tmp 62))⟩]))))))) (.seq (.reg [⟨(.some 63), .none, .false, (.mv (.tmp 9))⟩, ⟨(.some 64), .none, .false, (.call (.func 75) [(.tmp 63)])⟩]) (.reg [⟨(.some 65), .none, .false, (.fa 2 (.tmp 3))⟩, ⟨(.some 66), .none, .false, (.ld .false 1 (.tmp 65))⟩, ⟨(.some 67), .none, .false, (.mv (.tmp 9))⟩, ⟨(.some 68), .none, .false, (.bsl (.mk 23 1) 1 [(0, (.tmp 67))])⟩, ⟨(.some 69), .none, .false, (.app (.mk 23 1) 24 (.tmp 66) (.tmp 68))⟩, ⟨(.some 70), .none, .false, (.fa 2 (.tmp 3))⟩, ⟨.none, .none, .false, (.sto 1 (.tmp 70) (.tmp 69))⟩])))))) (.reg [⟨(.some 71), .none, .false, (.bin .add (.tmp 45) (.const (Go.Value.int Go.IntKind.i64 1)))⟩, ⟨(.some 45), .none, .false, (.mv (.tmp 71))⟩]))))))) (.seq (.reg [⟨(.some 72), .none, .false, (.ld .true 3 (.tmp 3))⟩, ⟨.none, .none, .false, (.sto 3 (.tmp 2) (.tmp 72))⟩]) .ret))))))))
set_option maxRecDepth 100000 in
theorem S.ok34 : stripF Tryz.prog Tryz.f34 = some S.s34 := by kernel_rfl
set_option maxRecDepth 100000 in
def S.s71 : SC := (.seq (.reg [⟨(.some 2), .none, .false, (.mv (.const (Go.Value.slice none 0 0)))⟩]) (.seq (.reg [⟨(.some 3), .none, .false, (.mv (.tmp 0))⟩, ⟨(.some 4), .none, .false, (.mv (.tmp 0))⟩, ⟨(.some 5), .none, .false, (.len (.tmp 4))⟩, ⟨(.some 6), .none, .false, (.bin .sub (.tmp 5) (.const (Go.Value.int Go.IntKind.i64 1)))⟩, ⟨(.some 7), .none, .false, (.ix (.mk 27 1) (.tmp 3) (.tmp 6))⟩, ⟨(.some 8), .none, .false, (.ld .false 1 (.tmp 7))⟩, ⟨(.some 2), .none, .false, (.mv (.tmp 8))⟩]) .ret))
set_option maxRecDepth 100000 in
theorem S.ok71 : stripF Tryz.prog Tryz.f71 = some S.s71 := by kernel_rfl
set_option maxRecDepth 100000 in
def S.s74 : SC := (.seq (.reg [⟨(.some 3), .none, .false, (.box 56 (.tmp 1))⟩, ⟨(.some 4), .none, .false, (.mv (.const (Go.Value.int Go.IntKind.i64 0)))⟩]) (.seq (.seq (.reg [⟨(.some 6), .none, .false, (.mv (.tmp 0))⟩, ⟨(.some 7), .none, .false, (.len (.tmp 6))⟩, ⟨(.some 8), .none, .false, (.mv (.const (Go.Value.int Go.IntKind.i64 0)))⟩]) (.block 0 (.loop (.seq (.reg [⟨(.some 9), .none, .false, (.bin .lss (.tmp 8) (.tmp 7))⟩]) (.seq (.cond (.tmp 9) .skip (.exit 0)) (.seq (.block 1 (.seq (.reg [⟨(.some 10), .none, .false, (.mv (.tmp 8))⟩, ⟨(.some 5), .none, .false, (.mv (.tmp 10))⟩]) (.seq (.reg [⟨(.some 11), .none, .true, (.ld .true 2 (.tmp 3))⟩, ⟨(.some 12), .none, .true, (.mv (.tmp 0))⟩, ⟨(.some 13), .none, .true, (.mv (.tmp 5))⟩, ⟨(.some 14), .none, .true, (.ix (.mk 56 2) (.tmp 12) (.tmp 13))⟩, ⟨(.some 15), .none, .true, (.ld .true 2 (.tmp 14))⟩, ⟨(.some 16), .none, .true, (.eqs .false [(.i .i64), (.i .i64)] (.tmp 11) (.tmp 15))⟩]) (.cond (.tmp 16) (.seq (.reg [⟨(.some 17), .none, .false, (.mv (.tmp 5))⟩, ⟨(.some 4), .none, .false, (.mv (.tmp 17))⟩]) .ret) .skip)))) (.reg [⟨(.some 18), .none, .false, (.bin .add (.tmp 8) (.const (Go.Value.int Go.IntKind.i64 1)))⟩, ⟨(.some 8), .none, .false, (.mv (.tmp 18))⟩]))))))) (.seq (.reg [⟨(.some 4), .none, .false, (.mv (.const (Go.Value.int Go.IntKind.i64 (-1))))⟩]) .ret)))
set_option maxRecDepth 100000 in
theorem S.ok74 : stripF Tryz.prog Tryz.f74 = some S.s74 := by kernel_rfl
set_option maxRecDepth 20000
set_option maxHeartbeats 8000000
abbrev oV (v : Value) : RT := .v (.c (.fz (.pv v)))
theorem iLastV (vs : List Value) (v : Value) (k : Nat) (hk1 : vs.length = k + 1) (hv : vs[k]? = some v) (hb : k ≤ 1000) : Spec Tryz.prog 71 [vL kCS (vs.map enV)] (oV v) := by
  refine Spec.walk T.mixed Tryz.func71 S.ok71 (by simp [Tryz.f71]) fun hk => ?_
  clear hk
  unfold S.s71
  repeat' (first|refine R.mv rfl ?_|refine R.reg ?_|refine R.nil ?_|refine R.seq ?_|refine R.nseq ?_|refine R.ld rfl rfl rfl ?_|refine R.lenM rfl ?_|refine R.sub rfl rfl (by omega) ?_|refine R.ixM rfl rfl rfl (by omega) (fun a ha => ?_))
  all_goals first | (exfalso; omega) | skip
  obtain rfl : a = v := by
    rw [show ((vs.length : Int) - 1).toNat = k by omega, hv] at ha
    cases ha; rfl
  exact R.ret ⟨.inr rfl, R.outP rfl rfl⟩
theorem lib_indexQ (l : List TCube) (c : TCube) (k : Nat) (hv : l[k]? = some c) (hmin : ∀ i, i < k → l[i]? ≠ some c) (hl : l.length ≤ 1000) : Spec Tryz.prog 74 [vL kCube (l.map enCube), .agg (enCube c)] (oI k) := by
  have hkl : k < l.length := (List.getElem?_eq_some_iff.1 hv).1
  refine Spec.walk T.mixed Tryz.func74 S.ok74 (by simp [Tryz.f74]) fun hk => ?_
  clear hk
  unfold S.s74
  repeat' (first|refine R.mv rfl ?_|refine R.reg ?_|refine R.nil ?_|refine R.seq ?_|refine R.nseq ?_|refine R.blk ?_|refine R.lenM rfl ?_|refine R.box rfl rfl rfl ?_)
  all_goals first | (exfalso; omega) | skip
  refine R.loop (G := Nat) (fun i => [(0, rdA kCube (l.map enCube)), (3, .v (.c (.ptr 3 0))), (7, pvA (.int .i64 l.length)), (8, pvA (.int .i64 i))]) (fun _ => [(3, .box 56 ((enCube c).map B.d))]) (fun i => i ≤ k) (fun i => k - i) 0 (Nat.zero_le _) (Weak.frame _ _ ⟨rfl, rfl, rfl, rfl, trivial⟩ ⟨rfl, trivial⟩ rfl rfl) fun i hi => ?_
  obtain ⟨y, hy⟩ : ∃ y, l[i]? = some y := ⟨_, List.getElem?_eq_getElem (by omega)⟩
  have heq : eqVs [.int .i64 c.fCare, .int .i64 c.fValue] [.int .i64 y.fCare, .int .i64 y.fValue] = decide (c = y) := by
    obtain ⟨x1, x2⟩ := y
    obtain ⟨y1, y2⟩ := c
    simp [eqVs, eqV, Bool.decide_and]
  by_cases hik : i = k
  · subst hik
    obtain rfl : y = c := by rw [hy] at hv; cases hv; rfl
    repeat' (first|refine R.ixK y hy rfl rfl rfl ?_|refine R.mv rfl ?_|refine R.reg ?_|refine R.nil ?_|refine R.seq ?_|refine R.nseq ?_|refine R.nblk ?_|refine R.skip ?_|refine R.blk ?_|refine R.exit rfl ?_|refine R.lda rfl rfl (lbT rfl) rfl ?_|refine R.lss rfl rfl ?_|refine R.add rfl rfl (by omega) ?_|refine R.eqs rfl rfl rfl rfl rfl ?_|refine R.cond rfl (fun hc => ?_) (fun hc => ?_)|refine R.condB rfl (fun hc => ?_) (fun hc => ?_))
    all_goals first
      | (exfalso; omega)
      | (exfalso; have h2 := hc; change eqVs [.int .i64 y.fCare, .int .i64 y.fValue] [.int .i64 y.fCare, .int .i64 y.fValue] = false at h2; rw [heq, decide_eq_true rfl] at h2; cases h2; done)
      | exact R.ret ⟨.inr rfl, R.outI rfl rfl rfl⟩
      | skip
  · have hcy : ¬ c = y := fun e => hmin i (by omega) (by rw [hy, e])
    repeat' (first|refine R.ixK y hy rfl rfl rfl ?_|refine R.mv rfl ?_|refine R.reg ?_|refine R.nil ?_|refine R.seq ?_|refine R.nseq ?_|refine R.nblk ?_|refine R.skip ?_|refine R.blk ?_|refine R.exit rfl ?_|refine R.lda rfl rfl (lbT rfl) rfl ?_|refine R.lss rfl rfl ?_|refine R.add rfl rfl (by omega) ?_|refine R.eqs rfl rfl rfl rfl rfl ?_|refine R.cond rfl (fun hc => ?_) (fun hc => ?_)|refine R.condB rfl (fun hc => ?_) (fun hc => ?_))
    all_goals first
      | (exfalso; omega)
      | (exfalso; have h2 := hc; change eqVs [.int .i64 c.fCare, .int .i64 c.fValue] [.int .i64 y.fCare, .int .i64 y.fValue] = true at h2; rw [heq, decide_eq_false hcy] at h2; cases h2; done)
      | exact R.nloop (R.again (i + 1) (by omega) (by omega) ⟨rfl, rfl, rfl, rfl, trivial⟩ ⟨rfl, trivial⟩ rfl rfl)
      | skip
theorem iLst (n : Int) (t : List Int) (hn : 1 ≤ n ∧ n ≤ 4) (h : inK t (2 ^ n.toNat)) : Spec Tryz.prog 61 [vI n, vL kI (ints t)] (oN kCube ((cov n t).map enCube)) := by
  obtain ⟨k, rfl⟩ : ∃ k : Nat, n = k := ⟨n.toNat, by omega⟩
  exact iLeastAll k t (by omega) h
theorem iForm (c : TCircuit) (h : okC c) : Spec Tryz.prog 34 [.agg (enCircuit c)] (.v (.agg [.fz (iD c.fInputs), .nw kCube ((cubF c).map enCube), .nw kR ((sumsF c).map enR)])) := by
  refine Spec.walk T.mixed Tryz.func34 S.ok34 (by simp [Tryz.f34]) fun hk => ?_
  clear hk
  unfold S.s34
  have hn := h.1
  have hO := h.2.2.1
  have htl := tabT_len (c := c) (k := 2 ^ c.fInputs.toNat) (j := 0)
  have hK := tab_inK h
  have hcl := covs_len (c := c)
  have hcf := cubF_len h
  have hcm := fun cv hc => covs_mem h (cv := cv) hc
  have hsT := iTab c h
  have hgt := fun i t => covs_get (c := c) (i := i) (t := t)
  generalize htb : tabT c (2 ^ c.fInputs.toNat) 0 = tb at *
  have hcf2 : cubF c = cu (srtQ (covs c).flatten) (srtQ (covs c).flatten).length := (cubes_eq _).symm
  have hsm : sumsF c = (covs c).map fun cv => srt (cv.map fun q => (ixQ (cubF c) q : Int)) := by
    refine List.map_congr_left fun cv hcv => (sum_eq (cubF_pw c) fun q hq => ?_).symm
    exact cubF_mem.2 ⟨cv, hcv, hq⟩
  have hmem : ∀ cv ∈ covs c, ∀ q ∈ cv, q ∈ cubF c := fun cv hcv q hq => cubF_mem.2 ⟨cv, hcv, hq⟩
  generalize cubF c = cs at *
  generalize sumsF c = sm at *
  generalize covs c = cvs at *
  repeat' (first|refine R.mv rfl ?_|refine R.reg ?_|refine R.nil ?_|refine R.seq ?_|refine R.nseq ?_|refine R.blk ?_|refine R.ld rfl rfl rfl ?_|refine R.lda rfl rfl (lbT rfl) rfl ?_|refine R.fa rfl rfl ?_|refine R.lenO rfl rfl ?_|refine R.al rfl ?_|refine R.box rfl rfl rfl ?_|refine R.stoB rfl rfl rfl rfl ⟨rfl, rfl, Nat.le_of_ble_eq_true rfl⟩ rfl ?_|refine R.bld rfl rfl ?_|refine R.callN1 (bor := false) rfl rfl (hsT) rfl rfl ?_)
  all_goals first | (exfalso; omega) | skip
  refine R.loop (G := List (Value × List TCube)) (fun g => [(1, .v (.c (.ptr 1 0))), (2, .v (.c (.ptr 2 0))), (3, .v (.c (.ptr 3 0))), (4, .v (.c (.own 4))), (16, rdA kR (tb.map enR)), (17, pvA (.int .i64 tb.length)), (18, pvA (.int .i64 g.length))]) (fun g => [(1, .box 35 ((enCircuit c).map B.d)), (2, .box 30 [.d (iD 0), nilB, nilB]), (3, .box 30 [.d (iD c.fInputs), .own 900, nilB]), (4, .arr kCS ((g.map fun p => p.1).map enV) []), (900, .arr kCube ((g.map (·.2)).flatten.map enCube) []), (7777, .val (g.map fun p => (p.1, .rd kCube (p.2.map enCube))))]) (fun g => g.length ≤ cvs.length ∧ g.map (·.2) = cvs.take g.length) (fun g => cvs.length - g.length) [] ⟨Nat.zero_le _, rfl⟩ ?hw1 fun g hg => ?_
  case hw1 =>
    refine Weak.trans (Weak.freeze 18000 rfl rfl) ?_
    refine Weak.trans (Weak.reify 4 4 kCS rfl rfl) ?_
    refine Weak.trans (Weak.reifyBox 3 1 900 kCube rfl rfl rfl) ?_
    refine Weak.trans (Weak.regNew 7777 rfl) ?_
    exact Weak.frame _ _ ⟨rfl, rfl, rfl, rfl, rfl, rfl, rfl, trivial⟩ ⟨rfl, rfl, rfl, rfl, rfl, rfl, trivial⟩ rfl rfl
  obtain ⟨hg1, hg2⟩ := hg
  have hfl : (g.map (·.2)).flatten.length ≤ 768 := by
    have e1 := flat_len (l := g.map (·.2)) (m := 256) fun r hr => hcm r (List.mem_of_mem_take (hg2 ▸ hr))
    rw [List.length_map] at e1
    have e3 : g.length * 256 ≤ 3 * 256 := Nat.mul_le_mul_right _ (by omega)
    omega
  by_cases hgl : g.length < cvs.length
  · obtain ⟨t, ht⟩ : ∃ t, tb[g.length]? = some t := ⟨_, List.getElem?_eq_getElem (by omega)⟩
    have hcv := hgt _ _ ht
    have hKt := hK t (List.mem_of_getElem? ht)
    have hL := iLst c.fInputs t hn hKt
    have hcvl := hcm _ (List.mem_of_getElem? hcv)
    generalize cov c.fInputs t = cv at *
    have hgV : ∀ v : Value, ((g.map fun p => p.1).length + [v].length) * 24 ≤ 140737488355328 ∧ (g.map fun p => p.1).length + [v].length ≤ 140737488355328 := fun v => by rw [List.length_map, List.length_singleton]; omega
    repeat' (first|refine R.ixK t ht rfl rfl rfl ?_|refine R.revealL 26 7777 rfl rfl (fun v => ?_)|refine R.mv rfl ?_|refine R.reg ?_|refine R.nil ?_|refine R.seq ?_|refine R.nseq ?_|refine R.skip ?_|refine R.blk ?_|refine R.exit rfl ?_|refine R.ld rfl rfl rfl ?_|refine R.fa rfl rfl ?_|refine R.lss rfl rfl ?_|refine R.call (bor := false) rfl rfl (hL) rfl rfl rfl ?_|refine R.bsl (f := enV) [v] rfl rfl rfl rfl rfl ?_|refine R.app (f := enV) (fun _ => rfl) rfl rfl rfl rfl rfl (hgV v) ?_|refine R.cond rfl (fun hc => ?_) (fun hc => ?_))
    all_goals first | (exfalso; omega) | skip
    have hlen : ((g.map fun p => p.1) ++ [v]).length = g.length + 1 := by rw [List.length_append, List.length_map, List.length_singleton]
    have hLast := iLastV ((g.map fun p => p.1) ++ [v]) v g.length hlen (by rw [List.getElem?_append_right (by rw [List.length_map]; omega), List.length_map, Nat.sub_self]; rfl) (by omega)
    have hap : ((g.map (·.2)).flatten.length + cv.length) * 16 ≤ 140737488355328 ∧ (g.map (·.2)).flatten.length + cv.length ≤ 140737488355328 := by omega
    have hm : (v, D.rd kCube (cv.map enCube)) ∈ (g.map fun p => (p.1, D.rd kCube (p.2.map enCube))) ++ [(v, D.rd kCube (cv.map enCube))] := List.mem_append_right _ (List.mem_singleton.2 rfl)
    have hgm : (g ++ [(v, cv)]).map (·.2) = cvs.take (g ++ [(v, cv)]).length := by rw [List.length_append, List.length_singleton, take_snoc hcv, List.map_append, hg2]; rfl
    refine R.regOB (⟨frE [(1, .v (.c (.ptr 1 0))), (2, .v (.c (.ptr 2 0))), (3, .v (.c (.ptr 3 0))), (4, .v (.c (.own 4))), (16, rdA kR (tb.map enR)), (17, pvA (.int .i64 tb.length)), (18, pvA (.int .i64 g.length))], frO [(1, .box 35 ((enCircuit c).map B.d)), (2, .box 30 [.d (iD 0), nilB, nilB]), (3, .box 30 [.d (iD c.fInputs), .own 900, nilB]), (4, .arr kCS ((((g ++ [(v, cv)]).map fun p => p.1)).map enV) []), (900, .arr kCube (((g ++ [(v, cv)]).map (·.2)).flatten.map enCube) []), (7777, .val ((g ++ [(v, cv)]).map fun p => (p.1, .rd kCube (p.2.map enCube))))]⟩) ?_ ?_
    · repeat' (first|refine R.tk ?_|refine R.tkN ?_|refine R.both ?_ ?_|refine R.nil ?_|refine R.mv rfl ?_|refine R.fa rfl rfl ?_|refine R.ld rfl rfl rfl ?_|refine R.call (bor := true) rfl rfl hLast rfl rfl rfl ?_|refine R.weak (Weak.hide 32 7777 rfl rfl hm) (R.app (f := enCube) (fun _ => rfl) rfl rfl rfl rfl rfl hap ?_)|refine R.stoB rfl rfl rfl rfl ⟨rfl, rfl, Nat.le_of_ble_eq_true rfl⟩ rfl ?_)
      all_goals exact R.done (Weak.frame _ _ ⟨rfl, rfl, rfl, rfl, rfl, rfl, rfl, trivial⟩ ⟨rfl, rfl, rfl, arr_eq (by simp), arr_eq (by simp), by simp; rfl, trivial⟩ rfl rfl)
    repeat' (first|refine R.mv rfl ?_|refine R.reg ?_|refine R.nil ?_|refine R.add rfl rfl (by omega) ?_)
    all_goals first
      | (exfalso; omega)
      | exact R.nloop (R.again (g ++ [(v, cv)]) ⟨by rw [List.length_append, List.length_singleton]; omega, hgm⟩ (by rw [List.length_append, List.length_singleton]; omega) ⟨rfl, rfl, rfl, rfl, rfl, rfl, by rw [List.length_append]; rfl, trivial⟩ ⟨rfl, rfl, rfl, rfl, rfl, rfl, trivial⟩ rfl rfl)
      | skip
  have hgc : g.length = cvs.length := by omega
  rw [hgc, List.take_length] at hg2
  rw [hg2]
  have hflc : cvs.flatten.length ≤ 768 := by rw [← hg2]; exact hfl
  have hS := lib_sortQ cvs.flatten (by omega)
  have hC := lib_cmpct (srtQ cvs.flatten)
  rw [← hcf2] at hC
  repeat' (first|refine R.mv rfl ?_|refine R.reg ?_|refine R.nil ?_|refine R.seq ?_|refine R.nseq ?_|refine R.skip ?_|refine R.blk ?_|refine R.exit rfl ?_|refine R.ld rfl rfl rfl ?_|refine R.fa rfl rfl ?_|refine R.lenO rfl rfl ?_|refine R.lss rfl rfl ?_|refine R.ixN rfl rfl rfl (by omega) (fun a ha => ?_)|refine R.stoB rfl rfl rfl rfl ⟨rfl, rfl, Nat.le_of_ble_eq_true rfl⟩ rfl ?_|refine R.callX (bor := false) [(900, pin 0)] rfl hS rfl rfl rfl rfl rfl ?_|refine R.callX (bor := false) [(900, pin 0)] rfl hC rfl rfl rfl rfl rfl ?_|refine R.cond rfl (fun hc => ?_) (fun hc => ?_))
  all_goals first | (exfalso; omega) | skip
  refine R.loop (G := Nat) (fun i => [(2, .v (.c (.ptr 2 0))), (3, .v (.c (.ptr 3 0))), (43, rdA kCS (cvs.map enCS)), (44, pvA (.int .i64 cvs.length)), (45, pvA (.int .i64 i))]) (fun i => [(2, .box 30 [.d (iD 0), nilB, nilB]), (3, .box 30 [.d (iD c.fInputs), .own 43000, .own 901]), (43000, .arr kCube (cs.map enCube) []), (901, .arr kR (((cvs.take i).map fun cv => srt (cv.map fun q => (ixQ cs q : Int))).map enR) [])]) (fun i => i ≤ cvs.length) (fun i => cvs.length - i) 0 (Nat.zero_le _) ?hw3 fun i hi => ?_
  case hw3 =>
    refine Weak.trans (Weak.freeze 4 rfl rfl) ?_
    refine Weak.trans (Weak.hideRows 43 7777 g (fun p => p.1) (fun p => D.rd kCube (p.2.map enCube)) (by rw [show (g.map fun p => [D.pv p.1]) = (g.map fun p => p.1).map enV from by rw [List.map_map]; rfl]; rfl) rfl) ?_
    refine Weak.trans (Weak.reifyBox 3 2 901 kR rfl rfl rfl) ?_
    exact Weak.frame _ _ ⟨rfl, rfl, by rw [show cvs.map enCS = g.map fun p => [D.rd kCube (p.2.map enCube)] from by rw [← hg2, List.map_map]; rfl]; rfl, by rw [← hgc]; simp only [List.length_map]; rfl, rfl, trivial⟩ ⟨rfl, rfl, rfl, rfl, trivial⟩ rfl rfl
  have hsl : ((cvs.take i).map fun cv => srt (cv.map fun q => (ixQ cs q : Int))).length ≤ i := by rw [List.length_map, List.length_take]; omega
  by_cases hil : i < cvs.length
  · obtain ⟨cv, hcv⟩ : ∃ cv, cvs[i]? = some cv := ⟨_, List.getElem?_eq_getElem hil⟩
    have hcvl := hcm _ (List.mem_of_getElem? hcv)
    have hin := hmem cv (List.mem_of_getElem? hcv)
    have hap : (((cvs.take i).map fun cv => srt (cv.map fun q => (ixQ cs q : Int))).length + [srt (cv.map fun q => (ixQ cs q : Int))].length) * 24 ≤ 140737488355328 ∧ ((cvs.take i).map fun cv => srt (cv.map fun q => (ixQ cs q : Int))).length + [srt (cv.map fun q => (ixQ cs q : Int))].length ≤ 140737488355328 := by rw [List.length_singleton]; omega
    have hts : (cvs.take (i + 1)).map (fun cv => srt (cv.map fun q => (ixQ cs q : Int))) = (cvs.take i).map (fun cv => srt (cv.map fun q => (ixQ cs q : Int))) ++ [srt (cv.map fun q => (ixQ cs q : Int))] := by rw [take_snoc hcv, List.map_append]; rfl
    repeat' (first|refine R.ixK cv hcv rfl rfl rfl ?_|refine R.mv rfl ?_|refine R.reg ?_|refine R.nil ?_|refine R.seq ?_|refine R.nseq ?_|refine R.skip ?_|refine R.blk ?_|refine R.exit rfl ?_|refine R.ld rfl rfl rfl ?_|refine R.lda rfl rfl (lbT rfl) rfl ?_|refine R.lenM rfl ?_|refine R.lss rfl rfl ?_|refine R.stoB rfl rfl rfl rfl ⟨rfl, rfl, Nat.le_of_ble_eq_true rfl⟩ rfl ?_|refine R.cond rfl (fun hc => ?_) (fun hc => ?_))
    all_goals first | (exfalso; omega) | skip
    refine R.loop (G := Nat) (fun j => [(2, .v (.c (.ptr 2 0))), (3, .v (.c (.ptr 3 0))), (9, .v (.c (.own 9))), (43, rdA kCS (cvs.map enCS)), (44, pvA (.int .i64 cvs.length)), (45, pvA (.int .i64 i)), (49, rdA kCube (cv.map enCube)), (50, pvA (.int .i64 cv.length)), (51, pvA (.int .i64 j))]) (fun j => [(2, .box 30 [.d (iD 0), nilB, nilB]), (3, .box 30 [.d (iD c.fInputs), .own 43000, .own 901]), (43000, .arr kCube (cs.map enCube) []), (901, .arr kR (((cvs.take i).map fun cv => srt (cv.map fun q => (ixQ cs q : Int))).map enR) []), (9, .arr kI (ints ((cv.take j).map fun q => (ixQ cs q : Int))) [])]) (fun j => j ≤ cv.length) (fun j => cv.length - j) 0 (Nat.zero_le _) (Weak.trans (Weak.reify 9 9 kI rfl rfl) (Weak.frame _ _ ⟨rfl, rfl, rfl, rfl, rfl, rfl, rfl, rfl, rfl, trivial⟩ ⟨rfl, rfl, rfl, rfl, rfl, trivial⟩ rfl rfl)) fun j hj => ?_
    by_cases hjl : j < cv.length
    · obtain ⟨q, hq⟩ : ∃ q, cv[j]? = some q := ⟨_, List.getElem?_eq_getElem hjl⟩
      obtain ⟨hx1, hx2⟩ := ixQ_ok (hin q (List.mem_of_getElem? hq))
      have hI := lib_indexQ cs q (ixQ cs q) hx1 hx2 (by omega)
      have htj : ((cv.take j).map fun q => (ixQ cs q : Int)).length ≤ j := by rw [List.length_map, List.length_take]; omega
      have hap2 : (((cv.take j).map fun q => (ixQ cs q : Int)).length + [(ixQ cs q : Int)].length) * 8 ≤ 140737488355328 ∧ ((cv.take j).map fun q => (ixQ cs q : Int)).length + [(ixQ cs q : Int)].length ≤ 140737488355328 := by rw [List.length_singleton]; omega
      have hsn : (cv.take (j + 1)).map (fun q => (ixQ cs q : Int)) = (cv.take j).map (fun q => (ixQ cs q : Int)) ++ [(ixQ cs q : Int)] := by rw [take_snoc hq, List.map_append]; rfl
      repeat' (first|refine R.ixK q hq rfl rfl rfl ?_|refine R.mv rfl ?_|refine R.reg ?_|refine R.nil ?_|refine R.seq ?_|refine R.nseq ?_|refine R.nblk ?_|refine R.skip ?_|refine R.blk ?_|refine R.exit rfl ?_|refine R.ld rfl rfl rfl ?_|refine R.lda rfl rfl (lbT rfl) rfl ?_|refine R.fa rfl rfl ?_|refine R.lss rfl rfl ?_|refine R.add rfl rfl (by omega) ?_|refine R.al rfl ?_|refine R.stoB rfl rfl rfl rfl ⟨rfl, rfl, Nat.le_of_ble_eq_true rfl⟩ rfl ?_|refine R.call (bor := true) rfl rfl (hI) rfl rfl rfl ?_|refine R.bsl (f := enI) [(ixQ cs q : Int)] rfl rfl rfl rfl rfl ?_|refine R.app (f := enI) (fun _ => rfl) rfl rfl rfl rfl rfl hap2 ?_|refine R.cond rfl (fun hc => ?_) (fun hc => ?_))
      all_goals first
        | (exfalso; omega)
        | exact R.nloop (R.again (j + 1) (by omega) (by omega) ⟨rfl, rfl, rfl, rfl, rfl, rfl, rfl, rfl, rfl, trivial⟩ ⟨rfl, rfl, rfl, rfl, arr_eq (by rw [hsn]), trivial⟩ rfl rfl)
        | skip
    obtain rfl : j = cv.length := by omega
    rw [List.take_length]
    have hml : (cv.map fun q => (ixQ cs q : Int)).length = cv.length := List.length_map ..
    by_cases h0 : 0 < cv.length
    · have hSt := lib_sort (cv.map fun q => (ixQ cs q : Int)) (by omega) (by omega)
      repeat' (first|refine R.mv rfl ?_|refine R.reg ?_|refine R.nil ?_|refine R.seq ?_|refine R.nseq ?_|refine R.nblk ?_|refine R.skip ?_|refine R.blk ?_|refine R.exit rfl ?_|refine R.ld rfl rfl rfl ?_|refine R.lda rfl rfl (lbT rfl) rfl ?_|refine R.fa rfl rfl ?_|refine R.lss rfl rfl ?_|refine R.add rfl rfl (by omega) ?_|refine R.ixN rfl rfl rfl (by omega) (fun a ha => ?_)|refine R.al rfl ?_|refine R.stoB rfl rfl rfl rfl ⟨rfl, rfl, Nat.le_of_ble_eq_true rfl⟩ rfl ?_|refine R.callX (bor := false) [(9, pin 0)] rfl hSt rfl rfl rfl rfl rfl ?_|refine R.bslA (f := enR) [srt (cv.map fun q => (ixQ cs q : Int))] rfl rfl rfl rfl rfl rfl ?_|refine R.appN (f := enR) rfl rfl rfl rfl rfl hap ?_|refine R.cond rfl (fun hc => ?_) (fun hc => ?_))
      all_goals first
        | (exfalso; omega)
        | exact R.nloop (R.again (i + 1) (by omega) (by omega) ⟨rfl, rfl, rfl, rfl, rfl, trivial⟩ ⟨rfl, rfl, rfl, arr_eq (by rw [hts]), trivial⟩ rfl rfl)
        | skip
    · have hcv0 : cv = [] := List.eq_nil_of_length_eq_zero (by omega)
      have he : srt (cv.map fun q => (ixQ cs q : Int)) = [] := by rw [hcv0]; simp [srt]
      have he2 : (cv.map fun q => (ixQ cs q : Int)) = [] := by rw [hcv0]; rfl
      rw [he] at hts hap
      rw [he2]
      have hSt := lib_sort0
      repeat' (first|refine R.mv rfl ?_|refine R.reg ?_|refine R.nil ?_|refine R.seq ?_|refine R.nseq ?_|refine R.nblk ?_|refine R.skip ?_|refine R.blk ?_|refine R.exit rfl ?_|refine R.ld rfl rfl rfl ?_|refine R.lda rfl rfl (lbT rfl) rfl ?_|refine R.fa rfl rfl ?_|refine R.lss rfl rfl ?_|refine R.add rfl rfl (by omega) ?_|refine R.ixN rfl rfl rfl (by omega) (fun a ha => ?_)|refine R.al rfl ?_|refine R.stoB rfl rfl rfl rfl ⟨rfl, rfl, Nat.le_of_ble_eq_true rfl⟩ rfl ?_|refine R.call (bor := true) rfl rfl (hSt) rfl rfl rfl ?_|refine R.bslA (f := enR) [([] : List Int)] rfl rfl rfl rfl rfl rfl ?_|refine R.appN (f := enR) rfl rfl rfl rfl rfl hap ?_|refine R.cond rfl (fun hc => ?_) (fun hc => ?_))
      all_goals first
        | (exfalso; omega)
        | exact R.nloop (R.again (i + 1) (by omega) (by omega) ⟨rfl, rfl, rfl, rfl, rfl, trivial⟩ ⟨rfl, rfl, rfl, arr_eq (by rw [hts]), trivial⟩ rfl rfl)
        | skip
  obtain rfl : i = cvs.length := by omega
  rw [List.take_length, ← hsm]
  repeat' (first|refine R.mv rfl ?_|refine R.reg ?_|refine R.nil ?_|refine R.seq ?_|refine R.nseq ?_|refine R.skip ?_|refine R.blk ?_|refine R.exit rfl ?_|refine R.ld rfl rfl rfl ?_|refine R.lda rfl rfl (lbT rfl) rfl ?_|refine R.lenM rfl ?_|refine R.lss rfl rfl ?_|refine R.ixN rfl rfl rfl (by omega) (fun a ha => ?_)|refine R.stoB rfl rfl rfl rfl ⟨rfl, rfl, Nat.le_of_ble_eq_true rfl⟩ rfl ?_|refine R.cond rfl (fun hc => ?_) (fun hc => ?_))
  all_goals first
    | (exfalso; omega)
    | exact R.ret ⟨.inr rfl, R.outR rfl (.cons (R.cell rfl rfl T.ty30 (lbT rfl) rfl) .nil) rfl rfl rfl rfl⟩
    | skip
theorem iFormOf (c : TCircuit) : Spec Tryz.prog 8 [.agg (enCircuit c)] (.tup [.agg [.fz (iD (fFO c).1.fInputs), .nw kCube ((fFO c).1.fCubes.map enCube), .nw kR ((fFO c).1.fSums.map enR)], cI (fFO c).2]) := by
  refine Spec.walk T.mixed Tryz.func8 S.ok8 (by simp [Tryz.f8]) fun hk => ?_
  clear hk
  unfold S.s8
  by_cases h : okC c
  case neg =>
    rw [show fFO c = (⟨0, [], []⟩, 1) from if_neg h]
    repeat' (first|refine R.mv rfl ?_|refine R.reg ?_|refine R.nil ?_|refine R.seq ?_|refine R.nseq ?_|refine R.lda rfl rfl (lbT rfl) rfl ?_|refine R.not rfl ?_|refine R.al rfl ?_|refine R.box rfl rfl rfl ?_|refine R.stoB rfl rfl rfl rfl ⟨rfl, rfl, Nat.le_of_ble_eq_true rfl⟩ rfl ?_|refine R.bld rfl rfl ?_|refine R.condT rfl ?_|refine R.call (bor := false) rfl rfl (iCirF h) rfl rfl rfl ?_)
    all_goals first
      | (exfalso; omega)
      | exact R.ret ⟨.inr rfl, R.outW (Weak.trans (Weak.reifyBox 2 1 900000 kCube rfl rfl rfl) (Weak.reifyBox 2 2 900001 kR rfl rfl rfl)) (R.outR rfl (.cons (R.cell rfl rfl T.ty30 (lbT rfl) rfl) (.cons (R.tmp rfl) .nil)) rfl rfl rfl ⟨by show ¬ (2 = 1); omega, rfl⟩)⟩
      | skip
  rw [show fFO c = (⟨c.fInputs, cubF c, sumsF c⟩, 0) from if_pos h]
  have hF := iForm c h
  repeat' (first|refine R.mv rfl ?_|refine R.reg ?_|refine R.nil ?_|refine R.seq ?_|refine R.nseq ?_|refine R.skip ?_|refine R.lda rfl rfl (lbT rfl) rfl ?_|refine R.not rfl ?_|refine R.al rfl ?_|refine R.box rfl rfl rfl ?_|refine R.stoB rfl rfl rfl rfl ⟨rfl, rfl, Nat.le_of_ble_eq_true rfl⟩ rfl ?_|refine R.condF rfl ?_|refine R.call (bor := false) rfl rfl (iCirT h) rfl rfl rfl ?_|refine R.callN (bor := false) rfl rfl (hF) rfl rfl rfl rfl rfl ?_)
  all_goals first
    | (exfalso; omega)
    | exact R.ret ⟨.inr rfl, R.outR rfl (.cons (R.cell rfl rfl T.ty30 (lbT rfl) rfl) (.cons (R.tmp rfl) .nil)) rfl rfl rfl ⟨by show ¬ (2 = 1); omega, rfl⟩⟩
    | skip
end
end Go.Proofs.YtehkaajakapkmaaGreat
