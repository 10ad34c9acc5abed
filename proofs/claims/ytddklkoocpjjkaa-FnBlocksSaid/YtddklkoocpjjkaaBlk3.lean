/- The steps of an elementary automaton, and its blocks. -/
import Derived.Test.YtddklkoocpjjkaaBlk2
namespace Go.Proofs.Ytddklkoocpjjkaa
open Go.RowKit
set_option maxRecDepth 100000 in
def S.s17 : SC := (.seq (.reg [⟨(.some 2), .none, .false, (.al 40 [(Go.Value.int Go.IntKind.i64 0), (Go.Value.slice none 0 0)])⟩, ⟨(.some 3), .none, .false, (.mv (.const (Go.Value.int Go.IntKind.i64 0)))⟩]) (.seq (.seq (.reg [⟨(.some 4), .none, .false, (.mv (.tmp 0))⟩, ⟨(.some 5), .none, .false, (.call (.func 26) [(.tmp 4), (.const (Go.Value.int Go.IntKind.i64 0)), (.const (Go.Value.int Go.IntKind.i64 255))])⟩, ⟨(.some 6), .none, .false, (.not (.tmp 5))⟩]) (.cond (.tmp 6) (.seq (.reg [⟨(.some 7), .none, .false, (.bld [(Go.Value.int Go.IntKind.i64 0), (Go.Value.slice none 0 0)] [(0, 1), (1, 1)] [])⟩, ⟨.none, .none, .false, (.sto 2 (.tmp 2) (.tmp 7))⟩, ⟨(.some 3), .none, .false, (.mv (.const (Go.Value.int Go.IntKind.i64 2)))⟩]) .ret) .skip)) (.seq (.reg [⟨(.some 8), .none, .false, (.mv (.tmp 0))⟩, ⟨(.some 9), .none, .false, (.call (.func 36) [(.tmp 8)])⟩, ⟨.none, .none, .false, (.sto 2 (.tmp 2) (.tmp 9))⟩, ⟨(.some 3), .none, .false, (.mv (.const (Go.Value.int Go.IntKind.i64 0)))⟩]) .ret)))
set_option maxRecDepth 100000 in
theorem S.ok17 : stripF Try.prog Try.f17 = some S.s17 := by kernel_rfl
set_option maxRecDepth 100000 in
def S.s19 : SC := (.seq (.reg [⟨(.some 1), .none, .false, (.box 40 (.tmp 0))⟩, ⟨(.some 2), .none, .false, (.mv (.const (Go.Value.bool false)))⟩]) (.seq (.reg [⟨(.some 3), .none, .false, (.fa 0 (.tmp 1))⟩, ⟨(.some 4), .none, .false, (.ld .false 1 (.tmp 3))⟩, ⟨(.some 5), .none, .false, (.call (.func 26) [(.tmp 4), (.const (Go.Value.int Go.IntKind.i64 1)), (.const (Go.Value.int Go.IntKind.i64 5))])⟩, ⟨(.some 6), .none, .false, (.mv (.tmp 5))⟩, ⟨(.some 7), (.some (6, .true)), .false, (.fa 1 (.tmp 1))⟩, ⟨(.some 8), (.some (6, .true)), .false, (.ld .false 1 (.tmp 7))⟩, ⟨(.some 9), (.some (6, .true)), .false, (.len (.tmp 8))⟩, ⟨(.some 10), (.some (6, .true)), .false, (.fa 0 (.tmp 1))⟩, ⟨(.some 11), (.some (6, .true)), .false, (.ld .false 1 (.tmp 10))⟩, ⟨(.some 12), (.some (6, .true)), .false, (.fa 0 (.tmp 1))⟩, ⟨(.some 13), (.some (6, .true)), .false, (.ld .false 1 (.tmp 12))⟩, ⟨(.some 14), (.some (6, .true)), .false, (.bin .mul (.tmp 11) (.tmp 13))⟩, ⟨(.some 15), (.some (6, .true)), .false, (.bin .eql (.tmp 9) (.tmp 14))⟩, ⟨(.some 16), .none, .false, (.pick (.tmp 6) (.tmp 15) (.const (Go.Value.bool false)))⟩, ⟨(.some 17), .none, .false, (.mv (.tmp 16))⟩, ⟨(.some 18), (.some (17, .true)), .false, (.fa 1 (.tmp 1))⟩, ⟨(.some 19), (.some (17, .true)), .false, (.ld .false 1 (.tmp 18))⟩, ⟨(.some 20), (.some (17, .true)), .false, (.fa 0 (.tmp 1))⟩, ⟨(.some 21), (.some (17, .true)), .false, (.ld .false 1 (.tmp 20))⟩, ⟨(.some 22), (.some (17, .true)), .false, (.call (.func 42) [(.tmp 19), (.tmp 21)])⟩, ⟨(.some 23), .none, .false, (.pick (.tmp 17) (.tmp 22) (.const (Go.Value.bool false)))⟩, ⟨(.some 2), .none, .false, (.mv (.tmp 23))⟩]) .ret))
set_option maxRecDepth 100000 in
theorem S.ok19 : stripF Try.prog Try.f19 = some S.s19 := by kernel_rfl
set_option maxRecDepth 100000 in
def S.s20 : SC := (.seq (.reg [⟨(.some 4), .none, .false, (.mv (.const (Go.Value.slice none 0 0)))⟩, ⟨(.some 5), .none, .false, (.mv (.const (Go.Value.int Go.IntKind.i64 0)))⟩]) (.seq (.seq (.reg [⟨(.some 8), .none, .false, (.mv (.tmp 0))⟩, ⟨(.some 9), .none, .false, (.mv (.tmp 1))⟩, ⟨(.some 10), .none, .false, (.call (.func 34) [(.tmp 8), (.tmp 9)])⟩, ⟨(.some 11), .none, .false, (.not (.tmp 10))⟩]) (.cond (.tmp 11) (.seq (.reg [⟨(.some 4), .none, .false, (.mv (.const (Go.Value.slice none 0 0)))⟩, ⟨(.some 5), .none, .false, (.mv (.const (Go.Value.int Go.IntKind.i64 2)))⟩]) .ret) .skip)) (.seq (.reg [⟨(.some 6), .none, .false, (.mv (.const (Go.Value.slice none 0 0)))⟩]) (.seq (.seq (.reg [⟨(.some 7), .none, .false, (.mv (.const (Go.Value.int Go.IntKind.i64 1)))⟩]) (.block 0 (.loop (.seq (.seq (.reg [⟨(.some 12), .none, .false, (.mv (.tmp 7))⟩, ⟨(.some 13), .none, .false, (.bin .add (.tmp 12) (.const (Go.Value.int Go.IntKind.i64 1)))⟩, ⟨(.some 14), .none, .false, (.mv (.tmp 1))⟩, ⟨(.some 15), .none, .false, (.len (.tmp 14))⟩, ⟨(.some 16), .none, .false, (.bin .lss (.tmp 13) (.tmp 15))⟩]) (.cond (.tmp 16) .skip (.exit 0))) (.seq (.block 1 (.reg [⟨(.some 19), .none, .true, (.mv (.tmp 6))⟩, ⟨(.some 20), .none, .true, (.mv (.tmp 0))⟩, ⟨(.some 21), .none, .true, (.mv (.tmp 1))⟩, ⟨(.some 22), .none, .true, (.mv (.tmp 7))⟩, ⟨(.some 23), .none, .true, (.bin .sub (.tmp 22) (.const (Go.Value.int Go.IntKind.i64 1)))⟩, ⟨(.some 24), .none, .true, (.ix (.mk 2 1) (.tmp 21) (.tmp 23))⟩, ⟨(.some 25), .none, .true, (.ld .false 1 (.tmp 24))⟩, ⟨(.some 26), .none, .true, (.mv (.tmp 1))⟩, ⟨(.some 27), .none, .true, (.mv (.tmp 7))⟩, ⟨(.some 28), .none, .true, (.ix (.mk 2 1) (.tmp 26) (.tmp 27))⟩, ⟨(.some 29), .none, .true, (.ld .false 1 (.tmp 28))⟩, ⟨(.some 30), .none, .true, (.mv (.tmp 1))⟩, ⟨(.some 31), .none, .true, (.mv (.tmp 7))⟩, ⟨(.some 32), .none, .true, (.bin .add (.tmp 31) (.const (Go.Value.int Go.IntKind.i64 1)))⟩, ⟨(.some 33), .none, .true, (.ix (.mk 2 1) (.tmp 30) (.tmp 32))⟩, ⟨(.some 34), .none, .true, (.ld .false 1 (.tmp 33))⟩, ⟨(.some 35), .none, .false, (.call (.func 43) [(.tmp 20), (.tmp 25), (.tmp 29), (.tmp 34)])⟩, ⟨(.some 36), .none, .false, (.bsl (.mk 2 1) 1 [(0, (.tmp 35))])⟩, ⟨(.some 37), .none, .false, (.app (.mk 2 1) 8 (.tmp 19) (.tmp 36))⟩, ⟨(.some 6), .none, .false, (.mv (.tmp 37))⟩])) (.reg [⟨(.some 17), .none, .false, (.mv (.tmp 7))⟩, ⟨(.some 18), .none, .false, (.bin .add (.tmp 17) (.const (Go.Value.int Go.IntKind.i64 1)))⟩, ⟨(.some 7), .none, .false, (.mv (.tmp 18))⟩])))))) (.seq (.reg [⟨(.some 38), .none, .false, (.mv (.tmp 6))⟩, ⟨(.some 4), .none, .false, (.mv (.tmp 38))⟩, ⟨(.some 5), .none, .false, (.mv (.const (Go.Value.int Go.IntKind.i64 0)))⟩]) .ret)))))
set_option maxRecDepth 100000 in
theorem S.ok20 : stripF Try.prog Try.f20 = some S.s20 := by kernel_rfl
set_option maxRecDepth 10000
set_option maxHeartbeats 4000000
/-- The first so many cells of a step. -/
def stE (n : Int) (l : List Int) (k : Nat) : List Int := (List.range k).map fun i => el n (l.getD i 0) (l.getD (i + 1) 0) (l.getD (i + 2) 0)
theorem stE_len {n : Int} {l : List Int} {k : Nat} : (stE n l k).length = k := by unfold stE; simp
theorem stE_succ {n : Int} {l : List Int} {k : Nat} {a b c : Int} (h0 : l[k]? = some a) (h1 : l[k + 1]? = some b) (h2 : l[k + 2]? = some c) : stE n l (k + 1) = stE n l k ++ [el n a b c] := by
  unfold stE
  rw [List.range_succ, List.map_append, List.map_singleton]
  simp [List.getD, h0, h1, h2]
theorem stE_get {n : Int} {l : List Int} {k i : Nat} (h : i < k) : (stE n l k).getD i 0 = el n (l.getD i 0) (l.getD (i + 1) 0) (l.getD (i + 2) 0) := by
  unfold stE
  rw [List.getD, List.getElem?_map, List.getElem?_range h]
  rfl
theorem stE_ok {n : Int} {l : List Int} {k : Nat} (h : k ≤ 24) : okCells (stE n l k) := by
  refine ⟨by rw [stE_len]; exact h, fun m hm => ?_⟩
  obtain ⟨i, _, rfl⟩ := List.mem_map.1 hm
  exact el_bd
theorem getD_bd {l : List Int} (h : ∀ n ∈ l, 0 ≤ n ∧ n ≤ 1) (i : Nat) : 0 ≤ l.getD i 0 ∧ l.getD i 0 ≤ 1 := by
  unfold List.getD
  cases hx : l[i]? with
  | none => exact ⟨Int.le_refl 0, by decide⟩
  | some v => exact h v (List.mem_of_getElem? hx)
theorem blks_step {n : Int} {l : List Int} {h : Nat} (hC : okCells l) : blks (stE n l (2 * h)) h = stpB (tabB n 16) (blks l (h + 1)) h := by
  unfold blks stpB
  refine List.map_congr_left fun k hk => ?_
  have hk := List.mem_range.1 hk
  have g : ∀ j, j < h + 1 → ((List.range (h + 1)).map (blkN l)).getD j 0 = blkN l j := fun j hj => by
    rw [List.getD, List.getElem?_map, List.getElem?_range hj]; rfl
  rw [g k (by omega), g (k + 1) (by omega)]
  have d0 := getD_bd hC.2 (2 * k)
  have d1 := getD_bd hC.2 (2 * k + 1)
  have d2 := getD_bd hC.2 (2 * k + 2)
  have d3 := getD_bd hC.2 (2 * k + 3)
  have e1 : blkN l k = 2 * l.getD (2 * k) 0 + l.getD (2 * k + 1) 0 := rfl
  have e2 : blkN l (k + 1) = 2 * l.getD (2 * k + 2) 0 + l.getD (2 * k + 3) 0 := by
    unfold blkN
    rw [show 2 * (k + 1) = 2 * k + 2 by omega]
  have e3 : blkN (stE n l (2 * h)) k = 2 * el n (l.getD (2 * k) 0) (l.getD (2 * k + 1) 0) (l.getD (2 * k + 2) 0) + el n (l.getD (2 * k + 1) 0) (l.getD (2 * k + 2) 0) (l.getD (2 * k + 3) 0) := by
    unfold blkN
    rw [stE_get (by omega), stE_get (by omega)]
  rw [e3, e1, e2]
  generalize l.getD (2 * k) 0 = a at *
  generalize l.getD (2 * k + 1) 0 = b at *
  generalize l.getD (2 * k + 2) 0 = c at *
  generalize l.getD (2 * k + 3) 0 = d at *
  obtain ⟨m, hm⟩ : ∃ m : Nat, (2 * a + b) * 4 + (2 * c + d) = m := ⟨((2 * a + b) * 4 + (2 * c + d)).toNat, by omega⟩
  rw [hm, Int.toNat_natCast]
  unfold tabB
  rw [List.getD, List.getElem?_map, List.getElem?_range (by omega)]
  show _ = entB n ((m / 4 : Nat) : Int) ((m % 4 : Nat) : Int)
  unfold entB
  rw [show ((m / 4 : Nat) : Int) / 2 = a by omega, show ((m / 4 : Nat) : Int) % 2 = b by omega, show ((m % 4 : Nat) : Int) / 2 = c by omega, show ((m % 4 : Nat) : Int) % 2 = d by omega]
theorem flat_blks {l : List Int} (hC : okCells l) : ∀ h, 2 * h ≤ l.length → flatB (blks l h) = l.take (2 * h)
  | 0, _ => rfl
  | h + 1, hh => by
    obtain ⟨c0, e0⟩ : ∃ c, l[2 * h]? = some c := ⟨_, List.getElem?_eq_getElem (by omega)⟩
    obtain ⟨c1, e1⟩ : ∃ c, l[2 * h + 1]? = some c := ⟨_, List.getElem?_eq_getElem (by omega)⟩
    have b0 := hC.2 c0 (List.mem_of_getElem? e0)
    have b1 := hC.2 c1 (List.mem_of_getElem? e1)
    have hb : blkN l h = 2 * c0 + c1 := by simp [blkN, List.getD, e0, e1]
    rw [blks_succ, flatB_snoc, flat_blks hC h (by omega), hb, show (2 * c0 + c1) / 2 = c0 by omega, show (2 * c0 + c1) % 2 = c1 by omega, show 2 * (h + 1) = 2 * h + 1 + 1 by omega, take_snoc e1, take_snoc e0]
    simp
theorem flat_all {l : List Int} (hC : okCells l) {h : Nat} (hl : l.length = 2 * h) : flatB (blks l h) = l := by
  rw [flat_blks hC h (by omega), ← hl, List.take_length]
/-- So many steps. -/
def itE (n : Int) (l : List Int) : Nat → List Int
  | 0 => l
  | k + 1 => stE n (itE n l k) ((itE n l k).length - 2)
theorem itE_ok {n : Int} {l : List Int} (hC : okCells l) : ∀ k, okCells (itE n l k) ∧ (itE n l k).length = l.length - 2 * k
  | 0 => ⟨hC, by simp [itE]⟩
  | k + 1 => by
    have h := itE_ok (n := n) hC k
    refine ⟨stE_ok (by have := h.1.1; omega), ?_⟩
    rw [itE, stE_len, h.2]
    omega
theorem itE_blks {n : Int} {l : List Int} {h : Nat} (hC : okCells l) (hl : l.length = 2 * h) : ∀ k, k < h → blks (itE n l k) (h - k) = itB n (blks l h) k
  | 0, _ => rfl
  | k + 1, hk => by
    have q := itE_ok (n := n) hC k
    have hs := blks_step (n := n) (l := itE n l k) (h := h - (k + 1)) q.1
    rw [itE, itB, q.2, itB_len, blks_len, show l.length - 2 * k - 2 = 2 * (h - (k + 1)) by omega, hs, show h - (k + 1) + 1 = h - k by omega, itE_blks hC hl k (by omega), show h - (k + 1) = h - k - 1 by omega]
/-- The blocks compute the steps. -/
theorem itE_flat {n : Int} {l : List Int} {h k : Nat} (hC : okCells l) (hl : l.length = 2 * h) (hk : k < h) : flatB (itB n (blks l h) k) = itE n l k := by
  have q := itE_ok (n := n) hC k
  rw [← itE_blks hC hl k hk, flat_all q.1 (by rw [q.2]; omega)]
theorem iStepE (n : Int) (l : List Int) (hn : 0 ≤ n ∧ n ≤ 255) (hC : okCells l) : Spec Try.prog 20 [vI n, vL kI (ints l)] (.tup [.c (.nw kI (ints (stE n l (l.length - 2)))), .c (.fz (iD 0))]) := by
  have hT := iElemT hn hC
  have hl := hC.1
  refine Spec.walk T.mixed Try.func20 S.ok20 (by simp [Try.f20]) fun hk => ?_
  clear hk
  unfold S.s20
  repeat' (first | refine R.mv rfl ?_ | refine R.reg ?_ | refine R.regA ?_ | refine R.tk ?_ | refine R.tkN ?_ | refine R.both ?_ ?_ | refine R.nal rfl ?_ | refine R.nal0 ?_ | refine R.kil ?_ | refine R.nil ?_ | refine R.seq ?_ | refine R.nseqF rfl rfl rfl ?_ | refine R.nseq ?_ | refine R.nblk ?_ | refine R.skip ?_ | refine R.blk ?_ | refine R.exit rfl ?_ | refine R.gRun rfl ?_ | refine R.gSkip rfl ?_ | refine R.gSkip0 rfl ?_ | refine R.gUndef rfl ?_ | refine R.gUndef0 rfl ?_ | refine R.ldEp rfl rfl (by assumption) rfl rfl ?_ | refine R.ldaEp rfl rfl (by assumption) (Nat.le_of_ble_eq_true rfl) rfl rfl ?_ | refine R.ld rfl rfl rfl ?_ | refine R.lda rfl rfl (Nat.le_of_ble_eq_true rfl) rfl ?_ | refine R.fa rfl rfl ?_ | refine R.fld rfl rfl ?_ | refine R.flda rfl rfl ?_ | refine R.lenM rfl ?_ | refine R.lenO rfl rfl ?_ | refine R.len rfl rfl ?_ | refine R.slen rfl ?_ | refine R.lss rfl rfl ?_ | refine R.leq rfl rfl ?_ | refine R.gtr rfl rfl ?_ | refine R.geq rfl rfl ?_ | refine R.eql rfl rfl ?_ | refine R.neq rfl rfl ?_ | refine R.add rfl rfl (by omega) ?_ | refine R.sub rfl rfl (by omega) ?_ | refine R.ixN rfl rfl rfl (by omega) (fun a ha => ?_) | refine R.ixM rfl rfl rfl (by omega) (fun a ha => ?_) | refine R.ixON rfl rfl rfl (by first | omega | (simp; omega)) (fun a' ha' => ?_) | refine R.ixO rfl rfl rfl (by first | omega | (simp; omega)) (fun a' ha' => ?_) | refine R.six rfl rfl (by omega) (fun a ha => ?_) | refine R.cv64 rfl (by omega) ?_ | refine R.pickT rfl rfl ?_ | refine R.pickF rfl rfl ?_ | refine R.not rfl ?_ | refine R.beql rfl rfl ?_ | refine R.bneq rfl rfl ?_ | refine R.neg rfl (by omega) ?_ | refine R.mvU rfl ?_ | refine R.ext rfl rfl ?_ | refine R.max rfl rfl ?_ | refine R.min rfl rfl ?_ | refine R.nc rfl rfl ?_ | refine R.mkf rfl ?_ | refine R.nc0 rfl rfl ?_ | refine R.al rfl ?_ | refine R.box rfl rfl rfl ?_ | refine R.stoB rfl rfl rfl rfl ⟨rfl, rfl, Nat.le_of_ble_eq_true rfl⟩ rfl ?_ | refine R.stoE _ rfl rfl rfl rfl rfl (by assumption) rfl ⟨rfl, rfl, Nat.le_of_ble_eq_true rfl⟩ ?_ | refine R.bld rfl rfl ?_ | refine R.and rfl rfl ?_ | refine R.or rfl rfl ?_ | refine R.xor rfl rfl ?_ | refine R.andNot rfl rfl ?_ | refine R.shl1 rfl rfl (by omega) (fun hp => ?_) | refine R.shr rfl rfl (by omega) ?_ | refine R.shrU1 rfl rfl ?_ | refine R.shrU rfl rfl (by omega) ?_ | refine R.cvU rfl (by omega) ?_ | refine R.quo rfl rfl (by omega) ?_ | refine R.rem rfl rfl (by omega) ?_ | refine R.eqs rfl rfl rfl rfl rfl ?_ | refine R.neqs rfl rfl rfl rfl rfl ?_ | refine R.isn rfl rfl ?_ | refine R.isnn rfl rfl ?_ | refine R.condT rfl ?_ | refine R.condF rfl ?_ | refine R.call (bor := false) rfl rfl (hT) rfl rfl rfl ?_ | refine R.call (bor := true) rfl rfl (hT) rfl rfl rfl ?_ | refine R.fcal (bor := false) rfl rfl (hT) rfl rfl rfl ?_ | refine R.fcal (bor := true) rfl rfl (hT) rfl rfl rfl ?_ | refine R.cond rfl (fun hc => ?_) (fun hc => ?_) | refine R.condN rfl (fun hc => ?_) (fun hc => ?_) | refine R.condB rfl (fun hc => ?_) (fun hc => ?_) | refine R.gP rfl (fun hc => ?_) (fun hc => ?_) | refine R.gN rfl (fun hc => ?_) (fun hc => ?_) | refine R.gB rfl (fun hc => ?_) (fun hc => ?_) | refine R.isn2 rfl (fun hc => ?_) ?_ | refine R.isn2O rfl rfl (fun hc => ?_) ?_)
  all_goals first | (exfalso; omega) | skip
  refine R.loop (G := Nat) (fun i => [(0, pvA (.int .i64 n)), (1, rdA kI (ints l)), (6, .v (.c (.own 6))), (7, pvA (.int .i64 ((i + 1 : Nat) : Int)))]) (fun i => [(6, .arr kI (ints (stE n l i)) [])]) (fun i => i ≤ l.length - 2) (fun i => l.length - i) 0 (by omega) (Weak.trans (Weak.reify 6 6 kI rfl rfl) (Weak.frame _ _ ⟨rfl, rfl, rfl, rfl, trivial⟩ ⟨rfl, trivial⟩ rfl rfl)) fun i hi => ?_
  have hii : ((i + 1 : Nat) : Int) - 1 = (i : Int) := by omega
  have hi2 : ((i + 1 : Nat) : Int) + 1 = ((i + 2 : Nat) : Int) := by omega
  by_cases hil : i + 2 < l.length
  · obtain ⟨v0, h0⟩ : ∃ v, l[i]? = some v := ⟨_, List.getElem?_eq_getElem (by omega)⟩
    obtain ⟨v1, h1⟩ : ∃ v, l[i + 1]? = some v := ⟨_, List.getElem?_eq_getElem (by omega)⟩
    obtain ⟨v2, h2⟩ : ∃ v, l[i + 2]? = some v := ⟨_, List.getElem?_eq_getElem (by omega)⟩
    have d0 := hC.2 v0 (List.mem_of_getElem? h0)
    have d1 := hC.2 v1 (List.mem_of_getElem? h1)
    have d2 := hC.2 v2 (List.mem_of_getElem? h2)
    have he := iEl n v0 v1 v2 d0 d1 d2
    repeat' (first | refine R.ixK v0 h0 rfl rfl (congrArg (fun z => pvA (.int .i64 z)) hii) ?_ | refine R.ixK v2 h2 rfl rfl (congrArg (fun z => pvA (.int .i64 z)) hi2) ?_ | refine R.ixK v1 h1 rfl rfl rfl ?_ | refine R.mv rfl ?_ | refine R.reg ?_ | refine R.regA ?_ | refine R.tk ?_ | refine R.tkN ?_ | refine R.both ?_ ?_ | refine R.nal rfl ?_ | refine R.nal0 ?_ | refine R.kil ?_ | refine R.nil ?_ | refine R.seq ?_ | refine R.nseqF rfl rfl rfl ?_ | refine R.nseq ?_ | refine R.nblk ?_ | refine R.skip ?_ | refine R.blk ?_ | refine R.exit rfl ?_ | refine R.gRun rfl ?_ | refine R.gSkip rfl ?_ | refine R.gSkip0 rfl ?_ | refine R.gUndef rfl ?_ | refine R.gUndef0 rfl ?_ | refine R.ldEp rfl rfl (by assumption) rfl rfl ?_ | refine R.ldaEp rfl rfl (by assumption) (Nat.le_of_ble_eq_true rfl) rfl rfl ?_ | refine R.ld rfl rfl rfl ?_ | refine R.lda rfl rfl (Nat.le_of_ble_eq_true rfl) rfl ?_ | refine R.fa rfl rfl ?_ | refine R.fld rfl rfl ?_ | refine R.flda rfl rfl ?_ | refine R.lenM rfl ?_ | refine R.lenO rfl rfl ?_ | refine R.len rfl rfl ?_ | refine R.slen rfl ?_ | refine R.lss rfl rfl ?_ | refine R.leq rfl rfl ?_ | refine R.gtr rfl rfl ?_ | refine R.geq rfl rfl ?_ | refine R.eql rfl rfl ?_ | refine R.neq rfl rfl ?_ | refine R.add rfl rfl (by omega) ?_ | refine R.sub rfl rfl (by omega) ?_ | refine R.ixN rfl rfl rfl (by omega) (fun a ha => ?_) | refine R.ixM rfl rfl rfl (by omega) (fun a ha => ?_) | refine R.ixON rfl rfl rfl (by first | omega | (simp; omega)) (fun a' ha' => ?_) | refine R.ixO rfl rfl rfl (by first | omega | (simp; omega)) (fun a' ha' => ?_) | refine R.six rfl rfl (by omega) (fun a ha => ?_) | refine R.cv64 rfl (by omega) ?_ | refine R.pickT rfl rfl ?_ | refine R.pickF rfl rfl ?_ | refine R.not rfl ?_ | refine R.beql rfl rfl ?_ | refine R.bneq rfl rfl ?_ | refine R.neg rfl (by omega) ?_ | refine R.mvU rfl ?_ | refine R.ext rfl rfl ?_ | refine R.max rfl rfl ?_ | refine R.min rfl rfl ?_ | refine R.nc rfl rfl ?_ | refine R.mkf rfl ?_ | refine R.nc0 rfl rfl ?_ | refine R.al rfl ?_ | refine R.box rfl rfl rfl ?_ | refine R.stoB rfl rfl rfl rfl ⟨rfl, rfl, Nat.le_of_ble_eq_true rfl⟩ rfl ?_ | refine R.stoE _ rfl rfl rfl rfl rfl (by assumption) rfl ⟨rfl, rfl, Nat.le_of_ble_eq_true rfl⟩ ?_ | refine R.bld rfl rfl ?_ | refine R.and rfl rfl ?_ | refine R.or rfl rfl ?_ | refine R.xor rfl rfl ?_ | refine R.andNot rfl rfl ?_ | refine R.shl1 rfl rfl (by omega) (fun hp => ?_) | refine R.shr rfl rfl (by omega) ?_ | refine R.shrU1 rfl rfl ?_ | refine R.shrU rfl rfl (by omega) ?_ | refine R.cvU rfl (by omega) ?_ | refine R.quo rfl rfl (by omega) ?_ | refine R.rem rfl rfl (by omega) ?_ | refine R.eqs rfl rfl rfl rfl rfl ?_ | refine R.neqs rfl rfl rfl rfl rfl ?_ | refine R.isn rfl rfl ?_ | refine R.isnn rfl rfl ?_ | refine R.condT rfl ?_ | refine R.condF rfl ?_ | refine R.call (bor := false) rfl rfl (he) rfl rfl rfl ?_ | refine R.call (bor := true) rfl rfl (he) rfl rfl rfl ?_ | refine R.fcal (bor := false) rfl rfl (he) rfl rfl rfl ?_ | refine R.fcal (bor := true) rfl rfl (he) rfl rfl rfl ?_ | refine R.bsl (f := enI) [el n v0 v1 v2] rfl rfl rfl rfl rfl ?_ | refine R.app (f := enI) (fun _ => rfl) rfl rfl rfl rfl rfl ⟨by simp only [stE_len, List.length_singleton]; omega, by simp only [stE_len, List.length_singleton]; omega⟩ ?_ | refine R.cond rfl (fun hc => ?_) (fun hc => ?_) | refine R.condN rfl (fun hc => ?_) (fun hc => ?_) | refine R.condB rfl (fun hc => ?_) (fun hc => ?_) | refine R.gP rfl (fun hc => ?_) (fun hc => ?_) | refine R.gN rfl (fun hc => ?_) (fun hc => ?_) | refine R.gB rfl (fun hc => ?_) (fun hc => ?_) | refine R.isn2 rfl (fun hc => ?_) ?_ | refine R.isn2O rfl rfl (fun hc => ?_) ?_)
    all_goals first
      | (exfalso; omega)
      | exact R.nloop (R.again (i + 1) (by omega) (by omega) ⟨rfl, rfl, rfl, rfl, trivial⟩ ⟨arr_eq (stE_succ h0 h1 h2).symm, trivial⟩ rfl rfl)
      | skip
  obtain rfl : i = l.length - 2 := by omega
  repeat' (first | refine R.mv rfl ?_ | refine R.reg ?_ | refine R.regA ?_ | refine R.tk ?_ | refine R.tkN ?_ | refine R.both ?_ ?_ | refine R.nal rfl ?_ | refine R.nal0 ?_ | refine R.kil ?_ | refine R.nil ?_ | refine R.seq ?_ | refine R.nseqF rfl rfl rfl ?_ | refine R.nseq ?_ | refine R.nblk ?_ | refine R.skip ?_ | refine R.blk ?_ | refine R.exit rfl ?_ | refine R.gRun rfl ?_ | refine R.gSkip rfl ?_ | refine R.gSkip0 rfl ?_ | refine R.gUndef rfl ?_ | refine R.gUndef0 rfl ?_ | refine R.ldEp rfl rfl (by assumption) rfl rfl ?_ | refine R.ldaEp rfl rfl (by assumption) (Nat.le_of_ble_eq_true rfl) rfl rfl ?_ | refine R.ld rfl rfl rfl ?_ | refine R.lda rfl rfl (Nat.le_of_ble_eq_true rfl) rfl ?_ | refine R.fa rfl rfl ?_ | refine R.fld rfl rfl ?_ | refine R.flda rfl rfl ?_ | refine R.lenM rfl ?_ | refine R.lenO rfl rfl ?_ | refine R.len rfl rfl ?_ | refine R.slen rfl ?_ | refine R.lss rfl rfl ?_ | refine R.leq rfl rfl ?_ | refine R.gtr rfl rfl ?_ | refine R.geq rfl rfl ?_ | refine R.eql rfl rfl ?_ | refine R.neq rfl rfl ?_ | refine R.add rfl rfl (by omega) ?_ | refine R.sub rfl rfl (by omega) ?_ | refine R.ixN rfl rfl rfl (by omega) (fun a ha => ?_) | refine R.ixM rfl rfl rfl (by omega) (fun a ha => ?_) | refine R.ixON rfl rfl rfl (by first | omega | (simp; omega)) (fun a' ha' => ?_) | refine R.ixO rfl rfl rfl (by first | omega | (simp; omega)) (fun a' ha' => ?_) | refine R.six rfl rfl (by omega) (fun a ha => ?_) | refine R.cv64 rfl (by omega) ?_ | refine R.pickT rfl rfl ?_ | refine R.pickF rfl rfl ?_ | refine R.not rfl ?_ | refine R.beql rfl rfl ?_ | refine R.bneq rfl rfl ?_ | refine R.neg rfl (by omega) ?_ | refine R.mvU rfl ?_ | refine R.ext rfl rfl ?_ | refine R.max rfl rfl ?_ | refine R.min rfl rfl ?_ | refine R.nc rfl rfl ?_ | refine R.mkf rfl ?_ | refine R.nc0 rfl rfl ?_ | refine R.al rfl ?_ | refine R.box rfl rfl rfl ?_ | refine R.stoB rfl rfl rfl rfl ⟨rfl, rfl, Nat.le_of_ble_eq_true rfl⟩ rfl ?_ | refine R.stoE _ rfl rfl rfl rfl rfl (by assumption) rfl ⟨rfl, rfl, Nat.le_of_ble_eq_true rfl⟩ ?_ | refine R.bld rfl rfl ?_ | refine R.and rfl rfl ?_ | refine R.or rfl rfl ?_ | refine R.xor rfl rfl ?_ | refine R.andNot rfl rfl ?_ | refine R.shl1 rfl rfl (by omega) (fun hp => ?_) | refine R.shr rfl rfl (by omega) ?_ | refine R.shrU1 rfl rfl ?_ | refine R.shrU rfl rfl (by omega) ?_ | refine R.cvU rfl (by omega) ?_ | refine R.quo rfl rfl (by omega) ?_ | refine R.rem rfl rfl (by omega) ?_ | refine R.eqs rfl rfl rfl rfl rfl ?_ | refine R.neqs rfl rfl rfl rfl rfl ?_ | refine R.isn rfl rfl ?_ | refine R.isnn rfl rfl ?_ | refine R.condT rfl ?_ | refine R.condF rfl ?_ | refine R.cond rfl (fun hc => ?_) (fun hc => ?_) | refine R.condN rfl (fun hc => ?_) (fun hc => ?_) | refine R.condB rfl (fun hc => ?_) (fun hc => ?_) | refine R.gP rfl (fun hc => ?_) (fun hc => ?_) | refine R.gN rfl (fun hc => ?_) (fun hc => ?_) | refine R.gB rfl (fun hc => ?_) (fun hc => ?_) | refine R.isn2 rfl (fun hc => ?_) ?_ | refine R.isn2O rfl rfl (fun hc => ?_) ?_)
  all_goals first
    | (exfalso; omega)
    | exact R.ret ⟨.inr rfl, R.outNI rfl rfl rfl rfl rfl⟩
    | skip
theorem iBlockRule (n : Int) (hn : 0 ≤ n ∧ n ≤ 255) : Spec Try.prog 17 [vI n] (.tup [.agg [.fz (iD 4), .fz (.rd kI (ints (tabB n 16)))], cI 0]) := by
  refine Spec.walk T.mixed Try.func17 S.ok17 (by simp [Try.f17]) fun hk => ?_
  unfold S.s17
  repeat' (first | refine R.mv rfl ?_ | refine R.reg ?_ | refine R.regA ?_ | refine R.tk ?_ | refine R.tkN ?_ | refine R.both ?_ ?_ | refine R.nal rfl ?_ | refine R.nal0 ?_ | refine R.kil ?_ | refine R.nil ?_ | refine R.seq ?_ | refine R.nseqF rfl rfl rfl ?_ | refine R.nseq ?_ | refine R.nblk ?_ | refine R.skip ?_ | refine R.blk ?_ | refine R.exit rfl ?_ | refine R.gRun rfl ?_ | refine R.gSkip rfl ?_ | refine R.gSkip0 rfl ?_ | refine R.gUndef rfl ?_ | refine R.gUndef0 rfl ?_ | refine R.ldEp rfl rfl (by assumption) rfl rfl ?_ | refine R.ldaEp rfl rfl (by assumption) (Nat.le_of_ble_eq_true rfl) rfl rfl ?_ | refine R.ld rfl rfl rfl ?_ | refine R.lda rfl rfl (Nat.le_of_ble_eq_true rfl) rfl ?_ | refine R.fa rfl rfl ?_ | refine R.fld rfl rfl ?_ | refine R.flda rfl rfl ?_ | refine R.lenM rfl ?_ | refine R.lenO rfl rfl ?_ | refine R.len rfl rfl ?_ | refine R.slen rfl ?_ | refine R.lss rfl rfl ?_ | refine R.leq rfl rfl ?_ | refine R.gtr rfl rfl ?_ | refine R.geq rfl rfl ?_ | refine R.eql rfl rfl ?_ | refine R.neq rfl rfl ?_ | refine R.add rfl rfl (by omega) ?_ | refine R.sub rfl rfl (by omega) ?_ | refine R.ixN rfl rfl rfl (by omega) (fun a ha => ?_) | refine R.ixM rfl rfl rfl (by omega) (fun a ha => ?_) | refine R.ixON rfl rfl rfl (by first | omega | (simp; omega)) (fun a' ha' => ?_) | refine R.ixO rfl rfl rfl (by first | omega | (simp; omega)) (fun a' ha' => ?_) | refine R.six rfl rfl (by omega) (fun a ha => ?_) | refine R.cv64 rfl (by omega) ?_ | refine R.pickT rfl rfl ?_ | refine R.pickF rfl rfl ?_ | refine R.not rfl ?_ | refine R.beql rfl rfl ?_ | refine R.bneq rfl rfl ?_ | refine R.neg rfl (by omega) ?_ | refine R.mvU rfl ?_ | refine R.ext rfl rfl ?_ | refine R.max rfl rfl ?_ | refine R.min rfl rfl ?_ | refine R.nc rfl rfl ?_ | refine R.mkf rfl ?_ | refine R.nc0 rfl rfl ?_ | refine R.al rfl ?_ | refine R.box rfl rfl rfl ?_ | refine R.stoB rfl rfl rfl rfl ⟨rfl, rfl, Nat.le_of_ble_eq_true rfl⟩ rfl ?_ | refine R.stoE _ rfl rfl rfl rfl rfl (by assumption) rfl ⟨rfl, rfl, Nat.le_of_ble_eq_true rfl⟩ ?_ | refine R.bld rfl rfl ?_ | refine R.and rfl rfl ?_ | refine R.or rfl rfl ?_ | refine R.xor rfl rfl ?_ | refine R.andNot rfl rfl ?_ | refine R.shl1 rfl rfl (by omega) (fun hp => ?_) | refine R.shr rfl rfl (by omega) ?_ | refine R.shrU1 rfl rfl ?_ | refine R.shrU rfl rfl (by omega) ?_ | refine R.cvU rfl (by omega) ?_ | refine R.quo rfl rfl (by omega) ?_ | refine R.rem rfl rfl (by omega) ?_ | refine R.eqs rfl rfl rfl rfl rfl ?_ | refine R.neqs rfl rfl rfl rfl rfl ?_ | refine R.isn rfl rfl ?_ | refine R.isnn rfl rfl ?_ | refine R.condT rfl ?_ | refine R.condF rfl ?_ | refine R.call (bor := false) rfl rfl (iWinT hn) rfl rfl rfl ?_ | refine R.call (bor := true) rfl rfl (iWinT hn) rfl rfl rfl ?_ | refine R.fcal (bor := false) rfl rfl (iWinT hn) rfl rfl rfl ?_ | refine R.fcal (bor := true) rfl rfl (iWinT hn) rfl rfl rfl ?_ | refine R.call (bor := false) rfl rfl (iBlkRule n) rfl rfl rfl ?_ | refine R.call (bor := true) rfl rfl (iBlkRule n) rfl rfl rfl ?_ | refine R.fcal (bor := false) rfl rfl (iBlkRule n) rfl rfl rfl ?_ | refine R.fcal (bor := true) rfl rfl (iBlkRule n) rfl rfl rfl ?_ | refine R.cond rfl (fun hc => ?_) (fun hc => ?_) | refine R.condN rfl (fun hc => ?_) (fun hc => ?_) | refine R.condB rfl (fun hc => ?_) (fun hc => ?_) | refine R.gP rfl (fun hc => ?_) (fun hc => ?_) | refine R.gN rfl (fun hc => ?_) (fun hc => ?_) | refine R.gB rfl (fun hc => ?_) (fun hc => ?_) | refine R.isn2 rfl (fun hc => ?_) ?_ | refine R.isn2O rfl rfl (fun hc => ?_) ?_)
  all_goals first
    | (exfalso; omega)
    | exact R.ret ⟨.inr rfl, R.outR rfl (.cons (R.cell rfl rfl T.ty40 (Nat.le_of_ble_eq_true rfl) rfl) (.cons (R.tmp rfl) .nil)) rfl rfl rfl ⟨by show ¬ (2 = 1); omega, rfl⟩⟩
    | skip
theorem iValidRule (n : Int) : Spec Try.prog 19 [.agg [iD 4, .rd kI (ints (tabB n 16))]] (oB true) := by
  have hb := iBelowP (tabB n 16) 4 (by omega) (by omega)
  have h4 : ∀ m ∈ tabB n 16, 0 ≤ m ∧ m ≤ 4 - 1 := fun m hm => by
    obtain ⟨i, _, rfl⟩ := List.mem_map.1 hm
    have := entB_bd (n := n) (i := ((i / 4 : Nat) : Int)) (j := ((i % 4 : Nat) : Int))
    omega
  rw [bP_iff.2 h4] at hb
  have hl := tabB_len (n := n) (k := 16)
  refine Spec.walk T.mixed Try.func19 S.ok19 (by simp [Try.f19]) fun hk => ?_
  clear hk
  unfold S.s19
  repeat' (first | refine R.mv rfl ?_ | refine R.reg ?_ | refine R.regA ?_ | refine R.tk ?_ | refine R.tkN ?_ | refine R.both ?_ ?_ | refine R.nal rfl ?_ | refine R.nal0 ?_ | refine R.kil ?_ | refine R.nil ?_ | refine R.seq ?_ | refine R.nseqF rfl rfl rfl ?_ | refine R.nseq ?_ | refine R.nblk ?_ | refine R.skip ?_ | refine R.blk ?_ | refine R.exit rfl ?_ | refine R.gRun rfl ?_ | refine R.gSkip rfl ?_ | refine R.gSkip0 rfl ?_ | refine R.gUndef rfl ?_ | refine R.gUndef0 rfl ?_ | refine R.ldEp rfl rfl (by assumption) rfl rfl ?_ | refine R.ldaEp rfl rfl (by assumption) (Nat.le_of_ble_eq_true rfl) rfl rfl ?_ | refine R.ld rfl rfl rfl ?_ | refine R.lda rfl rfl (Nat.le_of_ble_eq_true rfl) rfl ?_ | refine R.fa rfl rfl ?_ | refine R.fld rfl rfl ?_ | refine R.flda rfl rfl ?_ | refine R.lenM rfl ?_ | refine R.lenO rfl rfl ?_ | refine R.len rfl rfl ?_ | refine R.slen rfl ?_ | refine R.lss rfl rfl ?_ | refine R.leq rfl rfl ?_ | refine R.gtr rfl rfl ?_ | refine R.geq rfl rfl ?_ | refine R.eql rfl rfl ?_ | refine R.neq rfl rfl ?_ | refine R.add rfl rfl (by omega) ?_ | refine R.sub rfl rfl (by omega) ?_ | refine R.ixN rfl rfl rfl (by omega) (fun a ha => ?_) | refine R.ixM rfl rfl rfl (by omega) (fun a ha => ?_) | refine R.ixON rfl rfl rfl (by first | omega | (simp; omega)) (fun a' ha' => ?_) | refine R.ixO rfl rfl rfl (by first | omega | (simp; omega)) (fun a' ha' => ?_) | refine R.six rfl rfl (by omega) (fun a ha => ?_) | refine R.cv64 rfl (by omega) ?_ | refine R.pickT rfl rfl ?_ | refine R.pickF rfl rfl ?_ | refine R.not rfl ?_ | refine R.beql rfl rfl ?_ | refine R.bneq rfl rfl ?_ | refine R.neg rfl (by omega) ?_ | refine R.mvU rfl ?_ | refine R.ext rfl rfl ?_ | refine R.max rfl rfl ?_ | refine R.min rfl rfl ?_ | refine R.nc rfl rfl ?_ | refine R.mkf rfl ?_ | refine R.nc0 rfl rfl ?_ | refine R.al rfl ?_ | refine R.box rfl rfl rfl ?_ | refine R.stoB rfl rfl rfl rfl ⟨rfl, rfl, Nat.le_of_ble_eq_true rfl⟩ rfl ?_ | refine R.stoE _ rfl rfl rfl rfl rfl (by assumption) rfl ⟨rfl, rfl, Nat.le_of_ble_eq_true rfl⟩ ?_ | refine R.bld rfl rfl ?_ | refine R.and rfl rfl ?_ | refine R.or rfl rfl ?_ | refine R.xor rfl rfl ?_ | refine R.andNot rfl rfl ?_ | refine R.shl1 rfl rfl (by omega) (fun hp => ?_) | refine R.shr rfl rfl (by omega) ?_ | refine R.shrU1 rfl rfl ?_ | refine R.shrU rfl rfl (by omega) ?_ | refine R.cvU rfl (by omega) ?_ | refine R.quo rfl rfl (by omega) ?_ | refine R.rem rfl rfl (by omega) ?_ | refine R.eqs rfl rfl rfl rfl rfl ?_ | refine R.neqs rfl rfl rfl rfl rfl ?_ | refine R.isn rfl rfl ?_ | refine R.isnn rfl rfl ?_ | refine R.condT rfl ?_ | refine R.condF rfl ?_ | refine R.call (bor := false) rfl rfl (iWinT ⟨by omega, by omega⟩) rfl rfl rfl ?_ | refine R.call (bor := true) rfl rfl (iWinT ⟨by omega, by omega⟩) rfl rfl rfl ?_ | refine R.fcal (bor := false) rfl rfl (iWinT ⟨by omega, by omega⟩) rfl rfl rfl ?_ | refine R.fcal (bor := true) rfl rfl (iWinT ⟨by omega, by omega⟩) rfl rfl rfl ?_ | refine R.call (bor := false) rfl rfl (hb) rfl rfl rfl ?_ | refine R.call (bor := true) rfl rfl (hb) rfl rfl rfl ?_ | refine R.fcal (bor := false) rfl rfl (hb) rfl rfl rfl ?_ | refine R.fcal (bor := true) rfl rfl (hb) rfl rfl rfl ?_ | refine R.mul rfl rfl ⟨by omega, by omega⟩ ?_ | refine R.cond rfl (fun hc => ?_) (fun hc => ?_) | refine R.condN rfl (fun hc => ?_) (fun hc => ?_) | refine R.condB rfl (fun hc => ?_) (fun hc => ?_) | refine R.gP rfl (fun hc => ?_) (fun hc => ?_) | refine R.gN rfl (fun hc => ?_) (fun hc => ?_) | refine R.gB rfl (fun hc => ?_) (fun hc => ?_) | refine R.isn2 rfl (fun hc => ?_) ?_ | refine R.isn2O rfl rfl (fun hc => ?_) ?_)
  all_goals first
    | (exfalso; omega)
    | exact R.ret ⟨.inr rfl, R.outB rfl rfl rfl⟩
    | skip
end Go.Proofs.Ytddklkoocpjjkaa
