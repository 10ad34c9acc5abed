/- Designs: their runs. -/
import Derived.Test.YtnkfbodolbfjpaaDes1
import Derived.Test.YtnkfbodolbfjpaaOutN
namespace Go.Proofs.Ytnkfbodolbfjpaa
open Go.RowKit
set_option maxRecDepth 100000 in
def S.s77 : SC := (.seq (.reg [⟨(.some 2), .none, .false, (.mv (.const (Go.Value.slice none 0 0)))⟩]) (.seq (.reg [⟨(.some 3), .none, .false, (.bsl (.mk 2 1) 0 [])⟩, ⟨(.some 4), .none, .false, (.mv (.tmp 0))⟩, ⟨(.some 5), .none, .false, (.app (.mk 2 1) 8 (.tmp 3) (.tmp 4))⟩, ⟨(.some 2), .none, .false, (.mv (.tmp 5))⟩]) .ret))
set_option maxRecDepth 100000 in
theorem S.ok77 : stripF Try.prog Try.f77 = some S.s77 := by kernel_rfl
set_option maxRecDepth 100000 in
def S.s80 : SC := (.seq (.reg [⟨(.some 2), .none, .false, (.mv (.const (Go.Value.slice none 0 0)))⟩]) (.seq (.seq (.reg [⟨(.some 3), .none, .false, (.mv (.tmp 0))⟩, ⟨(.some 4), .none, .false, (.isn .false (.tmp 3))⟩]) (.cond (.tmp 4) (.seq (.reg [⟨(.some 2), .none, .false, (.mv (.const (Go.Value.slice none 0 0)))⟩]) .ret) .skip)) (.seq (.reg [⟨(.some 5), .none, .false, (.bsl (.mk 2 1) 0 [])⟩, ⟨(.some 6), .none, .false, (.mv (.tmp 0))⟩, ⟨(.some 7), .none, .false, (.app (.mk 2 1) 8 (.tmp 5) (.tmp 6))⟩, ⟨(.some 2), .none, .false, (.mv (.tmp 7))⟩]) .ret)))
set_option maxRecDepth 100000 in
theorem S.ok80 : stripF Try.prog Try.f80 = some S.s80 := by kernel_rfl
set_option maxRecDepth 100000 in
def S.s185 : SC := (.seq (.reg [⟨(.some 6), .none, .false, (.mv (.const (Go.Value.int Go.IntKind.i64 0)))⟩]) (.seq (.seq (.reg [⟨(.some 7), .none, .false, (.mv (.const (Go.Value.int Go.IntKind.i64 0)))⟩]) (.block 0 (.loop (.seq (.seq (.reg [⟨(.some 8), .none, .false, (.mv (.tmp 7))⟩, ⟨(.some 9), .none, .false, (.mv (.tmp 0))⟩, ⟨(.some 10), .none, .false, (.nc (.tmp 9))⟩, ⟨(.some 11), .none, .false, (.fa 2 (.tmp 10))⟩, ⟨(.some 12), .none, .false, (.ld .false 1 (.tmp 11))⟩, ⟨(.some 13), .none, .false, (.len (.tmp 12))⟩, ⟨(.some 14), .none, .false, (.bin .lss (.tmp 8) (.tmp 13))⟩]) (.cond (.tmp 14) .skip (.exit 0))) (.seq (.block 1 (.seq (.reg [⟨(.some 17), .none, .false, (.mv (.tmp 0))⟩, ⟨(.some 18), .none, .false, (.nc (.tmp 17))⟩, ⟨(.some 19), .none, .false, (.fa 2 (.tmp 18))⟩, ⟨(.some 20), .none, .false, (.ld .false 1 (.tmp 19))⟩, ⟨(.some 21), .none, .false, (.mv (.tmp 7))⟩, ⟨(.some 22), .none, .false, (.ix (.mk 258 5) (.tmp 20) (.tmp 21))⟩, ⟨(.some 23), .none, .false, (.fa 3 (.tmp 22))⟩, ⟨(.some 24), .none, .false, (.ld .false 1 (.tmp 23))⟩, ⟨(.some 25), .none, .false, (.mv (.tmp 1))⟩, ⟨(.some 26), .none, .false, (.bin .eql (.tmp 24) (.tmp 25))⟩, ⟨(.some 27), .none, .false, (.mv (.tmp 26))⟩, ⟨(.some 28), (.some (27, .true)), .false, (.mv (.tmp 0))⟩, ⟨(.some 29), (.some (27, .true)), .false, (.nc (.tmp 28))⟩, ⟨(.some 30), (.some (27, .true)), .false, (.fa 2 (.tmp 29))⟩, ⟨(.some 31), (.some (27, .true)), .false, (.ld .false 1 (.tmp 30))⟩, ⟨(.some 32), (.some (27, .true)), .false, (.mv (.tmp 7))⟩, ⟨(.some 33), (.some (27, .true)), .false, (.ix (.mk 258 5) (.tmp 31) (.tmp 32))⟩, ⟨(.some 34), (.some (27, .true)), .false, (.fa 4 (.tmp 33))⟩, ⟨(.some 35), (.some (27, .true)), .false, (.ld .false 1 (.tmp 34))⟩, ⟨(.some 36), (.some (27, .true)), .false, (.mv (.tmp 2))⟩, ⟨(.some 37), (.some (27, .true)), .false, (.bin .eql (.tmp 35) (.tmp 36))⟩, ⟨(.some 38), .none, .false, (.pick (.tmp 27) (.tmp 37) (.const (Go.Value.bool false)))⟩]) (.cond (.tmp 38) (.seq (.reg [⟨(.some 39), .none, .false, (.mv (.tmp 7))⟩, ⟨(.some 6), .none, .false, (.mv (.tmp 39))⟩]) .ret) .skip))) (.reg [⟨(.some 15), .none, .false, (.mv (.tmp 7))⟩, ⟨(.some 16), .none, .false, (.bin .add (.tmp 15) (.const (Go.Value.int Go.IntKind.i64 1)))⟩, ⟨(.some 7), .none, .false, (.mv (.tmp 16))⟩])))))) (.seq (.reg [⟨(.some 6), .none, .false, (.mv (.const (Go.Value.int Go.IntKind.i64 (-1))))⟩]) .ret)))
set_option maxRecDepth 100000 in
theorem S.ok185 : stripF Try.prog Try.f185 = some S.s185 := by kernel_rfl
set_option maxRecDepth 10000
set_option maxHeartbeats 4000000
abbrev fitI (ps : List TPiece) (b : List Int) (w : Int) (i : Nat) : Int := idxOf (pq (b.getD i 0) w) ps
/-- One place of a row. -/
def stepR (ps : List TPiece) (i : Nat) (q : List Int × List Int × Int) : Option (List Int × List Int × Int) :=
  if fitI ps q.2.1 q.2.2 i < 0 then none else (ps[(fitI ps q.2.1 q.2.2 i).toNat]?).map fun v => (q.1 ++ [fitI ps q.2.1 q.2.2 i], q.2.1.set i v.fNorth, v.fEast)
def rowS (ps : List TPiece) (b : List Int) (w : Int) : Nat → Option (List Int × List Int × Int)
  | 0 => some ([], b, w)
  | i + 1 => (rowS ps b w i).bind (stepR ps i)
theorem rowS_none {ps : List TPiece} {b : List Int} {w : Int} {i : Nat} (h : rowS ps b w i = none) : ∀ n, rowS ps b w (i + n) = none
  | 0 => h
  | n + 1 => by
    show (rowS ps b w (i + n)).bind _ = none
    rw [rowS_none h n]
    rfl
theorem rowS_len {ps : List TPiece} {b : List Int} {w : Int} : ∀ (i : Nat) (q : List Int × List Int × Int), rowS ps b w i = some q → q.1.length = i ∧ q.2.1.length = b.length
  | 0, q, h => by
    simp only [rowS, Option.some.injEq] at h
    subst h
    exact ⟨rfl, rfl⟩
  | i + 1, q, h => by
    simp only [rowS, Option.bind_eq_some_iff] at h
    obtain ⟨r, h1, h2⟩ := h
    obtain ⟨h3, h4⟩ := rowS_len i r h1
    unfold stepR at h2
    split at h2
    · cases h2
    · rw [Option.map_eq_some_iff] at h2
      obtain ⟨v, _, rfl⟩ := h2
      simp [h3, h4]
def runS (ps : List TPiece) (left b : List Int) : Nat → Option (List Int × List Int)
  | 0 => some ([], b)
  | y + 1 => (runS ps left b y).bind fun q => (rowS ps q.2 (left.getD y 0) b.length).map fun r => (q.1 ++ r.1, r.2.1)
theorem runS_none {ps : List TPiece} {left b : List Int} {i : Nat} (h : runS ps left b i = none) : ∀ n, runS ps left b (i + n) = none
  | 0 => h
  | n + 1 => by
    show (runS ps left b (i + n)).bind _ = none
    rw [runS_none h n]
    rfl
theorem runS_len {ps : List TPiece} {left b : List Int} : ∀ (i : Nat) (q : List Int × List Int), runS ps left b i = some q → q.1.length = i * b.length ∧ q.2.length = b.length
  | 0, q, h => by
    simp only [runS, Option.some.injEq] at h
    subst h
    simp
  | i + 1, q, h => by
    simp only [runS, Option.bind_eq_some_iff, Option.map_eq_some_iff] at h
    obtain ⟨r, h1, s, h2, rfl⟩ := h
    obtain ⟨h3, h4⟩ := runS_len i r h1
    obtain ⟨h5, h6⟩ := rowS_len _ _ h2
    simp [h3, h4, h5, h6, Nat.succ_mul]
/-- The run of a design: the pieces' places, and whether there are such. -/
def fRunS (d : TDesign) : List Int × Bool := match runS d.fPieces d.fLeft d.fBottom d.fLeft.length with
  | some q => (q.1, true)
  | none => ([], false)
theorem fRunS_some {d : TDesign} {q : List Int × List Int} (h : runS d.fPieces d.fLeft d.fBottom d.fLeft.length = some q) : fRunS d = (q.1, true) := by unfold fRunS; rw [h]
theorem fRunS_none {d : TDesign} (h : runS d.fPieces d.fLeft d.fBottom d.fLeft.length = none) : fRunS d = ([], false) := by unfold fRunS; rw [h]
open Classical in
noncomputable def fRunD (d : TDesign) : List Int × Int := if okDes d then (if (fRunS d).2 = true then ((fRunS d).1, 0) else ([], 3)) else ([], 1)
theorem runS_bd {d : TDesign} (h : okDes d) {i : Nat} {q : List Int × List Int} (hq : runS d.fPieces d.fLeft d.fBottom i = some q) : q.1.length ≤ i * 10 ∧ q.2.length = d.fBottom.length := by
  obtain ⟨h1, h2⟩ := runS_len _ _ hq
  have hb := h.1.1
  refine ⟨?_, h2⟩
  rw [h1]
  exact Nat.mul_le_mul_left _ (by omega)
theorem fRunD_len {d : TDesign} : (fRunD d).1.length ≤ 1048576 := by
  unfold fRunD
  split
  · rename_i h
    split
    · unfold fRunS
      split
      · rename_i q hq
        have := (runS_bd h hq).1
        have := h.2.1.1
        show q.1.length ≤ _
        omega
      · simp
    · simp
  · simp
/-- One place: either there is no piece, or there is one. -/
theorem fit_cases (ps : List TPiece) (b : List Int) (w s : Int) (i : Nat) (hb : b[i]? = some s) (q : List Int × List Int × Int) (hq : q.2 = (b, w)) :
    (idxOf (pq s w) ps = -1 ∧ stepR ps i q = none) ∨ ∃ (k : Nat) (v : TPiece), idxOf (pq s w) ps = k ∧ ps[k]? = some v ∧ stepR ps i q = some (q.1 ++ [(k : Int)], b.set i v.fNorth, v.fEast) := by
  have hs : b.getD i 0 = s := by simp [List.getD, hb]
  have hf : fitI ps q.2.1 q.2.2 i = idxOf (pq s w) ps := by rw [hq]; show idxOf (pq (b.getD i 0) w) ps = _; rw [hs]
  rcases idxOf_cases (pq s w) ps with ⟨h1, _⟩ | ⟨k, v, h1, h2, _, _⟩
  · exact .inl ⟨h1, by unfold stepR; rw [hf, h1]; rfl⟩
  · refine .inr ⟨k, v, h1, h2, ?_⟩
    unfold stepR
    rw [hf, h1, if_neg (by omega), Int.toNat_natCast, h2, hq]
    rfl
theorem lib_cloneI2 (l : List Int) (h : l.length ≤ 1048576) : Spec Try.prog 80 [vL kI (ints l)] (oN kI (ints l)) := by
  refine Spec.walk T.mixed Try.func80 S.ok80 (by simp [Try.f80]) fun hk => ?_
  unfold S.s80
  repeat' (first | refine R.mv rfl ?_ | refine R.reg ?_ | refine R.nil ?_ | refine R.seq ?_ | refine R.nseq ?_ | refine R.nblk ?_ | refine R.skip ?_ | refine R.blk ?_ | refine R.exit rfl ?_ | refine R.isn rfl rfl ?_ | refine R.isnn rfl rfl ?_ | refine R.condT rfl ?_ | refine R.condF rfl ?_ | refine R.bsl (f := enI) ([] : List Int) rfl rfl rfl rfl rfl ?_ | refine R.app (f := enI) (fun _ => rfl) rfl rfl rfl rfl rfl ⟨by simp only [List.length_nil]; omega, by simp only [List.length_nil]; omega⟩ ?_ | refine R.cond rfl (fun hc => ?_) (fun hc => ?_) | refine R.condN rfl (fun hc => ?_) (fun hc => ?_) | refine R.condB rfl (fun hc => ?_) (fun hc => ?_) | refine R.isn2 rfl (fun hc => ?_) ?_ | refine R.isn2O rfl rfl (fun hc => ?_) ?_)
  · subst hc; exact R.ret ⟨.inr rfl, R.outE rfl rfl rfl⟩
  · exact R.ret ⟨.inr rfl, R.outN rfl rfl (arr_eq (by simp))⟩
theorem sOwn2 (l : List Int) (h : l.length ≤ 1048576) : Spec Try.prog 77 [vL kI (ints l)] (oN kI (ints l)) := by
  refine Spec.walk T.mixed Try.func77 S.ok77 (by simp [Try.f77]) fun hk => ?_
  unfold S.s77
  repeat' (first | refine R.mv rfl ?_ | refine R.reg ?_ | refine R.nil ?_ | refine R.seq ?_ | refine R.nseq ?_ | refine R.nblk ?_ | refine R.skip ?_ | refine R.blk ?_ | refine R.exit rfl ?_ | refine R.condT rfl ?_ | refine R.condF rfl ?_ | refine R.bsl (f := enI) ([] : List Int) rfl rfl rfl rfl rfl ?_ | refine R.app (f := enI) (fun _ => rfl) rfl rfl rfl rfl rfl ⟨by simp only [List.length_nil]; omega, by simp only [List.length_nil]; omega⟩ ?_ | refine R.cond rfl (fun hc => ?_) (fun hc => ?_) | refine R.condN rfl (fun hc => ?_) (fun hc => ?_) | refine R.condB rfl (fun hc => ?_) (fun hc => ?_))
  exact R.ret ⟨.inr rfl, R.outN rfl rfl (arr_eq (by simp))⟩
theorem sFit (d : TDesign) (s w : Int) : Spec Try.prog 185 [vP (enDesign d), vI s, vI w] (oI (idxOf (pq s w) d.fPieces)) := by
  refine Spec.walk T.mixed Try.func185 S.ok185 (by simp [Try.f185]) fun hk => ?_
  have hlen := ((K.c hk 0 rfl).cells (.rd kPiece (d.fPieces.map enPiece)) (by simp)).lenM
  unfold S.s185
  repeat' (first | refine R.mv rfl ?_ | refine R.reg ?_ | refine R.nil ?_ | refine R.seq ?_ | refine R.nseq ?_ | refine R.nblk ?_ | refine R.skip ?_ | refine R.blk ?_ | refine R.exit rfl ?_ | refine R.gRun rfl ?_ | refine R.gSkip rfl ?_ | refine R.gSkip0 rfl ?_ | refine R.gUndef rfl ?_ | refine R.gUndef0 rfl ?_ | refine R.ldEp rfl rfl (by assumption) rfl rfl ?_ | refine R.ldaEp rfl rfl (by assumption) (Nat.le_of_ble_eq_true rfl) rfl rfl ?_ | refine R.ld rfl rfl rfl ?_ | refine R.lda rfl rfl (Nat.le_of_ble_eq_true rfl) rfl ?_ | refine R.fa rfl rfl ?_ | refine R.lenM rfl ?_ | refine R.lenO rfl rfl ?_ | refine R.len rfl rfl ?_ | refine R.lss rfl rfl ?_ | refine R.eql rfl rfl ?_ | refine R.add rfl rfl (by omega) ?_ | refine R.ixN rfl rfl rfl (by omega) (fun a ha => ?_) | refine R.ixM rfl rfl rfl (by omega) (fun a ha => ?_) | refine R.ixON rfl rfl rfl (by first | omega | (simp; omega)) (fun a' ha' => ?_) | refine R.ixO rfl rfl rfl (by first | omega | (simp; omega)) (fun a' ha' => ?_) | refine R.pickT rfl rfl ?_ | refine R.pickF rfl rfl ?_ | refine R.nc rfl rfl ?_ | refine R.nc0 rfl rfl ?_ | refine R.condT rfl ?_ | refine R.condF rfl ?_ | refine R.cond rfl (fun hc => ?_) (fun hc => ?_) | refine R.condN rfl (fun hc => ?_) (fun hc => ?_) | refine R.condB rfl (fun hc => ?_) (fun hc => ?_) | refine R.gP rfl (fun hc => ?_) (fun hc => ?_) | refine R.gN rfl (fun hc => ?_) (fun hc => ?_) | refine R.gB rfl (fun hc => ?_) (fun hc => ?_))
  refine R.loop (G := Nat) (fun i => [(0, .v (.c (.d (.rp (enDesign d))))), (1, pvA (.int .i64 s)), (2, pvA (.int .i64 w)), (7, pvA (.int .i64 i))]) (fun _ => []) (fun i => i ≤ d.fPieces.length ∧ ∀ b ∈ d.fPieces.take i, pq s w b = false) (fun i => d.fPieces.length - i) 0 ⟨by omega, by simp⟩ (Weak.frame _ _ ⟨rfl, rfl, rfl, rfl, trivial⟩ trivial rfl rfl) fun i hi => ?_
  obtain ⟨hi, hu⟩ := hi
  by_cases hil : i < d.fPieces.length
  · obtain ⟨v, hv⟩ : ∃ v, d.fPieces[i]? = some v := ⟨_, List.getElem?_eq_getElem hil⟩
    repeat' (first | refine R.ixK v hv rfl rfl rfl ?_ | refine R.mv rfl ?_ | refine R.reg ?_ | refine R.nil ?_ | refine R.seq ?_ | refine R.nseq ?_ | refine R.nblk ?_ | refine R.skip ?_ | refine R.blk ?_ | refine R.exit rfl ?_ | refine R.gRun rfl ?_ | refine R.gSkip rfl ?_ | refine R.gSkip0 rfl ?_ | refine R.gUndef rfl ?_ | refine R.gUndef0 rfl ?_ | refine R.ldEp rfl rfl (by assumption) rfl rfl ?_ | refine R.ldaEp rfl rfl (by assumption) (Nat.le_of_ble_eq_true rfl) rfl rfl ?_ | refine R.ld rfl rfl rfl ?_ | refine R.lda rfl rfl (Nat.le_of_ble_eq_true rfl) rfl ?_ | refine R.fa rfl rfl ?_ | refine R.lenM rfl ?_ | refine R.lenO rfl rfl ?_ | refine R.len rfl rfl ?_ | refine R.lss rfl rfl ?_ | refine R.eql rfl rfl ?_ | refine R.add rfl rfl (by omega) ?_ | refine R.ixN rfl rfl rfl (by omega) (fun a ha => ?_) | refine R.ixM rfl rfl rfl (by omega) (fun a ha => ?_) | refine R.ixON rfl rfl rfl (by first | omega | (simp; omega)) (fun a' ha' => ?_) | refine R.ixO rfl rfl rfl (by first | omega | (simp; omega)) (fun a' ha' => ?_) | refine R.pickT rfl rfl ?_ | refine R.pickF rfl rfl ?_ | refine R.nc rfl rfl ?_ | refine R.nc0 rfl rfl ?_ | refine R.condT rfl ?_ | refine R.condF rfl ?_ | refine R.cond rfl (fun hc => ?_) (fun hc => ?_) | refine R.condN rfl (fun hc => ?_) (fun hc => ?_) | refine R.condB rfl (fun hc => ?_) (fun hc => ?_) | refine R.gP rfl (fun hc => ?_) (fun hc => ?_) | refine R.gN rfl (fun hc => ?_) (fun hc => ?_) | refine R.gB rfl (fun hc => ?_) (fun hc => ?_))
    all_goals first
      | (exfalso; omega)
      | (refine R.ret ⟨.inr rfl, R.outI rfl rfl ?_⟩; exact (idxOf_some hu hv (by simp_all [pq])).symm)
      | (refine R.nloop (R.again (i + 1) ⟨by omega, ?_⟩ (by omega) ⟨rfl, rfl, rfl, rfl, trivial⟩ trivial rfl rfl)
         rw [take_snoc hv]
         intro b hb
         rcases List.mem_append.1 hb with hb | hb
         · exact hu b hb
         · rw [List.mem_singleton.1 hb]; simp_all [pq])
  · repeat' (first | refine R.mv rfl ?_ | refine R.reg ?_ | refine R.nil ?_ | refine R.seq ?_ | refine R.nseq ?_ | refine R.nblk ?_ | refine R.skip ?_ | refine R.blk ?_ | refine R.exit rfl ?_ | refine R.gRun rfl ?_ | refine R.gSkip rfl ?_ | refine R.gSkip0 rfl ?_ | refine R.gUndef rfl ?_ | refine R.gUndef0 rfl ?_ | refine R.ldEp rfl rfl (by assumption) rfl rfl ?_ | refine R.ldaEp rfl rfl (by assumption) (Nat.le_of_ble_eq_true rfl) rfl rfl ?_ | refine R.ld rfl rfl rfl ?_ | refine R.lda rfl rfl (Nat.le_of_ble_eq_true rfl) rfl ?_ | refine R.fa rfl rfl ?_ | refine R.lenM rfl ?_ | refine R.lenO rfl rfl ?_ | refine R.len rfl rfl ?_ | refine R.lss rfl rfl ?_ | refine R.eql rfl rfl ?_ | refine R.add rfl rfl (by omega) ?_ | refine R.ixN rfl rfl rfl (by omega) (fun a ha => ?_) | refine R.ixM rfl rfl rfl (by omega) (fun a ha => ?_) | refine R.ixON rfl rfl rfl (by first | omega | (simp; omega)) (fun a' ha' => ?_) | refine R.ixO rfl rfl rfl (by first | omega | (simp; omega)) (fun a' ha' => ?_) | refine R.pickT rfl rfl ?_ | refine R.pickF rfl rfl ?_ | refine R.nc rfl rfl ?_ | refine R.nc0 rfl rfl ?_ | refine R.condT rfl ?_ | refine R.condF rfl ?_ | refine R.cond rfl (fun hc => ?_) (fun hc => ?_) | refine R.condN rfl (fun hc => ?_) (fun hc => ?_) | refine R.condB rfl (fun hc => ?_) (fun hc => ?_) | refine R.gP rfl (fun hc => ?_) (fun hc => ?_) | refine R.gN rfl (fun hc => ?_) (fun hc => ?_) | refine R.gB rfl (fun hc => ?_) (fun hc => ?_))
    all_goals first
      | (exfalso; omega)
      | (obtain rfl : i = d.fPieces.length := by omega
         refine R.ret ⟨.inr rfl, R.outI rfl rfl ?_⟩
         exact (idxOf_none (by simpa using hu)).symm)
end Go.Proofs.Ytnkfbodolbfjpaa
