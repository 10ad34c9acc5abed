/- Texts of one proof, one behind the other. -/
import Derived.Test.YtehkaajakapkmaaGreatFB16
import Derived.Test.YtehkaajakapkmaaGreatFB18
import Derived.Test.YtehkaajakapkmaaGreatFB19
namespace Go.Proofs.YtehkaajakapkmaaGreat
section
open Go.RowKit
set_option maxRecDepth 100000 in
def S.s17 : SC := (.seq (.reg [⟨(.some 1), .none, .false, (.box 30 (.tmp 0))⟩, ⟨(.some 2), .none, .false, (.mv (.const (Go.Value.bool false)))⟩]) (.seq (.seq (.reg [⟨(.some 5), .none, .false, (.fa 0 (.tmp 1))⟩, ⟨(.some 6), .none, .false, (.ld .false 1 (.tmp 5))⟩, ⟨(.some 7), .none, .false, (.call (.func 48) [(.tmp 6)])⟩, ⟨(.some 8), .none, .false, (.not (.tmp 7))⟩, ⟨(.some 9), .none, .false, (.mv (.tmp 8))⟩, ⟨(.some 10), (.some (9, .false)), .false, (.fa 1 (.tmp 1))⟩, ⟨(.some 11), (.some (9, .false)), .false, (.ld .false 1 (.tmp 10))⟩, ⟨(.some 12), (.some (9, .false)), .false, (.len (.tmp 11))⟩, ⟨(.some 13), (.some (9, .false)), .false, (.bin .gtr (.tmp 12) (.const (Go.Value.int Go.IntKind.i64 81)))⟩, ⟨(.some 14), .none, .false, (.pick (.tmp 9) (.const (Go.Value.bool true)) (.tmp 13))⟩, ⟨(.some 15), .none, .false, (.mv (.tmp 14))⟩, ⟨(.some 16), (.some (15, .false)), .false, (.fa 2 (.tmp 1))⟩, ⟨(.some 17), (.some (15, .false)), .false, (.ld .false 1 (.tmp 16))⟩, ⟨(.some 18), (.some (15, .false)), .false, (.len (.tmp 17))⟩, ⟨(.some 19), (.some (15, .false)), .false, (.call (.func 49) [(.tmp 18), (.const (Go.Value.int Go.IntKind.i64 1)), (.const (Go.Value.int Go.IntKind.i64 3))])⟩, ⟨(.some 20), (.some (15, .false)), .false, (.not (.tmp 19))⟩, ⟨(.some 21), .none, .false, (.pick (.tmp 15) (.const (Go.Value.bool true)) (.tmp 20))⟩]) (.cond (.tmp 21) (.seq (.reg [⟨(.some 2), .none, .false, (.mv (.const (Go.Value.bool false)))⟩]) .ret) .skip)) (.seq (.seq (.reg [⟨(.some 22), .none, .false, (.fa 1 (.tmp 1))⟩, ⟨(.some 23), .none, .false, (.ld .false 1 (.tmp 22))⟩, ⟨(.some 24), .none, .false, (.len (.tmp 23))⟩, ⟨(.some 25), .none, .false, (.mv (.const (Go.Value.int Go.IntKind.i64 0)))⟩]) (.block 0 (.loop (.seq (.reg [⟨(.some 26), .none, .false, (.bin .lss (.tmp 25) (.tmp 24))⟩]) (.seq (.cond (.tmp 26) .skip (.exit 0)) (.seq (.block 1 (.seq (.reg [⟨(.some 27), .none, .false, (.mv (.tmp 25))⟩, ⟨(.some 28), .none, .false, (.ix (.mk 56 2) (.tmp 23) (.tmp 25))⟩, ⟨(.some 29), .none, .false, (.ld .true 2 (.tmp 28))⟩, ⟨(.some 4), .none, .false, (.al 56 [(Go.Value.int Go.IntKind.i64 0), (Go.Value.int Go.IntKind.i64 0)])⟩, ⟨(.some 3), .none, .false, (.mv (.tmp 27))⟩, ⟨.none, .none, .false, (.sto 2 (.tmp 4) (.tmp 29))⟩]) (.seq (.reg [⟨(.some 30), .none, .true, (.fa 0 (.tmp 1))⟩, ⟨(.some 31), .none, .true, (.ld .false 1 (.tmp 30))⟩, ⟨(.some 32), .none, .true, (.ld .true 2 (.tmp 4))⟩, ⟨(.some 33), .none, .true, (.fcal (.func 50) [(.tmp 31), (.tmp 32)])⟩, ⟨(.some 34), .none, .true, (.not (.tmp 33))⟩, ⟨(.some 35), .none, .true, (.mv (.tmp 34))⟩, ⟨(.some 36), (.some (35, .false)), .true, (.mv (.tmp 3))⟩, ⟨(.some 37), (.some (35, .false)), .true, (.bin .gtr (.tmp 36) (.const (Go.Value.int Go.IntKind.i64 0)))⟩, ⟨(.some 38), (.some (35, .false)), .true, (.mv (.tmp 37))⟩, ⟨(.some 39), (.some (38, .true)), .true, (.fa 1 (.tmp 1))⟩, ⟨(.some 40), (.some (38, .true)), .true, (.ld .false 1 (.tmp 39))⟩, ⟨(.some 41), (.some (38, .true)), .true, (.mv (.tmp 3))⟩, ⟨(.some 42), (.some (38, .true)), .true, (.bin .sub (.tmp 41) (.const (Go.Value.int Go.IntKind.i64 1)))⟩, ⟨(.some 43), (.some (38, .true)), .true, (.ix (.mk 56 2) (.tmp 40) (.tmp 42))⟩, ⟨(.some 44), (.some (38, .true)), .true, (.ld .true 2 (.tmp 43))⟩, ⟨(.some 45), (.some (38, .true)), .true, (.ld .true 2 (.tmp 4))⟩, ⟨(.some 46), (.some (38, .true)), .false, (.call (.func 51) [(.tmp 44), (.tmp 45)])⟩, ⟨(.some 47), (.some (38, .true)), .false, (.bin .geq (.tmp 46) (.const (Go.Value.int Go.IntKind.i64 0)))⟩, ⟨(.some 48), (.some (35, .false)), .false, (.pick (.tmp 38) (.tmp 47) (.const (Go.Value.bool false)))⟩, ⟨(.some 49), .none, .false, (.pick (.tmp 35) (.const (Go.Value.bool true)) (.tmp 48))⟩]) (.cond (.tmp 49) (.seq (.reg [⟨(.some 2), .none, .false, (.mv (.const (Go.Value.bool false)))⟩]) .ret) .skip)))) (.reg [⟨(.some 50), .none, .false, (.bin .add (.tmp 25) (.const (Go.Value.int Go.IntKind.i64 1)))⟩, ⟨(.some 25), .none, .false, (.mv (.tmp 50))⟩]))))))) (.seq (.reg [⟨(.some 51), .none, .false, (.fa 2 (.tmp 1))⟩, ⟨(.some 52), .none, .false, (.ld .false 1 (.tmp 51))⟩, ⟨(.some 53), .none, .false, (.mkf 53 [(.tmp 1)])⟩, ⟨(.some 54), .none, .false, (.call (.func 52) [(.tmp 52), (.tmp 53)])⟩, ⟨(.some 55), .none, .false, (.not (.tmp 54))⟩, ⟨(.some 2), .none, .false, (.mv (.tmp 55))⟩]) .ret))))
set_option maxRecDepth 100000 in
theorem S.ok17 : stripF Tryz.prog Tryz.f17 = some S.s17 := by kernel_rfl
set_option maxRecDepth 100000 in
def S.s52 : SC := (.seq (.reg [⟨(.some 4), .none, .false, (.mv (.const (Go.Value.bool false)))⟩]) (.seq (.reg [⟨(.some 5), .none, .false, (.mv (.tmp 0))⟩, ⟨(.some 6), .none, .false, (.mv (.tmp 1))⟩, ⟨(.some 7), .none, .false, (.call (.func 84) [(.tmp 5), (.tmp 6)])⟩, ⟨(.some 8), .none, .false, (.bin .geq (.tmp 7) (.const (Go.Value.int Go.IntKind.i64 0)))⟩, ⟨(.some 4), .none, .false, (.mv (.tmp 8))⟩]) .ret))
set_option maxRecDepth 100000 in
theorem S.ok52 : stripF Tryz.prog Tryz.f52 = some S.s52 := by kernel_rfl
set_option maxRecDepth 100000 in
def S.s53 : SC := (.seq (.reg [⟨(.some 3), .none, .false, (.mv (.const (Go.Value.bool false)))⟩]) (.seq (.reg [⟨(.some 4), .none, .false, (.mv (.tmp 0))⟩, ⟨(.some 5), .none, .false, (.fa 1 (.tmp 1))⟩, ⟨(.some 6), .none, .false, (.ld .false 1 (.tmp 5))⟩, ⟨(.some 7), .none, .false, (.len (.tmp 6))⟩, ⟨(.some 8), .none, .false, (.call (.func 54) [(.tmp 4), (.tmp 7)])⟩, ⟨(.some 9), .none, .false, (.not (.tmp 8))⟩, ⟨(.some 3), .none, .false, (.mv (.tmp 9))⟩]) .ret))
set_option maxRecDepth 100000 in
theorem S.ok53 : stripF Tryz.prog Tryz.f53 = some S.s53 := by kernel_rfl
set_option maxRecDepth 100000 in
def S.s84 : SC := (.seq (.reg [⟨(.some 4), .none, .false, (.mv (.const (Go.Value.int Go.IntKind.i64 0)))⟩]) (.seq (.seq (.reg [⟨(.some 6), .none, .false, (.mv (.tmp 0))⟩, ⟨(.some 7), .none, .false, (.len (.tmp 6))⟩, ⟨(.some 8), .none, .false, (.mv (.const (Go.Value.int Go.IntKind.i64 0)))⟩]) (.block 0 (.loop (.seq (.reg [⟨(.some 9), .none, .false, (.bin .lss (.tmp 8) (.tmp 7))⟩]) (.seq (.cond (.tmp 9) .skip (.exit 0)) (.seq (.block 1 (.seq (.reg [⟨(.some 10), .none, .false, (.mv (.tmp 8))⟩, ⟨(.some 5), .none, .false, (.mv (.tmp 10))⟩]) (.seq (.reg [⟨(.some 11), .none, .false, (.mv (.tmp 1))⟩, ⟨(.some 12), .none, .false, (.mv (.tmp 0))⟩, ⟨(.some 13), .none, .false, (.mv (.tmp 5))⟩, ⟨(.some 14), .none, .false, (.ix (.mk 23 1) (.tmp 12) (.tmp 13))⟩, ⟨(.some 15), .none, .false, (.ld .false 1 (.tmp 14))⟩, ⟨(.some 16), .none, .false, (.call (.tmp 11) [(.tmp 15)])⟩]) (.cond (.tmp 16) (.seq (.reg [⟨(.some 17), .none, .false, (.mv (.tmp 5))⟩, ⟨(.some 4), .none, .false, (.mv (.tmp 17))⟩]) .ret) .skip)))) (.reg [⟨(.some 18), .none, .false, (.bin .add (.tmp 8) (.const (Go.Value.int Go.IntKind.i64 1)))⟩, ⟨(.some 8), .none, .false, (.mv (.tmp 18))⟩]))))))) (.seq (.reg [⟨(.some 4), .none, .false, (.mv (.const (Go.Value.int Go.IntKind.i64 (-1))))⟩]) .ret)))
set_option maxRecDepth 100000 in
theorem S.ok84 : stripF Tryz.prog Tryz.f84 = some S.s84 := by kernel_rfl
set_option maxRecDepth 10000
set_option maxHeartbeats 4000000
theorem lib_indexR {l : List (List Int)} {g : FuncId} {caps : List D} {p : List Int → Bool} (h : ∀ a ∈ l, Spec Tryz.prog g ([vL kI (ints a)] ++ caps.map .c) (oB (p a))) : Spec Tryz.prog 84 [vL kR (l.map enR), .c (.fn g caps)] (oI (idxOf p l)) := by
  refine Spec.walk T.mixed Tryz.func84 S.ok84 (by simp [Tryz.f84]) fun hk => ?_
  have hlen := (K.c hk 0 rfl).lenM
  unfold S.s84
  repeat' (first|refine R.mv rfl ?_|refine R.reg ?_|refine R.nil ?_|refine R.seq ?_|refine R.nseq ?_|refine R.blk ?_|refine R.lenM rfl ?_)
  refine R.loop (G := Nat) (fun i => [(0, rdA kR (l.map enR)), (1, .v (.c (.d (.fn g caps)))), (7, pvA (.int .i64 l.length)), (8, pvA (.int .i64 i))]) (fun _ => []) (fun i => i ≤ l.length ∧ ∀ b ∈ l.take i, p b = false) (fun i => l.length - i) 0 ⟨by omega, by simp⟩ (Weak.frame _ _ ⟨rfl, rfl, rfl, rfl, trivial⟩ trivial rfl rfl) fun i hi => ?_
  repeat' (first|refine R.mv rfl ?_|refine R.reg ?_|refine R.nil ?_|refine R.seq ?_|refine R.nseq ?_|refine R.skip ?_|refine R.blk ?_|refine R.exit rfl ?_|refine R.ld rfl rfl rfl ?_|refine R.lss rfl rfl ?_|refine R.ixN rfl rfl rfl (by omega) (fun a ha => ?_)|refine R.cond rfl (fun hc => ?_) (fun hc => ?_))
  · refine R.call (bor := false) rfl rfl (h a (List.mem_of_getElem? ha)) (by simp [VD.v1]) rfl rfl ?_
    repeat' (first|refine R.mv rfl ?_|refine R.reg ?_|refine R.nil ?_|refine R.seq ?_|refine R.nseq ?_|refine R.nblk ?_|refine R.skip ?_|refine R.add rfl rfl (by omega) ?_|refine R.condB rfl (fun hc => ?_) (fun hc => ?_))
    · refine R.ret ⟨.inr rfl, R.outI rfl rfl ?_⟩
      exact (idxOf_some hi.2 ha (by assumption)).symm
    · refine R.nloop (R.again (i + 1) ⟨by omega, ?_⟩ (by omega) ⟨rfl, rfl, rfl, rfl, trivial⟩ trivial rfl rfl)
      rw [take_snoc ha]
      intro b hb
      rcases List.mem_append.1 hb with hb | hb
      · exact hi.2 b hb
      · simp at hb; subst hb; assumption
  · refine R.ret ⟨.inr rfl, R.outI rfl rfl ?_⟩
    have : i = l.length := by omega
    subst this
    exact (idxOf_none (by simpa using hi.2)).symm
theorem lib_anyR {l : List (List Int)} {g : FuncId} {caps : List D} {p : List Int → Bool} (h : ∀ a ∈ l, Spec Tryz.prog g ([vL kI (ints a)] ++ caps.map .c) (oB (p a))) : Spec Tryz.prog 52 [vL kR (l.map enR), .c (.fn g caps)] (oB (l.any p)) := by
  refine Spec.walk T.mixed Tryz.func52 S.ok52 (by simp [Tryz.f52]) fun hk => ?_
  unfold S.s52
  repeat' (first|refine R.mv rfl ?_|refine R.reg ?_|refine R.nil ?_|refine R.seq ?_|refine R.nseq ?_)
  refine R.call (bor := false) rfl rfl (lib_indexR h) rfl rfl rfl ?_
  repeat' (first|refine R.mv rfl ?_|refine R.nil ?_|refine R.nseq ?_|refine R.geq rfl rfl ?_)
  exact R.ret ⟨.inr rfl, R.outB rfl rfl idxOf_any⟩
def qsTo (f : TForm) (n : Nat) : Prop := ∀ (i : Nat) q, i < n → f.fCubes[i]? = some q → okQ f.fInputs q ∧ ∀ p, 0 < i → f.fCubes[i - 1]? = some p → cmpQ p q < 0
def okF (f : TForm) : Prop := (1 ≤ f.fInputs ∧ f.fInputs ≤ 4) ∧ f.fCubes.length ≤ 81 ∧ (1 ≤ f.fSums.length ∧ f.fSums.length ≤ 3) ∧ qsTo f f.fCubes.length ∧ ∀ s ∈ f.fSums, rises s 0 (f.fCubes.length - 1)
theorem qsTo_succ {f : TForm} {n : Nat} {q : TCube} (h : qsTo f n) (hq : f.fCubes[n]? = some q) (h1 : okQ f.fInputs q) (h2 : ∀ p, 0 < n → f.fCubes[n - 1]? = some p → cmpQ p q < 0) : qsTo f (n + 1) := fun i x hi hx => by
  rcases Nat.lt_or_ge i n with hlt | hge
  · exact h i x hlt hx
  · obtain rfl : i = n := by omega
    rw [hq] at hx; cases hx
    exact ⟨h1, h2⟩
theorem iValidForm1 (f : TForm) (s : List Int) : Spec Tryz.prog 53 [vL kI (ints s), vP (enForm f)] (oB (!(bP (rises s 0 (f.fCubes.length - 1))))) := by
  refine Spec.walk T.mixed Tryz.func53 S.ok53 (by simp [Tryz.f53]) fun hk => ?_
  have h2 := ((K.c hk 1 rfl).cells (.rd kCube (f.fCubes.map enCube)) (by simp)).lenM
  unfold S.s53
  repeat' (first|refine R.mv rfl ?_|refine R.reg ?_|refine R.nil ?_|refine R.seq ?_|refine R.nseq ?_|refine R.ld rfl rfl rfl ?_|refine R.fa rfl rfl ?_|refine R.lenM rfl ?_|refine R.not rfl ?_|refine R.call (bor := false) rfl rfl (iAscending _ _ ⟨by omega, by omega⟩) rfl rfl rfl ?_)
  exact R.ret ⟨.inr rfl, R.outB rfl rfl rfl⟩
theorem iValidForm (f : TForm) : Spec Tryz.prog 17 [.agg (enForm f)] (oB (bP (okF f))) := by
  refine Spec.walk T.mixed Tryz.func17 S.ok17 (by simp [Tryz.f17]) fun hk => ?_
  have h1 := (K.a hk 0 0 rfl rfl).i64
  have h2 := (K.a hk 0 1 rfl rfl).lenM
  have h3 := (K.a hk 0 2 rfl rfl).lenM
  unfold S.s17
  repeat' (first|refine R.mv rfl ?_|refine R.reg ?_|refine R.nil ?_|refine R.seq ?_|refine R.nseq ?_|refine R.skip ?_|refine R.blk ?_|refine R.gRun rfl ?_|refine R.gSkip rfl ?_|refine R.ld rfl rfl rfl ?_|refine R.fa rfl rfl ?_|refine R.lenM rfl ?_|refine R.gtr rfl rfl ?_|refine R.pickT rfl rfl ?_|refine R.pickF rfl rfl ?_|refine R.not rfl ?_|refine R.box rfl rfl rfl ?_|refine R.condT rfl ?_|refine R.call (bor := false) rfl rfl (iWithin _ _ _) rfl rfl rfl ?_|refine R.call (bor := false) rfl rfl (iInputsOk _) rfl rfl rfl ?_|refine R.condN rfl (fun hc => ?_) (fun hc => ?_)|refine R.gP rfl (fun hc => ?_) (fun hc => ?_)|refine R.gN rfl (fun hc => ?_) (fun hc => ?_))
  all_goals first | (refine R.ret ⟨.inr rfl, R.outB rfl rfl (bP_false fun h => ?_)⟩; obtain ⟨q1, q2, q3, q4, q5⟩ := h; omega) | skip
  refine R.loop (G := Nat) (fun i => [(1, .v (.c (.ptr 1 0))), (23, rdA kCube (f.fCubes.map enCube)), (24, pvA (.int .i64 f.fCubes.length)), (25, pvA (.int .i64 i))]) (fun _ => [(1, .box 30 ((enForm f).map B.d))]) (fun i => i ≤ f.fCubes.length ∧ qsTo f i) (fun i => f.fCubes.length - i) 0 ⟨by omega, fun j g h => by omega⟩ (Weak.frame _ _ ⟨rfl, rfl, rfl, rfl, trivial⟩ ⟨rfl, trivial⟩ rfl rfl) fun i hi => ?_
  repeat' (first|refine R.mv rfl ?_|refine R.reg ?_|refine R.nil ?_|refine R.seq ?_|refine R.nseqF rfl rfl rfl ?_|refine R.nseq ?_|refine R.nblk ?_|refine R.skip ?_|refine R.blk ?_|refine R.exit rfl ?_|refine R.gRun rfl ?_|refine R.gSkip rfl ?_|refine R.gUndef rfl ?_|refine R.ld rfl rfl rfl ?_|refine R.lda rfl rfl (lbT rfl) rfl ?_|refine R.fa rfl rfl ?_|refine R.lss rfl rfl ?_|refine R.gtr rfl rfl ?_|refine R.geq rfl rfl ?_|refine R.add rfl rfl (by omega) ?_|refine R.sub rfl rfl (by omega) ?_|refine R.ixN rfl rfl rfl (by omega) (fun a ha => ?_)|refine R.ixM rfl rfl rfl (by omega) (fun a ha => ?_)|refine R.pickT rfl rfl ?_|refine R.pickF rfl rfl ?_|refine R.not rfl ?_|refine R.mkf rfl ?_|refine R.al rfl ?_|refine R.stoB rfl rfl rfl rfl ⟨rfl, rfl, Nat.le_of_ble_eq_true rfl⟩ rfl ?_|refine R.condT rfl ?_|refine R.condF rfl ?_|refine R.fcal (bor := false) rfl rfl (iIsCube _ _ (by omega)) rfl rfl rfl ?_|refine R.call (bor := false) rfl rfl (iCompare _ _) rfl rfl rfl ?_|refine R.call (bor := false) rfl rfl (lib_anyR (p := fun s => !(bP (rises s 0 (f.fCubes.length - 1)))) fun a _ => iValidForm1 f a) rfl rfl rfl ?_|refine R.cond rfl (fun hc => ?_) (fun hc => ?_)|refine R.gP rfl (fun hc => ?_) (fun hc => ?_)|refine R.gB rfl (fun hc => ?_) (fun hc => ?_))
  · refine R.ret ⟨.inr rfl, R.outB rfl rfl (bP_false fun h => ?_)⟩
    have := bP_iff.2 (h.2.2.2.1 i a (by omega) ha).1
    simp [this] at hc
  · rename_i x hx h4 h5
    refine R.ret ⟨.inr rfl, R.outB rfl rfl (bP_false fun h => ?_)⟩
    have := (h.2.2.2.1 i x (by omega) hx).2 a (by omega) (by rw [← ha]; congr 1; omega)
    omega
  · rename_i x hx h4 h5
    refine R.nloop (R.again (i + 1) ⟨by omega, qsTo_succ hi.2 hx (by simpa [bP_iff] using h4) fun p _ hp => ?_⟩ (by omega) ⟨rfl, rfl, rfl, rfl, trivial⟩ ⟨rfl, trivial⟩ rfl rfl)
    rw [show i - 1 = ((i : Int) - 1).toNat by omega, ha] at hp
    cases hp
    omega
  · rename_i h4
    exact R.nloop (R.again (i + 1) ⟨by omega, qsTo_succ hi.2 ha (by simpa [bP_iff] using h4) fun p h0 _ => by omega⟩ (by omega) ⟨rfl, rfl, rfl, rfl, trivial⟩ ⟨rfl, trivial⟩ rfl rfl)
  · refine R.ret ⟨.inr rfl, R.outB rfl rfl ?_⟩
    obtain rfl : i = f.fCubes.length := by omega
    rw [Bool.eq_iff_iff, bP_iff]
    simp only [Bool.not_eq_true', List.any_eq_false, bP_iff, Bool.not_eq_false]
    exact ⟨fun h => ⟨by omega, by omega, by omega, hi.2, h⟩, fun h => h.2.2.2.2⟩
end
end Go.Proofs.YtehkaajakapkmaaGreat
