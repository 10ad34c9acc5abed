/- Texts of one proof, one behind the other. -/
import Derived.ProofKit
import Derived.Test.YtehkaajakapkmaaGreatFB16
import Derived.Test.YtehkaajakapkmaaGreatFB20
import Derived.Test.YtehkaajakapkmaaGreatFB31
namespace Go.Proofs.YtehkaajakapkmaaGreat
section
open Go.RowKit
set_option maxRecDepth 100000 in
def S.s21 : SC := (.seq (.reg [⟨(.some 4), .none, .false, (.mv (.const (Go.Value.slice none 0 0)))⟩, ⟨(.some 5), .none, .false, (.mv (.const (Go.Value.int Go.IntKind.i64 0)))⟩]) (.seq (.seq (.reg [⟨(.some 6), .none, .false, (.mv (.tmp 0))⟩, ⟨(.some 7), .none, .false, (.mv (.tmp 1))⟩, ⟨(.some 8), .none, .false, (.call (.func 60) [(.tmp 6), (.tmp 7)])⟩, ⟨(.some 9), .none, .false, (.not (.tmp 8))⟩]) (.cond (.tmp 9) (.seq (.reg [⟨(.some 4), .none, .false, (.mv (.const (Go.Value.slice none 0 0)))⟩, ⟨(.some 5), .none, .false, (.mv (.const (Go.Value.int Go.IntKind.i64 2)))⟩]) .ret) .skip)) (.seq (.reg [⟨(.some 10), .none, .false, (.mv (.tmp 0))⟩, ⟨(.some 11), .none, .false, (.mv (.tmp 1))⟩, ⟨(.some 12), .none, .false, (.call (.func 61) [(.tmp 10), (.tmp 11)])⟩, ⟨(.some 4), .none, .false, (.mv (.tmp 12))⟩, ⟨(.some 5), .none, .false, (.mv (.const (Go.Value.int Go.IntKind.i64 0)))⟩]) .ret)))
set_option maxRecDepth 100000 in
theorem S.ok21 : stripF Tryz.prog Tryz.f21 = some S.s21 := by kernel_rfl
set_option maxRecDepth 10000
set_option maxHeartbeats 4000000
theorem iLeastCover (n : Int) (l : List Int) : Spec Tryz.prog 21 [vI n, vL kI (ints l)] (.tup [cN kCube ((fLC n l).1.map enCube), cI (fLC n l).2]) := by
  by_cases h : okT n l
  · rw [show fLC n l = (cubs (tabQ n.toNat l (2 ^ n.toNat)) (lcX n.toNat l), 0) from if_pos h]
    obtain ⟨k, rfl⟩ : ∃ k : Nat, n = k := ⟨n.toNat, by have := h.1; omega⟩
    have hk4 : 1 ≤ k ∧ k ≤ 4 := ⟨by have := h.1; omega, by have := h.1; omega⟩
    have hK : inK l (2 ^ k) := h.2
    have hS := iLeastAll k l hk4 hK
    refine Spec.walk T.mixed Tryz.func21 S.ok21 (by simp [Tryz.f21]) fun hk => ?_
    clear hk
    unfold S.s21
    repeat' (first|refine R.mv rfl ?_|refine R.reg ?_|refine R.nil ?_|refine R.seq ?_|refine R.nseq ?_|refine R.skip ?_|refine R.not rfl ?_|refine R.condF rfl ?_|refine R.call (bor := false) rfl rfl (iTabT hk4 hK) rfl rfl rfl ?_|refine R.callN1 (bor := false) rfl rfl (hS) rfl rfl ?_)
    all_goals first
      | (exfalso; omega)
      | exact R.ret ⟨.inr rfl, R.outNI rfl rfl rfl rfl rfl⟩
      | (exfalso; simp_all; done)
  · rw [show fLC n l = ([], 2) from if_neg h]
    refine Spec.walk T.mixed Tryz.func21 S.ok21 (by simp [Tryz.f21]) fun hk => ?_
    clear hk
    unfold S.s21
    repeat' (first|refine R.mv rfl ?_|refine R.reg ?_|refine R.nil ?_|refine R.seq ?_|refine R.nseq ?_|refine R.not rfl ?_|refine R.condT rfl ?_|refine R.call (bor := false) rfl rfl (iTabF h) rfl rfl rfl ?_)
    all_goals first
      | (exfalso; omega)
      | exact R.ret ⟨.inr rfl, R.outNilI rfl rfl rfl rfl rfl rfl⟩
      | (exfalso; simp_all; done)
end
section
open Go.RowKit
set_option maxRecDepth 100000 in
def S.s24 : SC := (.seq (.reg [⟨(.some 3), .none, .false, (.box 56 (.tmp 1))⟩, ⟨(.some 4), .none, .false, (.mv (.const (Go.Value.string { data := #[] })))⟩]) (.seq (.seq (.reg [⟨(.some 7), .none, .false, (.mv (.tmp 0))⟩, ⟨(.some 8), .none, .false, (.call (.func 48) [(.tmp 7)])⟩, ⟨(.some 9), .none, .false, (.not (.tmp 8))⟩, ⟨(.some 10), .none, .false, (.mv (.tmp 9))⟩, ⟨(.some 11), (.some (10, .false)), .false, (.mv (.tmp 0))⟩, ⟨(.some 12), (.some (10, .false)), .false, (.ld .true 2 (.tmp 3))⟩, ⟨(.some 13), (.some (10, .false)), .false, (.call (.func 50) [(.tmp 11), (.tmp 12)])⟩, ⟨(.some 14), (.some (10, .false)), .false, (.not (.tmp 13))⟩, ⟨(.some 15), .none, .false, (.pick (.tmp 10) (.const (Go.Value.bool true)) (.tmp 14))⟩]) (.cond (.tmp 15) (.seq (.reg [⟨(.some 4), .none, .false, (.mv (.const (Go.Value.string { data := #[] })))⟩]) .ret) .skip)) (.seq (.reg [⟨(.some 16), .none, .false, (.mv (.tmp 0))⟩, ⟨(.some 17), .none, .false, (.mks (.mk 5 1) [(Go.Value.int Go.IntKind.u8 0)] (.tmp 16) (.tmp 16))⟩, ⟨(.some 5), .none, .false, (.mv (.tmp 17))⟩]) (.seq (.seq (.reg [⟨(.some 18), .none, .false, (.mv (.tmp 5))⟩, ⟨(.some 19), .none, .false, (.len (.tmp 18))⟩, ⟨(.some 20), .none, .false, (.mv (.const (Go.Value.int Go.IntKind.i64 0)))⟩]) (.block 0 (.loop (.seq (.reg [⟨(.some 21), .none, .false, (.bin .lss (.tmp 20) (.tmp 19))⟩]) (.seq (.cond (.tmp 21) .skip (.exit 0)) (.seq (.block 1 (.seq (.reg [⟨(.some 22), .none, .false, (.mv (.tmp 20))⟩, ⟨(.some 6), .none, .false, (.mv (.tmp 22))⟩]) (.block 2 (.seq (.reg [⟨(.some 27), .none, .false, (.fa 0 (.tmp 3))⟩, ⟨(.some 28), .none, .false, (.ld .false 1 (.tmp 27))⟩, ⟨(.some 29), .none, .false, (.mv (.tmp 6))⟩, ⟨(.some 30), .none, .false, (.bin .shr (.tmp 28) (.tmp 29))⟩, ⟨(.some 31), .none, .false, (.bin .and (.tmp 30) (.const (Go.Value.int Go.IntKind.i64 1)))⟩, ⟨(.some 32), .none, .false, (.bin .eql (.tmp 31) (.const (Go.Value.int Go.IntKind.i64 0)))⟩, ⟨(.some 26), .none, .false, (.mv (.tmp 32))⟩]) (.cond (.tmp 26) (.reg [⟨(.some 33), .none, .false, (.mv (.tmp 5))⟩, ⟨(.some 34), .none, .false, (.mv (.tmp 6))⟩, ⟨(.some 35), .none, .false, (.ix (.mk 5 1) (.tmp 33) (.tmp 34))⟩, ⟨.none, .none, .false, (.sto 1 (.tmp 35) (.const (Go.Value.int Go.IntKind.u8 45)))⟩]) (.seq (.reg [⟨(.some 37), .none, .false, (.fa 1 (.tmp 3))⟩, ⟨(.some 38), .none, .false, (.ld .false 1 (.tmp 37))⟩, ⟨(.some 39), .none, .false, (.mv (.tmp 6))⟩, ⟨(.some 40), .none, .false, (.bin .shr (.tmp 38) (.tmp 39))⟩, ⟨(.some 41), .none, .false, (.bin .and (.tmp 40) (.const (Go.Value.int Go.IntKind.i64 1)))⟩, ⟨(.some 42), .none, .false, (.bin .eql (.tmp 41) (.const (Go.Value.int Go.IntKind.i64 1)))⟩, ⟨(.some 36), .none, .false, (.mv (.tmp 42))⟩]) (.cond (.tmp 36) (.reg [⟨(.some 43), .none, .false, (.mv (.tmp 5))⟩, ⟨(.some 44), .none, .false, (.mv (.tmp 6))⟩, ⟨(.some 45), .none, .false, (.ix (.mk 5 1) (.tmp 43) (.tmp 44))⟩, ⟨.none, .none, .false, (.sto 1 (.tmp 45) (.const (Go.Value.int Go.IntKind.u8 49)))⟩]) (.reg [⟨(.some 23), .none, .false, (.mv (.tmp 5))⟩, ⟨(.some 24), .none, .false, (.mv (.tmp 6))⟩, ⟨(.some 25), .none, .false, (.ix (.mk 5 1) (.tmp 23) (.tmp 24))⟩, ⟨.none, .none, .false, (.sto 1 (.tmp 25) (.const (Go.Value.int Go.IntKind.u8 48)))⟩])))))))) (.reg [⟨(.some 46), .none, .false, (.bin .add (.tmp 20) (.const (Go.Value.int Go.IntKind.i64 1)))⟩, ⟨(.some 20), .none, .false, (.mv (.tmp 46))⟩]))))))) (.seq (.reg [⟨(.some 47), .none, .false, (.mv (.tmp 5))⟩, ⟨(.some 48), .none, .false, (.b2s (.tmp 47))⟩, ⟨(.some 4), .none, .false, (.mv (.tmp 48))⟩]) .ret)))))
set_option maxRecDepth 100000 in
theorem S.ok24 : stripF Tryz.prog Tryz.f24 = some S.s24 := by kernel_rfl
set_option maxRecDepth 10000
set_option maxHeartbeats 4000000
abbrev kU8 : Ky := ⟨5, 1⟩
def chrQ (q : TCube) (i : Nat) : Int := if andI (q.fCare / 2 ^ i) 1 = 0 then 45 else if andI (q.fValue / 2 ^ i) 1 = 1 then 49 else 48
def txtQ (q : TCube) (n : Nat) : List Int := (List.range n).map (chrQ q)
theorem txtQ_succ {q : TCube} {n : Nat} : txtQ q (n + 1) = txtQ q n ++ [chrQ q n] := by unfold txtQ; rw [List.range_succ, List.map_append]; rfl
theorem txtQ_len {q : TCube} {n : Nat} : (txtQ q n).length = n := by unfold txtQ; simp
theorem txtQ_fill {q : TCube} {n i : Nat} (h : i < n) : (txtQ q i ++ List.replicate (n - i) 0).set i (chrQ q i) = txtQ q (i + 1) ++ List.replicate (n - (i + 1)) 0 := by
  rw [List.set_append, if_neg (by rw [txtQ_len]; omega), txtQ_len, Nat.sub_self, show n - i = (n - (i + 1)) + 1 by omega, List.replicate_succ, List.set_cons_zero, txtQ_succ]
  simp
theorem chr0 {q : TCube} {i : Nat} (h : andI (q.fCare / 2 ^ i) 1 = 0) : chrQ q i = 45 := if_pos h
theorem chr1 {q : TCube} {i : Nat} (h : ¬ andI (q.fCare / 2 ^ i) 1 = 0) (h1 : andI (q.fValue / 2 ^ i) 1 = 1) : chrQ q i = 49 := (if_neg h).trans (if_pos h1)
theorem chr2 {q : TCube} {i : Nat} (h : ¬ andI (q.fCare / 2 ^ i) 1 = 0) (h1 : ¬ andI (q.fValue / 2 ^ i) 1 = 1) : chrQ q i = 48 := (if_neg h).trans (if_neg h1)
open Classical in
noncomputable def fText (n : Int) (q : TCube) : ByteArray := if (1 ≤ n ∧ n ≤ 4) ∧ okQ n q then bsOf (txtQ q n.toNat) else ⟨#[]⟩
theorem iCubeText (n : Int) (q : TCube) : Spec Tryz.prog 24 [vI n, .agg (enCube q)] (oS (fText n q)) := by
  refine Spec.walk T.mixed Tryz.func24 S.ok24 (by simp [Tryz.f24]) fun hk => ?_
  unfold S.s24
  by_cases h1 : 1 ≤ n ∧ n ≤ 4
  · by_cases h2 : okQ n q
    · rw [show fText n q = bsOf (txtQ q n.toNat) from if_pos ⟨h1, h2⟩]
      obtain ⟨m, rfl⟩ : ∃ m : Nat, n = m := ⟨n.toNat, by omega⟩
      repeat' (first|refine R.mv rfl ?_|refine R.reg ?_|refine R.nil ?_|refine R.seq ?_|refine R.nseq ?_|refine R.skip ?_|refine R.blk ?_|refine R.gRun rfl ?_|refine R.lda rfl rfl (lbT rfl) rfl ?_|refine R.lenO rfl rfl ?_|refine R.pickF rfl rfl ?_|refine R.not rfl ?_|refine R.box rfl rfl rfl ?_|refine R.condF rfl ?_|refine R.call (bor := false) rfl rfl (iInT h1) rfl rfl rfl ?_|refine R.call (bor := false) rfl rfl (iCubT h1 h2) rfl rfl rfl ?_|refine R.mks (f := enB8) 0 rfl rfl rfl ⟨by omega, by omega⟩ (.cons rfl .nil) ?_)
      refine R.loop (G := Nat) (fun i => [(3, .v (.c (.ptr 3 0))), (5, .v (.c (.own 17))), (19, pvA (.int .i64 m)), (20, pvA (.int .i64 i))]) (fun i => [(3, .box 56 ((enCube q).map B.d)), (17, .arr kU8 ((txtQ q i ++ List.replicate (m - i) 0).map enB8) [])]) (fun i => i ≤ m) (fun i => m - i) 0 (by omega) (Weak.frame _ _ ⟨rfl, rfl, by simp; rfl, rfl, trivial⟩ ⟨rfl, by simp [txtQ]; rfl, trivial⟩ rfl rfl) fun i hi => ?_
      have hl2 : (txtQ q i ++ List.replicate (m - i) 0).length = m := by rw [List.length_append, txtQ_len, List.length_replicate]; omega
      by_cases hil : i < m
      · have hb : (txtQ q i ++ List.replicate (m - i) 0)[i]? = some 0 := by rw [List.getElem?_append_right (by rw [txtQ_len]; omega), txtQ_len, Nat.sub_self, List.getElem?_replicate]; rw [if_pos (by omega)]
        repeat' (first|refine R.ixOK 0 hb rfl rfl rfl ?_|refine R.mv rfl ?_|refine R.reg ?_|refine R.nil ?_|refine R.seq ?_|refine R.nseq ?_|refine R.nblk ?_|refine R.skip ?_|refine R.blk ?_|refine R.exit rfl ?_|refine R.ld rfl rfl rfl ?_|refine R.fa rfl rfl ?_|refine R.lss rfl rfl ?_|refine R.eql rfl rfl ?_|refine R.add rfl rfl (by omega) ?_|refine R.stoE _ rfl rfl rfl rfl rfl (by assumption) rfl ⟨rfl, rfl, Nat.le_of_ble_eq_true rfl⟩ ?_|refine R.and rfl rfl ?_|refine R.shr rfl rfl (by omega) ?_|refine R.cond rfl (fun hc => ?_) (fun hc => ?_))
        all_goals first
          | (exfalso; omega)
          | (refine R.nloop (R.again (i + 1) (by omega) (by omega) ⟨rfl, rfl, rfl, rfl, trivial⟩ ⟨rfl, arr_eq ?_, trivial⟩ rfl rfl)
             rw [← txtQ_fill hil]
             first | rw [chr0 (by assumption)] | rw [chr1 (by assumption) (by assumption)] | rw [chr2 (by assumption) (by assumption)])
      · obtain rfl : i = m := by omega
        repeat' (first|refine R.mv rfl ?_|refine R.reg ?_|refine R.nil ?_|refine R.seq ?_|refine R.nseq ?_|refine R.nblk ?_|refine R.skip ?_|refine R.blk ?_|refine R.exit rfl ?_|refine R.ld rfl rfl rfl ?_|refine R.fa rfl rfl ?_|refine R.lss rfl rfl ?_|refine R.eql rfl rfl ?_|refine R.add rfl rfl (by omega) ?_|refine R.ixON rfl rfl rfl (by first|omega|(simp; omega)) (fun a' ha' => ?_)|refine R.stoE _ rfl rfl rfl rfl rfl (by assumption) rfl ⟨rfl, rfl, Nat.le_of_ble_eq_true rfl⟩ ?_|refine R.and rfl rfl ?_|refine R.shr rfl rfl (by omega) ?_|refine R.b2s (κ := kU8) _ rfl rfl rfl ?_|refine R.cond rfl (fun hc => ?_) (fun hc => ?_))
        all_goals first | (exfalso; omega) | exact R.ret ⟨.inr rfl, R.outS rfl rfl (by simp)⟩
    · rw [show fText n q = ⟨#[]⟩ from if_neg fun h => h2 h.2]
      repeat' (first|refine R.mv rfl ?_|refine R.reg ?_|refine R.nil ?_|refine R.seq ?_|refine R.nseq ?_|refine R.gRun rfl ?_|refine R.lda rfl rfl (lbT rfl) rfl ?_|refine R.pickF rfl rfl ?_|refine R.not rfl ?_|refine R.box rfl rfl rfl ?_|refine R.condT rfl ?_|refine R.call (bor := false) rfl rfl (iInT h1) rfl rfl rfl ?_|refine R.call (bor := false) rfl rfl (iCubF h1 h2) rfl rfl rfl ?_)
      exact R.ret ⟨.inr rfl, R.outS rfl rfl rfl⟩
  · rw [show fText n q = ⟨#[]⟩ from if_neg fun h => h1 h.1]
    repeat' (first|refine R.mv rfl ?_|refine R.reg ?_|refine R.nil ?_|refine R.seq ?_|refine R.nseq ?_|refine R.gSkip rfl ?_|refine R.pickT rfl rfl ?_|refine R.not rfl ?_|refine R.box rfl rfl rfl ?_|refine R.condT rfl ?_|refine R.call (bor := false) rfl rfl (iInF h1) rfl rfl rfl ?_)
    exact R.ret ⟨.inr rfl, R.outS rfl rfl rfl⟩
end
section
open Go.ChangeShapes Go.WideShapes Go.RowKit
def rU8 : Rdr Int := fun _ _ cs n => cs = [.int .u8 n] ∧ (Lit.int .u8 n).wf = true
theorem opens_u8 {H : Type} {enc : TypeId × Value → H} {P : Program} {W : World} {sp : Nat → Bool} {hd : Bool} {t : TypeId} (ht : P.underlying t = some (.int .u8)) : Opens enc P W sp hd t rU8 := fun fuel cs y h => by
  obtain ⟨n, hc, _, hw⟩ := DataW.trod_int ht h
  exact ⟨n, hc, hw⟩
theorem encU8 : Enc rU8 (fun n => [.pv (.int .u8 n)]) := fun W S cs x ⟨h, h1⟩ => by
  subst h
  exact .cons (.pv rfl h1) .nil
end
end Go.Proofs.YtehkaajakapkmaaGreat
