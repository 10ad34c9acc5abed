/- Decimal numerals: the reference's loop; words with numbers. -/
import Derived.Test.YtnkfbodolbfjpaaDoorDec1
namespace Go.Proofs.YtnkfbodolbfjpaaDoor
open Go.RowKit
set_option maxRecDepth 100000 in
def S.s22 : SC := (.seq (.reg [⟨(.some 2), .none, .false, (.mv (.const (Go.Value.string { data := #[] })))⟩]) (.seq (.reg [⟨(.some 3), .none, .false, (.mv (.const (Go.Value.string { data := #[] })))⟩]) (.seq (.reg [⟨(.some 6), .none, .false, (.mv (.tmp 0))⟩, ⟨(.some 4), .none, .false, (.mv (.tmp 6))⟩]) (.seq (.block 0 (.loop (.seq (.seq (.reg [⟨(.some 7), .none, .false, (.mv (.tmp 4))⟩, ⟨(.some 8), .none, .false, (.bin .neq (.tmp 7) (.const (Go.Value.int Go.IntKind.i64 0)))⟩]) (.cond (.tmp 8) .skip (.exit 0))) (.block 1 (.seq (.reg [⟨(.some 9), .none, .false, (.mv (.tmp 4))⟩, ⟨(.some 10), .none, .false, (.bin .rem (.tmp 9) (.const (Go.Value.int Go.IntKind.i64 10)))⟩, ⟨(.some 5), .none, .false, (.mv (.tmp 10))⟩]) (.seq (.seq (.reg [⟨(.some 11), .none, .false, (.mv (.tmp 5))⟩, ⟨(.some 12), .none, .false, (.bin .lss (.tmp 11) (.const (Go.Value.int Go.IntKind.i64 0)))⟩]) (.cond (.tmp 12) (.reg [⟨(.some 13), .none, .false, (.mv (.tmp 5))⟩, ⟨(.some 14), .none, .false, (.neg (.tmp 13))⟩, ⟨(.some 5), .none, .false, (.mv (.tmp 14))⟩]) .skip)) (.seq (.reg [⟨(.some 15), .none, .false, (.mv (.tmp 5))⟩, ⟨(.some 16), .none, .false, (.bin .add (.const (Go.Value.int Go.IntKind.i64 48)) (.tmp 15))⟩, ⟨(.some 17), .none, .false, (.cv .u8 (.tmp 16))⟩, ⟨(.some 18), .none, .false, (.bsl (.mk 5 1) 1 [(0, (.tmp 17))])⟩, ⟨(.some 19), .none, .false, (.b2s (.tmp 18))⟩, ⟨(.some 20), .none, .false, (.mv (.tmp 3))⟩, ⟨(.some 21), .none, .false, (.bin .add (.tmp 19) (.tmp 20))⟩, ⟨(.some 3), .none, .false, (.mv (.tmp 21))⟩]) (.reg [⟨(.some 22), .none, .false, (.mv (.tmp 4))⟩, ⟨(.some 23), .none, .false, (.bin .quo (.tmp 22) (.const (Go.Value.int Go.IntKind.i64 10)))⟩, ⟨(.some 4), .none, .false, (.mv (.tmp 23))⟩])))))))) (.seq (.seq (.reg [⟨(.some 24), .none, .false, (.mv (.tmp 0))⟩, ⟨(.some 25), .none, .false, (.bin .eql (.tmp 24) (.const (Go.Value.int Go.IntKind.i64 0)))⟩]) (.cond (.tmp 25) (.seq (.reg [⟨(.some 2), .none, .false, (.mv (.const (Go.Value.string { data := #[48] })))⟩]) .ret) .skip)) (.seq (.seq (.reg [⟨(.some 26), .none, .false, (.mv (.tmp 0))⟩, ⟨(.some 27), .none, .false, (.bin .lss (.tmp 26) (.const (Go.Value.int Go.IntKind.i64 0)))⟩]) (.cond (.tmp 27) (.seq (.reg [⟨(.some 28), .none, .false, (.mv (.tmp 3))⟩, ⟨(.some 29), .none, .false, (.bin .add (.const (Go.Value.string { data := #[45] })) (.tmp 28))⟩, ⟨(.some 2), .none, .false, (.mv (.tmp 29))⟩]) .ret) .skip)) (.seq (.reg [⟨(.some 30), .none, .false, (.mv (.tmp 3))⟩, ⟨(.some 2), .none, .false, (.mv (.tmp 30))⟩]) .ret)))))))
set_option maxRecDepth 100000 in
theorem S.ok22 : stripF Tryd.prog Tryd.f22 = some S.s22 := by kernel_rfl
set_option maxRecDepth 100000 in
def S.s59 : SC := (.seq (.reg [⟨(.some 4), .none, .false, (.mv (.const (Go.Value.string { data := #[] })))⟩]) (.seq (.reg [⟨(.some 5), .none, .false, (.mv (.tmp 0))⟩, ⟨(.some 6), .none, .false, (.mv (.tmp 1))⟩, ⟨(.some 7), .none, .false, (.call (.func 25) [(.tmp 6)])⟩, ⟨(.some 8), .none, .false, (.bin .add (.tmp 5) (.tmp 7))⟩, ⟨(.some 4), .none, .false, (.mv (.tmp 8))⟩]) .ret))
set_option maxRecDepth 100000 in
theorem S.ok59 : stripF Tryd.prog Tryd.f59 = some S.s59 := by kernel_rfl
set_option maxRecDepth 10000
set_option maxHeartbeats 4000000
theorem sDec (n : Int) (hn : -9223372036854775808 ≤ n ∧ n ≤ 9223372036854775807) : Spec Tryd.prog 22 [vI n] (oS (bA (decL n))) := by
  refine Spec.walk T.mixed Tryd.func22 S.ok22 (by simp [Tryd.f22]) fun hk => ?_
  clear hk
  unfold S.s22
  have hl19 := dg0_len 19 n.natAbs (by omega)
  repeat' (first | refine R.mv rfl ?_ | refine R.reg ?_ | refine R.nil ?_ | refine R.seq ?_ | refine R.nseq ?_ | refine R.nblk ?_ | refine R.skip ?_ | refine R.blk ?_ | refine R.exit rfl ?_ | refine R.lss rfl rfl ?_ | refine R.eql rfl rfl ?_ | refine R.neq rfl rfl ?_ | refine R.add rfl rfl (by omega) ?_ | refine R.cv64 rfl (by omega) ?_ | refine R.neg rfl (by omega) ?_ | refine R.cvU rfl (by omega) ?_ | refine R.quo rfl rfl (by omega) ?_ | refine R.rem rfl rfl (by omega) ?_ | refine R.condT rfl ?_ | refine R.condF rfl ?_ | refine R.cond rfl (fun hc => ?_) (fun hc => ?_) | refine R.condN rfl (fun hc => ?_) (fun hc => ?_) | refine R.condB rfl (fun hc => ?_) (fun hc => ?_))
  refine R.loop (G := Int × List UInt8) (fun g => [(0, pvA (.int .i64 n)), (3, pvA (.string (bA g.2))), (4, pvA (.int .i64 g.1))]) (fun _ => []) (fun g => (-9223372036854775808 ≤ g.1 ∧ g.1 ≤ 9223372036854775807) ∧ dg0 g.1.natAbs ++ g.2 = dg0 n.natAbs) (fun g => g.1.natAbs) (n, []) ⟨hn, List.append_nil _⟩ (Weak.frame _ _ ⟨rfl, rfl, rfl, trivial⟩ trivial rfl rfl) fun g hg => ?_
  obtain ⟨hm, hout⟩ := hg
  by_cases h0 : g.1 = 0
  · have hdone : g.2 = dg0 n.natAbs := by
      rw [← hout, h0]
      rfl
    repeat' (first | refine R.mv rfl ?_ | refine R.reg ?_ | refine R.nil ?_ | refine R.seq ?_ | refine R.nseq ?_ | refine R.nblk ?_ | refine R.skip ?_ | refine R.blk ?_ | refine R.exit rfl ?_ | refine R.lss rfl rfl ?_ | refine R.eql rfl rfl ?_ | refine R.neq rfl rfl ?_ | refine R.add rfl rfl (by omega) ?_ | refine R.cv64 rfl (by omega) ?_ | refine R.neg rfl (by omega) ?_ | refine R.cvU rfl (by omega) ?_ | refine R.quo rfl rfl (by omega) ?_ | refine R.rem rfl rfl (by omega) ?_ | refine R.condT rfl ?_ | refine R.condF rfl ?_ | refine R.sadd rfl rfl (by rw [hdone]; simp; omega) ?_ | refine R.cond rfl (fun hc => ?_) (fun hc => ?_) | refine R.condN rfl (fun hc => ?_) (fun hc => ?_) | refine R.condB rfl (fun hc => ?_) (fun hc => ?_))
    all_goals first
      | (exfalso; omega)
      | (have hz : n = 0 := by assumption
         refine R.ret ⟨.inr rfl, R.outS rfl rfl ?_⟩
         rw [hz]
         exact congrArg bA decL_zero.symm)
      | (refine R.ret ⟨.inr rfl, R.outS rfl rfl ?_⟩; refine congrArg bA ?_; rw [decL_neg (by assumption), hdone]; rfl)
      | (refine R.ret ⟨.inr rfl, R.outS rfl rfl ?_⟩; refine congrArg bA ?_; rw [decL_pos (by omega), hdone])
      | skip
  · have h1 : (g.1.tmod 10).natAbs = g.1.natAbs % 10 := Int.natAbs_tmod g.1 10
    have h2 : (g.1.tdiv 10).natAbs = g.1.natAbs / 10 := Int.natAbs_tdiv g.1 10
    have hst := dg0_step (u := g.1.natAbs) (by omega)
    have hlo := congrArg List.length hout
    rw [List.length_append] at hlo
    have hdec : (g.1.tdiv 10).natAbs < g.1.natAbs := by omega
    repeat' (first | refine R.mv rfl ?_ | refine R.reg ?_ | refine R.nil ?_ | refine R.seq ?_ | refine R.nseq ?_ | refine R.nblk ?_ | refine R.skip ?_ | refine R.blk ?_ | refine R.exit rfl ?_ | refine R.lss rfl rfl ?_ | refine R.eql rfl rfl ?_ | refine R.neq rfl rfl ?_ | refine R.add rfl rfl (by omega) ?_ | refine R.cv64 rfl (by omega) ?_ | refine R.neg rfl (by omega) ?_ | refine R.cvU rfl (by omega) ?_ | refine R.quo rfl rfl (by omega) ?_ | refine R.rem rfl rfl (by omega) ?_ | refine R.condT rfl ?_ | refine R.condF rfl ?_ | refine R.remS rfl rfl (by decide) ?_ | refine R.quoT rfl rfl (by decide) hm ?_ | refine R.cvB rfl (by omega) ?_ | refine R.bsl (f := enB8) [48 + g.1.tmod 10] rfl rfl rfl rfl rfl ?_ | refine R.bsl (f := enB8) [48 + (0 - g.1.tmod 10)] rfl rfl rfl rfl rfl ?_ | refine R.b2s (κ := ⟨5, 1⟩) _ rfl rfl rfl ?_ | refine R.sadd (s := [UInt8.ofNat (48 + g.1.tmod 10).toNat]) rfl rfl (by simp; omega) ?_ | refine R.sadd (s := [UInt8.ofNat (48 + (0 - g.1.tmod 10)).toNat]) rfl rfl (by simp; omega) ?_ | refine R.cond rfl (fun hc => ?_) (fun hc => ?_) | refine R.condN rfl (fun hc => ?_) (fun hc => ?_) | refine R.condB rfl (fun hc => ?_) (fun hc => ?_))
    all_goals first
      | (exfalso; omega)
      | exact R.nloop (R.again (g.1.tdiv 10, [UInt8.ofNat (48 + (0 - g.1.tmod 10)).toNat] ++ g.2) ⟨by dsimp only; omega, by dsimp only; rw [← hout, hst, show (48 + (0 - g.1.tmod 10)).toNat = 48 + g.1.natAbs % 10 by omega, h2]; simp⟩ (by exact hdec) ⟨rfl, rfl, rfl, trivial⟩ trivial rfl rfl)
      | exact R.nloop (R.again (g.1.tdiv 10, [UInt8.ofNat (48 + g.1.tmod 10).toNat] ++ g.2) ⟨by dsimp only; omega, by dsimp only; rw [← hout, hst, show (48 + g.1.tmod 10).toNat = 48 + g.1.natAbs % 10 by omega, h2]; simp⟩ (by exact hdec) ⟨rfl, rfl, rfl, trivial⟩ trivial rfl rfl)
theorem iNum (w : List UInt8) (hw : w.length ≤ 100) (n : Int) (hn : -9223372036854775808 ≤ n ∧ n ≤ 9223372036854775807) : Spec Tryd.prog 59 [.c (sD (bA w)), vI n] (oS (bA (w ++ decL n))) := by
  refine Spec.walk T.mixed Tryd.func59 S.ok59 (by simp [Tryd.f59]) fun hk => ?_
  clear hk
  unfold S.s59
  have hl := decL_len hn
  repeat' (first | refine R.mv rfl ?_ | refine R.reg ?_ | refine R.nil ?_ | refine R.seq ?_ | refine R.nseq ?_ | refine R.nblk ?_ | refine R.skip ?_ | refine R.blk ?_ | refine R.exit rfl ?_ | refine R.add rfl rfl (by omega) ?_ | refine R.condT rfl ?_ | refine R.condF rfl ?_ | refine R.call (bor := false) rfl rfl (iDec _ hn) rfl rfl rfl ?_ | refine R.call (bor := true) rfl rfl (iDec _ hn) rfl rfl rfl ?_ | refine R.fcal (bor := false) rfl rfl (iDec _ hn) rfl rfl rfl ?_ | refine R.fcal (bor := true) rfl rfl (iDec _ hn) rfl rfl rfl ?_ | refine R.sadd rfl rfl (by omega) ?_ | refine R.cond rfl (fun hc => ?_) (fun hc => ?_) | refine R.condN rfl (fun hc => ?_) (fun hc => ?_) | refine R.condB rfl (fun hc => ?_) (fun hc => ?_))
  all_goals first
    | exact R.ret ⟨.inr rfl, R.outS rfl rfl rfl⟩
    | skip
end Go.Proofs.YtnkfbodolbfjpaaDoor
