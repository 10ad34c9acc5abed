/- The digits of a number; the texts that the laws mark with. -/
import Derived.Test.YtnkfbodolbfjpaaBel
namespace Go.Proofs.Ytnkfbodolbfjpaa
open Go.RowKit
set_option maxRecDepth 100000 in
def S.s149 : SC := (.seq (.reg [⟨(.some 2), .none, .false, (.mv (.const (Go.Value.string { data := #[] })))⟩]) (.seq (.seq (.reg [⟨(.some 4), .none, .false, (.mv (.tmp 0))⟩, ⟨(.some 5), .none, .false, (.bin .leq (.tmp 4) (.const (Go.Value.int Go.IntKind.i64 0)))⟩]) (.cond (.tmp 5) (.seq (.reg [⟨(.some 2), .none, .false, (.mv (.const (Go.Value.string { data := #[109, 48] })))⟩]) .ret) .skip)) (.seq (.reg [⟨(.some 3), .none, .false, (.mv (.const (Go.Value.string { data := #[] })))⟩]) (.seq (.block 0 (.loop (.seq (.seq (.reg [⟨(.some 6), .none, .false, (.mv (.tmp 0))⟩, ⟨(.some 7), .none, .false, (.bin .gtr (.tmp 6) (.const (Go.Value.int Go.IntKind.i64 0)))⟩]) (.cond (.tmp 7) .skip (.exit 0))) (.block 1 (.seq (.reg [⟨(.some 8), .none, .false, (.mv (.tmp 0))⟩, ⟨(.some 9), .none, .false, (.bin .rem (.tmp 8) (.const (Go.Value.int Go.IntKind.i64 10)))⟩, ⟨(.some 10), .none, .false, (.bin .add (.const (Go.Value.int Go.IntKind.i64 48)) (.tmp 9))⟩, ⟨(.some 11), .none, .false, (.cv .u8 (.tmp 10))⟩, ⟨(.some 12), .none, .false, (.bsl (.mk 5 1) 1 [(0, (.tmp 11))])⟩, ⟨(.some 13), .none, .false, (.b2s (.tmp 12))⟩, ⟨(.some 14), .none, .false, (.mv (.tmp 3))⟩, ⟨(.some 15), .none, .false, (.bin .add (.tmp 13) (.tmp 14))⟩, ⟨(.some 3), .none, .false, (.mv (.tmp 15))⟩]) (.reg [⟨(.some 16), .none, .false, (.mv (.tmp 0))⟩, ⟨(.some 17), .none, .false, (.bin .quo (.tmp 16) (.const (Go.Value.int Go.IntKind.i64 10)))⟩, ⟨(.some 0), .none, .false, (.mv (.tmp 17))⟩])))))) (.seq (.reg [⟨(.some 18), .none, .false, (.mv (.tmp 3))⟩, ⟨(.some 19), .none, .false, (.bin .add (.const (Go.Value.string { data := #[109] })) (.tmp 18))⟩, ⟨(.some 2), .none, .false, (.mv (.tmp 19))⟩]) .ret)))))
set_option maxRecDepth 100000 in
theorem S.ok149 : stripF Try.prog Try.f149 = some S.s149 := by kernel_rfl
set_option maxRecDepth 10000
set_option maxHeartbeats 4000000
section
variable {P : Program} {Q : Exit → St → Prop} {ks : List Fr} {e : Nat → AV} {o : Nat → Option Ob} {d : Nat} {fr : Bool} {x y z : Operand} {rest : List SR}
theorem R.addS {s t : ByteArray} (h1 : ev e x = pvA (.string s)) (h2 : ev e y = pvA (.string t)) (h : s.size + t.size ≤ 9223372036854775807) (k : WL P rest ks Q ⟨upd e d (pvA (.string (s ++ t))), o⟩) : WL P (⟨some d, none, fr, .bin .add x y⟩ :: rest) ks Q ⟨e, o⟩ :=
  R.bin h1 h2 (by unfold binI strV maxLen; exact if_pos h) k
theorem wrapU8 {m : Int} (h : 0 ≤ m ∧ m ≤ 255) : IntKind.wrap .u8 m = m := by
  have h2 : m % 256 = m := Int.emod_eq_of_lt h.1 (by omega)
  simp [IntKind.wrap, IntKind.bits, IntKind.signed, h2]
theorem R.cvU8 {k1 : IntKind} {m : Int} (h : ev e x = pvA (.int k1 m)) (hr : 0 ≤ m ∧ m ≤ 255) (k : WL P rest ks Q ⟨upd e d (pvA (.int .u8 m)), o⟩) : WL P (⟨some d, none, fr, .cv .u8 x⟩ :: rest) ks Q ⟨e, o⟩ := R.cv h (by rw [wrapU8 hr]; exact k)
end
theorem size_app (s t : ByteArray) : (s ++ t).size = s.size + t.size := ByteArray.size_append
/-- The digits of a number, ahead of a text. -/
def dgs (n : Nat) (acc : ByteArray) : ByteArray := if n = 0 then acc else dgs (n / 10) (bsOf [48 + (n : Int) % 10] ++ acc)
termination_by n
decreasing_by omega
theorem dgs_zero (acc : ByteArray) : dgs 0 acc = acc := by rw [dgs, if_pos rfl]
theorem dgs_step {n : Nat} (h : 0 < n) (acc : ByteArray) : dgs n acc = dgs (n / 10) (bsOf [48 + (n : Int) % 10] ++ acc) := by rw [dgs, if_neg (by omega)]
theorem dgs_size : ∀ (n : Nat) (acc : ByteArray), (dgs n acc).size ≤ n + acc.size := by
  intro n
  induction n using Nat.strongRecOn with
  | _ n ih =>
    intro acc
    by_cases h : n = 0
    · subst h; rw [dgs_zero]; omega
    · rw [dgs_step (by omega)]
      have := ih (n / 10) (by omega) (bsOf [48 + (n : Int) % 10] ++ acc)
      rw [size_app, bsOf_size] at this
      simp only [List.length_singleton] at this
      omega
def mText (k : Int) : ByteArray := if k ≤ 0 then ⟨#[109, 48]⟩ else ⟨#[109]⟩ ++ dgs k.toNat ByteArray.empty
theorem markText_ok (k : Int) (h : k ≤ 4611686018427387904) : Spec Try.prog 149 [vI k] (oS (mText k)) := by
  refine Spec.walk T.mixed Try.func149 S.ok149 (by simp [Try.f149]) fun hk => ?_
  clear hk
  unfold S.s149
  by_cases hk0 : k ≤ 0
  · rw [show mText k = ⟨#[109, 48]⟩ from if_pos hk0]
    repeat' (first | refine R.mv rfl ?_ | refine R.reg ?_ | refine R.nil ?_ | refine R.seq ?_ | refine R.nseq ?_ | refine R.nblk ?_ | refine R.skip ?_ | refine R.blk ?_ | refine R.exit rfl ?_ | refine R.leq rfl rfl ?_ | refine R.gtr rfl rfl ?_ | refine R.add rfl rfl (by omega) ?_ | refine R.cv64 rfl (by omega) ?_ | refine R.cvU rfl (by omega) ?_ | refine R.quo rfl rfl (by omega) ?_ | refine R.rem rfl rfl (by omega) ?_ | refine R.condT rfl ?_ | refine R.condF rfl ?_ | refine R.cond rfl (fun hc => ?_) (fun hc => ?_) | refine R.condN rfl (fun hc => ?_) (fun hc => ?_) | refine R.condB rfl (fun hc => ?_) (fun hc => ?_))
    all_goals first | (exfalso; omega) | exact R.ret ⟨.inr rfl, R.outS rfl rfl rfl⟩
  rw [show mText k = ⟨#[109]⟩ ++ dgs k.toNat ByteArray.empty from if_neg hk0]
  obtain ⟨n0, hn0⟩ : ∃ n0 : Nat, k = n0 := ⟨k.toNat, by omega⟩
  subst hn0
  rw [Int.toNat_natCast]
  repeat' (first | refine R.mv rfl ?_ | refine R.reg ?_ | refine R.nil ?_ | refine R.seq ?_ | refine R.nseq ?_ | refine R.nblk ?_ | refine R.skip ?_ | refine R.blk ?_ | refine R.exit rfl ?_ | refine R.leq rfl rfl ?_ | refine R.gtr rfl rfl ?_ | refine R.add rfl rfl (by omega) ?_ | refine R.cv64 rfl (by omega) ?_ | refine R.cvU rfl (by omega) ?_ | refine R.quo rfl rfl (by omega) ?_ | refine R.rem rfl rfl (by omega) ?_ | refine R.condT rfl ?_ | refine R.condF rfl ?_ | refine R.cond rfl (fun hc => ?_) (fun hc => ?_) | refine R.condN rfl (fun hc => ?_) (fun hc => ?_) | refine R.condB rfl (fun hc => ?_) (fun hc => ?_))
  all_goals first | (exfalso; omega) | skip
  refine R.loop (G := Nat × ByteArray) (fun g => [(0, pvA (.int .i64 (g.1 : Int))), (3, pvA (.string g.2))]) (fun _ => []) (fun g => dgs g.1 g.2 = dgs n0 ByteArray.empty ∧ g.2.size + g.1 ≤ n0) (fun g => g.1) (n0, ByteArray.empty) ⟨rfl, by simp⟩ (Weak.frame _ _ ⟨rfl, rfl, trivial⟩ trivial rfl rfl) fun g hg => ?_
  obtain ⟨hg1, hg2⟩ := hg
  by_cases hp : 0 < g.1
  · have hs1 := bsOf_size [48 + (g.1 : Int) % 10]
    simp only [List.length_singleton] at hs1
    have hF : dgs (g.1 / 10) (bsOf [48 + (g.1 : Int) % 10] ++ g.2) = dgs n0 ByteArray.empty ∧ (bsOf [48 + (g.1 : Int) % 10] ++ g.2).size + g.1 / 10 ≤ n0 := ⟨by rw [← dgs_step hp]; exact hg1, by rw [size_app, hs1]; omega⟩
    repeat' (first | refine R.cvU8 rfl (by omega) ?_ | refine R.mv rfl ?_ | refine R.reg ?_ | refine R.nil ?_ | refine R.seq ?_ | refine R.nseq ?_ | refine R.nblk ?_ | refine R.skip ?_ | refine R.blk ?_ | refine R.exit rfl ?_ | refine R.leq rfl rfl ?_ | refine R.gtr rfl rfl ?_ | refine R.add rfl rfl (by omega) ?_ | refine R.cv64 rfl (by omega) ?_ | refine R.cvU rfl (by omega) ?_ | refine R.quo rfl rfl (by omega) ?_ | refine R.rem rfl rfl (by omega) ?_ | refine R.condT rfl ?_ | refine R.condF rfl ?_ | refine R.bsl (f := enB8) [48 + (g.1 : Int) % 10] rfl rfl rfl rfl rfl ?_ | refine R.b2s (κ := ⟨5, 1⟩) [48 + (g.1 : Int) % 10] rfl rfl rfl ?_ | refine R.addS rfl rfl (by omega) ?_ | refine R.cond rfl (fun hc => ?_) (fun hc => ?_) | refine R.condN rfl (fun hc => ?_) (fun hc => ?_) | refine R.condB rfl (fun hc => ?_) (fun hc => ?_))
    all_goals first
      | (exfalso; omega)
      | exact R.nloop (R.again (g.1 / 10, bsOf [48 + (g.1 : Int) % 10] ++ g.2) (by exact hF) (by show g.1 / 10 < g.1; omega) ⟨(congrArg (fun z => pvA (.int .i64 z)) (by show (g.1 : Int) / 10 = ((g.1 / 10 : Nat) : Int); omega)), rfl, trivial⟩ trivial rfl rfl)
      | skip
  have h0 : g.1 = 0 := by omega
  have hd : g.2 = dgs n0 ByteArray.empty := by rw [← hg1, h0, dgs_zero]
  have hsz := dgs_size n0 ByteArray.empty
  rw [← hd] at hsz ⊢
  have he : ByteArray.empty.size = 0 := rfl
  have hm1 : (⟨#[109]⟩ : ByteArray).size = 1 := rfl
  repeat' (first | refine R.mv rfl ?_ | refine R.reg ?_ | refine R.nil ?_ | refine R.seq ?_ | refine R.nseq ?_ | refine R.nblk ?_ | refine R.skip ?_ | refine R.blk ?_ | refine R.exit rfl ?_ | refine R.leq rfl rfl ?_ | refine R.gtr rfl rfl ?_ | refine R.add rfl rfl (by omega) ?_ | refine R.cv64 rfl (by omega) ?_ | refine R.cvU rfl (by omega) ?_ | refine R.quo rfl rfl (by omega) ?_ | refine R.rem rfl rfl (by omega) ?_ | refine R.condT rfl ?_ | refine R.condF rfl ?_ | refine R.addS rfl rfl (by rw [hm1]; omega) ?_ | refine R.cond rfl (fun hc => ?_) (fun hc => ?_) | refine R.condN rfl (fun hc => ?_) (fun hc => ?_) | refine R.condB rfl (fun hc => ?_) (fun hc => ?_))
  all_goals first
    | (exfalso; omega)
    | exact R.ret ⟨.inr rfl, R.outS rfl rfl rfl⟩
end Go.Proofs.Ytnkfbodolbfjpaa
