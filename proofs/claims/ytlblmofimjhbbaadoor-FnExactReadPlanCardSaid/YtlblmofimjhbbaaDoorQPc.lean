/- Dec0 and Dec1 and Dec2 and Joi and RdC and RdN and RdB. -/
import Derived.Test.YtlblmofimjhbbaaDoorBel
import Derived.Lib.ItoaNum
import Derived.Test.YtlblmofimjhbbaaDoorShD
import Derived.Sort.Grow
import Derived.Lib.SplitLaws
import Derived.Lib.Split
import Derived.Lib.Join
import Derived.Lib.ParseIntB
import Derived.Test.YtlblmofimjhbbaaDoorQPa
namespace Go.Proofs.YtlblmofimjhbbaaDoor
open Go.RowKit
set_option maxRecDepth 100000 in
def S.s17 : SC := (.seq (.reg [⟨(.some 2), .none, .false, (.mv (.const (Go.Value.string { data := #[] })))⟩]) (.seq (.reg [⟨(.some 3), .none, .false, (.mv (.const (Go.Value.string { data := #[] })))⟩]) (.seq (.reg [⟨(.some 6), .none, .false, (.mv (.tmp 0))⟩, ⟨(.some 4), .none, .false, (.mv (.tmp 6))⟩]) (.seq (.block 0 (.loop (.seq (.seq (.reg [⟨(.some 7), .none, .false, (.mv (.tmp 4))⟩, ⟨(.some 8), .none, .false, (.bin .neq (.tmp 7) (.const (Go.Value.int Go.IntKind.i64 0)))⟩]) (.cond (.tmp 8) .skip (.exit 0))) (.block 1 (.seq (.reg [⟨(.some 9), .none, .false, (.mv (.tmp 4))⟩, ⟨(.some 10), .none, .false, (.bin .rem (.tmp 9) (.const (Go.Value.int Go.IntKind.i64 10)))⟩, ⟨(.some 5), .none, .false, (.mv (.tmp 10))⟩]) (.seq (.seq (.reg [⟨(.some 11), .none, .false, (.mv (.tmp 5))⟩, ⟨(.some 12), .none, .false, (.bin .lss (.tmp 11) (.const (Go.Value.int Go.IntKind.i64 0)))⟩]) (.cond (.tmp 12) (.reg [⟨(.some 13), .none, .false, (.mv (.tmp 5))⟩, ⟨(.some 14), .none, .false, (.neg (.tmp 13))⟩, ⟨(.some 5), .none, .false, (.mv (.tmp 14))⟩]) .skip)) (.seq (.reg [⟨(.some 15), .none, .false, (.mv (.tmp 5))⟩, ⟨(.some 16), .none, .false, (.bin .add (.const (Go.Value.int Go.IntKind.i64 48)) (.tmp 15))⟩, ⟨(.some 17), .none, .false, (.cv .u8 (.tmp 16))⟩, ⟨(.some 18), .none, .false, (.bsl (.mk 5 1) 1 [(0, (.tmp 17))])⟩, ⟨(.some 19), .none, .false, (.b2s (.tmp 18))⟩, ⟨(.some 20), .none, .false, (.mv (.tmp 3))⟩, ⟨(.some 21), .none, .false, (.bin .add (.tmp 19) (.tmp 20))⟩, ⟨(.some 3), .none, .false, (.mv (.tmp 21))⟩]) (.reg [⟨(.some 22), .none, .false, (.mv (.tmp 4))⟩, ⟨(.some 23), .none, .false, (.bin .quo (.tmp 22) (.const (Go.Value.int Go.IntKind.i64 10)))⟩, ⟨(.some 4), .none, .false, (.mv (.tmp 23))⟩])))))))) (.seq (.seq (.reg [⟨(.some 24), .none, .false, (.mv (.tmp 0))⟩, ⟨(.some 25), .none, .false, (.bin .eql (.tmp 24) (.const (Go.Value.int Go.IntKind.i64 0)))⟩]) (.cond (.tmp 25) (.seq (.reg [⟨(.some 2), .none, .false, (.mv (.const (Go.Value.string { data := #[48] })))⟩]) .ret) .skip)) (.seq (.seq (.reg [⟨(.some 26), .none, .false, (.mv (.tmp 0))⟩, ⟨(.some 27), .none, .false, (.bin .lss (.tmp 26) (.const (Go.Value.int Go.IntKind.i64 0)))⟩]) (.cond (.tmp 27) (.seq (.reg [⟨(.some 28), .none, .false, (.mv (.tmp 3))⟩, ⟨(.some 29), .none, .false, (.bin .add (.const (Go.Value.string { data := #[45] })) (.tmp 28))⟩, ⟨(.some 2), .none, .false, (.mv (.tmp 29))⟩]) .ret) .skip)) (.seq (.reg [⟨(.some 30), .none, .false, (.mv (.tmp 3))⟩, ⟨(.some 2), .none, .false, (.mv (.tmp 30))⟩]) .ret)))))))
set_option maxRecDepth 100000 in
theorem S.ok17 : stripF Tryd.prog Tryd.f17 = some S.s17 := by kernel_rfl
set_option maxRecDepth 100000 in
def S.s23 : SC := (.seq (.reg [⟨(.some 2), .none, .false, (.mv (.const (Go.Value.string { data := #[] })))⟩]) (.seq (.reg [⟨(.some 3), .none, .false, (.mv (.tmp 0))⟩, ⟨(.some 4), .none, .false, (.call (.func 47) [(.tmp 3), (.const (Go.Value.int Go.IntKind.i64 10))])⟩, ⟨(.some 2), .none, .false, (.mv (.tmp 4))⟩]) .ret))
set_option maxRecDepth 100000 in
theorem S.ok23 : stripF Tryd.prog Tryd.f23 = some S.s23 := by kernel_rfl
set_option maxRecDepth 100000 in
def S.s78 : SC := (.seq (.reg [⟨(.some 4), .none, .false, (.mv (.const (Go.Value.string { data := #[] })))⟩]) (.seq (.reg [⟨(.some 5), .none, .false, (.mv (.tmp 0))⟩, ⟨(.some 6), .none, .false, (.mv (.tmp 1))⟩, ⟨(.some 7), .none, .false, (.call (.func 23) [(.tmp 6)])⟩, ⟨(.some 8), .none, .false, (.bin .add (.tmp 5) (.tmp 7))⟩, ⟨(.some 4), .none, .false, (.mv (.tmp 8))⟩]) .ret))
set_option maxRecDepth 100000 in
theorem S.ok78 : stripF Tryd.prog Tryd.f78 = some S.s78 := by kernel_rfl
set_option maxRecDepth 20000
set_option maxHeartbeats 8000000
/-- A string of these bytes. -/
def bA (l : List UInt8) : ByteArray := ⟨l.toArray⟩
theorem bA_app (l m : List UInt8) : bA l ++ bA m = bA (l ++ m) := by
  apply ByteArray.ext
  simp [bA, ByteArray.data_append]
theorem bA_size (l : List UInt8) : (bA l).size = l.length := by
  show l.toArray.size = _
  simp
theorem bA_list (l : List UInt8) : (bA l).data.toList = l := by simp [bA]
/-- The digits of a number, none for 0. -/
def dg0 (u : Nat) : List UInt8 := if u = 0 then [] else Lib.decDigits u
theorem dg0_step {u : Nat} (h : u ≠ 0) : dg0 u = dg0 (u / 10) ++ [UInt8.ofNat (48 + u % 10)] := by
  unfold dg0
  rw [if_neg h]
  by_cases h1 : u < 10
  · rw [if_pos (by omega), Lib.decDigits_one h1, show u % 10 = u by omega]
    rfl
  · rw [if_neg (by omega), Lib.decDigits, dif_neg h1]
theorem dg0_len : ∀ (k u : Nat), u < 10 ^ k → (dg0 u).length ≤ k
  | 0, u, h => by
    have h0 : u = 0 := by simpa using h
    rw [dg0, if_pos h0]
    simp
  | k + 1, u, h => by
    by_cases h0 : u = 0
    · rw [dg0, if_pos h0]
      simp
    · have := dg0_len k (u / 10) (by rw [Nat.pow_succ] at h; omega)
      rw [dg0_step h0, List.length_append, List.length_singleton]
      omega
/-- The numeral of a number. -/
def decL (n : Int) : List UInt8 := Lib.itoa n
theorem decL_zero : decL 0 = [48] := by
  unfold decL Lib.itoa
  rw [if_neg (by decide), Int.toNat_zero, Lib.decDigits_one (by decide)]
  rfl
theorem decL_pos {n : Int} (h : 0 < n) : decL n = dg0 n.natAbs := by
  unfold decL Lib.itoa dg0
  rw [if_neg (by omega), if_neg (by omega), show n.toNat = n.natAbs by omega]
theorem decL_neg {n : Int} (h : n < 0) : decL n = 45 :: dg0 n.natAbs := by
  unfold decL Lib.itoa dg0
  rw [if_pos h, if_neg (by omega)]
theorem decL_len {n : Int} (h : -9223372036854775808 ≤ n ∧ n ≤ 9223372036854775807) : (decL n).length ≤ 20 := by
  have hl := dg0_len 19 n.natAbs (by omega)
  by_cases h0 : n < 0
  · rw [decL_neg h0, List.length_cons]
    omega
  · by_cases h1 : n = 0
    · rw [h1, decL_zero]
      decide
    · rw [decL_pos (by omega)]
      omega
theorem decL_ne (n : Int) : decL n ≠ [] := by
  unfold decL Lib.itoa
  split
  · simp
  · rw [Lib.decDigits]
    split <;> simp
theorem wrapB {m : Int} (h : 0 ≤ m ∧ m ≤ 255) : IntKind.wrap .u8 m = m := by
  have h2 : m % 256 = m := Int.emod_eq_of_lt h.1 (by omega)
  simp [IntKind.wrap, IntKind.bits, IntKind.signed, h2]
section
variable {P : Program} {Q : Exit → St → Prop} {ks : List Fr} {e : Nat → AV} {o : Nat → Option Ob} {d : Nat} {fr : Bool} {x y z : Operand} {rest : List SR}
theorem R.sadd {s t : List UInt8} (h1 : ev e x = pvA (.string (bA s))) (h2 : ev e y = pvA (.string (bA t))) (hr : s.length + t.length ≤ 281474976710656) (k : WL P rest ks Q ⟨upd e d (pvA (.string (bA (s ++ t)))), o⟩) : WL P (⟨some d, none, fr, .bin .add x y⟩ :: rest) ks Q ⟨e, o⟩ :=
  R.bin h1 h2 (by
    simp only [binI, strV]
    rw [if_pos (by rw [bA_size, bA_size]; unfold maxLen; omega), bA_app]) k
theorem R.cvB {k1 : IntKind} {m : Int} (h : ev e x = pvA (.int k1 m)) (hr : 0 ≤ m ∧ m ≤ 255) (k : WL P rest ks Q ⟨upd e d (pvA (.int .u8 m)), o⟩) : WL P (⟨some d, none, fr, .cv .u8 x⟩ :: rest) ks Q ⟨e, o⟩ := R.cv h (by rw [wrapB hr]; exact k)
theorem R.remS {m n : Int} (h1 : ev e x = pvA (.int .i64 m)) (h2 : ev e y = pvA (.int .i64 n)) (h0 : n ≠ 0) (k : WL P rest ks Q ⟨upd e d (pvA (.int .i64 (m.tmod n))), o⟩) : WL P (⟨some d, none, fr, .bin .rem x y⟩ :: rest) ks Q ⟨e, o⟩ :=
  R.bin h1 h2 (by
    simp only [binI, numV, if_true]
    rw [if_neg h0]) k
theorem R.quoT {m n : Int} (h1 : ev e x = pvA (.int .i64 m)) (h2 : ev e y = pvA (.int .i64 n)) (h0 : 2 ≤ n) (hb : -9223372036854775808 ≤ m ∧ m ≤ 9223372036854775807) (k : WL P rest ks Q ⟨upd e d (pvA (.int .i64 (m.tdiv n))), o⟩) : WL P (⟨some d, none, fr, .bin .quo x y⟩ :: rest) ks Q ⟨e, o⟩ :=
  R.bin h1 h2 (by
    have h3 : (m.tdiv n).natAbs = m.natAbs / n.natAbs := Int.natAbs_tdiv m n
    have h4 : m.natAbs / n.natAbs ≤ m.natAbs / 2 := Nat.div_le_div_left (by omega) (by omega)
    simp only [binI, numV, if_true]
    rw [if_neg (by omega), wrap64 ⟨by omega, by omega⟩]) k
end
open Go.Sort
theorem lib_fmt (n : Int) (hn : -9223372036854775808 ≤ n ∧ n ≤ 9223372036854775807) : Spec Tryd.prog 47 [vI n, vI 10] (oS (bA (decL n))) := by
  refine ⟨fun vs w => by kernel_rfl, fun w R ι φ vs hR hF ho => ?_⟩
  cases hF with | cons h1 h2 =>
  cases h2 with | cons h2 h3 =>
  cases h3
  cases h1
  cases h2
  have hx := ho.2.2.2 (0, 0) (by simp [tabG])
  obtain ⟨hgR, cs, T, p, hb, hcs⟩ := hx
  have hcs : cs = tabCells := hcs
  have htab : Lib.TabIs Tryd.prog w "internal/strconv.uint64pow10" .u64 Lib.pow10Tab := by
    unfold Lib.TabIs World.var?
    rw [show Tryd.prog.globalNamed "internal/strconv.uint64pow10" = some 0 by kernel_rfl]
    simp only [Option.bind_some, hb]
    rw [hcs]
    rfl
  refine (Tryd.strconv_FormatInt_10 n hn.1 hn.2 w htab).mono ?_
  rintro e w1 ⟨rfl, k, os, rfl⟩
  have hbl : Below w.heap.size w (grow (w.drewN k) os) := ⟨rfl, rfl, rfl, by simp [grow], fun j hj => heap_grow_old (w.drewN k) os hj⟩
  have hn2 : ∀ o x, frO [] o = some x → False := fun o x h => by simp [frO] at h
  have hO : ObjsOk (grow (w.drewN k) os) R ι φ (frO []) := ⟨fun o x h => (hn2 o x h).elim, fun o x h => (hn2 o x h).elim, fun o p x y g h => (hn2 o x h).elim, ho.2.2.2.keep (fun _ h => h) fun b hb => hbl.block b (hR b hb)⟩
  have hsz : okI (.string (bA (decL n))) := by
    show (bA (decL n)).size ≤ maxLen
    rw [bA_size]
    have := decL_len hn
    unfold maxLen
    omega
  refine ⟨.string (bA (decL n)), rfl, R, ι, φ, BelowM.of_below hbl, fun b h => h, fun b h => Nat.lt_of_lt_of_le (hR b h) hbl.size, fun b h _ => .inl h, RA.of_pv rfl hsz, hO, fun g h => ?_, fun o h => rfl⟩
  obtain ⟨o, x, h, _⟩ := h
  exact (hn2 o x h).elim
theorem iDec (n : Int) (hn : -9223372036854775808 ≤ n ∧ n ≤ 9223372036854775807) : Spec Tryd.prog 23 [vI n] (oS (bA (decL n))) := by
  refine Spec.walk T.mixed Tryd.func23 S.ok23 (by simp [Tryd.f23]) fun hk => ?_
  clear hk
  unfold S.s23
  repeat' (first | refine R.mv rfl ?_ | refine R.reg ?_ | refine R.nil ?_ | refine R.seq ?_ | refine R.nseq ?_ | refine R.nblk ?_ | refine R.skip ?_ | refine R.blk ?_ | refine R.exit rfl ?_ | refine R.condT rfl ?_ | refine R.condF rfl ?_ | refine R.call (bor := false) rfl rfl (lib_fmt _ hn) rfl rfl rfl ?_ | refine R.call (bor := true) rfl rfl (lib_fmt _ hn) rfl rfl rfl ?_ | refine R.fcal (bor := false) rfl rfl (lib_fmt _ hn) rfl rfl rfl ?_ | refine R.fcal (bor := true) rfl rfl (lib_fmt _ hn) rfl rfl rfl ?_ | refine R.cond rfl (fun hc => ?_) (fun hc => ?_) | refine R.condN rfl (fun hc => ?_) (fun hc => ?_) | refine R.condB rfl (fun hc => ?_) (fun hc => ?_))
  all_goals first
    | exact R.ret ⟨.inr rfl, R.outS rfl rfl rfl⟩
    | skip
theorem sDec (n : Int) (hn : -9223372036854775808 ≤ n ∧ n ≤ 9223372036854775807) : Spec Tryd.prog 17 [vI n] (oS (bA (decL n))) := by
  refine Spec.walk T.mixed Tryd.func17 S.ok17 (by simp [Tryd.f17]) fun hk => ?_
  clear hk
  unfold S.s17
  have hl19 := dg0_len 19 n.natAbs (by omega)
  repeat' (first | refine R.mv rfl ?_ | refine R.reg ?_ | refine R.nil ?_ | refine R.seq ?_ | refine R.nseq ?_ | refine R.nblk ?_ | refine R.skip ?_ | refine R.blk ?_ | refine R.exit rfl ?_ | refine R.lss rfl rfl ?_ | refine R.eql rfl rfl ?_ | refine R.neq rfl rfl ?_ | refine R.add rfl rfl (by omega) ?_ | refine R.cv64 rfl (by omega) ?_ | refine R.neg rfl (by omega) ?_ | refine R.cvU rfl (by omega) ?_ | refine R.quo rfl rfl (by omega) ?_ | refine R.rem rfl rfl (by omega) ?_ | refine R.condT rfl ?_ | refine R.condF rfl ?_ | refine R.cond rfl (fun hc => ?_) (fun hc => ?_) | refine R.condN rfl (fun hc => ?_) (fun hc => ?_) | refine R.condB rfl (fun hc => ?_) (fun hc => ?_))
  refine R.loop (G := Int × List UInt8) (fun g => [(0, pvA (.int .i64 n)), (3, pvA (.string (bA g.2))), (4, pvA (.int .i64 g.1))]) (fun _ => []) (fun g => (-9223372036854775808 ≤ g.1 ∧ g.1 ≤ 9223372036854775807) ∧ dg0 g.1.natAbs ++ g.2 = dg0 n.natAbs) (fun g => g.1.natAbs) (n, []) ⟨hn, List.append_nil _⟩ (Weak.frame _ _ ⟨rfl, rfl, rfl, trivial⟩ trivial rfl rfl) fun g hg => ?_
  obtain ⟨hm, hout⟩ := hg
  by_cases h0 : g.1 = 0
  · have hdone : g.2 = dg0 n.natAbs := by
      rw [← hout, h0]
      rfl
    repeat' (first | refine R.mv rfl ?_ | refine R.reg ?_ | refine R.nil ?_ | refine R.seq ?_ | refine R.nseq ?_ | refine R.nblk ?_ | refine R.skip ?_ | refine R.blk ?_ | refine R.exit rfl ?_ | refine R.lss rfl rfl ?_ | refine R.eql rfl rfl ?_ | refine R.neq rfl rfl ?_ | refine R.add rfl rfl (by omega) ?_ | refine R.cv64 rfl (by omega) ?_ | refine R.neg rfl (by omega) ?_ | refine R.cvU rfl (by omega) ?_ | refine R.quo rfl rfl (by omega) ?_ | refine R.rem rfl rfl (by omega) ?_ | refine R.condT rfl ?_ | refine R.condF rfl ?_ | refine R.sadd rfl rfl (by rw [hdone]; simp; omega) ?_ | refine R.cond rfl (fun hc => ?_) (fun hc => ?_) | refine R.condN rfl (fun hc => ?_) (fun hc => ?_) | refine R.condB rfl (fun hc => ?_) (fun hc => ?_))
    all_goals first
      | (exfalso; omega)
      | (have hz : n = 0 := by assumption
         refine R.ret ⟨.inr rfl, R.outS rfl rfl ?_⟩
         rw [hz]
         exact congrArg bA decL_zero.symm)
      | (refine R.ret ⟨.inr rfl, R.outS rfl rfl ?_⟩; refine congrArg bA ?_; rw [decL_neg (by assumption), hdone]; rfl)
      | (refine R.ret ⟨.inr rfl, R.outS rfl rfl ?_⟩; refine congrArg bA ?_; rw [decL_pos (by omega), hdone])
      | skip
  · have h1 : (g.1.tmod 10).natAbs = g.1.natAbs % 10 := Int.natAbs_tmod g.1 10
    have h2 : (g.1.tdiv 10).natAbs = g.1.natAbs / 10 := Int.natAbs_tdiv g.1 10
    have hst := dg0_step (u := g.1.natAbs) (by omega)
    have hlo := congrArg List.length hout
    rw [List.length_append] at hlo
    have hdec : (g.1.tdiv 10).natAbs < g.1.natAbs := by omega
    repeat' (first | refine R.mv rfl ?_ | refine R.reg ?_ | refine R.nil ?_ | refine R.seq ?_ | refine R.nseq ?_ | refine R.nblk ?_ | refine R.skip ?_ | refine R.blk ?_ | refine R.exit rfl ?_ | refine R.lss rfl rfl ?_ | refine R.eql rfl rfl ?_ | refine R.neq rfl rfl ?_ | refine R.add rfl rfl (by omega) ?_ | refine R.cv64 rfl (by omega) ?_ | refine R.neg rfl (by omega) ?_ | refine R.cvU rfl (by omega) ?_ | refine R.quo rfl rfl (by omega) ?_ | refine R.rem rfl rfl (by omega) ?_ | refine R.condT rfl ?_ | refine R.condF rfl ?_ | refine R.remS rfl rfl (by decide) ?_ | refine R.quoT rfl rfl (by decide) hm ?_ | refine R.cvB rfl (by omega) ?_ | refine R.bsl (f := enB8) [48 + g.1.tmod 10] rfl rfl rfl rfl rfl ?_ | refine R.bsl (f := enB8) [48 + (0 - g.1.tmod 10)] rfl rfl rfl rfl rfl ?_ | refine R.b2s (κ := ⟨5, 1⟩) _ rfl rfl rfl ?_ | refine R.sadd (s := [UInt8.ofNat (48 + g.1.tmod 10).toNat]) rfl rfl (by simp; omega) ?_ | refine R.sadd (s := [UInt8.ofNat (48 + (0 - g.1.tmod 10)).toNat]) rfl rfl (by simp; omega) ?_ | refine R.cond rfl (fun hc => ?_) (fun hc => ?_) | refine R.condN rfl (fun hc => ?_) (fun hc => ?_) | refine R.condB rfl (fun hc => ?_) (fun hc => ?_))
    all_goals first
      | (exfalso; omega)
      | exact R.nloop (R.again (g.1.tdiv 10, [UInt8.ofNat (48 + (0 - g.1.tmod 10)).toNat] ++ g.2) ⟨by dsimp only; omega, by dsimp only; rw [← hout, hst, show (48 + (0 - g.1.tmod 10)).toNat = 48 + g.1.natAbs % 10 by omega, h2]; simp⟩ (by exact hdec) ⟨rfl, rfl, rfl, trivial⟩ trivial rfl rfl)
      | exact R.nloop (R.again (g.1.tdiv 10, [UInt8.ofNat (48 + g.1.tmod 10).toNat] ++ g.2) ⟨by dsimp only; omega, by dsimp only; rw [← hout, hst, show (48 + g.1.tmod 10).toNat = 48 + g.1.natAbs % 10 by omega, h2]; simp⟩ (by exact hdec) ⟨rfl, rfl, rfl, trivial⟩ trivial rfl rfl)
theorem iNum (w : List UInt8) (hw : w.length ≤ 100) (n : Int) (hn : -9223372036854775808 ≤ n ∧ n ≤ 9223372036854775807) : Spec Tryd.prog 78 [.c (sD (bA w)), vI n] (oS (bA (w ++ decL n))) := by
  refine Spec.walk T.mixed Tryd.func78 S.ok78 (by simp [Tryd.f78]) fun hk => ?_
  clear hk
  unfold S.s78
  have hl := decL_len hn
  repeat' (first | refine R.mv rfl ?_ | refine R.reg ?_ | refine R.nil ?_ | refine R.seq ?_ | refine R.nseq ?_ | refine R.nblk ?_ | refine R.skip ?_ | refine R.blk ?_ | refine R.exit rfl ?_ | refine R.add rfl rfl (by omega) ?_ | refine R.condT rfl ?_ | refine R.condF rfl ?_ | refine R.call (bor := false) rfl rfl (iDec _ hn) rfl rfl rfl ?_ | refine R.call (bor := true) rfl rfl (iDec _ hn) rfl rfl rfl ?_ | refine R.fcal (bor := false) rfl rfl (iDec _ hn) rfl rfl rfl ?_ | refine R.fcal (bor := true) rfl rfl (iDec _ hn) rfl rfl rfl ?_ | refine R.sadd rfl rfl (by omega) ?_ | refine R.cond rfl (fun hc => ?_) (fun hc => ?_) | refine R.condN rfl (fun hc => ?_) (fun hc => ?_) | refine R.condB rfl (fun hc => ?_) (fun hc => ?_))
  all_goals first
    | exact R.ret ⟨.inr rfl, R.outS rfl rfl rfl⟩
    | skip
open Go.RowKit Go.Sort
def joinB (l : List ByteArray) (sep : ByteArray) : ByteArray := ⟨(Lib.join (l.map (·.data.toList)) sep.data.toList).toArray⟩
theorem lib_join (l : List ByteArray) (sep : ByteArray) (hN : l.length ≤ 1048576) (hlen : (Lib.join (l.map (·.data.toList)) sep.data.toList).length ≤ 140737488355328) : Spec Tryd.prog 79 [.c (.rd ⟨9, 1⟩ (l.map fun b => [sD b])), .c (sD sep)] (.v (.c (.fz (sD (joinB l sep))))) := by
  refine ⟨fun vs w => by kernel_rfl, fun w R ι φ vs hR hF ho => ?_⟩
  cases hF with | cons h1 h2 =>
  cases h2 with | cons h2 h3 =>
  cases h3
  rename_i v v2
  have h1 : RD w R v (.rd ⟨9, 1⟩ (l.map fun b => [sD b])) := h1
  have h2 : RD w R v2 (sD sep) := h2
  cases h2
  have hcalls : Calls Tryd.prog 79 #[v, .string sep] w (fun e w1 => e = .returned (.string (joinB l sep)) ∧ Below w.heap.size w w1) := by
    unfold joinB
    generalize hxs : (l.map fun b => [sD b]) = xs at h1
    cases h1 with
    | nil =>
      obtain rfl : l = [] := List.map_eq_nil_iff.1 hxs
      exact (Tryd.strings_Join_none _ _ _ w).mono fun e w1 ⟨he, hw⟩ => ⟨he, by rw [hw]; exact Below.refl _ _⟩
    | rd c g0 g1 g2 gR gk gc gr =>
      have hl : xs.length = l.length := by rw [← hxs]; simp
      rw [hl]
      have hJ := fun b off cap h1 h2 h3 h4 => Tryd.strings_Join b off cap l sep w h1 h2 h3 h4 hlen
      clear hlen
      refine hJ _ _ _ (fun j x hx => ?_) (hR _ gR) (by omega) (by omega)
      have e0 : xs[j]? = some [sD x] := by rw [← hxs, List.getElem?_map, hx]; rfl
      have e1 := gc j _ 0 e0 (Nat.zero_lt_one)
      have e2 := gr j _ 0 _ e0 rfl
      generalize c j 0 = u at e1 e2
      cases e2
      rw [Nat.mul_one, Nat.add_zero] at e1
      exact e1
  refine hcalls.mono ?_
  rintro e w1 ⟨rfl, hbl⟩
  have hn : ∀ o x, frO [] o = some x → False := fun o x h => by simp [frO] at h
  have hO : ObjsOk w1 R ι φ (frO []) := ⟨fun o x h => (hn o x h).elim, fun o x h => (hn o x h).elim, fun o p x y g h => (hn o x h).elim, ho.2.2.2.keep (fun _ h => h) fun b hb => hbl.block b (hR b hb)⟩
  have hsz : okI (.string (joinB l sep)) := by
    show ((Lib.join (l.map (·.data.toList)) sep.data.toList).toArray).size ≤ maxLen
    rw [List.size_toArray]
    unfold maxLen
    omega
  refine ⟨.string (joinB l sep), rfl, R, ι, φ, BelowM.of_below hbl, fun b h => h, fun b h => Nat.lt_of_lt_of_le (hR b h) hbl.size, fun b h _ => .inl h, RA.of_pv rfl hsz, hO, fun g h => ?_, fun o h => rfl⟩
  obtain ⟨o, x, h, _⟩ := h
  exact (hn o x h).elim
/-- The pieces of a text between the places of sep; pre: the piece so far; k: bytes of sep still to be passed. -/
def cutS (sep : List UInt8) : List UInt8 → List UInt8 → Nat → List (List UInt8)
  | [], pre, _ => [pre]
  | _ :: r, pre, k + 1 => cutS sep r pre k
  | b :: r, pre, 0 => if sep.isPrefixOf (b :: r) then pre :: cutS sep r [] (sep.length - 1) else cutS sep r (pre ++ [b]) 0
theorem cutS_skip (sep : List UInt8) : ∀ (k : Nat) (s pre : List UInt8), cutS sep s pre k = cutS sep (s.drop k) pre 0
  | 0, s, pre => by simp
  | k + 1, [], pre => by simp [cutS]
  | k + 1, b :: r, pre => by
    rw [cutS, cutS_skip sep k r pre, List.drop_succ_cons]
theorem cutS_hit {sep s : List UInt8} (h0 : sep ≠ []) (h : sep.isPrefixOf s = true) (pre : List UInt8) : cutS sep s pre 0 = pre :: cutS sep (s.drop sep.length) [] 0 := by
  cases s with
  | nil =>
    cases sep with
    | nil => exact (h0 rfl).elim
    | cons a l => simp [List.isPrefixOf] at h
  | cons b r =>
    rw [cutS, if_pos h, cutS_skip]
    cases sep with
    | nil => exact (h0 rfl).elim
    | cons a l => simp
theorem cutS_miss {sep r : List UInt8} {b : UInt8} (h : sep.isPrefixOf (b :: r) = false) (pre : List UInt8) : cutS sep (b :: r) pre 0 = cutS sep r (pre ++ [b]) 0 := by
  rw [cutS, if_neg (by rw [h]; simp)]
theorem prefix_len {sep : List UInt8} : ∀ {s : List UInt8}, s.length < sep.length → sep.isPrefixOf s = false := fun {s} h => by
  cases hp : sep.isPrefixOf s with
  | false => rfl
  | true =>
    have := (List.isPrefixOf_iff_prefix.1 hp).length_le
    omega
theorem cutS_short {sep : List UInt8} : ∀ (s pre : List UInt8), s.length < sep.length → cutS sep s pre 0 = [pre ++ s]
  | [], pre, _ => by simp [cutS]
  | b :: r, pre, h => by
    rw [cutS_miss (prefix_len h), cutS_short r _ (by simp at h; omega)]
    simp
theorem cutS_ne (sep : List UInt8) : ∀ (s pre : List UInt8) (k : Nat), cutS sep s pre k ≠ []
  | [], _, _ => by simp [cutS]
  | _ :: r, pre, k + 1 => by rw [cutS]; exact cutS_ne sep r pre k
  | b :: r, pre, 0 => by
    rw [cutS]
    split
    · simp
    · exact cutS_ne sep r _ 0
theorem cutS_none {sep : List UInt8} : ∀ (s pre : List UInt8), Lib.index s sep = -1 → cutS sep s pre 0 = [pre ++ s]
  | [], pre, _ => by simp [cutS]
  | b :: r, pre, h => by
    unfold Lib.index at h
    split at h
    · cases h
    · rename_i hp
      have hp : sep.isPrefixOf (b :: r) = false := Bool.eq_false_iff.2 hp
      have hr : Lib.index r sep = -1 := by
        split at h
        · rename_i h1; simpa using h1
        · have := Lib.index_ge r sep
          omega
      rw [cutS_miss hp, cutS_none r _ hr]
      simp
theorem cutS_index {sep : List UInt8} (h0 : sep ≠ []) : ∀ (s pre : List UInt8) (i : Nat), Lib.index s sep = i → cutS sep s pre 0 = (pre ++ s.take i) :: cutS sep (s.drop (i + sep.length)) [] 0
  | [], pre, i, h => by
    unfold Lib.index at h
    split at h
    · rename_i hs; exact (h0 (by simpa using hs)).elim
    · omega
  | b :: r, pre, i, h => by
    unfold Lib.index at h
    split at h
    · rename_i hp
      obtain rfl : i = 0 := by omega
      rw [cutS_hit h0 hp]
      simp
    · rename_i hp
      have hp : sep.isPrefixOf (b :: r) = false := Bool.eq_false_iff.2 hp
      split at h
      · omega
      · rename_i h1
        have hge := Lib.index_ge r sep
        have h1 : ¬ Lib.index r sep = -1 := by simpa using h1
        obtain ⟨j, rfl⟩ : ∃ j, i = j + 1 := ⟨i - 1, by omega⟩
        rw [cutS_miss hp, cutS_index h0 r _ j (by omega), show j + 1 + sep.length = (j + sep.length) + 1 by omega, List.drop_succ_cons, List.take_succ_cons]
        simp
theorem splitK_cut {sep : List UInt8} (h0 : sep ≠ []) : ∀ (k : Nat) (s : List UInt8), Lib.count s sep = k → Lib.splitK sep 0 k s = cutS sep s [] 0 := by
  intro k
  induction k with
  | zero =>
    intro s h
    have hge := Lib.index_ge s sep
    by_cases hi : Lib.index s sep = -1
    · rw [cutS_none s [] hi]; rfl
    · obtain ⟨i, hi'⟩ : ∃ i : Nat, Lib.index s sep = i := ⟨(Lib.index s sep).toNat, by omega⟩
      rw [Lib.count_hit h0 hi'] at h
      omega
  | succ k ih =>
    intro s h
    have hge := Lib.index_ge s sep
    by_cases hi : Lib.index s sep = -1
    · rw [Lib.count_miss hi] at h
      omega
    · obtain ⟨i, hi'⟩ : ∃ i : Nat, Lib.index s sep = i := ⟨(Lib.index s sep).toNat, by omega⟩
      rw [Lib.count_hit h0 hi'] at h
      unfold Lib.splitK
      rw [if_neg (by rw [hi']; simp), hi', cutS_index h0 s [] i hi', Int.toNat_natCast, ih _ (by omega), Nat.add_zero, List.nil_append]
/-- Pieces: how long they are together, and how many. -/
theorem cutS_sum {sep : List UInt8} (h0 : sep ≠ []) : ∀ (n : Nat) (s pre : List UInt8), s.length ≤ n → ((cutS sep s pre 0).map List.length).sum + (cutS sep s pre 0).length * sep.length = pre.length + s.length + sep.length
  | n, [], pre, _ => by simp [cutS]
  | 0, b :: r, _, h => by simp at h
  | n + 1, b :: r, pre, h => by
    cases hp : sep.isPrefixOf (b :: r) with
    | true =>
      have hl := (List.isPrefixOf_iff_prefix.1 hp).length_le
      have hs : 0 < sep.length := List.length_pos_iff.2 h0
      rw [cutS_hit h0 hp]
      have ih := cutS_sum h0 n ((b :: r).drop sep.length) [] (by rw [List.length_drop]; simp at h ⊢; omega)
      rw [List.length_drop] at ih
      simp only [List.map_cons, List.sum_cons, List.length_cons, Nat.succ_mul, List.length_nil] at ih hl ⊢
      omega
    | false =>
      rw [cutS_miss hp]
      have ih := cutS_sum h0 n r (pre ++ [b]) (by simp at h; omega)
      simp only [List.length_append, List.length_cons, List.length_nil] at ih ⊢
      omega
theorem le_sumL {n : Nat} : ∀ l : List Nat, n ∈ l → n ≤ l.sum
  | [], h => by cases h
  | m :: l, h => by
    rw [List.sum_cons]
    rcases List.mem_cons.1 h with rfl | h
    · omega
    · have := le_sumL l h
      omega
/-- Each piece is no longer than the text; there are no more pieces than fit. -/
theorem cut_bds {sep s : List UInt8} (h0 : sep ≠ []) : (∀ p ∈ cutS sep s [] 0, p.length ≤ s.length) ∧ (cutS sep s [] 0).length * sep.length ≤ s.length + sep.length := by
  have h := cutS_sum h0 s.length s [] (Nat.le_refl _)
  have hs : 0 < sep.length := List.length_pos_iff.2 h0
  have h1 : 1 ≤ (cutS sep s [] 0).length := List.length_pos_iff.2 (cutS_ne sep s [] 0)
  have h2 : sep.length ≤ (cutS sep s [] 0).length * sep.length := Nat.le_mul_of_pos_left _ h1
  simp only [List.length_nil] at h
  refine ⟨fun p hp => ?_, by omega⟩
  have := le_sumL ((cutS sep s [] 0).map List.length) (List.mem_map.2 ⟨p, hp, rfl⟩)
  omega
/-- No place of sep begins within p, whether p ends the text or sep follows. -/
def clr (sep : List UInt8) : List UInt8 → Prop
  | [] => True
  | b :: p => sep.isPrefixOf (b :: p) = false ∧ (∀ rest, sep.isPrefixOf (b :: p ++ (sep ++ rest)) = false) ∧ clr sep p
theorem cut_clr {sep : List UInt8} : ∀ (p pre : List UInt8), clr sep p → cutS sep p pre 0 = [pre ++ p]
  | [], pre, _ => by simp [cutS]
  | b :: p, pre, ⟨h1, _, h3⟩ => by
    rw [cutS_miss h1, cut_clr p _ h3]
    simp
theorem cut_clr_sep {sep : List UInt8} (h0 : sep ≠ []) (rest : List UInt8) : ∀ (p pre : List UInt8), clr sep p → cutS sep (p ++ (sep ++ rest)) pre 0 = (pre ++ p) :: cutS sep rest [] 0
  | [], pre, _ => by
    rw [List.nil_append, cutS_hit h0 (List.isPrefixOf_iff_prefix.2 ⟨rest, rfl⟩), List.drop_left, List.append_nil]
  | b :: p, pre, ⟨_, h2, h3⟩ => by
    have h2 := h2 rest
    rw [List.cons_append] at h2 ⊢
    rw [cutS_miss h2, cut_clr_sep h0 rest p _ h3]
    simp
theorem joinC (x sep : List UInt8) : ∀ r : List (List UInt8), r ≠ [] → Lib.join (x :: r) sep = x ++ (sep ++ Lib.join r sep)
  | [], h => (h rfl).elim
  | y :: r, _ => by rw [Lib.join_cons, Lib.join_cons]; simp [Lib.joinTail]
theorem cut_join {sep : List UInt8} (h0 : sep ≠ []) : ∀ l : List (List UInt8), l ≠ [] → (∀ p ∈ l, clr sep p) → cutS sep (Lib.join l sep) [] 0 = l
  | [], h, _ => (h rfl).elim
  | [x], _, h => by rw [Lib.join_one, cut_clr x [] (h x (by simp))]; rfl
  | x :: y :: l, _, h => by
    rw [joinC _ _ _ (by simp), cut_clr_sep h0 _ x [] (h x (by simp)), cut_join h0 (y :: l) (by simp) fun p hp => h p (List.mem_cons_of_mem _ hp)]
    rfl
/-- A text without sep's first byte. -/
theorem clr_head {c : UInt8} {sep : List UInt8} : ∀ {p : List UInt8}, c ∉ p → clr (c :: sep) p
  | [], _ => trivial
  | b :: p, h => by
    have hb : (c == b) = false := beq_eq_false_iff_ne.2 fun e => h (by simp [e])
    exact ⟨by simp [List.isPrefixOf, hb], fun rest => by simp [List.isPrefixOf, hb], clr_head fun e => h (List.mem_cons_of_mem _ e)⟩
/-- A text in which another byte than d follows on each c. -/
def foll (c d : UInt8) : List UInt8 → Prop
  | [] => True
  | b :: p => (b = c → ∃ a q, p = a :: q ∧ a ≠ d) ∧ foll c d p
theorem clr_foll {c d : UInt8} {sep : List UInt8} : ∀ {p : List UInt8}, foll c d p → clr (c :: d :: sep) p
  | [], _ => trivial
  | b :: p, ⟨h1, h2⟩ => by
    by_cases hb : b = c
    · obtain ⟨a, q, rfl, ha⟩ := h1 hb
      have ha : (d == a) = false := beq_eq_false_iff_ne.2 fun e => ha e.symm
      exact ⟨by simp [List.isPrefixOf, ha], fun rest => by simp [List.isPrefixOf, ha], clr_foll h2⟩
    · have hb : (c == b) = false := beq_eq_false_iff_ne.2 fun e => hb e.symm
      exact ⟨by simp [List.isPrefixOf, hb], fun rest => by simp [List.isPrefixOf, hb], clr_foll h2⟩
theorem foll_app {c d : UInt8} {q : List UInt8} (hq : foll c d q) : ∀ {p : List UInt8}, c ∉ p → foll c d (p ++ q)
  | [], _ => hq
  | b :: p, h => ⟨fun e => (h (by simp [e])).elim, foll_app hq fun e => h (List.mem_cons_of_mem _ e)⟩
theorem foll_join {c d : UInt8} : ∀ l : List (List UInt8), (∀ p ∈ l, p ≠ [] ∧ c ∉ p ∧ d ∉ p) → foll c d (Lib.join l [c])
  | [], _ => by rw [Lib.join_nil]; trivial
  | [x], h => by
    rw [Lib.join_one]
    have := foll_app (d := d) (q := []) trivial (h x (by simp)).2.1
    simpa using this
  | x :: y :: l, h => by
    rw [joinC _ _ _ (by simp)]
    have ih := foll_join (c := c) (d := d) (y :: l) fun p hp => h p (List.mem_cons_of_mem _ hp)
    have hq : foll c d ([c] ++ Lib.join (y :: l) [c]) := by
      refine ⟨fun _ => ?_, ih⟩
      obtain ⟨hy, _, hd⟩ := h y (by simp)
      cases y with
      | nil => exact (hy rfl).elim
      | cons a q => exact ⟨a, q ++ Lib.joinTail [c] l, by rw [Lib.join_cons]; rfl, fun e => hd (by simp [e])⟩
    exact foll_app hq (h x (by simp)).2.1

/-- The pieces of a string. -/
def cutB (sep s : ByteArray) : List ByteArray := (cutS sep.data.toList s.data.toList [] 0).map bA
theorem bA_data (b : ByteArray) : bA b.data.toList = b := by cases b; simp [bA]
theorem splitB_cut {sep : ByteArray} (h0 : 1 ≤ sep.size) (s : ByteArray) : Lib.splitB sep 0 (Lib.countB s sep) s = cutB sep s := by
  have hs : sep.data.toList ≠ [] := fun e => by
    have : sep.size = sep.data.toList.length := by simp
    rw [e, List.length_nil] at this
    omega
  have h := Lib.splitB_data sep 0 (Lib.countB s sep) s
  rw [splitK_cut hs _ _ rfl] at h
  unfold cutB
  rw [← h, List.map_map]
  have : (bA ∘ fun (x : ByteArray) => x.data.toList) = id := by funext b; exact bA_data b
  rw [this, List.map_id]
theorem cutB_len {sep : ByteArray} (h0 : 1 ≤ sep.size) (s : ByteArray) : (cutB sep s).length = Lib.countB s sep + 1 := by
  rw [← splitB_cut h0]
  exact Lib.splitB_all sep h0 0 _ s rfl
def isDg (b : UInt8) : Prop := 48 ≤ b.toNat ∧ b.toNat ≤ 57
theorem dg0_dig : ∀ (k u : Nat), u < 10 ^ k → ∀ b ∈ dg0 u, isDg b
  | 0, u, h, b, hb => by
    have h0 : u = 0 := by simpa using h
    rw [dg0, if_pos h0] at hb
    cases hb
  | k + 1, u, h, b, hb => by
    by_cases h0 : u = 0
    · rw [dg0, if_pos h0] at hb
      cases hb
    · rw [dg0_step h0, List.mem_append, List.mem_singleton] at hb
      rcases hb with hb | rfl
      · exact dg0_dig k (u / 10) (by rw [Nat.pow_succ] at h; omega) b hb
      · unfold isDg
        rw [UInt8.toNat_ofNat']
        omega
theorem dg0_ne {u : Nat} (h : u ≠ 0) : dg0 u ≠ [] := by rw [dg0_step h]; simp
theorem parseU_app (M : Nat) : ∀ (l : List UInt8) (acc a : Nat), Lib.parseUintM M acc l = .ok a → ∀ c, Lib.parseUintM M acc (l ++ [c]) = Lib.parseUintM M a [c]
  | [], acc, a, h, c => by
    have h : Lib.NumEnd.ok acc = .ok a := h
    cases h
    rfl
  | b :: l, acc, a, h, c => by
    rw [Lib.parseUintM] at h
    rw [List.cons_append, Lib.parseUintM]
    split at h
    · rename_i h1
      rw [if_pos h1]
      split at h
      · cases h
      · rename_i h2
        rw [if_neg h2]
        split at h
        · cases h
        · rename_i h3
          rw [if_neg h3]
          exact parseU_app M l _ a h c
    · cases h
theorem parse_dg0 : ∀ (k u : Nat), k ≤ 18 → u < 10 ^ k → Lib.parseUintM (2 ^ 64 - 1) 0 (dg0 u) = .ok u
  | 0, u, _, h => by
    obtain rfl : u = 0 := by simpa using h
    rw [dg0, if_pos rfl]
    rfl
  | k + 1, u, hk, h => by
    by_cases h0 : u = 0
    · subst h0
      rw [dg0, if_pos rfl]
      rfl
    · have h18 : u < 10 ^ 18 := Nat.lt_of_lt_of_le h (Nat.pow_le_pow_right (by decide) hk)
      have ih := parse_dg0 k (u / 10) (by omega) (by rw [Nat.pow_succ] at h; omega)
      rw [dg0_step h0, parseU_app _ _ _ _ ih, Lib.parseUintM]
      have hc : (UInt8.ofNat (48 + u % 10)).toNat = 48 + u % 10 := by rw [UInt8.toNat_ofNat']; omega
      rw [hc, if_pos (by omega), if_neg (by omega), if_neg (by omega), Lib.parseUintM]
      congr 1
      omega
theorem parse_decL {n : Int} (h : -1000000000 ≤ n ∧ n ≤ 1000000000) : Lib.parseIntB 64 (decL n) = .ok n := by
  by_cases h0 : n = 0
  · subst h0; rw [decL_zero]; decide
  have hu := parse_dg0 18 n.natAbs (by omega) (by omega)
  have hd := dg0_dig 18 n.natAbs (by omega)
  have hne := dg0_ne (u := n.natAbs) (by omega)
  by_cases hn : n < 0
  · rw [decL_neg hn]
    unfold Lib.parseIntB
    have e45 : (45 : UInt8).toNat = 45 := by decide
    simp only [e45, or_true, if_true]
    unfold Lib.parseUintB
    rw [if_neg hne, hu]
    simp only [not_true, false_and, if_false, true_and]
    rw [if_neg (by omega)]
    congr 1
    omega
  · rw [decL_pos (by omega)]
    cases hl : dg0 n.natAbs with
    | nil => exact (hne hl).elim
    | cons c r =>
      obtain ⟨c1, c2⟩ := hd c (by rw [hl]; simp)
      rw [hl] at hu
      unfold Lib.parseIntB
      have e43 : ¬ c.toNat = 43 := by omega
      have e45 : ¬ c.toNat = 45 := by omega
      simp only [e43, e45, or_self, if_false]
      unfold Lib.parseUintB
      rw [if_neg (by simp), hu]
      simp only [not_false_iff, true_and, false_and, if_false]
      rw [if_neg (by omega)]
      congr 1
      omega
/-- The number of a numeral, if it is one (of a number that is not too great). -/
def rdD (l : List UInt8) : Option Int := match Lib.parseIntB 64 l with
  | .ok n => if (-1000000000 ≤ n ∧ n ≤ 1000000000) ∧ decL n = l then some n else none
  | _ => none
theorem rdD_dec {n : Int} (h : -1000000000 ≤ n ∧ n ≤ 1000000000) : rdD (decL n) = some n := by
  unfold rdD
  rw [parse_decL h]
  exact if_pos ⟨h, rfl⟩
theorem rdD_some {l : List UInt8} {n : Int} (h : rdD l = some n) : (-1000000000 ≤ n ∧ n ≤ 1000000000) ∧ decL n = l := by
  unfold rdD at h
  split at h
  · split at h
    · rename_i h1; cases h; exact h1
    · cases h
  · cases h
/-- The bytes behind a sign. -/
def bodyN : List UInt8 → List UInt8
  | [] => []
  | c :: r => if c = 45 then r else c :: r
def vD (l : List UInt8) : Int := l.foldl (fun n b => 10 * n + ((b.toNat : Int) - 48)) 0
theorem vD_snoc (l : List UInt8) (b : UInt8) : vD (l ++ [b]) = 10 * vD l + ((b.toNat : Int) - 48) := by simp [vD, List.foldl_append]
theorem vD_dg0 : ∀ (k u : Nat), u < 10 ^ k → vD (dg0 u) = u
  | 0, u, h => by
    obtain rfl : u = 0 := by simpa using h
    rw [dg0, if_pos rfl]
    rfl
  | k + 1, u, h => by
    by_cases h0 : u = 0
    · subst h0
      rw [dg0, if_pos rfl]
      rfl
    · have ih := vD_dg0 k (u / 10) (by rw [Nat.pow_succ] at h; omega)
      rw [dg0_step h0, vD_snoc, ih, UInt8.toNat_ofNat']
      omega
theorem vD_bdR : ∀ (l : List UInt8), (∀ b ∈ l, isDg b) → 0 ≤ vD l.reverse ∧ vD l.reverse < 10 ^ l.length
  | [], _ => ⟨by decide, by decide⟩
  | b :: l, h => by
    obtain ⟨i1, i2⟩ := vD_bdR l fun c hc => h c (by simp [hc])
    obtain ⟨b1, b2⟩ := h b (by simp)
    rw [List.reverse_cons, vD_snoc, List.length_cons, Int.pow_succ]
    omega
theorem vD_bd (l : List UInt8) (h : ∀ b ∈ l, isDg b) : 0 ≤ vD l ∧ vD l < 10 ^ l.length := by
  have := vD_bdR l.reverse fun b hb => h b (by simpa using hb)
  simpa using this
/-- The value so far. -/
def nvD (l : List UInt8) : Int := vD (bodyN l)
theorem body_one {l : List UInt8} {b : UInt8} (h : ¬ (l = [] ∧ b = 45)) : bodyN (l ++ [b]) = bodyN l ++ [b] := by
  cases l with
  | nil =>
    have hb : b ≠ 45 := fun e => h ⟨rfl, e⟩
    simp [bodyN, hb]
  | cons c r =>
    simp only [List.cons_append, bodyN]
    split <;> rfl
theorem nvD_step {l : List UInt8} {b : UInt8} (h : ¬ (l = [] ∧ b = 45)) : nvD (l ++ [b]) = 10 * nvD l + ((b.toNat : Int) - 48) := by
  unfold nvD
  rw [body_one h, vD_snoc]
theorem body_len (l : List UInt8) : (bodyN l).length ≤ l.length := by
  cases l with
  | nil => exact Nat.le_refl _
  | cons c r =>
    show (if c = 45 then r else c :: r).length ≤ _
    split <;> simp
theorem nvD_bd {l : List UInt8} (hl : l.length ≤ 11) (h : ∀ b ∈ bodyN l, isDg b) : 0 ≤ nvD l ∧ nvD l < 100000000000 := by
  obtain ⟨h1, h2⟩ := vD_bd _ h
  refine ⟨h1, Int.lt_of_lt_of_le h2 ?_⟩
  have := Nat.pow_le_pow_right (n := 10) (by decide) (Nat.le_trans (body_len l) hl)
  have h3 : ((10 ^ (bodyN l).length : Nat) : Int) ≤ ((10 ^ 11 : Nat) : Int) := Int.ofNat_le.2 this
  rw [Int.natCast_pow] at h3
  exact h3
/-- A numeral's bytes, and its value. -/
theorem rd_body {l : List UInt8} {n : Int} (h : rdD l = some n) : (1 ≤ l.length ∧ l.length ≤ 11) ∧ (∀ b ∈ bodyN l, isDg b) ∧ (if l.head? = some 45 then -nvD l else nvD l) = n := by
  obtain ⟨hb, rfl⟩ := rdD_some h
  by_cases h0 : n = 0
  · subst h0
    rw [decL_zero]
    refine ⟨by decide, fun b hb => ?_, by decide⟩
    have e : b = 48 := by simpa [bodyN] using hb
    subst e
    exact ⟨by decide, by decide⟩
  have hd := dg0_dig 10 n.natAbs (by omega)
  have hv := vD_dg0 10 n.natAbs (by omega)
  have hl := dg0_len 10 n.natAbs (by omega)
  have hne := dg0_ne (u := n.natAbs) (by omega)
  have hp := List.length_pos_iff.2 hne
  by_cases hn : n < 0
  · rw [decL_neg hn]
    refine ⟨by simp; omega, by simpa [bodyN] using hd, ?_⟩
    rw [if_pos (by rfl)]
    unfold nvD
    rw [show bodyN (45 :: dg0 n.natAbs) = dg0 n.natAbs from rfl, hv]
    omega
  · rw [decL_pos (by omega)]
    cases he : dg0 n.natAbs with
    | nil => exact (hne he).elim
    | cons c r =>
      rw [he] at hd hv hl
      have hc : c ≠ 45 := fun e => by
        subst e
        have := (hd 45 (by simp)).1
        revert this
        decide
      have eb : bodyN (c :: r) = c :: r := by simp [bodyN, hc]
      refine ⟨by simp at hl ⊢; omega, by rw [eb]; exact hd, ?_⟩
      rw [if_neg (by simp [hc])]
      unfold nvD
      rw [eb, hv]
      omega
theorem bA_get (l : List UInt8) (i : Nat) : (bA l)[i]? = l[i]? := by
  rcases Nat.lt_or_ge i l.length with h | h
  · rw [List.getElem?_eq_getElem h, getElem?_pos (bA l) i (by rw [bA_size]; exact h)]
    rfl
  · rw [List.getElem?_eq_none h, getElem?_neg (bA l) i (by rw [bA_size]; omega)]
theorem bA_ext (l : List UInt8) (i j : Nat) : (bA l).extract i j = bA ((l.take j).drop i) := by
  apply ByteArray.ext
  simp [bA, List.take_drop]
  rcases Nat.le_total i j with h | h
  · rw [Nat.add_sub_cancel' h]
  · rw [List.drop_eq_nil_of_le (by simp; omega), List.drop_eq_nil_of_le (by simp; omega)]
theorem bA_eq {s t : List UInt8} : bA s = bA t ↔ s = t := ⟨fun h => by have := congrArg (fun b => b.data.toList) h; simpa [bA] using this, fun h => by rw [h]⟩
section
variable {P : Program} {Q : Exit → St → Prop} {ks : List Fr} {e : Nat → AV} {o : Nat → Option Ob} {d : Nat} {fr : Bool} {x y z : Operand} {rest : List SR}
theorem R.slenA {l : List UInt8} (h : ev e x = pvA (.string (bA l))) (k : WL P rest ks Q ⟨upd e d (pvA (.int .i64 l.length)), o⟩) : WL P (⟨some d, none, fr, .slen x⟩ :: rest) ks Q ⟨e, o⟩ := R.slen h (by rw [bA_size]; exact k)
theorem R.sixA {l : List UInt8} {b : UInt8} {k' : IntKind} {n : Int} (hb : l[n.toNat]? = some b) (h : ev e x = pvA (.string (bA l))) (h1 : ev e y = pvA (.int k' n)) (h0 : 0 ≤ n) (k : WL P rest ks Q ⟨upd e d (pvA (.int .u8 b.toNat)), o⟩) : WL P (⟨some d, none, fr, .six x y⟩ :: rest) ks Q ⟨e, o⟩ := by
  refine R.six h h1 ⟨h0, ?_⟩ fun a ha => ?_
  · have := (List.getElem?_eq_some_iff.1 hb).1
    rw [bA_size]
    omega
  · rw [bA_get, hb] at ha
    cases ha
    exact k
theorem R.subB {m n : Int} (h1 : ev e x = pvA (.int .u8 m)) (h2 : ev e y = pvA (.int .u8 n)) (hr : 0 ≤ m - n ∧ m - n ≤ 255) (k : WL P rest ks Q ⟨upd e d (pvA (.int .u8 (m - n))), o⟩) : WL P (⟨some d, none, fr, .bin .sub x y⟩ :: rest) ks Q ⟨e, o⟩ :=
  R.bin h1 h2 (by simp only [binI, numV, if_true, wrapB hr]) k
theorem R.eqlA {s t : List UInt8} {b : Bool} (hb : decide (s = t) = b) (h1 : ev e x = pvA (.string (bA s))) (h2 : ev e y = pvA (.string (bA t))) (k : WL P rest ks Q ⟨upd e d (pvA (.bool b)), o⟩) : WL P (⟨some d, none, fr, .bin .eql x y⟩ :: rest) ks Q ⟨e, o⟩ :=
  R.eqlS h1 h2 (by rw [show decide (bA s = bA t) = b by rw [← hb]; exact decide_eq_decide.2 bA_eq]; exact k)
theorem R.neqA {s t : List UInt8} {b : Bool} (hb : decide (s = t) = b) (h1 : ev e x = pvA (.string (bA s))) (h2 : ev e y = pvA (.string (bA t))) (k : WL P rest ks Q ⟨upd e d (pvA (.bool !b)), o⟩) : WL P (⟨some d, none, fr, .bin .neq x y⟩ :: rest) ks Q ⟨e, o⟩ :=
  R.neqS h1 h2 (by rw [show decide (bA s = bA t) = b by rw [← hb]; exact decide_eq_decide.2 bA_eq]; exact k)
theorem R.sslcA {l : List UInt8} {lo hi : Option Operand} (i j : Nat) (h : ev e x = pvA (.string (bA l))) (h1 : i ≤ j ∧ j ≤ l.length) (h2 : bndV ⟨e, o⟩ 0 lo i) (h3 : bndV ⟨e, o⟩ l.length hi j) (k : WL P rest ks Q ⟨upd e d (pvA (.string (bA ((l.take j).drop i)))), o⟩) : WL P (⟨some d, none, fr, .sslc x lo hi⟩ :: rest) ks Q ⟨e, o⟩ :=
  R.sslc i j h (by rw [bA_size]; exact h1) h2 (by rw [bA_size]; exact h3) (by rw [bA_ext]; exact k)
end
end Go.Proofs.YtlblmofimjhbbaaDoor
