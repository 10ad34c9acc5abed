/- Dec0 and Dec1 and Dec2. -/
import Derived.Test.YtlblmofimjhbbaaDoorBel
import Derived.Lib.ItoaNum
import Derived.Test.YtlblmofimjhbbaaDoorShD
import Derived.Sort.Grow
namespace Go.Proofs.YtlblmofimjhbbaaDoor
open Go.RowKit
set_option maxRecDepth 100000 in
def S.s17 : SC := (.seq (.reg [⟨(.some 2), .none, .false, (.mv (.const (Go.Value.string { data := #[] })))⟩]) (.seq (.reg [⟨(.some 3), .none, .false, (.mv (.const (Go.Value.string { data := #[] })))⟩]) (.seq (.reg [⟨(.some 6), .none, .false, (.mv (.tmp 0))⟩, ⟨(.some 4), .none, .false, (.mv (.tmp 6))⟩]) (.seq (.block 0 (.loop (.seq (.seq (.reg [⟨(.some 7), .none, .false, (.mv (.tmp 4))⟩, ⟨(.some 8), .none, .false, (.bin .neq (.tmp 7) (.const (Go.Value.int Go.IntKind.i64 0)))⟩]) (.cond (.tmp 8) .skip (.exit 0))) (.block 1 (.seq (.reg [⟨(.some 9), .none, .false, (.mv (.tmp 4))⟩, ⟨(.some 10), .none, .false, (.bin .rem (.tmp 9) (.const (Go.Value.int Go.IntKind.i64 10)))⟩, ⟨(.some 5), .none, .false, (.mv (.tmp 10))⟩]) (.seq (.seq (.reg [⟨(.some 11), .none, .false, (.mv (.tmp 5))⟩, ⟨(.some 12), .none, .false, (.bin .lss (.tmp 11) (.const (Go.Value.int Go.IntKind.i64 0)))⟩]) (.cond (.tmp 12) (.reg [⟨(.some 13), .none, .false, (.mv (.tmp 5))⟩, ⟨(.some 14), .none, .false, (.neg (.tmp 13))⟩, ⟨(.some 5), .none, .false, (.mv (.tmp 14))⟩]) .skip)) (.seq (.reg [⟨(.some 15), .none, .false, (.mv (.tmp 5))⟩, ⟨(.some 16), .none, .false, (.bin .add (.const (Go.Value.int Go.IntKind.i64 48)) (.tmp 15))⟩, ⟨(.some 17), .none, .false, (.cv .u8 (.tmp 16))⟩, ⟨(.some 18), .none, .false, (.bsl (.mk 5 1) 1 [(0, (.tmp 17))])⟩, ⟨(.some 19), .none, .false, (.b2s (.tmp 18))⟩, ⟨(.some 20), .none, .false, (.mv (.tmp 3))⟩, ⟨(.some 21), .none, .false, (.bin .add (.tmp 19) (.tmp 20))⟩, ⟨(.some 3), .none, .false, (.mv (.tmp 21))⟩]) (.reg [⟨(.some 22), .none, .false, (.mv (.tmp 4))⟩, ⟨(.some 23), .none, .false, (.bin .quo (.tmp 22) (.const (Go.Value.int Go.IntKind.i64 10)))⟩, ⟨(.some 4), .none, .false, (.mv (.tmp 23))⟩])))))))) (.seq (.seq (.reg [⟨(.some 24), .none, .false, (.mv (.tmp 0))⟩, ⟨(.some 25), .none, .false, (.bin .eql (.tmp 24) (.const (Go.Value.int Go.IntKind.i64 0)))⟩]) (.cond (.tmp 25) (.seq (.reg [⟨(.some 2), .none, .false, (.mv (.const (Go.Value.string { data := #[48] })))⟩]) .ret) .skip)) (.seq (.seq (.reg [⟨(.some 26), .none, .false, (.mv (.tmp 0))⟩, ⟨(.some 27), .none, .false, (.bin .lss (.tmp 26) (.const (Go.Value.int Go.IntKind.i64 0)))⟩]) (.cond (.tmp 27) (.seq (.reg [⟨(.some 28), .none, .false, (.mv (.tmp 3))⟩, ⟨(.some 29), .none, .false, (.bin .add (.const (Go.Value.string { data := #[45] })) (.tmp 28))⟩, ⟨(.some 2), .none, .false, (.mv (.tmp 29))⟩]) .ret) .skip)) (.seq (.reg [⟨(.some 30), .none, .false, (.mv (.tmp 3))⟩, ⟨(.some 2), .none, .false, (.mv (.tmp 30))⟩]) .ret)))))))
set_option maxRecDepth 100000 in
theorem S.ok17 : stripF Tryd.prog Tryd.f17 = some S.s17 := by kernel_rfl
set_option maxRecDepth 100000 in
def S.s23 : SC := (.seq (.reg [⟨(.some 2), .none, .false, (.mv (.const (Go.Value.string { data := #[] })))⟩]) (.seq (.reg [⟨(.some 3), .none, .false, (.mv (.tmp 0))⟩, ⟨(.some 4), .none, .false, (.call (.func 47) [(.tmp 3), (.const (Go.Value.int Go.IntKind.i64 10))])⟩, ⟨(.some 2), .none, .false, (.mv (.tmp 4))⟩]) .ret))
set_option maxRecDepth 100000 in
theorem S.ok23 : stripF Tryd.prog Tryd.f23 = some S.s23 := by kernel_rfl
set_option maxRecDepth 100000 in
def S.s78 : SC := (.seq (.reg [⟨(.some 4), .none, .false, (.mv (.const (Go.Value.string { data := #[] })))⟩]) (.seq (.reg [⟨(.some 5), .none, .false, (.mv (.tmp 0))⟩, ⟨(.some 6), .none, .false, (.mv (.tmp 1))⟩, ⟨(.some 7), .none, .false, (.call (.func 23) [(.tmp 6)])⟩, ⟨(.some 8), .none, .false, (.bin .add (.tmp 5) (.tmp 7))⟩, ⟨(.some 4), .none, .false, (.mv (.tmp 8))⟩]) .ret))
set_option maxRecDepth 100000 in
theorem S.ok78 : stripF Tryd.prog Tryd.f78 = some S.s78 := by kernel_rfl
set_option maxRecDepth 20000
set_option maxHeartbeats 8000000
/-- A string of these bytes. -/
def bA (l : List UInt8) : ByteArray := ⟨l.toArray⟩
theorem bA_app (l m : List UInt8) : bA l ++ bA m = bA (l ++ m) := by
  apply ByteArray.ext
  simp [bA, ByteArray.data_append]
theorem bA_size (l : List UInt8) : (bA l).size = l.length := by
  show l.toArray.size = _
  simp
theorem bA_list (l : List UInt8) : (bA l).data.toList = l := by simp [bA]
/-- The digits of a number, none for 0. -/
def dg0 (u : Nat) : List UInt8 := if u = 0 then [] else Lib.decDigits u
theorem dg0_step {u : Nat} (h : u ≠ 0) : dg0 u = dg0 (u / 10) ++ [UInt8.ofNat (48 + u % 10)] := by
  unfold dg0
  rw [if_neg h]
  by_cases h1 : u < 10
  · rw [if_pos (by omega), Lib.decDigits_one h1, show u % 10 = u by omega]
    rfl
  · rw [if_neg (by omega), Lib.decDigits, dif_neg h1]
theorem dg0_len : ∀ (k u : Nat), u < 10 ^ k → (dg0 u).length ≤ k
  | 0, u, h => by
    have h0 : u = 0 := by simpa using h
    rw [dg0, if_pos h0]
    simp
  | k + 1, u, h => by
    by_cases h0 : u = 0
    · rw [dg0, if_pos h0]
      simp
    · have := dg0_len k (u / 10) (by rw [Nat.pow_succ] at h; omega)
      rw [dg0_step h0, List.length_append, List.length_singleton]
      omega
/-- The numeral of a number. -/
def decL (n : Int) : List UInt8 := Lib.itoa n
theorem decL_zero : decL 0 = [48] := by
  unfold decL Lib.itoa
  rw [if_neg (by decide), Int.toNat_zero, Lib.decDigits_one (by decide)]
  rfl
theorem decL_pos {n : Int} (h : 0 < n) : decL n = dg0 n.natAbs := by
  unfold decL Lib.itoa dg0
  rw [if_neg (by omega), if_neg (by omega), show n.toNat = n.natAbs by omega]
theorem decL_neg {n : Int} (h : n < 0) : decL n = 45 :: dg0 n.natAbs := by
  unfold decL Lib.itoa dg0
  rw [if_pos h, if_neg (by omega)]
theorem decL_len {n : Int} (h : -9223372036854775808 ≤ n ∧ n ≤ 9223372036854775807) : (decL n).length ≤ 20 := by
  have hl := dg0_len 19 n.natAbs (by omega)
  by_cases h0 : n < 0
  · rw [decL_neg h0, List.length_cons]
    omega
  · by_cases h1 : n = 0
    · rw [h1, decL_zero]
      decide
    · rw [decL_pos (by omega)]
      omega
theorem decL_ne (n : Int) : decL n ≠ [] := by
  unfold decL Lib.itoa
  split
  · simp
  · rw [Lib.decDigits]
    split <;> simp
theorem wrapB {m : Int} (h : 0 ≤ m ∧ m ≤ 255) : IntKind.wrap .u8 m = m := by
  have h2 : m % 256 = m := Int.emod_eq_of_lt h.1 (by omega)
  simp [IntKind.wrap, IntKind.bits, IntKind.signed, h2]
section
variable {P : Program} {Q : Exit → St → Prop} {ks : List Fr} {e : Nat → AV} {o : Nat → Option Ob} {d : Nat} {fr : Bool} {x y z : Operand} {rest : List SR}
theorem R.sadd {s t : List UInt8} (h1 : ev e x = pvA (.string (bA s))) (h2 : ev e y = pvA (.string (bA t))) (hr : s.length + t.length ≤ 281474976710656) (k : WL P rest ks Q ⟨upd e d (pvA (.string (bA (s ++ t)))), o⟩) : WL P (⟨some d, none, fr, .bin .add x y⟩ :: rest) ks Q ⟨e, o⟩ :=
  R.bin h1 h2 (by
    simp only [binI, strV]
    rw [if_pos (by rw [bA_size, bA_size]; unfold maxLen; omega), bA_app]) k
theorem R.cvB {k1 : IntKind} {m : Int} (h : ev e x = pvA (.int k1 m)) (hr : 0 ≤ m ∧ m ≤ 255) (k : WL P rest ks Q ⟨upd e d (pvA (.int .u8 m)), o⟩) : WL P (⟨some d, none, fr, .cv .u8 x⟩ :: rest) ks Q ⟨e, o⟩ := R.cv h (by rw [wrapB hr]; exact k)
theorem R.remS {m n : Int} (h1 : ev e x = pvA (.int .i64 m)) (h2 : ev e y = pvA (.int .i64 n)) (h0 : n ≠ 0) (k : WL P rest ks Q ⟨upd e d (pvA (.int .i64 (m.tmod n))), o⟩) : WL P (⟨some d, none, fr, .bin .rem x y⟩ :: rest) ks Q ⟨e, o⟩ :=
  R.bin h1 h2 (by
    simp only [binI, numV, if_true]
    rw [if_neg h0]) k
theorem R.quoT {m n : Int} (h1 : ev e x = pvA (.int .i64 m)) (h2 : ev e y = pvA (.int .i64 n)) (h0 : 2 ≤ n) (hb : -9223372036854775808 ≤ m ∧ m ≤ 9223372036854775807) (k : WL P rest ks Q ⟨upd e d (pvA (.int .i64 (m.tdiv n))), o⟩) : WL P (⟨some d, none, fr, .bin .quo x y⟩ :: rest) ks Q ⟨e, o⟩ :=
  R.bin h1 h2 (by
    have h3 : (m.tdiv n).natAbs = m.natAbs / n.natAbs := Int.natAbs_tdiv m n
    have h4 : m.natAbs / n.natAbs ≤ m.natAbs / 2 := Nat.div_le_div_left (by omega) (by omega)
    simp only [binI, numV, if_true]
    rw [if_neg (by omega), wrap64 ⟨by omega, by omega⟩]) k
end
open Go.Sort
theorem lib_fmt (n : Int) (hn : -9223372036854775808 ≤ n ∧ n ≤ 9223372036854775807) : Spec Tryd.prog 47 [vI n, vI 10] (oS (bA (decL n))) := by
  refine ⟨fun vs w => by kernel_rfl, fun w R ι φ vs hR hF ho => ?_⟩
  cases hF with | cons h1 h2 =>
  cases h2 with | cons h2 h3 =>
  cases h3
  cases h1
  cases h2
  have hx := ho.2.2.2 (0, 0) (by simp [tabG])
  obtain ⟨hgR, cs, T, p, hb, hcs⟩ := hx
  have hcs : cs = tabCells := hcs
  have htab : Lib.TabIs Tryd.prog w "internal/strconv.uint64pow10" .u64 Lib.pow10Tab := by
    unfold Lib.TabIs World.var?
    rw [show Tryd.prog.globalNamed "internal/strconv.uint64pow10" = some 0 by kernel_rfl]
    simp only [Option.bind_some, hb]
    rw [hcs]
    rfl
  refine (Tryd.strconv_FormatInt_10 n hn.1 hn.2 w htab).mono ?_
  rintro e w1 ⟨rfl, k, os, rfl⟩
  have hbl : Below w.heap.size w (grow (w.drewN k) os) := ⟨rfl, rfl, rfl, by simp [grow], fun j hj => heap_grow_old (w.drewN k) os hj⟩
  have hn2 : ∀ o x, frO [] o = some x → False := fun o x h => by simp [frO] at h
  have hO : ObjsOk (grow (w.drewN k) os) R ι φ (frO []) := ⟨fun o x h => (hn2 o x h).elim, fun o x h => (hn2 o x h).elim, fun o p x y g h => (hn2 o x h).elim, ho.2.2.2.keep (fun _ h => h) fun b hb => hbl.block b (hR b hb)⟩
  have hsz : okI (.string (bA (decL n))) := by
    show (bA (decL n)).size ≤ maxLen
    rw [bA_size]
    have := decL_len hn
    unfold maxLen
    omega
  refine ⟨.string (bA (decL n)), rfl, R, ι, φ, BelowM.of_below hbl, fun b h => h, fun b h => Nat.lt_of_lt_of_le (hR b h) hbl.size, fun b h _ => .inl h, RA.of_pv rfl hsz, hO, fun g h => ?_, fun o h => rfl⟩
  obtain ⟨o, x, h, _⟩ := h
  exact (hn2 o x h).elim
theorem iDec (n : Int) (hn : -9223372036854775808 ≤ n ∧ n ≤ 9223372036854775807) : Spec Tryd.prog 23 [vI n] (oS (bA (decL n))) := by
  refine Spec.walk T.mixed Tryd.func23 S.ok23 (by simp [Tryd.f23]) fun hk => ?_
  clear hk
  unfold S.s23
  repeat' (first | refine R.mv rfl ?_ | refine R.reg ?_ | refine R.nil ?_ | refine R.seq ?_ | refine R.nseq ?_ | refine R.nblk ?_ | refine R.skip ?_ | refine R.blk ?_ | refine R.exit rfl ?_ | refine R.condT rfl ?_ | refine R.condF rfl ?_ | refine R.call (bor := false) rfl rfl (lib_fmt _ hn) rfl rfl rfl ?_ | refine R.call (bor := true) rfl rfl (lib_fmt _ hn) rfl rfl rfl ?_ | refine R.fcal (bor := false) rfl rfl (lib_fmt _ hn) rfl rfl rfl ?_ | refine R.fcal (bor := true) rfl rfl (lib_fmt _ hn) rfl rfl rfl ?_ | refine R.cond rfl (fun hc => ?_) (fun hc => ?_) | refine R.condN rfl (fun hc => ?_) (fun hc => ?_) | refine R.condB rfl (fun hc => ?_) (fun hc => ?_))
  all_goals first
    | exact R.ret ⟨.inr rfl, R.outS rfl rfl rfl⟩
    | skip
theorem sDec (n : Int) (hn : -9223372036854775808 ≤ n ∧ n ≤ 9223372036854775807) : Spec Tryd.prog 17 [vI n] (oS (bA (decL n))) := by
  refine Spec.walk T.mixed Tryd.func17 S.ok17 (by simp [Tryd.f17]) fun hk => ?_
  clear hk
  unfold S.s17
  have hl19 := dg0_len 19 n.natAbs (by omega)
  repeat' (first | refine R.mv rfl ?_ | refine R.reg ?_ | refine R.nil ?_ | refine R.seq ?_ | refine R.nseq ?_ | refine R.nblk ?_ | refine R.skip ?_ | refine R.blk ?_ | refine R.exit rfl ?_ | refine R.lss rfl rfl ?_ | refine R.eql rfl rfl ?_ | refine R.neq rfl rfl ?_ | refine R.add rfl rfl (by omega) ?_ | refine R.cv64 rfl (by omega) ?_ | refine R.neg rfl (by omega) ?_ | refine R.cvU rfl (by omega) ?_ | refine R.quo rfl rfl (by omega) ?_ | refine R.rem rfl rfl (by omega) ?_ | refine R.condT rfl ?_ | refine R.condF rfl ?_ | refine R.cond rfl (fun hc => ?_) (fun hc => ?_) | refine R.condN rfl (fun hc => ?_) (fun hc => ?_) | refine R.condB rfl (fun hc => ?_) (fun hc => ?_))
  refine R.loop (G := Int × List UInt8) (fun g => [(0, pvA (.int .i64 n)), (3, pvA (.string (bA g.2))), (4, pvA (.int .i64 g.1))]) (fun _ => []) (fun g => (-9223372036854775808 ≤ g.1 ∧ g.1 ≤ 9223372036854775807) ∧ dg0 g.1.natAbs ++ g.2 = dg0 n.natAbs) (fun g => g.1.natAbs) (n, []) ⟨hn, List.append_nil _⟩ (Weak.frame _ _ ⟨rfl, rfl, rfl, trivial⟩ trivial rfl rfl) fun g hg => ?_
  obtain ⟨hm, hout⟩ := hg
  by_cases h0 : g.1 = 0
  · have hdone : g.2 = dg0 n.natAbs := by
      rw [← hout, h0]
      rfl
    repeat' (first | refine R.mv rfl ?_ | refine R.reg ?_ | refine R.nil ?_ | refine R.seq ?_ | refine R.nseq ?_ | refine R.nblk ?_ | refine R.skip ?_ | refine R.blk ?_ | refine R.exit rfl ?_ | refine R.lss rfl rfl ?_ | refine R.eql rfl rfl ?_ | refine R.neq rfl rfl ?_ | refine R.add rfl rfl (by omega) ?_ | refine R.cv64 rfl (by omega) ?_ | refine R.neg rfl (by omega) ?_ | refine R.cvU rfl (by omega) ?_ | refine R.quo rfl rfl (by omega) ?_ | refine R.rem rfl rfl (by omega) ?_ | refine R.condT rfl ?_ | refine R.condF rfl ?_ | refine R.sadd rfl rfl (by rw [hdone]; simp; omega) ?_ | refine R.cond rfl (fun hc => ?_) (fun hc => ?_) | refine R.condN rfl (fun hc => ?_) (fun hc => ?_) | refine R.condB rfl (fun hc => ?_) (fun hc => ?_))
    all_goals first
      | (exfalso; omega)
      | (have hz : n = 0 := by assumption
         refine R.ret ⟨.inr rfl, R.outS rfl rfl ?_⟩
         rw [hz]
         exact congrArg bA decL_zero.symm)
      | (refine R.ret ⟨.inr rfl, R.outS rfl rfl ?_⟩; refine congrArg bA ?_; rw [decL_neg (by assumption), hdone]; rfl)
      | (refine R.ret ⟨.inr rfl, R.outS rfl rfl ?_⟩; refine congrArg bA ?_; rw [decL_pos (by omega), hdone])
      | skip
  · have h1 : (g.1.tmod 10).natAbs = g.1.natAbs % 10 := Int.natAbs_tmod g.1 10
    have h2 : (g.1.tdiv 10).natAbs = g.1.natAbs / 10 := Int.natAbs_tdiv g.1 10
    have hst := dg0_step (u := g.1.natAbs) (by omega)
    have hlo := congrArg List.length hout
    rw [List.length_append] at hlo
    have hdec : (g.1.tdiv 10).natAbs < g.1.natAbs := by omega
    repeat' (first | refine R.mv rfl ?_ | refine R.reg ?_ | refine R.nil ?_ | refine R.seq ?_ | refine R.nseq ?_ | refine R.nblk ?_ | refine R.skip ?_ | refine R.blk ?_ | refine R.exit rfl ?_ | refine R.lss rfl rfl ?_ | refine R.eql rfl rfl ?_ | refine R.neq rfl rfl ?_ | refine R.add rfl rfl (by omega) ?_ | refine R.cv64 rfl (by omega) ?_ | refine R.neg rfl (by omega) ?_ | refine R.cvU rfl (by omega) ?_ | refine R.quo rfl rfl (by omega) ?_ | refine R.rem rfl rfl (by omega) ?_ | refine R.condT rfl ?_ | refine R.condF rfl ?_ | refine R.remS rfl rfl (by decide) ?_ | refine R.quoT rfl rfl (by decide) hm ?_ | refine R.cvB rfl (by omega) ?_ | refine R.bsl (f := enB8) [48 + g.1.tmod 10] rfl rfl rfl rfl rfl ?_ | refine R.bsl (f := enB8) [48 + (0 - g.1.tmod 10)] rfl rfl rfl rfl rfl ?_ | refine R.b2s (κ := ⟨5, 1⟩) _ rfl rfl rfl ?_ | refine R.sadd (s := [UInt8.ofNat (48 + g.1.tmod 10).toNat]) rfl rfl (by simp; omega) ?_ | refine R.sadd (s := [UInt8.ofNat (48 + (0 - g.1.tmod 10)).toNat]) rfl rfl (by simp; omega) ?_ | refine R.cond rfl (fun hc => ?_) (fun hc => ?_) | refine R.condN rfl (fun hc => ?_) (fun hc => ?_) | refine R.condB rfl (fun hc => ?_) (fun hc => ?_))
    all_goals first
      | (exfalso; omega)
      | exact R.nloop (R.again (g.1.tdiv 10, [UInt8.ofNat (48 + (0 - g.1.tmod 10)).toNat] ++ g.2) ⟨by dsimp only; omega, by dsimp only; rw [← hout, hst, show (48 + (0 - g.1.tmod 10)).toNat = 48 + g.1.natAbs % 10 by omega, h2]; simp⟩ (by exact hdec) ⟨rfl, rfl, rfl, trivial⟩ trivial rfl rfl)
      | exact R.nloop (R.again (g.1.tdiv 10, [UInt8.ofNat (48 + g.1.tmod 10).toNat] ++ g.2) ⟨by dsimp only; omega, by dsimp only; rw [← hout, hst, show (48 + g.1.tmod 10).toNat = 48 + g.1.natAbs % 10 by omega, h2]; simp⟩ (by exact hdec) ⟨rfl, rfl, rfl, trivial⟩ trivial rfl rfl)
theorem iNum (w : List UInt8) (hw : w.length ≤ 100) (n : Int) (hn : -9223372036854775808 ≤ n ∧ n ≤ 9223372036854775807) : Spec Tryd.prog 78 [.c (sD (bA w)), vI n] (oS (bA (w ++ decL n))) := by
  refine Spec.walk T.mixed Tryd.func78 S.ok78 (by simp [Tryd.f78]) fun hk => ?_
  clear hk
  unfold S.s78
  have hl := decL_len hn
  repeat' (first | refine R.mv rfl ?_ | refine R.reg ?_ | refine R.nil ?_ | refine R.seq ?_ | refine R.nseq ?_ | refine R.nblk ?_ | refine R.skip ?_ | refine R.blk ?_ | refine R.exit rfl ?_ | refine R.add rfl rfl (by omega) ?_ | refine R.condT rfl ?_ | refine R.condF rfl ?_ | refine R.call (bor := false) rfl rfl (iDec _ hn) rfl rfl rfl ?_ | refine R.call (bor := true) rfl rfl (iDec _ hn) rfl rfl rfl ?_ | refine R.fcal (bor := false) rfl rfl (iDec _ hn) rfl rfl rfl ?_ | refine R.fcal (bor := true) rfl rfl (iDec _ hn) rfl rfl rfl ?_ | refine R.sadd rfl rfl (by omega) ?_ | refine R.cond rfl (fun hc => ?_) (fun hc => ?_) | refine R.condN rfl (fun hc => ?_) (fun hc => ?_) | refine R.condB rfl (fun hc => ?_) (fun hc => ?_))
  all_goals first
    | exact R.ret ⟨.inr rfl, R.outS rfl rfl rfl⟩
    | skip
end Go.Proofs.YtlblmofimjhbbaaDoor
