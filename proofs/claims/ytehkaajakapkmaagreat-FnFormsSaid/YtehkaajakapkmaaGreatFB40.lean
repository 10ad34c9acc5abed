/- Texts of one proof, one behind the other. -/
import Derived.Test.YtehkaajakapkmaaGreatFB17
namespace Go.Proofs.YtehkaajakapkmaaGreat
section
open Go.RowKit
set_option maxRecDepth 100000 in
def S.s46 : SC := (.seq (.reg [⟨(.some 2), .none, .false, (.mv (.const (Go.Value.pointer none)))⟩]) (.seq (.reg [⟨(.some 3), .none, .false, (.mv (.tmp 0))⟩, ⟨(.some 4), .none, .false, (.bld [(Go.Value.slice none 0 0), (Go.Value.int Go.IntKind.i64 0), (Go.Value.int Go.IntKind.u64 0)] [(0, 1), (1, 1), (2, 1)] [(0, (.tmp 3))])⟩, ⟨(.some 5), .none, .false, (.box 111 (.tmp 4))⟩, ⟨(.some 2), .none, .false, (.mv (.tmp 5))⟩]) .ret))
set_option maxRecDepth 100000 in
theorem S.ok46 : stripF Tryz.prog Tryz.f46 = some S.s46 := by kernel_rfl
set_option maxRecDepth 100000 in
def S.s79 : SC := (.seq (.reg [⟨(.some 4), .none, .false, (.mv (.const (Go.Value.int Go.IntKind.i64 0)))⟩]) (.seq (.seq (.reg [⟨(.some 6), .none, .false, (.mv (.tmp 1))⟩, ⟨(.some 7), .none, .false, (.bin .leq (.tmp 6) (.const (Go.Value.int Go.IntKind.i64 1)))⟩]) (.cond (.tmp 7) (.seq (.reg [⟨(.some 4), .none, .false, (.mv (.const (Go.Value.int Go.IntKind.i64 0)))⟩]) .ret) .skip)) (.seq (.reg [⟨(.some 8), .none, .false, (.mv (.tmp 0))⟩, ⟨(.some 9), .none, .false, (.call (.func 102) [(.tmp 8)])⟩, ⟨(.some 5), .none, .false, (.mv (.tmp 9))⟩]) (.seq (.seq (.reg [⟨(.some 10), .none, .false, (.mv (.tmp 1))⟩, ⟨(.some 11), .none, .false, (.bin .gtr (.tmp 10) (.const (Go.Value.int Go.IntKind.i64 200)))⟩]) (.cond (.tmp 11) (.reg [⟨(.some 12), .none, .false, (.mv (.tmp 5))⟩, ⟨(.some 13), .none, .false, (.bin .mul (.tmp 12) (.const (Go.Value.int Go.IntKind.i64 256)))⟩, ⟨(.some 14), .none, .false, (.mv (.tmp 0))⟩, ⟨(.some 15), .none, .false, (.call (.func 102) [(.tmp 14)])⟩, ⟨(.some 16), .none, .false, (.bin .add (.tmp 13) (.tmp 15))⟩, ⟨(.some 5), .none, .false, (.mv (.tmp 16))⟩]) .skip)) (.seq (.reg [⟨(.some 17), .none, .false, (.mv (.tmp 5))⟩, ⟨(.some 18), .none, .false, (.mv (.tmp 1))⟩, ⟨(.some 19), .none, .false, (.bin .rem (.tmp 17) (.tmp 18))⟩, ⟨(.some 4), .none, .false, (.mv (.tmp 19))⟩]) .ret)))))
set_option maxRecDepth 100000 in
theorem S.ok79 : stripF Tryz.prog Tryz.f79 = some S.s79 := by kernel_rfl
set_option maxRecDepth 100000 in
def S.s102 : SC := (.seq (.reg [⟨(.some 2), .none, .false, (.mv (.const (Go.Value.int Go.IntKind.i64 0)))⟩]) (.seq (.reg [⟨(.some 3), .none, .false, (.mv (.const (Go.Value.int Go.IntKind.i64 0)))⟩]) (.seq (.seq (.reg [⟨(.some 4), .none, .true, (.mv (.tmp 0))⟩, ⟨(.some 5), .none, .true, (.nc (.tmp 4))⟩, ⟨(.some 6), .none, .true, (.fa 1 (.tmp 5))⟩, ⟨(.some 7), .none, .true, (.ld .false 1 (.tmp 6))⟩, ⟨(.some 8), .none, .true, (.mv (.tmp 0))⟩, ⟨(.some 9), .none, .true, (.nc (.tmp 8))⟩, ⟨(.some 10), .none, .true, (.fa 0 (.tmp 9))⟩, ⟨(.some 11), .none, .true, (.ld .false 1 (.tmp 10))⟩, ⟨(.some 12), .none, .true, (.len (.tmp 11))⟩, ⟨(.some 13), .none, .true, (.bin .lss (.tmp 7) (.tmp 12))⟩]) (.cond (.tmp 13) (.reg [⟨(.some 14), .none, .true, (.mv (.tmp 0))⟩, ⟨(.some 15), .none, .true, (.nc (.tmp 14))⟩, ⟨(.some 16), .none, .true, (.fa 0 (.tmp 15))⟩, ⟨(.some 17), .none, .true, (.ld .false 1 (.tmp 16))⟩, ⟨(.some 18), .none, .true, (.mv (.tmp 0))⟩, ⟨(.some 19), .none, .true, (.nc (.tmp 18))⟩, ⟨(.some 20), .none, .true, (.fa 1 (.tmp 19))⟩, ⟨(.some 21), .none, .true, (.ld .false 1 (.tmp 20))⟩, ⟨(.some 22), .none, .true, (.ix (.mk 5 1) (.tmp 17) (.tmp 21))⟩, ⟨(.some 23), .none, .true, (.ld .false 1 (.tmp 22))⟩, ⟨(.some 24), .none, .true, (.cv .i64 (.tmp 23))⟩, ⟨(.some 3), .none, .true, (.mv (.tmp 24))⟩]) .skip)) (.seq (.reg [⟨(.some 25), .none, .false, (.mv (.tmp 0))⟩, ⟨(.some 26), .none, .false, (.nc (.tmp 25))⟩, ⟨(.some 27), .none, .false, (.fa 1 (.tmp 26))⟩, ⟨(.some 28), .none, .false, (.ld .false 1 (.tmp 27))⟩, ⟨(.some 29), .none, .false, (.bin .add (.tmp 28) (.const (Go.Value.int Go.IntKind.i64 1)))⟩, ⟨(.some 30), .none, .false, (.nc (.tmp 25))⟩, ⟨(.some 31), .none, .false, (.fa 1 (.tmp 30))⟩, ⟨.none, .none, .false, (.sto 1 (.tmp 31) (.tmp 29))⟩]) (.seq (.reg [⟨(.some 32), .none, .false, (.mv (.tmp 0))⟩, ⟨(.some 33), .none, .false, (.mv (.tmp 0))⟩, ⟨(.some 34), .none, .false, (.nc (.tmp 33))⟩, ⟨(.some 35), .none, .false, (.fa 2 (.tmp 34))⟩, ⟨(.some 36), .none, .false, (.ld .false 1 (.tmp 35))⟩, ⟨(.some 37), .none, .false, (.bin .mul (.tmp 36) (.const (Go.Value.int Go.IntKind.u64 6364136223846793005)))⟩, ⟨(.some 38), .none, .false, (.mv (.tmp 3))⟩, ⟨(.some 39), .none, .false, (.cv .u64 (.tmp 38))⟩, ⟨(.some 40), .none, .false, (.bin .add (.tmp 37) (.tmp 39))⟩, ⟨(.some 41), .none, .false, (.bin .add (.tmp 40) (.const (Go.Value.int Go.IntKind.u64 1442695040888963407)))⟩, ⟨(.some 42), .none, .false, (.nc (.tmp 32))⟩, ⟨(.some 43), .none, .false, (.fa 2 (.tmp 42))⟩, ⟨.none, .none, .false, (.sto 1 (.tmp 43) (.tmp 41))⟩]) (.seq (.seq (.reg [⟨(.some 44), .none, .true, (.mv (.tmp 0))⟩, ⟨(.some 45), .none, .true, (.nc (.tmp 44))⟩, ⟨(.some 46), .none, .true, (.fa 1 (.tmp 45))⟩, ⟨(.some 47), .none, .true, (.ld .false 1 (.tmp 46))⟩, ⟨(.some 48), .none, .true, (.mv (.tmp 0))⟩, ⟨(.some 49), .none, .true, (.nc (.tmp 48))⟩, ⟨(.some 50), .none, .true, (.fa 0 (.tmp 49))⟩, ⟨(.some 51), .none, .true, (.ld .false 1 (.tmp 50))⟩, ⟨(.some 52), .none, .true, (.len (.tmp 51))⟩, ⟨(.some 53), .none, .true, (.bin .leq (.tmp 47) (.tmp 52))⟩]) (.cond (.tmp 53) (.seq (.reg [⟨(.some 54), .none, .false, (.mv (.tmp 3))⟩, ⟨(.some 2), .none, .false, (.mv (.tmp 54))⟩]) .ret) .skip)) (.seq (.reg [⟨(.some 55), .none, .false, (.mv (.tmp 0))⟩, ⟨(.some 56), .none, .false, (.nc (.tmp 55))⟩, ⟨(.some 57), .none, .false, (.fa 2 (.tmp 56))⟩, ⟨(.some 58), .none, .false, (.ld .false 1 (.tmp 57))⟩, ⟨(.some 59), .none, .false, (.bin .shr (.tmp 58) (.const (Go.Value.int Go.IntKind.u64 40)))⟩, ⟨(.some 60), .none, .false, (.bin .and (.tmp 59) (.const (Go.Value.int Go.IntKind.u64 255)))⟩, ⟨(.some 61), .none, .false, (.cv .i64 (.tmp 60))⟩, ⟨(.some 2), .none, .false, (.mv (.tmp 61))⟩]) .ret)))))))
set_option maxRecDepth 100000 in
theorem S.ok102 : stripF Tryz.prog Tryz.f102 = some S.s102 := by kernel_rfl
set_option maxRecDepth 10000
set_option maxHeartbeats 4000000
section
variable {P : Program} {Q : Exit → St → Prop} {ks : List Fr} {e : Nat → AV} {o : Nat → Option Ob} {d : Nat} {fr : Bool} {x y z : Operand} {rest : List SR}
theorem R.mulU {m n : Int} (h1 : ev e x = pvA (.int .u64 m)) (h2 : ev e y = pvA (.int .u64 n)) (k : WL P rest ks Q ⟨upd e d (pvA (.int .u64 (IntKind.wrap .u64 (m * n)))), o⟩) : WL P (⟨some d, none, fr, .bin .mul x y⟩ :: rest) ks Q ⟨e, o⟩ := R.bin h1 h2 (by simp [binI, numV]) k
theorem R.addU {m n : Int} (h1 : ev e x = pvA (.int .u64 m)) (h2 : ev e y = pvA (.int .u64 n)) (k : WL P rest ks Q ⟨upd e d (pvA (.int .u64 (IntKind.wrap .u64 (m + n)))), o⟩) : WL P (⟨some d, none, fr, .bin .add x y⟩ :: rest) ks Q ⟨e, o⟩ := R.bin h1 h2 (by simp [binI, numV]) k
theorem and255 {m : Int} (hm : 0 ≤ m ∧ m ≤ 4611686018427387904) : (IntKind.u64.wrap ((BitVec.ofInt IntKind.u64.bits m &&& BitVec.ofInt IntKind.u64.bits 255).toNat : Int)) = m % 256 := by
  obtain ⟨j, rfl⟩ : ∃ j : Nat, m = j := ⟨m.toNat, by omega⟩
  have h1 : (BitVec.ofInt IntKind.u64.bits (j : Int) &&& BitVec.ofInt IntKind.u64.bits 255).toNat = j % 256 := by
    have h2 : (BitVec.ofInt 64 (j : Int)).toNat = j := by
      rw [BitVec.toNat_ofInt]
      omega
    have h3 : (BitVec.ofInt 64 255).toNat = 255 := by decide
    show (BitVec.ofInt 64 (j : Int) &&& BitVec.ofInt 64 255).toNat = j % 256
    rw [BitVec.toNat_and, h2, h3]
    exact Nat.and_two_pow_sub_one_eq_mod j 8
  rw [h1, wrapU ⟨by omega, by omega⟩]
  omega
theorem R.andU {m : Int} (h1 : ev e x = pvA (.int .u64 m)) (h2 : ev e y = pvA (.int .u64 255)) (hm : 0 ≤ m ∧ m ≤ 4611686018427387904) (k : WL P rest ks Q ⟨upd e d (pvA (.int .u64 (m % 256))), o⟩) : WL P (⟨some d, none, fr, .bin .and x y⟩ :: rest) ks Q ⟨e, o⟩ := R.bin h1 h2 (by simp only [binI, numV, if_true, and255 hm]) k
end
theorem wrapU_bd (n : Int) : 0 ≤ IntKind.wrap .u64 n ∧ IntKind.wrap .u64 n ≤ 18446744073709551615 := by
  simp [IntKind.wrap, IntKind.bits, IntKind.signed]
  omega
structure Src where
  code : List Int
  pos : Int
  seed : Int
abbrev kU8s : Ky := ⟨5, 1⟩
def okSrc (n : Int) (s : Src) : Prop := (0 ≤ s.pos ∧ s.pos ≤ n) ∧ ∀ c ∈ s.code, 0 ≤ c ∧ c ≤ 255
theorem okSrc.mono {n m : Int} {s : Src} (h : okSrc n s) (hn : n ≤ m) : okSrc m s := ⟨⟨h.1.1, by have := h.1.2; omega⟩, h.2⟩
abbrev srcV : V1 := .c (.ptr (pin 0) 0)
abbrev srcB (l : List Int) (p sd : Int) : List (Nat × Ob) := [(pin 0, .box 111 [.d (.rd kU8s (l.map enB8)), .d (iD p), .d (.pv (.int .u64 sd))])]
abbrev srcOb (s : Src) : List (Nat × Ob) := srcB s.code s.pos s.seed
def seedN (m b : Int) : Int := IntKind.wrap .u64 (IntKind.wrap .u64 (IntKind.wrap .u64 (m * 6364136223846793005) + b) + 1442695040888963407)
theorem nextA (l : List Int) (i : Nat) (sd c : Int) (hci : l[i]? = some c) (hcb : 0 ≤ c ∧ c ≤ 255) (hi : i ≤ 1000000000) : SpecM Tryz.prog 102 [srcV] (srcB l i sd) (oI c).av (srcB l ((i : Int) + 1) (seedN sd c)) := by
  have hil := (List.getElem?_eq_some_iff.1 hci).1
  refine SpecM.walk T.mixed Tryz.func102 S.ok102 (by simp [Tryz.f102]) fun hk => ?_
  unfold S.s102
  repeat' (first|refine R.ixK c hci rfl rfl rfl ?_|refine R.mv rfl ?_|refine R.reg ?_|refine R.nil ?_|refine R.seq ?_|refine R.nseq ?_|refine R.skip ?_|refine R.ld rfl rfl rfl ?_|refine R.fa rfl rfl ?_|refine R.lenM rfl ?_|refine R.lss rfl rfl ?_|refine R.leq rfl rfl ?_|refine R.add rfl rfl (by omega) ?_|refine R.cv64 rfl (by omega) ?_|refine R.nc rfl rfl ?_|refine R.stoB rfl rfl rfl rfl ⟨rfl, rfl, Nat.le_of_ble_eq_true rfl⟩ rfl ?_|refine R.shrU rfl rfl (by omega) ?_|refine R.cvU rfl (by omega) ?_|refine R.mulU rfl rfl ?_|refine R.addU rfl rfl ?_|refine R.cond rfl (fun hc => ?_) (fun hc => ?_))
  all_goals first
    | (exfalso; omega)
    | exact R.ret ⟨.inr rfl, R.outR rfl (.cons (R.tmp rfl) .nil) rfl rfl rfl rfl⟩
    | skip
theorem nextB (l : List Int) (i : Nat) (sd : Int) (hil : ¬ i < l.length) (hi : i ≤ 1000000000) : SpecM Tryz.prog 102 [srcV] (srcB l i sd) (oI (seedN sd 0 / 2 ^ 40 % 256)).av (srcB l ((i : Int) + 1) (seedN sd 0)) := by
  have hb1 : 0 ≤ seedN sd 0 ∧ seedN sd 0 ≤ 18446744073709551615 := wrapU_bd _
  have hb2 : 0 ≤ seedN sd 0 / 2 ^ 40 ∧ seedN sd 0 / 2 ^ 40 ≤ 4611686018427387904 := by omega
  refine SpecM.walk T.mixed Tryz.func102 S.ok102 (by simp [Tryz.f102]) fun hk => ?_
  unfold S.s102
  repeat' (first|refine R.mv rfl ?_|refine R.reg ?_|refine R.nil ?_|refine R.seq ?_|refine R.nseq ?_|refine R.skip ?_|refine R.ld rfl rfl rfl ?_|refine R.fa rfl rfl ?_|refine R.lenM rfl ?_|refine R.lss rfl rfl ?_|refine R.leq rfl rfl ?_|refine R.add rfl rfl (by omega) ?_|refine R.ixN rfl rfl rfl (by omega) (fun a ha => ?_)|refine R.cv64 rfl (by omega) ?_|refine R.nc rfl rfl ?_|refine R.stoB rfl rfl rfl rfl ⟨rfl, rfl, Nat.le_of_ble_eq_true rfl⟩ rfl ?_|refine R.shrU rfl rfl (by omega) ?_|refine R.cvU rfl (by omega) ?_|refine R.mulU rfl rfl ?_|refine R.addU rfl rfl ?_|refine R.andU (m := seedN sd 0 / 2 ^ 40) rfl rfl hb2 ?_|refine R.cond rfl (fun hc => ?_) (fun hc => ?_))
  all_goals first
    | (exfalso; omega)
    | exact R.ret ⟨.inr rfl, R.outR rfl (.cons (R.tmp rfl) .nil) rfl rfl rfl rfl⟩
    | skip
theorem sNext (s : Src) (n : Int) (h : okSrc n s) (hn : n ≤ 1000000000) : ∃ v s', (0 ≤ v ∧ v ≤ 255) ∧ okSrc (n + 1) s' ∧ SpecM Tryz.prog 102 [srcV] (srcOb s) (oI v).av (srcOb s') := by
  obtain ⟨l, pos, seed⟩ := s
  obtain ⟨⟨h1, h2⟩, h3⟩ := h
  dsimp only at h1 h2 h3
  obtain ⟨i, rfl⟩ : ∃ i : Nat, pos = i := ⟨pos.toNat, by omega⟩
  by_cases hil : i < l.length
  · obtain ⟨c, hc⟩ : ∃ c, l[i]? = some c := ⟨_, List.getElem?_eq_getElem hil⟩
    have hcb := h3 c (List.mem_of_getElem? hc)
    exact ⟨c, ⟨l, (i : Int) + 1, seedN seed c⟩, hcb, ⟨⟨by show 0 ≤ (i : Int) + 1; omega, by show (i : Int) + 1 ≤ n + 1; omega⟩, h3⟩, nextA l i seed c hc hcb (by omega)⟩
  · exact ⟨seedN seed 0 / 2 ^ 40 % 256, ⟨l, (i : Int) + 1, seedN seed 0⟩, ⟨Int.emod_nonneg _ (by omega), by have := Int.emod_lt_of_pos (seedN seed 0 / 2 ^ 40) (show (0 : Int) < 256 by omega); omega⟩, ⟨⟨by show 0 ≤ (i : Int) + 1; omega, by show (i : Int) + 1 ≤ n + 1; omega⟩, h3⟩, nextB l i seed hil (by omega)⟩
theorem sPick (s : Src) (n : Int) (h : okSrc n s) (hn : n ≤ 900000000) (m : Int) : ∃ v s', (0 ≤ v ∧ (v < m ∨ v = 0)) ∧ okSrc (n + 2) s' ∧ SpecM Tryz.prog 79 [srcV, .c (.d (iD m))] (srcOb s) (oI v).av (srcOb s') := by
  by_cases h1 : m ≤ 1
  · refine ⟨0, s, ⟨by omega, .inr rfl⟩, h.mono (by omega), ?_⟩
    refine SpecM.walk T.mixed Tryz.func79 S.ok79 (by simp [Tryz.f79]) fun hk => ?_
    unfold S.s79
    repeat' (first|refine R.mv rfl ?_|refine R.reg ?_|refine R.nil ?_|refine R.seq ?_|refine R.nseq ?_|refine R.skip ?_|refine R.leq rfl rfl ?_|refine R.cond rfl (fun hc => ?_) (fun hc => ?_))
    all_goals first
      | (exfalso; omega)
      | exact R.ret ⟨.inr rfl, R.outR rfl (.cons (R.tmp rfl) .nil) rfl rfl rfl rfl⟩
      | skip
  obtain ⟨v1, s1, hv1, hs1, c1⟩ := sNext s n h (by omega)
  obtain ⟨v2, s2, hv2, hs2, c2⟩ := sNext s1 (n + 1) hs1 (by omega)
  by_cases h2 : 200 < m
  · have hb := Int.emod_lt_of_pos (v1 * 256 + v2) (show (0 : Int) < m by omega)
    refine ⟨(v1 * 256 + v2) % m, s2, ⟨Int.emod_nonneg _ (by omega), .inl hb⟩, hs2.mono (by omega), ?_⟩
    refine SpecM.walk T.mixed Tryz.func79 S.ok79 (by simp [Tryz.f79]) fun hk => ?_
    unfold S.s79
    repeat' (first|refine R.mv rfl ?_|refine R.reg ?_|refine R.nil ?_|refine R.seq ?_|refine R.nseq ?_|refine R.skip ?_|refine R.leq rfl rfl ?_|refine R.gtr rfl rfl ?_|refine R.add rfl rfl (by omega) ?_|refine R.rem rfl rfl (by omega) ?_|refine R.callX (bor := false) [(pin 0, pin 0)] rfl c1 rfl rfl rfl rfl rfl ?_|refine R.callX (bor := false) [(pin 0, pin 0)] rfl c2 rfl rfl rfl rfl rfl ?_|refine R.mul rfl rfl ⟨by omega, by omega⟩ ?_|refine R.cond rfl (fun hc => ?_) (fun hc => ?_))
    all_goals first
      | (exfalso; omega)
      | exact R.ret ⟨.inr rfl, R.outR rfl (.cons (R.tmp rfl) .nil) rfl rfl rfl rfl⟩
      | skip
  · have hb := Int.emod_lt_of_pos v1 (show (0 : Int) < m by omega)
    refine ⟨v1 % m, s1, ⟨Int.emod_nonneg _ (by omega), .inl hb⟩, hs1.mono (by omega), ?_⟩
    refine SpecM.walk T.mixed Tryz.func79 S.ok79 (by simp [Tryz.f79]) fun hk => ?_
    unfold S.s79
    repeat' (first|refine R.mv rfl ?_|refine R.reg ?_|refine R.nil ?_|refine R.seq ?_|refine R.nseq ?_|refine R.skip ?_|refine R.leq rfl rfl ?_|refine R.gtr rfl rfl ?_|refine R.rem rfl rfl (by omega) ?_|refine R.callX (bor := false) [(pin 0, pin 0)] rfl c1 rfl rfl rfl rfl rfl ?_|refine R.cond rfl (fun hc => ?_) (fun hc => ?_))
    all_goals first
      | (exfalso; omega)
      | exact R.ret ⟨.inr rfl, R.outR rfl (.cons (R.tmp rfl) .nil) rfl rfl rfl rfl⟩
      | skip
theorem sFrom (l : List Int) : SpecM Tryz.prog 46 [.c (.d (.rd kU8s (l.map enB8)))] [] (.v (.c (.ptr 0 0))) [(0, .box 111 [.d (.rd kU8s (l.map enB8)), .d (iD 0), .d (.pv (.int .u64 0))])] := by
  refine SpecM.walk T.mixed Tryz.func46 S.ok46 (by simp [Tryz.f46]) fun hk => ?_
  unfold S.s46
  repeat' (first|refine R.mv rfl ?_|refine R.reg ?_|refine R.nil ?_|refine R.seq ?_|refine R.nseq ?_|refine R.box rfl rfl rfl ?_|refine R.bld rfl rfl ?_)
  exact R.ret ⟨.inr rfl, R.outR rfl (.cons (R.tmp rfl) .nil) rfl rfl rfl rfl⟩
end
end Go.Proofs.YtehkaajakapkmaaGreat
