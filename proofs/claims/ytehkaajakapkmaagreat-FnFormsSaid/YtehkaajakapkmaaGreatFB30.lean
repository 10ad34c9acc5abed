/- Texts of one proof, one behind the other. -/
import Derived.Test.YtehkaajakapkmaaGreatFB29
namespace Go.Proofs.YtehkaajakapkmaaGreat
section
open Go.RowKit
set_option maxRecDepth 100000 in
def S.s61 : SC := (.seq (.reg [⟨(.some 4), .none, .false, (.mv (.const (Go.Value.slice none 0 0)))⟩]) (.seq (.reg [⟨(.some 14), .none, .false, (.mv (.tmp 0))⟩, ⟨(.some 15), .none, .false, (.mv (.tmp 1))⟩, ⟨(.some 16), .none, .false, (.call (.func 62) [(.tmp 14), (.tmp 15)])⟩, ⟨(.some 17), .none, .false, (.bld [(Go.Value.slice none 0 0), (Go.Value.slice none 0 0), (Go.Value.int Go.IntKind.u64 0), (Go.Value.slice none 0 0), (Go.Value.int Go.IntKind.i64 0)] [(0, 1), (1, 1), (2, 1), (3, 1), (4, 1)] [(0, (.tmp 16))])⟩, ⟨(.some 18), .none, .false, (.box 121 (.tmp 17))⟩, ⟨(.some 5), .none, .false, (.mv (.tmp 18))⟩]) (.seq (.seq (.reg [⟨(.some 19), .none, .false, (.mv (.tmp 1))⟩, ⟨(.some 20), .none, .false, (.len (.tmp 19))⟩, ⟨(.some 21), .none, .false, (.mv (.const (Go.Value.int Go.IntKind.i64 0)))⟩]) (.block 0 (.loop (.seq (.reg [⟨(.some 22), .none, .false, (.bin .lss (.tmp 21) (.tmp 20))⟩]) (.seq (.cond (.tmp 22) .skip (.exit 0)) (.seq (.block 1 (.seq (.reg [⟨(.some 23), .none, .false, (.mv (.tmp 21))⟩, ⟨(.some 24), .none, .false, (.ix (.mk 2 1) (.tmp 19) (.tmp 21))⟩, ⟨(.some 25), .none, .false, (.ld .false 1 (.tmp 24))⟩, ⟨(.some 6), .none, .false, (.mv (.tmp 23))⟩, ⟨(.some 7), .none, .false, (.mv (.tmp 25))⟩]) (.reg [⟨(.some 26), .none, .true, (.mv (.tmp 5))⟩, ⟨(.some 27), .none, .true, (.nc (.tmp 26))⟩, ⟨(.some 28), .none, .true, (.fa 2 (.tmp 27))⟩, ⟨(.some 29), .none, .true, (.ld .false 1 (.tmp 28))⟩, ⟨(.some 30), .none, .true, (.mv (.tmp 7))⟩, ⟨(.some 31), .none, .true, (.cv .u64 (.tmp 30))⟩, ⟨(.some 32), .none, .true, (.mv (.tmp 6))⟩, ⟨(.some 33), .none, .true, (.bin .shl (.tmp 31) (.tmp 32))⟩, ⟨(.some 34), .none, .true, (.bin .or (.tmp 29) (.tmp 33))⟩, ⟨(.some 35), .none, .true, (.nc (.tmp 26))⟩, ⟨(.some 36), .none, .true, (.fa 2 (.tmp 35))⟩, ⟨.none, .none, .false, (.sto 1 (.tmp 36) (.tmp 34))⟩]))) (.reg [⟨(.some 37), .none, .false, (.bin .add (.tmp 21) (.const (Go.Value.int Go.IntKind.i64 1)))⟩, ⟨(.some 21), .none, .false, (.mv (.tmp 37))⟩]))))))) (.seq (.seq (.reg [⟨(.some 38), .none, .false, (.mv (.tmp 5))⟩, ⟨(.some 39), .none, .false, (.nc (.tmp 38))⟩, ⟨(.some 40), .none, .false, (.fa 0 (.tmp 39))⟩, ⟨(.some 41), .none, .false, (.ld .false 1 (.tmp 40))⟩, ⟨(.some 42), .none, .false, (.len (.tmp 41))⟩, ⟨(.some 43), .none, .false, (.mv (.const (Go.Value.int Go.IntKind.i64 0)))⟩]) (.block 2 (.loop (.seq (.reg [⟨(.some 44), .none, .false, (.bin .lss (.tmp 43) (.tmp 42))⟩]) (.seq (.cond (.tmp 44) .skip (.exit 2)) (.seq (.block 3 (.seq (.reg [⟨(.some 45), .none, .false, (.ix (.mk 56 2) (.tmp 41) (.tmp 43))⟩, ⟨(.some 46), .none, .false, (.ld .true 2 (.tmp 45))⟩, ⟨(.some 9), .none, .false, (.al 56 [(Go.Value.int Go.IntKind.i64 0), (Go.Value.int Go.IntKind.i64 0)])⟩, ⟨.none, .none, .false, (.sto 2 (.tmp 9) (.tmp 46))⟩]) (.reg [⟨(.some 47), .none, .true, (.mv (.tmp 5))⟩, ⟨(.some 48), .none, .true, (.mv (.tmp 5))⟩, ⟨(.some 49), .none, .true, (.nc (.tmp 48))⟩, ⟨(.some 50), .none, .true, (.fa 1 (.tmp 49))⟩, ⟨(.some 51), .none, .true, (.ld .false 1 (.tmp 50))⟩, ⟨(.some 52), .none, .true, (.ld .true 2 (.tmp 9))⟩, ⟨(.some 53), .none, .true, (.mv (.tmp 1))⟩, ⟨(.some 54), .none, .true, (.fcal (.func 89) [(.tmp 52), (.tmp 53)])⟩, ⟨(.some 55), .none, .true, (.bsl (.mk 109 1) 1 [(0, (.tmp 54))])⟩, ⟨(.some 56), .none, .false, (.app (.mk 109 1) 8 (.tmp 51) (.tmp 55))⟩, ⟨(.some 57), .none, .false, (.nc (.tmp 47))⟩, ⟨(.some 58), .none, .false, (.fa 1 (.tmp 57))⟩, ⟨.none, .none, .false, (.sto 1 (.tmp 58) (.tmp 56))⟩]))) (.reg [⟨(.some 59), .none, .false, (.bin .add (.tmp 43) (.const (Go.Value.int Go.IntKind.i64 1)))⟩, ⟨(.some 43), .none, .false, (.mv (.tmp 59))⟩]))))))) (.seq (.seq (.reg [⟨(.some 10), .none, .false, (.mv (.const (Go.Value.int Go.IntKind.i64 0)))⟩]) (.block 4 (.loop (.seq (.seq (.reg [⟨(.some 60), .none, .false, (.mv (.tmp 5))⟩, ⟨(.some 61), .none, .false, (.nc (.tmp 60))⟩, ⟨(.some 62), .none, .false, (.fa 3 (.tmp 61))⟩, ⟨(.some 63), .none, .false, (.ld .false 1 (.tmp 62))⟩, ⟨(.some 64), .none, .false, (.isn .false (.tmp 63))⟩]) (.cond (.tmp 64) .skip (.exit 4))) (.seq (.block 5 (.reg [⟨(.some 67), .none, .false, (.mv (.tmp 5))⟩, ⟨(.some 68), .none, .false, (.mv (.tmp 10))⟩, ⟨(.some 69), .none, .false, (.call (.func 90) [(.tmp 67), (.const (Go.Value.slice none 0 0)), (.const (Go.Value.int Go.IntKind.i64 0)), (.tmp 68), (.const (Go.Value.int Go.IntKind.u64 0)), (.const (Go.Value.int Go.IntKind.i64 0))])⟩])) (.reg [⟨(.some 65), .none, .false, (.mv (.tmp 10))⟩, ⟨(.some 66), .none, .false, (.bin .add (.tmp 65) (.const (Go.Value.int Go.IntKind.i64 1)))⟩, ⟨(.some 10), .none, .false, (.mv (.tmp 66))⟩])))))) (.seq (.reg [⟨(.some 11), .none, .false, (.mv (.const (Go.Value.slice none 0 0)))⟩]) (.seq (.seq (.reg [⟨(.some 70), .none, .false, (.mv (.tmp 5))⟩, ⟨(.some 71), .none, .false, (.nc (.tmp 70))⟩, ⟨(.some 72), .none, .false, (.fa 3 (.tmp 71))⟩, ⟨(.some 73), .none, .false, (.ld .false 1 (.tmp 72))⟩, ⟨(.some 74), .none, .false, (.len (.tmp 73))⟩, ⟨(.some 75), .none, .false, (.mv (.const (Go.Value.int Go.IntKind.i64 0)))⟩]) (.block 6 (.loop (.seq (.reg [⟨(.some 76), .none, .false, (.bin .lss (.tmp 75) (.tmp 74))⟩]) (.seq (.cond (.tmp 76) .skip (.exit 6)) (.seq (.block 7 (.seq (.reg [⟨(.some 77), .none, .false, (.ix (.mk 3 1) (.tmp 73) (.tmp 75))⟩, ⟨(.some 78), .none, .false, (.ld .false 1 (.tmp 77))⟩, ⟨(.some 13), .none, .false, (.mv (.tmp 78))⟩]) (.reg [⟨(.some 79), .none, .false, (.mv (.tmp 11))⟩, ⟨(.some 80), .none, .false, (.mv (.tmp 5))⟩, ⟨(.some 81), .none, .false, (.nc (.tmp 80))⟩, ⟨(.some 82), .none, .false, (.fa 0 (.tmp 81))⟩, ⟨(.some 83), .none, .false, (.ld .false 1 (.tmp 82))⟩, ⟨(.some 84), .none, .false, (.mv (.tmp 13))⟩, ⟨(.some 85), .none, .false, (.ix (.mk 56 2) (.tmp 83) (.tmp 84))⟩, ⟨(.some 86), .none, .false, (.ld .true 2 (.tmp 85))⟩, ⟨(.some 87), .none, .false, (.bsl (.mk 56 2) 1 [(0, (.tmp 86))])⟩, ⟨(.some 88), .none, .false, (.app (.mk 56 2) 16 (.tmp 79) (.tmp 87))⟩, ⟨(.some 11), .none, .false, (.mv (.tmp 88))⟩]))) (.reg [⟨(.some 89), .none, .false, (.bin .add (.tmp 75) (.const (Go.Value.int Go.IntKind.i64 1)))⟩, ⟨(.some 75), .none, .false, (.mv (.tmp 89))⟩]))))))) (.seq (.reg [⟨(.some 90), .none, .false, (.mv (.tmp 11))⟩, ⟨(.some 4), .none, .false, (.mv (.tmp 90))⟩]) .ret))))))))
set_option maxRecDepth 100000 in
theorem S.ok61 : stripF Tryz.prog Tryz.f61 = some S.s61 := by kernel_rfl
set_option maxRecDepth 100000 in
def S.s89 : SC := (.seq (.reg [⟨(.some 2), .none, .false, (.box 56 (.tmp 0))⟩, ⟨(.some 4), .none, .false, (.mv (.const (Go.Value.int Go.IntKind.u64 0)))⟩]) (.seq (.reg [⟨(.some 5), .none, .false, (.mv (.const (Go.Value.int Go.IntKind.u64 0)))⟩]) (.seq (.seq (.reg [⟨(.some 7), .none, .false, (.mv (.tmp 1))⟩, ⟨(.some 8), .none, .false, (.len (.tmp 7))⟩, ⟨(.some 9), .none, .false, (.mv (.const (Go.Value.int Go.IntKind.i64 0)))⟩]) (.block 0 (.loop (.seq (.reg [⟨(.some 10), .none, .false, (.bin .lss (.tmp 9) (.tmp 8))⟩]) (.seq (.cond (.tmp 10) .skip (.exit 0)) (.seq (.block 1 (.seq (.reg [⟨(.some 11), .none, .false, (.mv (.tmp 9))⟩, ⟨(.some 6), .none, .false, (.mv (.tmp 11))⟩]) (.seq (.reg [⟨(.some 12), .none, .false, (.ld .true 2 (.tmp 2))⟩, ⟨(.some 13), .none, .false, (.mv (.tmp 6))⟩, ⟨(.some 14), .none, .false, (.call (.func 59) [(.tmp 12), (.tmp 13)])⟩]) (.cond (.tmp 14) (.reg [⟨(.some 15), .none, .false, (.mv (.tmp 5))⟩, ⟨(.some 16), .none, .false, (.mv (.tmp 6))⟩, ⟨(.some 17), .none, .false, (.bin .shl (.const (Go.Value.int Go.IntKind.u64 1)) (.tmp 16))⟩, ⟨(.some 18), .none, .false, (.bin .or (.tmp 15) (.tmp 17))⟩, ⟨(.some 5), .none, .false, (.mv (.tmp 18))⟩]) .skip)))) (.reg [⟨(.some 19), .none, .false, (.bin .add (.tmp 9) (.const (Go.Value.int Go.IntKind.i64 1)))⟩, ⟨(.some 9), .none, .false, (.mv (.tmp 19))⟩]))))))) (.seq (.reg [⟨(.some 20), .none, .false, (.mv (.tmp 5))⟩, ⟨(.some 4), .none, .false, (.mv (.tmp 20))⟩]) .ret))))
set_option maxRecDepth 100000 in
theorem S.ok89 : stripF Tryz.prog Tryz.f89 = some S.s89 := by kernel_rfl
set_option maxRecDepth 10000
set_option maxHeartbeats 4000000
section
variable {P : Program} {Q : Exit → St → Prop} {ks : List Fr} {e : Nat → AV} {o : Nat → Option Ob} {d : Nat} {fr : Bool} {x y z : Operand} {rest : List SR}
theorem R.shlU {m n : Nat} (hm : m ≤ 1) (hn : n ≤ 62) (h1 : ev e x = pvA (.int .u64 (m : Nat))) (h2 : ev e y = pvA (.int .i64 (n : Nat))) (k : WL P rest ks Q ⟨upd e d (pvA (.int .u64 ((m * 2 ^ n : Nat) : Int))), o⟩) : WL P (⟨some d, none, fr, .bin .shl x y⟩ :: rest) ks Q ⟨e, o⟩ :=
  R.bin h1 h2 (by
    have hp : 2 ^ n ≤ 2 ^ 62 := Nat.pow_le_pow_right (by omega) hn
    have h3 : m * 2 ^ n ≤ 2 ^ 62 := by
      have : m = 0 ∨ m = 1 := by omega
      rcases this with rfl | rfl
      · simp
      · simpa using hp
    have h4 : ((m : Int) * 2 ^ n) = ((m * 2 ^ n : Nat) : Int) := by simp
    simp only [binI, shV]
    rw [if_neg (by omega), show Min.min ((n : Int)).toNat (IntKind.u64.bits) = n from by simp [IntKind.bits]; omega, h4, wrapU ⟨by omega, by omega⟩]) k
theorem or_nat {a b : Nat} (ha : a < 2 ^ 63) (hb : b < 2 ^ 63) : (IntKind.u64.wrap ((BitVec.ofInt IntKind.u64.bits (a : Int) ||| BitVec.ofInt IntKind.u64.bits (b : Int)).toNat : Int)) = ((a ||| b : Nat) : Int) := bits_or ha hb
theorem R.orU {a b : Nat} (ha : a < 2 ^ 63) (hb : b < 2 ^ 63) (h1 : ev e x = pvA (.int .u64 (a : Nat))) (h2 : ev e y = pvA (.int .u64 (b : Nat))) (k : WL P rest ks Q ⟨upd e d (pvA (.int .u64 ((a ||| b : Nat) : Int))), o⟩) : WL P (⟨some d, none, fr, .bin .or x y⟩ :: rest) ks Q ⟨e, o⟩ := R.bin h1 h2 (by simp only [binI, numV, if_true, or_nat ha hb]) k
end
theorem bits_small {n : Nat} {p : Nat → Bool} (h : n ≤ 16) : bitsF n p < 2 ^ 63 := Nat.lt_of_lt_of_le (bitsF_lt p n) (Nat.pow_le_pow_right (by omega) (by omega))
theorem pow_small {n : Nat} (h : n ≤ 16) : 2 ^ n < 2 ^ 63 := Nat.pow_lt_pow_right (by omega) (by omega)
theorem bits_T {n : Nat} {p : Nat → Bool} (h : p n = true) : bitsF (n + 1) p = bitsF n p ||| 1 * 2 ^ n := by rw [bitsF, if_pos h, Nat.one_mul]
theorem bits_F {n : Nat} {p : Nat → Bool} (h : p n = false) : bitsF (n + 1) p = bitsF n p := by rw [bitsF, h, if_neg (by decide), Nat.or_zero]
def stF (tb : List Int) (ps : List TCube) (k : Nat) : Nat := bitsF tb.length (ctx ps k)
theorem iCovers (q : TCube) (tb : List Int) (htb : tb.length ≤ 16) : Spec Tryz.prog 89 [.agg (enCube q), vL kI (ints tb)] (.v (.c (.fz (.pv (.int .u64 (bitsF tb.length (fun i => hasQ q i) : Nat)))))) := by
  refine Spec.walk T.mixed Tryz.func89 S.ok89 (by simp [Tryz.f89]) fun hk => ?_
  clear hk
  unfold S.s89
  repeat' (first|refine R.mv rfl ?_|refine R.reg ?_|refine R.nil ?_|refine R.seq ?_|refine R.nseq ?_|refine R.blk ?_|refine R.lenM rfl ?_|refine R.box rfl rfl rfl ?_)
  refine R.loop (G := Nat) (fun i => [(2, .v (.c (.ptr 2 0))), (5, pvA (.int .u64 (bitsF i (fun i => hasQ q i) : Nat))), (8, pvA (.int .i64 tb.length)), (9, pvA (.int .i64 i))]) (fun _ => [(2, .box 56 ((enCube q).map B.d))]) (fun i => i ≤ tb.length) (fun i => tb.length - i) 0 (by omega) (Weak.frame _ _ ⟨rfl, rfl, rfl, rfl, trivial⟩ ⟨rfl, trivial⟩ rfl rfl) fun i hi => ?_
  have hs := bits_small (n := i) (p := fun i => hasQ q i) (by omega)
  by_cases hil : i < tb.length
  · have hp := pow_small (n := i) (by omega)
    have hh := iHas q i
    cases hq : hasQ q i with
    | true =>
      rw [hq] at hh
      have hb := bits_T (p := fun i : Nat => hasQ q i) hq
      repeat' (first|refine R.mv rfl ?_|refine R.reg ?_|refine R.nil ?_|refine R.seq ?_|refine R.nseq ?_|refine R.nblk ?_|refine R.skip ?_|refine R.blk ?_|refine R.exit rfl ?_|refine R.lda rfl rfl (lbT rfl) rfl ?_|refine R.lss rfl rfl ?_|refine R.add rfl rfl (by omega) ?_|refine R.condT rfl ?_|refine R.call (bor := false) rfl rfl (hh) rfl rfl rfl ?_|refine R.shlU (m := 1) (n := i) (by omega) (by omega) rfl rfl ?_|refine R.orU hs (by omega) rfl rfl ?_|refine R.cond rfl (fun hc => ?_) (fun hc => ?_))
      all_goals first
        | (exfalso; omega)
        | exact R.nloop (R.again (i + 1) (by omega) (by omega) ⟨rfl, by rw [hb]; rfl, rfl, rfl, trivial⟩ ⟨rfl, trivial⟩ rfl rfl)
        | skip
    | false =>
      rw [hq] at hh
      have hb := bits_F (p := fun i : Nat => hasQ q i) hq
      repeat' (first|refine R.mv rfl ?_|refine R.reg ?_|refine R.nil ?_|refine R.seq ?_|refine R.nseq ?_|refine R.nblk ?_|refine R.skip ?_|refine R.blk ?_|refine R.exit rfl ?_|refine R.lda rfl rfl (lbT rfl) rfl ?_|refine R.lss rfl rfl ?_|refine R.add rfl rfl (by omega) ?_|refine R.condF rfl ?_|refine R.call (bor := false) rfl rfl (hh) rfl rfl rfl ?_|refine R.cond rfl (fun hc => ?_) (fun hc => ?_))
      all_goals first
        | (exfalso; omega)
        | exact R.nloop (R.again (i + 1) (by omega) (by omega) ⟨rfl, by rw [hb]; rfl, rfl, rfl, trivial⟩ ⟨rfl, trivial⟩ rfl rfl)
        | skip
  obtain rfl : i = tb.length := by omega
  repeat' (first|refine R.mv rfl ?_|refine R.reg ?_|refine R.nil ?_|refine R.seq ?_|refine R.nseq ?_|refine R.skip ?_|refine R.blk ?_|refine R.exit rfl ?_|refine R.lda rfl rfl (lbT rfl) rfl ?_|refine R.lss rfl rfl ?_|refine R.cond rfl (fun hc => ?_) (fun hc => ?_))
  all_goals first
    | (exfalso; omega)
    | exact R.ret ⟨.inr rfl, R.outP rfl rfl⟩
    | skip
theorem setL_bits (tb : List Int) (ps : List TCube) : ∀ x : List Nat, setL (stF tb ps) x = bitsF tb.length (anyQ ps x)
  | [] => (bitsF_false tb.length).symm
  | k :: x => by
    rw [setL, setL_bits tb ps x, stF, bitsF_or]
    rfl
theorem updI_congr {cv cv' : List Nat → Prop} [DecidablePred cv] [DecidablePred cv'] {cs : List Nat → Int} (h : ∀ l, cv l ↔ cv' l) (b : Option (List Nat)) (l : List Nat) : updI cv cs b l = updI cv' cs b l := by
  unfold updI
  by_cases hc : cv l ∧ ∀ x, b = some x → cs l < cs x
  · rw [if_pos hc, if_pos ⟨(h l).1 hc.1, hc.2⟩]
  · rw [if_neg hc, if_neg fun h' => hc ⟨(h l).2 h'.1, h'.2⟩]
theorem srch_congr {cv cv' : List Nat → Prop} [DecidablePred cv] [DecidablePred cv'] {cs : List Nat → Int} (h : ∀ l, cv l ↔ cv' l) (f m a : Nat) (pre : List Nat) (b : Option (List Nat)) : srch cv cs f m a pre b = srch cv' cs f m a pre b := by
  unfold srch
  congr 1
  funext b l
  exact updI_congr h b _
def objL (tb : List Int) (ps : List TCube) (x : List Nat) : Bool → List (Nat × Ob)
  | false => [(18, .box 121 (covB ps (stF tb ps) (bitsF tb.length (oneQ tb)) nilB 0))]
  | true => [(18, .box 121 (covB ps (stF tb ps) (bitsF tb.length (oneQ tb)) (.own 71000) (cstL (careF ps) x))), (71000, .arr kInt (ints (x.map fun k : Nat => (k : Int))) [])]
theorem iLeast (n : Nat) (tb : List Int) (hn : 1 ≤ n ∧ n ≤ 4) (htb : tb.length ≤ 16) (h01 : ∀ (i : Nat) (v : Int), tb[i]? = some v → v = 0 ∨ v = 1) (hps : (tabQ n tb (2 ^ n)).length ≤ 400) (hcare : careOk (tabQ n tb (2 ^ n))) (m : Nat) (k0 : Nat) (x0 : List Nat) (x : List Nat) (hx0 : x = k0 :: x0) (hm : m ≤ (tabQ n tb (2 ^ n)).length) (hx : rise 0 (tabQ n tb (2 ^ n)).length x)
    (hno : ∀ m', m' < m → srch (cvQ tb (tabQ n tb (2 ^ n))) (costQ (tabQ n tb (2 ^ n))) (tabQ n tb (2 ^ n)).length m' 0 [] none = none) (hyes : srch (cvQ tb (tabQ n tb (2 ^ n))) (costQ (tabQ n tb (2 ^ n))) (tabQ n tb (2 ^ n)).length m 0 [] none = some x) : Spec Tryz.prog 61 [vI n, vL kI (ints tb)] (oN kCube ((cubs (tabQ n tb (2 ^ n)) x).map enCube)) := by
  have hpr := iPrimes1 n tb hn
  have hcg : ∀ y, cvN (stF tb (tabQ n tb (2 ^ n))) (bitsF tb.length (oneQ tb)) y ↔ cvQ tb (tabQ n tb (2 ^ n)) y := fun y => by
    show setL (stF tb (tabQ n tb (2 ^ n))) y = _ ↔ _
    rw [setL_bits]
    exact bits_cover h01
  generalize tabQ n tb (2 ^ n) = ps at *
  have hst : ∀ k, stF tb ps k < 2 ^ 63 := fun k => bits_small htb
  have hno2 : ∀ m', m' < m → srch (cvN (stF tb ps) (bitsF tb.length (oneQ tb))) (cstL (careF ps)) ps.length m' 0 [] none = none := fun m' h => (srch_congr hcg _ _ _ _ _).trans (hno m' h)
  have hyes2 : srch (cvN (stF tb ps) (bitsF tb.length (oneQ tb))) (cstL (careF ps)) ps.length m 0 [] none = some x := (srch_congr hcg _ _ _ _ _).trans hyes
  have hxl := rise_len hx
  have hxk := rise_lt hx
  have hcl := cubs_len ps x
  have hrl : (List.range ps.length).length = ps.length := List.length_range
  refine Spec.walk T.mixed Tryz.func61 S.ok61 (by simp [Tryz.f61]) fun hk => ?_
  clear hk hcg hno hyes
  unfold S.s61
  repeat' (first|refine R.mv rfl ?_|refine R.reg ?_|refine R.nil ?_|refine R.seq ?_|refine R.nseq ?_|refine R.blk ?_|refine R.lenM rfl ?_|refine R.box rfl rfl rfl ?_|refine R.bld rfl rfl ?_|refine R.call (bor := false) rfl rfl (hpr) rfl rfl rfl ?_)
  refine R.loop (G := Nat) (fun i => [(1, rdA kI (ints tb)), (5, .v (.c (.ptr 18 0))), (19, rdA kI (ints tb)), (20, pvA (.int .i64 tb.length)), (21, pvA (.int .i64 i))]) (fun i => [(18, .box 121 [.d (.rd kCube (ps.map enCube)), nilB, .d (.pv (.int .u64 (bitsF i (oneQ tb) : Nat))), nilB, .d (iD 0)])]) (fun i => i ≤ tb.length) (fun i => tb.length - i) 0 (by omega) (Weak.frame _ _ ⟨rfl, rfl, rfl, rfl, rfl, trivial⟩ ⟨rfl, trivial⟩ rfl rfl) fun i hi => ?_
  have hsm := bits_small (n := i) (p := oneQ tb) (by omega)
  by_cases hil : i < tb.length
  · obtain ⟨v, hv⟩ : ∃ v, tb[i]? = some v := ⟨_, List.getElem?_eq_getElem hil⟩
    have hpw := pow_small (n := i) (by omega)
    rcases h01 i v hv with rfl | rfl
    · have hb := bits_F (p := oneQ tb) (n := i) (by unfold oneQ; rw [hv]; decide)
      have hz : bitsF i (oneQ tb) ||| 0 * 2 ^ i = bitsF i (oneQ tb) := by rw [Nat.zero_mul, Nat.or_zero]
      repeat' (first|refine R.ixK 0 hv rfl rfl rfl ?_|refine R.mv rfl ?_|refine R.reg ?_|refine R.nil ?_|refine R.seq ?_|refine R.nseq ?_|refine R.nblk ?_|refine R.skip ?_|refine R.blk ?_|refine R.exit rfl ?_|refine R.ld rfl rfl rfl ?_|refine R.fa rfl rfl ?_|refine R.lenM rfl ?_|refine R.lss rfl rfl ?_|refine R.add rfl rfl (by omega) ?_|refine R.nc rfl rfl ?_|refine R.stoB rfl rfl rfl rfl ⟨rfl, rfl, Nat.le_of_ble_eq_true rfl⟩ rfl ?_|refine R.cvU rfl (by omega) ?_|refine R.shlU (m := 0) (n := i) (by omega) (by omega) rfl rfl ?_|refine R.orU (b := 0 * 2 ^ i) hsm (by omega) rfl rfl ?_|refine R.cond rfl (fun hc => ?_) (fun hc => ?_))
      all_goals first
        | (exfalso; omega)
        | exact R.nloop (R.again (i + 1) (by omega) (by omega) ⟨rfl, rfl, rfl, rfl, rfl, trivial⟩ ⟨by rw [hb.trans hz.symm]; rfl, trivial⟩ rfl rfl)
        | skip
    · have hb := bits_T (p := oneQ tb) (n := i) (by unfold oneQ; rw [hv]; decide)
      repeat' (first|refine R.ixK 1 hv rfl rfl rfl ?_|refine R.mv rfl ?_|refine R.reg ?_|refine R.nil ?_|refine R.seq ?_|refine R.nseq ?_|refine R.nblk ?_|refine R.skip ?_|refine R.blk ?_|refine R.exit rfl ?_|refine R.ld rfl rfl rfl ?_|refine R.fa rfl rfl ?_|refine R.lenM rfl ?_|refine R.lss rfl rfl ?_|refine R.add rfl rfl (by omega) ?_|refine R.nc rfl rfl ?_|refine R.stoB rfl rfl rfl rfl ⟨rfl, rfl, Nat.le_of_ble_eq_true rfl⟩ rfl ?_|refine R.cvU rfl (by omega) ?_|refine R.shlU (m := 1) (n := i) (by omega) (by omega) rfl rfl ?_|refine R.orU (b := 1 * 2 ^ i) hsm (by omega) rfl rfl ?_|refine R.cond rfl (fun hc => ?_) (fun hc => ?_))
      all_goals first
        | (exfalso; omega)
        | exact R.nloop (R.again (i + 1) (by omega) (by omega) ⟨rfl, rfl, rfl, rfl, rfl, trivial⟩ ⟨by rw [hb]; rfl, trivial⟩ rfl rfl)
        | skip
  obtain rfl : i = tb.length := by omega
  repeat' (first|refine R.mv rfl ?_|refine R.reg ?_|refine R.nil ?_|refine R.seq ?_|refine R.nseq ?_|refine R.skip ?_|refine R.blk ?_|refine R.exit rfl ?_|refine R.ld rfl rfl rfl ?_|refine R.fa rfl rfl ?_|refine R.lenM rfl ?_|refine R.lss rfl rfl ?_|refine R.ixN rfl rfl rfl (by omega) (fun a ha => ?_)|refine R.nc rfl rfl ?_|refine R.cvU rfl (by omega) ?_|refine R.cond rfl (fun hc => ?_) (fun hc => ?_))
  all_goals first | (exfalso; omega) | skip
  refine R.loop (G := Nat) (fun k => [(1, rdA kI (ints tb)), (5, .v (.c (.ptr 18 0))), (41, rdA kCube (ps.map enCube)), (42, pvA (.int .i64 ps.length)), (43, pvA (.int .i64 k))]) (fun k => [(18, .box 121 [.d (.rd kCube (ps.map enCube)), .own 900, .d (.pv (.int .u64 (bitsF tb.length (oneQ tb) : Nat))), nilB, .d (iD 0)]), (900, .arr kU ((List.range k).map (enU (stF tb ps))) [])]) (fun k => k ≤ ps.length) (fun k => ps.length - k) 0 (by omega) ?hw1 fun k hk => ?_
  case hw1 =>
    refine Weak.trans (Weak.reifyBox 18 1 900 kU rfl rfl rfl) ?_
    exact Weak.frame _ _ ⟨rfl, rfl, rfl, rfl, rfl, trivial⟩ ⟨rfl, rfl, trivial⟩ rfl rfl
  by_cases hkl : k < ps.length
  · obtain ⟨q, hq⟩ : ∃ q, ps[k]? = some q := ⟨_, List.getElem?_eq_getElem hkl⟩
    have hcv := iCovers q tb htb
    have hse : bitsF tb.length (fun i => hasQ q i) = stF tb ps k := by
      unfold stF
      exact bitsF_congr fun i _ => by unfold ctx; rw [hq]
    rw [hse] at hcv
    have hkr : (List.range k).length = k := List.length_range
    have hbd : ((List.range k).length + [k].length) * 8 ≤ 140737488355328 ∧ (List.range k).length + [k].length ≤ 140737488355328 := by rw [hkr, List.length_singleton]; omega
    repeat' (first|refine R.ixK q hq rfl rfl rfl ?_|refine R.mv rfl ?_|refine R.reg ?_|refine R.nil ?_|refine R.seq ?_|refine R.nseq ?_|refine R.nblk ?_|refine R.skip ?_|refine R.blk ?_|refine R.exit rfl ?_|refine R.ld rfl rfl rfl ?_|refine R.lda rfl rfl (lbT rfl) rfl ?_|refine R.fa rfl rfl ?_|refine R.lss rfl rfl ?_|refine R.add rfl rfl (by omega) ?_|refine R.nc rfl rfl ?_|refine R.al rfl ?_|refine R.stoB rfl rfl rfl rfl ⟨rfl, rfl, Nat.le_of_ble_eq_true rfl⟩ rfl ?_|refine R.fcal (bor := false) rfl rfl (hcv) rfl rfl rfl ?_|refine R.bslF (f := enU (stF tb ps)) [k] rfl rfl rfl rfl ?_|refine R.app (f := enU (stF tb ps)) (fun _ => rfl) rfl rfl rfl rfl rfl hbd ?_|refine R.cond rfl (fun hc => ?_) (fun hc => ?_))
    all_goals first
      | (exfalso; omega)
      | exact R.nloop (R.again (k + 1) (by omega) (by omega) ⟨rfl, rfl, rfl, rfl, rfl, trivial⟩ ⟨rfl, arr_eq (by rw [List.range_succ]), trivial⟩ rfl rfl)
      | skip
  obtain rfl : k = ps.length := by omega
  repeat' (first|refine R.mv rfl ?_|refine R.reg ?_|refine R.nil ?_|refine R.seq ?_|refine R.nseq ?_|refine R.skip ?_|refine R.blk ?_|refine R.exit rfl ?_|refine R.ld rfl rfl rfl ?_|refine R.lda rfl rfl (lbT rfl) rfl ?_|refine R.fa rfl rfl ?_|refine R.lss rfl rfl ?_|refine R.ixN rfl rfl rfl (by omega) (fun a ha => ?_)|refine R.nc rfl rfl ?_|refine R.al rfl ?_|refine R.stoB rfl rfl rfl rfl ⟨rfl, rfl, Nat.le_of_ble_eq_true rfl⟩ rfl ?_|refine R.cond rfl (fun hc => ?_) (fun hc => ?_))
  all_goals first | (exfalso; omega) | skip
  refine R.loop (G := Nat × Bool) (fun g => [(5, .v (.c (.ptr 18 0))), (10, pvA (.int .i64 g.1))]) (fun g => objL tb ps x g.2) (fun g => g.1 ≤ m + 1 ∧ (g.2 = false → g.1 ≤ m)) (fun g => m + 1 - g.1) (0, false) ⟨by omega, fun _ => Nat.zero_le _⟩ ?hw2 fun g hg => ?_
  case hw2 =>
    refine Weak.trans (Weak.freeze 900 rfl rfl) ?_
    exact Weak.frame _ _ ⟨rfl, rfl, trivial⟩ ⟨rfl, trivial⟩ rfl rfl
  obtain ⟨c, fd⟩ := g
  obtain ⟨hc1, hc2⟩ := hg
  dsimp only at hc1 hc2
  cases fd with
  | false =>
    change WC Tryz.prog _ _ _ ⟨frE [(5, .v (.c (.ptr 18 0))), (10, pvA (.int .i64 c))], frO [(18, .box 121 (covB ps (stF tb ps) (bitsF tb.length (oneQ tb)) nilB 0))]⟩
    have hcm := hc2 rfl
    by_cases hlt : c < m
    · have hS := iSearchN (many := c) (whole := bitsF tb.length (oneQ tb)) (by omega) (by omega) hcare hst (hno2 c hlt)
      repeat' (first|refine R.mv rfl ?_|refine R.reg ?_|refine R.nil ?_|refine R.seq ?_|refine R.nseq ?_|refine R.nblk ?_|refine R.skip ?_|refine R.blk ?_|refine R.ld rfl rfl rfl ?_|refine R.fa rfl rfl ?_|refine R.add rfl rfl (by omega) ?_|refine R.nc rfl rfl ?_|refine R.isn rfl rfl ?_|refine R.condT rfl ?_|refine R.callX (bor := false) [(18, pin 0)] rfl hS rfl rfl rfl rfl rfl ?_)
      all_goals first
        | (exfalso; omega)
        | exact R.nloop (R.again (c + 1, false) ⟨by show c + 1 ≤ m + 1; omega, fun _ => by show c + 1 ≤ m; omega⟩ (by show m + 1 - (c + 1) < m + 1 - c; omega) ⟨rfl, rfl, trivial⟩ ⟨rfl, trivial⟩ rfl rfl)
        | skip
    · obtain rfl : c = m := by omega
      have hS := iSearchS (many := c) (x := x) (whole := bitsF tb.length (oneQ tb)) (by omega) (fun k hk => by have := hxk k hk; omega) (by omega) (by omega) hcare hst hyes2
      repeat' (first|refine R.mv rfl ?_|refine R.reg ?_|refine R.nil ?_|refine R.seq ?_|refine R.nseq ?_|refine R.nblk ?_|refine R.skip ?_|refine R.blk ?_|refine R.ld rfl rfl rfl ?_|refine R.fa rfl rfl ?_|refine R.add rfl rfl (by omega) ?_|refine R.nc rfl rfl ?_|refine R.isn rfl rfl ?_|refine R.condT rfl ?_|refine R.callX (bor := false) [(18, pin 0)] rfl hS rfl rfl rfl rfl rfl ?_)
      all_goals first
        | (exfalso; omega)
        | exact R.nloop (R.again (c + 1, true) ⟨Nat.le_refl _, fun h => by cases h⟩ (by show c + 1 - (c + 1) < c + 1 - c; omega) ⟨rfl, rfl, trivial⟩ ⟨rfl, rfl, trivial⟩ rfl rfl)
        | skip
  | true =>
    change WC Tryz.prog _ _ _ ⟨frE [(5, .v (.c (.ptr 18 0))), (10, pvA (.int .i64 c))], frO [(18, .box 121 (covB ps (stF tb ps) (bitsF tb.length (oneQ tb)) (.own 71000) (cstL (careF ps) x))), (71000, .arr kInt (ints (x.map fun k : Nat => (k : Int))) [])]⟩
    have hxm : (x.map fun k : Nat => (k : Int)).length = x.length := by simp
    subst hx0
    repeat' (first|refine R.mv rfl ?_|refine R.reg ?_|refine R.nil ?_|refine R.seq ?_|refine R.nseq ?_|refine R.blk ?_|refine R.exit rfl ?_|refine R.ld rfl rfl rfl ?_|refine R.fa rfl rfl ?_|refine R.lenO rfl rfl ?_|refine R.nc rfl rfl ?_|refine R.isn rfl rfl ?_|refine R.condF rfl ?_)
    all_goals first | (exfalso; omega) | skip
    refine R.loop (G := Nat) (fun j => [(5, .v (.c (.ptr 18 0))), (11, .v (.c (.own 11))), (73, rdA kInt (ints ((k0 :: x0).map fun k : Nat => (k : Int)))), (74, pvA (.int .i64 ((k0 :: x0).map fun k : Nat => (k : Int)).length)), (75, pvA (.int .i64 j))]) (fun j => [(18, .box 121 [.d (.rd kCube (ps.map enCube)), .d (.rd kU ((List.range ps.length).map (enU (stF tb ps)))), .d (.pv (.int .u64 (bitsF tb.length (oneQ tb) : Nat))), .d (.rd kInt (ints ((k0 :: x0).map fun k : Nat => (k : Int)))), .d (iD (cstL (careF ps) (k0 :: x0)))]), (11, .arr kCube ((cubs ps ((k0 :: x0).take j)).map enCube) [])]) (fun j => j ≤ (k0 :: x0).length) (fun j => (k0 :: x0).length - j) 0 (Nat.zero_le _) ?hw3 fun j hj => ?_
    case hw3 =>
      refine Weak.trans (Weak.freeze 71000 rfl rfl) ?_
      refine Weak.trans (Weak.reify 11 11 kCube rfl rfl) ?_
      exact Weak.frame _ _ ⟨rfl, rfl, rfl, rfl, rfl, trivial⟩ ⟨rfl, rfl, trivial⟩ rfl rfl
    have htl : (cubs ps ((k0 :: x0).take j)).length ≤ j := by rw [cubs_len, List.length_take]; omega
    by_cases hjl : j < (k0 :: x0).length
    · obtain ⟨kj, hkj⟩ : ∃ kj, (k0 :: x0)[j]? = some kj := ⟨_, List.getElem?_eq_getElem hjl⟩
      have hkl := hxk kj (List.mem_of_getElem? hkj)
      have hkj2 : ((k0 :: x0).map fun k : Nat => (k : Int))[j]? = some (kj : Int) := by rw [List.getElem?_map, hkj]; rfl
      obtain ⟨q, hq⟩ : ∃ q, ps[kj]? = some q := ⟨_, List.getElem?_eq_getElem hkl⟩
      have hgd : ps.getD kj ⟨0, 0⟩ = q := by rw [List.getD_eq_getElem?_getD, hq]; rfl
      have hbd : ((cubs ps ((k0 :: x0).take j)).length + [q].length) * 16 ≤ 140737488355328 ∧ (cubs ps ((k0 :: x0).take j)).length + [q].length ≤ 140737488355328 := by rw [List.length_singleton]; omega
      repeat' (first|refine R.ixK (kj : Int) hkj2 rfl rfl rfl ?_|refine R.ixK (i := kj) q hq rfl rfl rfl ?_|refine R.mv rfl ?_|refine R.reg ?_|refine R.nil ?_|refine R.seq ?_|refine R.nseq ?_|refine R.nblk ?_|refine R.skip ?_|refine R.blk ?_|refine R.exit rfl ?_|refine R.ld rfl rfl rfl ?_|refine R.lda rfl rfl (lbT rfl) rfl ?_|refine R.fa rfl rfl ?_|refine R.lss rfl rfl ?_|refine R.add rfl rfl (by omega) ?_|refine R.nc rfl rfl ?_|refine R.bsl (f := enCube) [q] rfl rfl rfl rfl rfl ?_|refine R.app (f := enCube) (fun _ => rfl) rfl rfl rfl rfl rfl hbd ?_|refine R.cond rfl (fun hc => ?_) (fun hc => ?_))
      all_goals first
        | (exfalso; omega)
        | exact R.nloop (R.again (j + 1) (by omega) (by omega) ⟨rfl, rfl, rfl, rfl, rfl, trivial⟩ ⟨rfl, arr_eq (by rw [take_snoc hkj, cubs_snoc, hgd]), trivial⟩ rfl rfl)
        | skip
    obtain rfl : j = (k0 :: x0).length := by omega
    rw [List.take_length]
    repeat' (first|refine R.mv rfl ?_|refine R.reg ?_|refine R.nil ?_|refine R.seq ?_|refine R.nseq ?_|refine R.skip ?_|refine R.blk ?_|refine R.exit rfl ?_|refine R.ld rfl rfl rfl ?_|refine R.lda rfl rfl (lbT rfl) rfl ?_|refine R.fa rfl rfl ?_|refine R.lss rfl rfl ?_|refine R.ixN rfl rfl rfl (by omega) (fun a ha => ?_)|refine R.ixM rfl rfl rfl (by omega) (fun a ha => ?_)|refine R.nc rfl rfl ?_|refine R.cond rfl (fun hc => ?_) (fun hc => ?_))
    all_goals first
      | (exfalso; omega)
      | exact R.ret ⟨.inr rfl, R.outN rfl rfl rfl⟩
      | skip
end
end Go.Proofs.YtehkaajakapkmaaGreat
