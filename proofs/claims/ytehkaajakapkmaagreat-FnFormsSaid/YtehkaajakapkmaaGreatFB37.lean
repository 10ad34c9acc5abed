/- Texts of one proof, one behind the other. -/
import Derived.Test.YtehkaajakapkmaaGreatFB27
namespace Go.Proofs.YtehkaajakapkmaaGreat
section
open Go.RowKit
set_option maxRecDepth 100000 in
def S.s6 : SC := (.seq (.reg [⟨(.some 1), .none, .false, (.box 35 (.tmp 0))⟩, ⟨(.some 2), .none, .false, (.al 30 [(Go.Value.int Go.IntKind.i64 0), (Go.Value.slice none 0 0), (Go.Value.slice none 0 0)])⟩, ⟨(.some 3), .none, .false, (.mv (.const (Go.Value.int Go.IntKind.i64 0)))⟩]) (.seq (.seq (.reg [⟨(.some 14), .none, .false, (.call (.func 27) [(.tmp 1)])⟩, ⟨(.some 15), .none, .false, (.not (.tmp 14))⟩]) (.cond (.tmp 15) (.seq (.reg [⟨(.some 16), .none, .false, (.bld [(Go.Value.int Go.IntKind.i64 0), (Go.Value.slice none 0 0), (Go.Value.slice none 0 0)] [(0, 1), (1, 1), (2, 1)] [])⟩, ⟨.none, .none, .false, (.sto 3 (.tmp 2) (.tmp 16))⟩, ⟨(.some 3), .none, .false, (.mv (.const (Go.Value.int Go.IntKind.i64 1)))⟩]) .ret) .skip)) (.seq (.reg [⟨(.some 17), .none, .false, (.call (.func 28) [(.tmp 1)])⟩, ⟨(.some 4), .none, .false, (.mv (.tmp 17))⟩]) (.seq (.reg [⟨(.some 18), .none, .false, (.fa 0 (.tmp 1))⟩, ⟨(.some 19), .none, .false, (.ld .false 1 (.tmp 18))⟩, ⟨(.some 20), .none, .false, (.bld [(Go.Value.int Go.IntKind.i64 0), (Go.Value.slice none 0 0), (Go.Value.slice none 0 0)] [(0, 1), (1, 1), (2, 1)] [(0, (.tmp 19))])⟩, ⟨(.some 5), .none, .false, (.al 30 [(Go.Value.int Go.IntKind.i64 0), (Go.Value.slice none 0 0), (Go.Value.slice none 0 0)])⟩, ⟨.none, .none, .false, (.sto 3 (.tmp 5) (.tmp 20))⟩]) (.seq (.reg [⟨(.some 21), .none, .false, (.bsl (.mk 27 1) 0 [])⟩, ⟨(.some 6), .none, .false, (.mv (.tmp 21))⟩]) (.seq (.seq (.reg [⟨(.some 7), .none, .false, (.mv (.const (Go.Value.int Go.IntKind.i64 0)))⟩]) (.block 0 (.loop (.seq (.seq (.reg [⟨(.some 22), .none, .false, (.mv (.tmp 7))⟩, ⟨(.some 23), .none, .false, (.mv (.tmp 4))⟩, ⟨(.some 24), .none, .false, (.len (.tmp 23))⟩, ⟨(.some 25), .none, .false, (.bin .lss (.tmp 22) (.tmp 24))⟩]) (.cond (.tmp 25) .skip (.exit 0))) (.seq (.block 1 (.seq (.reg [⟨(.some 28), .none, .true, (.fa 0 (.tmp 1))⟩, ⟨(.some 29), .none, .true, (.ld .false 1 (.tmp 28))⟩, ⟨(.some 30), .none, .true, (.mv (.tmp 4))⟩, ⟨(.some 31), .none, .true, (.mv (.tmp 7))⟩, ⟨(.some 32), .none, .true, (.ix (.mk 23 1) (.tmp 30) (.tmp 31))⟩, ⟨(.some 33), .none, .true, (.ld .false 1 (.tmp 32))⟩, ⟨(.some 34), .none, .false, (.call (.func 29) [(.tmp 29), (.tmp 33)])⟩, ⟨(.some 8), .none, .false, (.mv (.tmp 34))⟩]) (.seq (.reg [⟨(.some 35), .none, .false, (.mv (.tmp 6))⟩, ⟨(.some 36), .none, .false, (.mv (.tmp 8))⟩, ⟨(.some 37), .none, .false, (.bsl (.mk 27 1) 1 [(0, (.tmp 36))])⟩, ⟨(.some 38), .none, .false, (.app (.mk 27 1) 24 (.tmp 35) (.tmp 37))⟩, ⟨(.some 6), .none, .false, (.mv (.tmp 38))⟩]) (.seq (.reg [⟨(.some 9), .none, .false, (.mv (.const (Go.Value.int Go.IntKind.i64 0)))⟩]) (.block 2 (.loop (.seq (.seq (.reg [⟨(.some 39), .none, .false, (.mv (.tmp 9))⟩, ⟨(.some 40), .none, .false, (.mv (.tmp 8))⟩, ⟨(.some 41), .none, .false, (.len (.tmp 40))⟩, ⟨(.some 42), .none, .false, (.bin .lss (.tmp 39) (.tmp 41))⟩]) (.cond (.tmp 42) .skip (.exit 2))) (.seq (.block 3 (.reg [⟨(.some 45), .none, .true, (.fa 1 (.tmp 5))⟩, ⟨(.some 46), .none, .true, (.ld .false 1 (.tmp 45))⟩, ⟨(.some 47), .none, .true, (.mv (.tmp 8))⟩, ⟨(.some 48), .none, .true, (.mv (.tmp 9))⟩, ⟨(.some 49), .none, .true, (.ix (.mk 56 2) (.tmp 47) (.tmp 48))⟩, ⟨(.some 50), .none, .true, (.ld .true 2 (.tmp 49))⟩, ⟨(.some 51), .none, .false, (.call (.func 30) [(.tmp 46), (.tmp 50)])⟩, ⟨(.some 52), .none, .false, (.fa 1 (.tmp 5))⟩, ⟨.none, .none, .false, (.sto 1 (.tmp 52) (.tmp 51))⟩])) (.reg [⟨(.some 43), .none, .false, (.mv (.tmp 9))⟩, ⟨(.some 44), .none, .false, (.bin .add (.tmp 43) (.const (Go.Value.int Go.IntKind.i64 1)))⟩, ⟨(.some 9), .none, .false, (.mv (.tmp 44))⟩]))))))))) (.reg [⟨(.some 26), .none, .false, (.mv (.tmp 7))⟩, ⟨(.some 27), .none, .false, (.bin .add (.tmp 26) (.const (Go.Value.int Go.IntKind.i64 1)))⟩, ⟨(.some 7), .none, .false, (.mv (.tmp 27))⟩])))))) (.seq (.seq (.reg [⟨(.some 10), .none, .false, (.mv (.const (Go.Value.int Go.IntKind.i64 0)))⟩]) (.block 4 (.loop (.seq (.seq (.reg [⟨(.some 53), .none, .false, (.mv (.tmp 10))⟩, ⟨(.some 54), .none, .false, (.mv (.tmp 6))⟩, ⟨(.some 55), .none, .false, (.len (.tmp 54))⟩, ⟨(.some 56), .none, .false, (.bin .lss (.tmp 53) (.tmp 55))⟩]) (.cond (.tmp 56) .skip (.exit 4))) (.seq (.block 5 (.seq (.reg [⟨(.some 59), .none, .false, (.bsl (.mk 2 1) 0 [])⟩, ⟨(.some 11), .none, .false, (.mv (.tmp 59))⟩]) (.seq (.seq (.reg [⟨(.some 12), .none, .false, (.mv (.const (Go.Value.int Go.IntKind.i64 0)))⟩]) (.block 6 (.loop (.seq (.seq (.reg [⟨(.some 60), .none, .false, (.mv (.tmp 12))⟩, ⟨(.some 61), .none, .false, (.fa 1 (.tmp 5))⟩, ⟨(.some 62), .none, .false, (.ld .false 1 (.tmp 61))⟩, ⟨(.some 63), .none, .false, (.len (.tmp 62))⟩, ⟨(.some 64), .none, .false, (.bin .lss (.tmp 60) (.tmp 63))⟩]) (.cond (.tmp 64) .skip (.exit 6))) (.seq (.block 7 (.seq (.reg [⟨(.some 13), .none, .false, (.mv (.const (Go.Value.int Go.IntKind.i64 0)))⟩]) (.block 8 (.loop (.seq (.seq (.reg [⟨(.some 67), .none, .false, (.mv (.tmp 13))⟩, ⟨(.some 68), .none, .false, (.mv (.tmp 6))⟩, ⟨(.some 69), .none, .false, (.mv (.tmp 10))⟩, ⟨(.some 70), .none, .false, (.ix (.mk 27 1) (.tmp 68) (.tmp 69))⟩, ⟨(.some 71), .none, .false, (.ld .false 1 (.tmp 70))⟩, ⟨(.some 72), .none, .false, (.len (.tmp 71))⟩, ⟨(.some 73), .none, .false, (.bin .lss (.tmp 67) (.tmp 72))⟩]) (.cond (.tmp 73) .skip (.exit 8))) (.seq (.block 9 (.seq (.reg [⟨(.some 76), .none, .true, (.mv (.tmp 6))⟩, ⟨(.some 77), .none, .true, (.mv (.tmp 10))⟩, ⟨(.some 78), .none, .true, (.ix (.mk 27 1) (.tmp 76) (.tmp 77))⟩, ⟨(.some 79), .none, .true, (.ld .false 1 (.tmp 78))⟩, ⟨(.some 80), .none, .true, (.mv (.tmp 13))⟩, ⟨(.some 81), .none, .true, (.ix (.mk 56 2) (.tmp 79) (.tmp 80))⟩, ⟨(.some 82), .none, .true, (.ld .true 2 (.tmp 81))⟩, ⟨(.some 83), .none, .true, (.fa 1 (.tmp 5))⟩, ⟨(.some 84), .none, .true, (.ld .false 1 (.tmp 83))⟩, ⟨(.some 85), .none, .true, (.mv (.tmp 12))⟩, ⟨(.some 86), .none, .true, (.ix (.mk 56 2) (.tmp 84) (.tmp 85))⟩, ⟨(.some 87), .none, .true, (.ld .true 2 (.tmp 86))⟩, ⟨(.some 88), .none, .true, (.eqs .false [(.i .i64), (.i .i64)] (.tmp 82) (.tmp 87))⟩]) (.cond (.tmp 88) (.reg [⟨(.some 89), .none, .false, (.mv (.tmp 11))⟩, ⟨(.some 90), .none, .false, (.mv (.tmp 12))⟩, ⟨(.some 91), .none, .false, (.bsl (.mk 2 1) 1 [(0, (.tmp 90))])⟩, ⟨(.some 92), .none, .false, (.app (.mk 2 1) 8 (.tmp 89) (.tmp 91))⟩, ⟨(.some 11), .none, .false, (.mv (.tmp 92))⟩]) .skip))) (.reg [⟨(.some 74), .none, .false, (.mv (.tmp 13))⟩, ⟨(.some 75), .none, .false, (.bin .add (.tmp 74) (.const (Go.Value.int Go.IntKind.i64 1)))⟩, ⟨(.some 13), .none, .false, (.mv (.tmp 75))⟩]))))))) (.reg [⟨(.some 65), .none, .false, (.mv (.tmp 12))⟩, ⟨(.some 66), .none, .false, (.bin .add (.tmp 65) (.const (Go.Value.int Go.IntKind.i64 1)))⟩, ⟨(.some 12), .none, .false, (.mv (.tmp 66))⟩])))))) (.reg [⟨(.some 93), .none, .false, (.fa 2 (.tmp 5))⟩, ⟨(.some 94), .none, .false, (.ld .false 1 (.tmp 93))⟩, ⟨(.some 95), .none, .false, (.mv (.tmp 11))⟩, ⟨(.some 96), .none, .false, (.bsl (.mk 23 1) 1 [(0, (.tmp 95))])⟩, ⟨(.some 97), .none, .false, (.app (.mk 23 1) 24 (.tmp 94) (.tmp 96))⟩, ⟨(.some 98), .none, .false, (.fa 2 (.tmp 5))⟩, ⟨.none, .none, .false, (.sto 1 (.tmp 98) (.tmp 97))⟩])))) (.reg [⟨(.some 57), .none, .false, (.mv (.tmp 10))⟩, ⟨(.some 58), .none, .false, (.bin .add (.tmp 57) (.const (Go.Value.int Go.IntKind.i64 1)))⟩, ⟨(.some 10), .none, .false, (.mv (.tmp 58))⟩])))))) (.seq (.reg [⟨(.some 99), .none, .false, (.ld .true 3 (.tmp 5))⟩, ⟨.none, .none, .false, (.sto 3 (.tmp 2) (.tmp 99))⟩, ⟨(.some 3), .none, .false, (.mv (.const (Go.Value.int Go.IntKind.i64 0)))⟩]) .ret))))))))
set_option maxRecDepth 100000 in
theorem S.ok6 : stripF Tryz.prog Tryz.f6 = some S.s6 := by kernel_rfl
set_option maxRecDepth 100000 in
def S.s30 : SC := (.seq (.reg [⟨(.some 3), .none, .false, (.box 56 (.tmp 1))⟩, ⟨(.some 4), .none, .false, (.mv (.const (Go.Value.slice none 0 0)))⟩]) (.seq (.reg [⟨(.some 8), .none, .false, (.bsl (.mk 56 2) 0 [])⟩, ⟨(.some 5), .none, .false, (.mv (.tmp 8))⟩]) (.seq (.reg [⟨(.some 6), .none, .false, (.mv (.const (Go.Value.bool false)))⟩]) (.seq (.seq (.reg [⟨(.some 7), .none, .false, (.mv (.const (Go.Value.int Go.IntKind.i64 0)))⟩]) (.block 0 (.loop (.seq (.seq (.reg [⟨(.some 9), .none, .false, (.mv (.tmp 7))⟩, ⟨(.some 10), .none, .false, (.mv (.tmp 0))⟩, ⟨(.some 11), .none, .false, (.len (.tmp 10))⟩, ⟨(.some 12), .none, .false, (.bin .lss (.tmp 9) (.tmp 11))⟩]) (.cond (.tmp 12) .skip (.exit 0))) (.seq (.block 1 (.seq (.seq (.reg [⟨(.some 15), .none, .true, (.mv (.tmp 6))⟩, ⟨(.some 16), .none, .true, (.not (.tmp 15))⟩, ⟨(.some 17), .none, .true, (.mv (.tmp 16))⟩, ⟨(.some 18), (.some (17, .true)), .true, (.mv (.tmp 0))⟩, ⟨(.some 19), (.some (17, .true)), .true, (.mv (.tmp 7))⟩, ⟨(.some 20), (.some (17, .true)), .true, (.ix (.mk 56 2) (.tmp 18) (.tmp 19))⟩, ⟨(.some 21), (.some (17, .true)), .true, (.ld .true 2 (.tmp 20))⟩, ⟨(.some 22), (.some (17, .true)), .true, (.ld .true 2 (.tmp 3))⟩, ⟨(.some 23), (.some (17, .true)), .false, (.call (.func 68) [(.tmp 21), (.tmp 22)])⟩, ⟨(.some 24), (.some (17, .true)), .false, (.not (.tmp 23))⟩, ⟨(.some 25), .none, .false, (.pick (.tmp 17) (.tmp 24) (.const (Go.Value.bool false)))⟩]) (.cond (.tmp 25) (.seq (.reg [⟨(.some 6), .none, .false, (.mv (.const (Go.Value.bool true)))⟩]) (.seq (.reg [⟨(.some 26), .none, .true, (.mv (.tmp 0))⟩, ⟨(.some 27), .none, .true, (.mv (.tmp 7))⟩, ⟨(.some 28), .none, .true, (.ix (.mk 56 2) (.tmp 26) (.tmp 27))⟩, ⟨(.some 29), .none, .true, (.ld .true 2 (.tmp 28))⟩, ⟨(.some 30), .none, .true, (.ld .true 2 (.tmp 3))⟩, ⟨(.some 31), .none, .true, (.eqs .true [(.i .i64), (.i .i64)] (.tmp 29) (.tmp 30))⟩]) (.cond (.tmp 31) (.reg [⟨(.some 32), .none, .false, (.mv (.tmp 5))⟩, ⟨(.some 33), .none, .false, (.ld .true 2 (.tmp 3))⟩, ⟨(.some 34), .none, .false, (.bsl (.mk 56 2) 1 [(0, (.tmp 33))])⟩, ⟨(.some 35), .none, .false, (.app (.mk 56 2) 16 (.tmp 32) (.tmp 34))⟩, ⟨(.some 5), .none, .false, (.mv (.tmp 35))⟩]) .skip))) .skip)) (.reg [⟨(.some 36), .none, .false, (.mv (.tmp 5))⟩, ⟨(.some 37), .none, .false, (.mv (.tmp 0))⟩, ⟨(.some 38), .none, .false, (.mv (.tmp 7))⟩, ⟨(.some 39), .none, .false, (.ix (.mk 56 2) (.tmp 37) (.tmp 38))⟩, ⟨(.some 40), .none, .false, (.ld .true 2 (.tmp 39))⟩, ⟨(.some 41), .none, .false, (.bsl (.mk 56 2) 1 [(0, (.tmp 40))])⟩, ⟨(.some 42), .none, .false, (.app (.mk 56 2) 16 (.tmp 36) (.tmp 41))⟩, ⟨(.some 5), .none, .false, (.mv (.tmp 42))⟩]))) (.reg [⟨(.some 13), .none, .false, (.mv (.tmp 7))⟩, ⟨(.some 14), .none, .false, (.bin .add (.tmp 13) (.const (Go.Value.int Go.IntKind.i64 1)))⟩, ⟨(.some 7), .none, .false, (.mv (.tmp 14))⟩])))))) (.seq (.seq (.reg [⟨(.some 43), .none, .false, (.mv (.tmp 6))⟩, ⟨(.some 44), .none, .false, (.not (.tmp 43))⟩]) (.cond (.tmp 44) (.reg [⟨(.some 45), .none, .false, (.mv (.tmp 5))⟩, ⟨(.some 46), .none, .false, (.ld .true 2 (.tmp 3))⟩, ⟨(.some 47), .none, .false, (.bsl (.mk 56 2) 1 [(0, (.tmp 46))])⟩, ⟨(.some 48), .none, .false, (.app (.mk 56 2) 16 (.tmp 45) (.tmp 47))⟩, ⟨(.some 5), .none, .false, (.mv (.tmp 48))⟩]) .skip)) (.seq (.reg [⟨(.some 49), .none, .false, (.mv (.tmp 5))⟩, ⟨(.some 4), .none, .false, (.mv (.tmp 49))⟩]) .ret))))))
set_option maxRecDepth 100000 in
theorem S.ok30 : stripF Tryz.prog Tryz.f30 = some S.s30 := by kernel_rfl
set_option maxRecDepth 20000
set_option maxHeartbeats 8000000
theorem sPut (l : List TCube) (c : TCube) (hl : l.length ≤ 2000) : Spec Tryz.prog 30 [vL kCube (l.map enCube), .agg (enCube c)] (oN kCube ((putQ l c).map enCube)) := by
  refine Spec.walk T.mixed Tryz.func30 S.ok30 (by simp [Tryz.f30]) fun hk => ?_
  clear hk
  unfold S.s30
  repeat' (first|refine R.mv rfl ?_|refine R.reg ?_|refine R.nil ?_|refine R.seq ?_|refine R.nseq ?_|refine R.blk ?_|refine R.box rfl rfl rfl ?_|refine R.bsl (f := enCube) ([] : List TCube) rfl rfl rfl rfl rfl ?_)
  all_goals first | (exfalso; omega) | skip
  refine R.loop (G := Nat) (fun i => [(0, rdA kCube (l.map enCube)), (3, .v (.c (.ptr 3 0))), (5, .v (.c (.own 8))), (6, pvA (.bool (outP l c i).2)), (7, pvA (.int .i64 i))]) (fun i => [(3, .box 56 ((enCube c).map B.d)), (8, .arr kCube ((outP l c i).1.map enCube) [])]) (fun i => i ≤ l.length) (fun i => l.length - i) 0 (by omega) (Weak.frame _ _ ⟨rfl, rfl, rfl, rfl, rfl, trivial⟩ ⟨rfl, rfl, trivial⟩ rfl rfl) fun i hi => ?_
  have hol := outP_len l c i
  have hle : (outP l c i).1.length ≤ i + 1 := by omega
  by_cases hil : i < l.length
  · obtain ⟨a0, ha0⟩ : ∃ a, l[i]? = some a := ⟨_, List.getElem?_eq_getElem hil⟩
    have hbf := sBefore a0 c
    have hstep : outP l c (i + 1) = if (outP l c i).2 = false ∧ ¬ ltQ a0 c then ((if a0 = c then (outP l c i).1 else (outP l c i).1 ++ [c]) ++ [a0], true) else ((outP l c i).1 ++ [a0], (outP l c i).2) := by rw [outP, ha0]
    have hbd : ∀ m : List TCube, m.length ≤ 2100 → (m.length + [a0].length) * 16 ≤ 140737488355328 ∧ m.length + [a0].length ≤ 140737488355328 := fun m hm => by rw [List.length_singleton]; omega
    have hb1 := hbd (outP l c i).1 (by omega)
    have hb2 := hbd ((outP l c i).1 ++ [c]) (by rw [List.length_append, List.length_singleton]; omega)
    cases hd : (outP l c i).2 with
    | true =>
      rw [hd] at hstep
      rw [if_neg fun h => by cases h.1] at hstep
      repeat' (first|refine R.ixK a0 ha0 rfl rfl rfl ?_|refine R.mv rfl ?_|refine R.reg ?_|refine R.nil ?_|refine R.seq ?_|refine R.nseq ?_|refine R.nblk ?_|refine R.skip ?_|refine R.blk ?_|refine R.exit rfl ?_|refine R.gSkip rfl ?_|refine R.lda rfl rfl (lbT rfl) rfl ?_|refine R.lenM rfl ?_|refine R.lss rfl rfl ?_|refine R.add rfl rfl (by omega) ?_|refine R.pickF rfl rfl ?_|refine R.not rfl ?_|refine R.condF rfl ?_|refine R.bsl (f := enCube) [a0] rfl rfl rfl rfl rfl ?_|refine R.app (f := enCube) (fun _ => rfl) rfl rfl rfl rfl rfl hb1 ?_|refine R.cond rfl (fun hc => ?_) (fun hc => ?_))
      all_goals first
        | (exfalso; omega)
        | exact R.nloop (R.again (i + 1) (by omega) (by omega) ⟨rfl, rfl, rfl, by rw [hstep]; rfl, rfl, trivial⟩ ⟨rfl, arr_eq (by rw [hstep]), trivial⟩ rfl rfl)
        | skip
    | false =>
      rw [hd] at hstep
      by_cases hac : ltQ a0 c
      · rw [if_neg fun h => h.2 hac] at hstep
        have hbT : decide (cmpQ a0 c < 0) = true := decide_eq_true hac
        rw [hbT] at hbf
        repeat' (first|refine R.ixK a0 ha0 rfl rfl rfl ?_|refine R.mv rfl ?_|refine R.reg ?_|refine R.nil ?_|refine R.seq ?_|refine R.nseq ?_|refine R.nblk ?_|refine R.skip ?_|refine R.blk ?_|refine R.exit rfl ?_|refine R.gRun rfl ?_|refine R.lda rfl rfl (lbT rfl) rfl ?_|refine R.lenM rfl ?_|refine R.lss rfl rfl ?_|refine R.add rfl rfl (by omega) ?_|refine R.pickT rfl rfl ?_|refine R.not rfl ?_|refine R.condT rfl ?_|refine R.condF rfl ?_|refine R.call (bor := false) rfl rfl (hbf) rfl rfl rfl ?_|refine R.bsl (f := enCube) [a0] rfl rfl rfl rfl rfl ?_|refine R.app (f := enCube) (fun _ => rfl) rfl rfl rfl rfl rfl hb1 ?_|refine R.cond rfl (fun hc => ?_) (fun hc => ?_))
        all_goals first
          | (exfalso; omega)
          | exact R.nloop (R.again (i + 1) (by omega) (by omega) ⟨rfl, rfl, rfl, by rw [hstep]; rfl, rfl, trivial⟩ ⟨rfl, arr_eq (by rw [hstep]), trivial⟩ rfl rfl)
          | skip
      · rw [if_pos ⟨rfl, hac⟩] at hstep
        have hbF : decide (cmpQ a0 c < 0) = false := decide_eq_false hac
        rw [hbF] at hbf
        have heq : eqVs [.int .i64 a0.fCare, .int .i64 a0.fValue] [.int .i64 c.fCare, .int .i64 c.fValue] = decide (a0 = c) := by
          obtain ⟨x1, x2⟩ := a0
          obtain ⟨y1, y2⟩ := c
          simp [eqVs, eqV, Bool.decide_and]
        by_cases hec : a0 = c
        · rw [if_pos hec] at hstep
          repeat' (first|refine R.ixK a0 ha0 rfl rfl rfl ?_|refine R.mv rfl ?_|refine R.reg ?_|refine R.nil ?_|refine R.seq ?_|refine R.nseq ?_|refine R.nblk ?_|refine R.skip ?_|refine R.blk ?_|refine R.exit rfl ?_|refine R.gRun rfl ?_|refine R.lda rfl rfl (lbT rfl) rfl ?_|refine R.lenM rfl ?_|refine R.lss rfl rfl ?_|refine R.add rfl rfl (by omega) ?_|refine R.pickT rfl rfl ?_|refine R.not rfl ?_|refine R.neqs rfl rfl rfl rfl rfl ?_|refine R.condT rfl ?_|refine R.call (bor := false) rfl rfl (hbf) rfl rfl rfl ?_|refine R.bsl (f := enCube) [a0] rfl rfl rfl rfl rfl ?_|refine R.bsl (f := enCube) [c] rfl rfl rfl rfl rfl ?_|refine R.app (f := enCube) (fun _ => rfl) rfl rfl rfl rfl rfl hb1 ?_|refine R.cond rfl (fun hc => ?_) (fun hc => ?_)|refine R.condB rfl (fun hc => ?_) (fun hc => ?_))
          all_goals first
            | (exfalso; omega)
            | exact R.nloop (R.again (i + 1) (by omega) (by omega) ⟨rfl, rfl, rfl, by rw [hstep]; rfl, rfl, trivial⟩ ⟨rfl, arr_eq (by rw [hstep]), trivial⟩ rfl rfl)
            | (exfalso; simp_all [eqVs, eqV]; done)
            | skip
        · rw [if_neg hec] at hstep
          repeat' (first|refine R.ixK a0 ha0 rfl rfl rfl ?_|refine R.mv rfl ?_|refine R.reg ?_|refine R.nil ?_|refine R.seq ?_|refine R.nseq ?_|refine R.nblk ?_|refine R.skip ?_|refine R.blk ?_|refine R.exit rfl ?_|refine R.gRun rfl ?_|refine R.lda rfl rfl (lbT rfl) rfl ?_|refine R.lenM rfl ?_|refine R.lss rfl rfl ?_|refine R.add rfl rfl (by omega) ?_|refine R.pickT rfl rfl ?_|refine R.not rfl ?_|refine R.neqs rfl rfl rfl rfl rfl ?_|refine R.condT rfl ?_|refine R.call (bor := false) rfl rfl (hbf) rfl rfl rfl ?_|refine R.bsl (f := enCube) [a0] rfl rfl rfl rfl rfl ?_|refine R.bsl (f := enCube) [c] rfl rfl rfl rfl rfl ?_|refine R.app (f := enCube) (fun _ => rfl) rfl rfl rfl rfl rfl hb1 ?_|refine R.app (f := enCube) (fun _ => rfl) rfl rfl rfl rfl rfl hb2 ?_|refine R.cond rfl (fun hc => ?_) (fun hc => ?_)|refine R.condB rfl (fun hc => ?_) (fun hc => ?_))
          all_goals first
            | (exfalso; omega)
            | (exfalso; have h2 := hc; change (!eqVs [.int .i64 a0.fCare, .int .i64 a0.fValue] [.int .i64 c.fCare, .int .i64 c.fValue]) = false at h2; rw [heq] at h2; simp [hec] at h2; done)
            | exact R.nloop (R.again (i + 1) (by omega) (by omega) ⟨rfl, rfl, rfl, by rw [hstep]; rfl, rfl, trivial⟩ ⟨rfl, arr_eq (by rw [hstep]), trivial⟩ rfl rfl)
            | (exfalso; simp_all [eqVs, eqV]; done)
            | skip
  obtain rfl : i = l.length := by omega
  have hb3 : ((outP l c l.length).1.length + [c].length) * 16 ≤ 140737488355328 ∧ (outP l c l.length).1.length + [c].length ≤ 140737488355328 := by rw [List.length_singleton]; omega
  cases hd : (outP l c l.length).2 with
  | true =>
    have hput : putQ l c = (outP l c l.length).1 := by unfold putQ; rw [if_pos hd]
    repeat' (first|refine R.mv rfl ?_|refine R.reg ?_|refine R.nil ?_|refine R.seq ?_|refine R.nseq ?_|refine R.skip ?_|refine R.blk ?_|refine R.exit rfl ?_|refine R.gSkip rfl ?_|refine R.lda rfl rfl (lbT rfl) rfl ?_|refine R.lenM rfl ?_|refine R.lss rfl rfl ?_|refine R.ixN rfl rfl rfl (by omega) (fun a ha => ?_)|refine R.pickF rfl rfl ?_|refine R.not rfl ?_|refine R.condF rfl ?_|refine R.cond rfl (fun hc => ?_) (fun hc => ?_))
    all_goals first
      | (exfalso; omega)
      | exact R.ret ⟨.inr rfl, R.outN rfl rfl (arr_eq (by rw [hput]))⟩
      | skip
  | false =>
    have hput : putQ l c = (outP l c l.length).1 ++ [c] := by unfold putQ; rw [hd]; rfl
    repeat' (first|refine R.mv rfl ?_|refine R.reg ?_|refine R.nil ?_|refine R.seq ?_|refine R.nseq ?_|refine R.skip ?_|refine R.blk ?_|refine R.exit rfl ?_|refine R.gRun rfl ?_|refine R.lda rfl rfl (lbT rfl) rfl ?_|refine R.lenM rfl ?_|refine R.lss rfl rfl ?_|refine R.ixN rfl rfl rfl (by omega) (fun a ha => ?_)|refine R.not rfl ?_|refine R.condT rfl ?_|refine R.bsl (f := enCube) [c] rfl rfl rfl rfl rfl ?_|refine R.app (f := enCube) (fun _ => rfl) rfl rfl rfl rfl rfl hb3 ?_|refine R.cond rfl (fun hc => ?_) (fun hc => ?_))
    all_goals first
      | (exfalso; omega)
      | exact R.ret ⟨.inr rfl, R.outN rfl rfl (arr_eq (by rw [hput]))⟩
      | skip
theorem sLst (n : Int) (t : List Int) (hn : 1 ≤ n ∧ n ≤ 4) (h : inK t (2 ^ n.toNat)) : Spec Tryz.prog 29 [vI n, vL kI (ints t)] (.v (.c (.fz (.rd kCube ((cov n t).map enCube))))) := by
  obtain ⟨k, rfl⟩ : ∃ k : Nat, n = k := ⟨n.toNat, by omega⟩
  have hk4 : 1 ≤ k ∧ k ≤ 4 := by omega
  obtain ⟨m, h1, h2, h3, h4, h5, h6⟩ := lcX_ok hk4 h
  exact sLeast k t hk4 h _ h4
theorem sFormOf (c : TCircuit) : Spec Tryz.prog 6 [.agg (enCircuit c)] (.tup [.agg [.fz (iD (fFO c).1.fInputs), .nw kCube ((fFO c).1.fCubes.map enCube), .nw kR ((fFO c).1.fSums.map enR)], cI (fFO c).2]) := by
  refine Spec.walk T.mixed Tryz.func6 S.ok6 (by simp [Tryz.f6]) fun hk => ?_
  clear hk
  unfold S.s6
  by_cases h : okC c
  case neg =>
    rw [show fFO c = (⟨0, [], []⟩, 1) from if_neg h]
    repeat' (first|refine R.mv rfl ?_|refine R.reg ?_|refine R.nil ?_|refine R.seq ?_|refine R.nseq ?_|refine R.not rfl ?_|refine R.al rfl ?_|refine R.box rfl rfl rfl ?_|refine R.stoB rfl rfl rfl rfl ⟨rfl, rfl, Nat.le_of_ble_eq_true rfl⟩ rfl ?_|refine R.bld rfl rfl ?_|refine R.condT rfl ?_|refine R.call (bor := true) rfl rfl (sCirF h) rfl rfl rfl ?_)
    all_goals first
      | (exfalso; omega)
      | exact R.ret ⟨.inr rfl, R.outW (Weak.trans (Weak.reifyBox 2 1 900000 kCube rfl rfl rfl) (Weak.reifyBox 2 2 900001 kR rfl rfl rfl)) (R.outR rfl (.cons (R.cell rfl rfl T.ty30 (lbT rfl) rfl) (.cons (R.tmp rfl) .nil)) rfl rfl rfl ⟨by show ¬ (2 = 1); omega, rfl⟩)⟩
      | skip
  rw [show fFO c = (⟨c.fInputs, cubF c, sumsF c⟩, 0) from if_pos h]
  have hn := h.1
  have hO := h.2.2.1
  have htl := tabT_len (c := c) (k := 2 ^ c.fInputs.toNat) (j := 0)
  have hK := tab_inK h
  have hcl := covs_len (c := c)
  have hcf := cubF_len h
  have hcm := fun cv hc => covs_mem h (cv := cv) hc
  have hsT := sTab c h
  have hgt := fun i t => covs_get (c := c) (i := i) (t := t)
  generalize htb : tabT c (2 ^ c.fInputs.toNat) 0 = tb at *
  have hcf2 : cubF c = (covs c).flatten.foldl putQ [] := rfl
  have hsm : sumsF c = (covs c).map fun cv => sumK (cubF c) cv (cubF c).length := rfl
  generalize cubF c = cs at *
  generalize sumsF c = sm at *
  generalize covs c = cvs at *
  repeat' (first|refine R.mv rfl ?_|refine R.reg ?_|refine R.nil ?_|refine R.seq ?_|refine R.nseq ?_|refine R.skip ?_|refine R.blk ?_|refine R.ld rfl rfl rfl ?_|refine R.fa rfl rfl ?_|refine R.not rfl ?_|refine R.al rfl ?_|refine R.box rfl rfl rfl ?_|refine R.stoB rfl rfl rfl rfl ⟨rfl, rfl, Nat.le_of_ble_eq_true rfl⟩ rfl ?_|refine R.bld rfl rfl ?_|refine R.condF rfl ?_|refine R.call (bor := true) rfl rfl (sCirT h) rfl rfl rfl ?_|refine R.callN1 (bor := true) rfl rfl (hsT) rfl rfl ?_|refine R.bsl (f := enV) ([] : List Value) rfl rfl rfl rfl rfl ?_)
  all_goals first | (exfalso; omega) | skip
  refine R.loop (G := List (Value × List TCube)) (fun g => [(1, .v (.c (.ptr 1 0))), (2, .v (.c (.ptr 2 0))), (4, rdA kR (tb.map enR)), (5, .v (.c (.ptr 5 0))), (6, .v (.c (.own 21))), (7, pvA (.int .i64 g.length))]) (fun g => [(1, .box 35 ((enCircuit c).map B.d)), (2, .box 30 [.d (iD 0), nilB, nilB]), (5, .box 30 [.d (iD c.fInputs), .own 900, nilB]), (21, .arr kCS ((g.map fun p => p.1).map enV) []), (900, .arr kCube (((g.map (·.2)).flatten.foldl putQ []).map enCube) []), (7777, .val (g.map fun p => (p.1, .rd kCube (p.2.map enCube))))]) (fun g => g.length ≤ cvs.length ∧ g.map (·.2) = cvs.take g.length) (fun g => cvs.length - g.length) [] ⟨Nat.zero_le _, rfl⟩ ?hw1 fun g hg => ?_
  case hw1 =>
    refine Weak.trans (Weak.freeze 19000 rfl rfl) ?_
    refine Weak.trans (Weak.reifyBox 5 1 900 kCube rfl rfl rfl) ?_
    refine Weak.trans (Weak.regNew 7777 rfl) ?_
    exact Weak.frame _ _ ⟨rfl, rfl, rfl, rfl, rfl, rfl, trivial⟩ ⟨rfl, rfl, rfl, rfl, rfl, rfl, trivial⟩ rfl rfl
  obtain ⟨hg1, hg2⟩ := hg
  have hfl : ((g.map (·.2)).flatten.foldl putQ []).length ≤ 768 := by
    have e1 := flat_len (l := g.map (·.2)) (m := 256) fun r hr => hcm r (List.mem_of_mem_take (hg2 ▸ hr))
    have e2 := putAll_len (g.map (·.2)).flatten []
    rw [List.length_map] at e1
    have e3 : g.length * 256 ≤ 3 * 256 := Nat.mul_le_mul_right _ (by omega)
    simp only [List.length_nil] at e2
    omega
  by_cases hgl : g.length < cvs.length
  · obtain ⟨t, ht⟩ : ∃ t, tb[g.length]? = some t := ⟨_, List.getElem?_eq_getElem (by omega)⟩
    have hcv := hgt _ _ ht
    have hKt := hK t (List.mem_of_getElem? ht)
    have hL := sLst c.fInputs t hn hKt
    have hcvl := hcm _ (List.mem_of_getElem? hcv)
    generalize cov c.fInputs t = cv at *
    have hgV : ∀ v : Value, ((g.map fun p => p.1).length + [v].length) * 24 ≤ 140737488355328 ∧ (g.map fun p => p.1).length + [v].length ≤ 140737488355328 := fun v => by rw [List.length_map, List.length_singleton]; omega
    repeat' (first|refine R.ixK t ht rfl rfl rfl ?_|refine R.reveal 8 7777 rfl rfl (fun v => ?_)|refine R.mv rfl ?_|refine R.reg ?_|refine R.nil ?_|refine R.seq ?_|refine R.nseq ?_|refine R.skip ?_|refine R.blk ?_|refine R.exit rfl ?_|refine R.ld rfl rfl rfl ?_|refine R.fa rfl rfl ?_|refine R.lenM rfl ?_|refine R.lss rfl rfl ?_|refine R.call (bor := false) rfl rfl (hL) rfl rfl rfl ?_|refine R.bsl (f := enV) [v] rfl rfl rfl rfl rfl ?_|refine R.app (f := enV) (fun _ => rfl) rfl rfl rfl rfl rfl (hgV v) ?_|refine R.cond rfl (fun hc => ?_) (fun hc => ?_))
    all_goals first | (exfalso; omega) | skip
    refine R.loop (G := Nat) (fun j => [(1, .v (.c (.ptr 1 0))), (2, .v (.c (.ptr 2 0))), (4, rdA kR (tb.map enR)), (5, .v (.c (.ptr 5 0))), (6, .v (.c (.own 21))), (7, pvA (.int .i64 g.length)), (8, rdA kCube (cv.map enCube)), (9, pvA (.int .i64 j))]) (fun j => [(1, .box 35 ((enCircuit c).map B.d)), (2, .box 30 [.d (iD 0), nilB, nilB]), (5, .box 30 [.d (iD c.fInputs), .own 900, nilB]), (21, .arr kCS (((g ++ [(v, cv)]).map fun p => p.1).map enV) []), (900, .arr kCube (((cv.take j).foldl putQ ((g.map (·.2)).flatten.foldl putQ [])).map enCube) []), (7777, .val ((g ++ [(v, cv)]).map fun p => (p.1, .rd kCube (p.2.map enCube))))]) (fun j => j ≤ cv.length) (fun j => cv.length - j) 0 (Nat.zero_le _) ?hw2 fun j hj => ?_
    case hw2 =>
      refine Weak.trans (Weak.hide 8 7777 rfl rfl (List.mem_append_right _ (List.mem_singleton.2 rfl))) ?_
      exact Weak.frame _ _ ⟨rfl, rfl, rfl, rfl, rfl, rfl, rfl, rfl, trivial⟩ ⟨rfl, rfl, rfl, arr_eq (by simp), rfl, by simp; rfl, trivial⟩ rfl rfl
    have hbl := putAll_len (cv.take j) ((g.map (·.2)).flatten.foldl putQ [])
    have htj : (cv.take j).length ≤ j := by rw [List.length_take]; omega
    have hfo : ((g ++ [(v, cv)]).map (·.2)).flatten.foldl putQ [] = cv.foldl putQ ((g.map (·.2)).flatten.foldl putQ []) := by rw [List.map_append, List.flatten_append, List.foldl_append]; simp
    have hgm : (g ++ [(v, cv)]).map (·.2) = cvs.take (g ++ [(v, cv)]).length := by rw [List.length_append, List.length_singleton, take_snoc hcv, List.map_append, hg2]; rfl
    generalize (g.map (·.2)).flatten.foldl putQ [] = base at *
    by_cases hjl : j < cv.length
    · obtain ⟨q, hq⟩ : ∃ q, cv[j]? = some q := ⟨_, List.getElem?_eq_getElem hjl⟩
      have hP := sPut ((cv.take j).foldl putQ base) q (by omega)
      have hst : (cv.take (j + 1)).foldl putQ base = putQ ((cv.take j).foldl putQ base) q := by rw [take_snoc hq, List.foldl_append]; rfl
      repeat' (first|refine R.ixK q hq rfl rfl rfl ?_|refine R.mv rfl ?_|refine R.reg ?_|refine R.nil ?_|refine R.seq ?_|refine R.nseq ?_|refine R.nblk ?_|refine R.skip ?_|refine R.blk ?_|refine R.exit rfl ?_|refine R.ld rfl rfl rfl ?_|refine R.lda rfl rfl (lbT rfl) rfl ?_|refine R.fa rfl rfl ?_|refine R.lenM rfl ?_|refine R.lss rfl rfl ?_|refine R.add rfl rfl (by omega) ?_|refine R.stoB rfl rfl rfl rfl ⟨rfl, rfl, Nat.le_of_ble_eq_true rfl⟩ rfl ?_|refine R.callN1 (bor := true) rfl rfl (hP) rfl rfl ?_|refine R.cond rfl (fun hc => ?_) (fun hc => ?_))
      all_goals first
        | (exfalso; omega)
        | exact R.nloop ⟨j + 1, by omega, by omega, Weak.trans (Weak.swap 53000 900 rfl rfl) (Weak.frame _ _ ⟨rfl, rfl, rfl, rfl, rfl, rfl, rfl, rfl, trivial⟩ ⟨rfl, rfl, rfl, rfl, arr_eq (by rw [hst]), rfl, trivial⟩ rfl rfl)⟩
        | skip
    obtain rfl : j = cv.length := by omega
    rw [List.take_length]
    repeat' (first|refine R.mv rfl ?_|refine R.reg ?_|refine R.nil ?_|refine R.seq ?_|refine R.nseq ?_|refine R.nblk ?_|refine R.skip ?_|refine R.blk ?_|refine R.exit rfl ?_|refine R.ld rfl rfl rfl ?_|refine R.lda rfl rfl (lbT rfl) rfl ?_|refine R.fa rfl rfl ?_|refine R.lenM rfl ?_|refine R.lss rfl rfl ?_|refine R.add rfl rfl (by omega) ?_|refine R.ixN rfl rfl rfl (by omega) (fun a ha => ?_)|refine R.cond rfl (fun hc => ?_) (fun hc => ?_))
    all_goals first
      | (exfalso; omega)
      | exact R.nloop (R.again (g ++ [(v, cv)]) ⟨by rw [List.length_append, List.length_singleton]; omega, hgm⟩ (by rw [List.length_append, List.length_singleton]; omega) ⟨rfl, rfl, rfl, rfl, rfl, by rw [List.length_append]; rfl, trivial⟩ ⟨rfl, rfl, rfl, rfl, arr_eq (by rw [hfo]), rfl, trivial⟩ rfl rfl)
      | skip
  have hgc : g.length = cvs.length := by omega
  rw [hgc, List.take_length] at hg2
  repeat' (first|refine R.mv rfl ?_|refine R.reg ?_|refine R.nil ?_|refine R.seq ?_|refine R.nseq ?_|refine R.skip ?_|refine R.blk ?_|refine R.exit rfl ?_|refine R.ld rfl rfl rfl ?_|refine R.fa rfl rfl ?_|refine R.lenM rfl ?_|refine R.lss rfl rfl ?_|refine R.ixN rfl rfl rfl (by omega) (fun a ha => ?_)|refine R.cond rfl (fun hc => ?_) (fun hc => ?_))
  all_goals first | (exfalso; omega) | skip
  refine R.loop (G := Nat) (fun i => [(2, .v (.c (.ptr 2 0))), (5, .v (.c (.ptr 5 0))), (6, rdA kCS (cvs.map enCS)), (10, pvA (.int .i64 i))]) (fun i => [(2, .box 30 [.d (iD 0), nilB, nilB]), (5, .box 30 [.d (iD c.fInputs), .own 900, .own 901]), (900, .arr kCube (cs.map enCube) []), (901, .arr kR (((cvs.take i).map fun cv => sumK cs cv cs.length).map enR) [])]) (fun i => i ≤ cvs.length) (fun i => cvs.length - i) 0 (Nat.zero_le _) ?hw3 fun i hi => ?_
  case hw3 =>
    refine Weak.trans (Weak.freeze 21 rfl rfl) ?_
    refine Weak.trans (Weak.hideRows 6 7777 g (fun p => p.1) (fun p => D.rd kCube (p.2.map enCube)) (by rw [show (g.map fun p => [D.pv p.1]) = (g.map fun p => p.1).map enV from by rw [List.map_map]; rfl]; rfl) rfl) ?_
    refine Weak.trans (Weak.reifyBox 5 2 901 kR rfl rfl rfl) ?_
    exact Weak.frame _ _ ⟨rfl, rfl, by rw [show cvs.map enCS = g.map fun p => [D.rd kCube (p.2.map enCube)] from by rw [← hg2, List.map_map]; rfl]; rfl, rfl, trivial⟩ ⟨rfl, rfl, arr_eq (by rw [hcf2, hg2]), rfl, trivial⟩ rfl rfl
  have hsl : ((cvs.take i).map fun cv => sumK cs cv cs.length).length ≤ i := by rw [List.length_map, List.length_take]; omega
  by_cases hil : i < cvs.length
  · obtain ⟨cv, hcv⟩ : ∃ cv, cvs[i]? = some cv := ⟨_, List.getElem?_eq_getElem hil⟩
    have hcvl := hcm _ (List.mem_of_getElem? hcv)
    repeat' (first|refine R.mv rfl ?_|refine R.reg ?_|refine R.nil ?_|refine R.seq ?_|refine R.nseq ?_|refine R.skip ?_|refine R.blk ?_|refine R.exit rfl ?_|refine R.lda rfl rfl (lbT rfl) rfl ?_|refine R.lenM rfl ?_|refine R.lss rfl rfl ?_|refine R.stoB rfl rfl rfl rfl ⟨rfl, rfl, Nat.le_of_ble_eq_true rfl⟩ rfl ?_|refine R.bsl (f := enI) ([] : List Int) rfl rfl rfl rfl rfl ?_|refine R.cond rfl (fun hc => ?_) (fun hc => ?_))
    all_goals first | (exfalso; omega) | skip
    refine R.loop (G := Nat) (fun k => [(2, .v (.c (.ptr 2 0))), (5, .v (.c (.ptr 5 0))), (6, rdA kCS (cvs.map enCS)), (10, pvA (.int .i64 i)), (11, .v (.c (.own 59))), (12, pvA (.int .i64 k))]) (fun k => [(2, .box 30 [.d (iD 0), nilB, nilB]), (5, .box 30 [.d (iD c.fInputs), .own 900, .own 901]), (900, .arr kCube (cs.map enCube) []), (901, .arr kR (((cvs.take i).map fun cv => sumK cs cv cs.length).map enR) []), (59, .arr kI (ints (sumK cs cv k)) [])]) (fun k => k ≤ cs.length) (fun k => cs.length - k) 0 (Nat.zero_le _) (Weak.frame _ _ ⟨rfl, rfl, rfl, rfl, rfl, rfl, trivial⟩ ⟨rfl, rfl, rfl, rfl, rfl, trivial⟩ rfl rfl) fun k hk => ?_
    by_cases hkl : k < cs.length
    · obtain ⟨q, hq⟩ : ∃ q, cs[k]? = some q := ⟨_, List.getElem?_eq_getElem hkl⟩
      have hgd : cs.getD k ⟨0, 0⟩ = q := by rw [List.getD_eq_getElem?_getD, hq]; rfl
      have hsk : sumK cs cv (k + 1) = sumK cs cv k ++ sumJ q k cv := by rw [sumK_succ, hgd]
      have hskl := sumK_len cs cv k
      have hmu : k * cv.length ≤ 768 * 256 := Nat.mul_le_mul (by omega) hcvl
      repeat' (first|refine R.mv rfl ?_|refine R.reg ?_|refine R.nil ?_|refine R.seq ?_|refine R.nseq ?_|refine R.skip ?_|refine R.blk ?_|refine R.exit rfl ?_|refine R.ld rfl rfl rfl ?_|refine R.fa rfl rfl ?_|refine R.lenO rfl rfl ?_|refine R.lss rfl rfl ?_|refine R.cond rfl (fun hc => ?_) (fun hc => ?_))
      all_goals first | (exfalso; omega) | skip
      refine R.loop (G := Nat) (fun j => [(2, .v (.c (.ptr 2 0))), (5, .v (.c (.ptr 5 0))), (6, rdA kCS (cvs.map enCS)), (10, pvA (.int .i64 i)), (11, .v (.c (.own 59))), (12, pvA (.int .i64 k)), (13, pvA (.int .i64 j))]) (fun j => [(2, .box 30 [.d (iD 0), nilB, nilB]), (5, .box 30 [.d (iD c.fInputs), .own 900, .own 901]), (900, .arr kCube (cs.map enCube) []), (901, .arr kR (((cvs.take i).map fun cv => sumK cs cv cs.length).map enR) []), (59, .arr kI (ints (sumK cs cv k ++ sumJ q k (cv.take j))) [])]) (fun j => j ≤ cv.length) (fun j => cv.length - j) 0 (Nat.zero_le _) (Weak.frame _ _ ⟨rfl, rfl, rfl, rfl, rfl, rfl, rfl, trivial⟩ ⟨rfl, rfl, rfl, rfl, arr_eq (by simp [sumJ]), trivial⟩ rfl rfl) fun j hj => ?_
      by_cases hjl : j < cv.length
      · obtain ⟨y, hy⟩ : ∃ y, cv[j]? = some y := ⟨_, List.getElem?_eq_getElem hjl⟩
        have hsj := sumJ_len q k (cv.take j)
        have htj : (cv.take j).length ≤ j := by rw [List.length_take]; omega
        have hap : ((sumK cs cv k ++ sumJ q k (cv.take j)).length + [(k : Int)].length) * 8 ≤ 140737488355328 ∧ (sumK cs cv k ++ sumJ q k (cv.take j)).length + [(k : Int)].length ≤ 140737488355328 := by rw [List.length_append, List.length_singleton]; omega
        have heq : eqVs [.int .i64 y.fCare, .int .i64 y.fValue] [.int .i64 q.fCare, .int .i64 q.fValue] = decide (y = q) := by
          obtain ⟨x1, x2⟩ := y
          obtain ⟨y1, y2⟩ := q
          simp [eqVs, eqV, Bool.decide_and]
        by_cases hyq : y = q
        · have hsn : sumJ q k (cv.take (j + 1)) = sumJ q k (cv.take j) ++ [(k : Int)] := by rw [take_snoc hy, sumJ_snoc, if_pos hyq]
          repeat' (first|refine R.ixK cv hcv rfl rfl rfl ?_|refine R.ixK y hy rfl rfl rfl ?_|refine R.ixOK q hq rfl rfl rfl ?_|refine R.mv rfl ?_|refine R.reg ?_|refine R.nil ?_|refine R.seq ?_|refine R.nseq ?_|refine R.nblk ?_|refine R.skip ?_|refine R.blk ?_|refine R.exit rfl ?_|refine R.ldaEp rfl rfl (by assumption) (lbT rfl) rfl rfl ?_|refine R.ld rfl rfl rfl ?_|refine R.lda rfl rfl (lbT rfl) rfl ?_|refine R.fa rfl rfl ?_|refine R.lenM rfl ?_|refine R.lss rfl rfl ?_|refine R.add rfl rfl (by omega) ?_|refine R.eqs rfl rfl rfl rfl rfl ?_|refine R.bsl (f := enI) [(k : Int)] rfl rfl rfl rfl rfl ?_|refine R.app (f := enI) (fun _ => rfl) rfl rfl rfl rfl rfl hap ?_|refine R.cond rfl (fun hc => ?_) (fun hc => ?_)|refine R.condB rfl (fun hc => ?_) (fun hc => ?_))
          all_goals first
            | (exfalso; omega)
            | (exfalso; have h2 := hc; change eqVs [.int .i64 y.fCare, .int .i64 y.fValue] [.int .i64 q.fCare, .int .i64 q.fValue] = false at h2; rw [heq, decide_eq_true hyq] at h2; cases h2; done)
            | exact R.nloop (R.again (j + 1) (by omega) (by omega) ⟨rfl, rfl, rfl, rfl, rfl, rfl, rfl, trivial⟩ ⟨rfl, rfl, rfl, rfl, arr_eq (by rw [hsn, List.append_assoc]), trivial⟩ rfl rfl)
            | skip
        · have hsn : sumJ q k (cv.take (j + 1)) = sumJ q k (cv.take j) := by rw [take_snoc hy, sumJ_snoc, if_neg hyq, List.append_nil]
          repeat' (first|refine R.ixK cv hcv rfl rfl rfl ?_|refine R.ixK y hy rfl rfl rfl ?_|refine R.ixOK q hq rfl rfl rfl ?_|refine R.mv rfl ?_|refine R.reg ?_|refine R.nil ?_|refine R.seq ?_|refine R.nseq ?_|refine R.nblk ?_|refine R.skip ?_|refine R.blk ?_|refine R.exit rfl ?_|refine R.ldaEp rfl rfl (by assumption) (lbT rfl) rfl rfl ?_|refine R.ld rfl rfl rfl ?_|refine R.lda rfl rfl (lbT rfl) rfl ?_|refine R.fa rfl rfl ?_|refine R.lenM rfl ?_|refine R.lss rfl rfl ?_|refine R.add rfl rfl (by omega) ?_|refine R.eqs rfl rfl rfl rfl rfl ?_|refine R.bsl (f := enI) [(k : Int)] rfl rfl rfl rfl rfl ?_|refine R.app (f := enI) (fun _ => rfl) rfl rfl rfl rfl rfl hap ?_|refine R.cond rfl (fun hc => ?_) (fun hc => ?_)|refine R.condB rfl (fun hc => ?_) (fun hc => ?_))
          all_goals first
            | (exfalso; omega)
            | (exfalso; have h2 := hc; change eqVs [.int .i64 y.fCare, .int .i64 y.fValue] [.int .i64 q.fCare, .int .i64 q.fValue] = true at h2; rw [heq, decide_eq_false hyq] at h2; cases h2; done)
            | exact R.nloop (R.again (j + 1) (by omega) (by omega) ⟨rfl, rfl, rfl, rfl, rfl, rfl, rfl, trivial⟩ ⟨rfl, rfl, rfl, rfl, arr_eq (by rw [hsn]), trivial⟩ rfl rfl)
            | skip
      obtain rfl : j = cv.length := by omega
      rw [List.take_length]
      repeat' (first|refine R.ixK cv hcv rfl rfl rfl ?_|refine R.mv rfl ?_|refine R.reg ?_|refine R.nil ?_|refine R.seq ?_|refine R.nseq ?_|refine R.nblk ?_|refine R.skip ?_|refine R.blk ?_|refine R.exit rfl ?_|refine R.ldaEp rfl rfl (by assumption) (lbT rfl) rfl rfl ?_|refine R.ld rfl rfl rfl ?_|refine R.lda rfl rfl (lbT rfl) rfl ?_|refine R.fa rfl rfl ?_|refine R.lenM rfl ?_|refine R.lss rfl rfl ?_|refine R.add rfl rfl (by omega) ?_|refine R.ixN rfl rfl rfl (by omega) (fun a ha => ?_)|refine R.ixON rfl rfl rfl (by first|omega|(simp; omega)) (fun a' ha' => ?_)|refine R.eqs rfl rfl rfl rfl rfl ?_|refine R.cond rfl (fun hc => ?_) (fun hc => ?_)|refine R.condB rfl (fun hc => ?_) (fun hc => ?_))
      all_goals first
        | (exfalso; omega)
        | exact R.nloop (R.again (k + 1) (by omega) (by omega) ⟨rfl, rfl, rfl, rfl, rfl, rfl, trivial⟩ ⟨rfl, rfl, rfl, rfl, arr_eq (by rw [hsk]), trivial⟩ rfl rfl)
        | skip
    obtain rfl : k = cs.length := by omega
    have hts : (cvs.take (i + 1)).map (fun cv => sumK cs cv cs.length) = (cvs.take i).map (fun cv => sumK cs cv cs.length) ++ [sumK cs cv cs.length] := by rw [take_snoc hcv, List.map_append]; rfl
    have hap : (((cvs.take i).map fun cv => sumK cs cv cs.length).length + [sumK cs cv cs.length].length) * 24 ≤ 140737488355328 ∧ ((cvs.take i).map fun cv => sumK cs cv cs.length).length + [sumK cs cv cs.length].length ≤ 140737488355328 := by rw [List.length_singleton]; omega
    repeat' (first|refine R.mv rfl ?_|refine R.reg ?_|refine R.nil ?_|refine R.seq ?_|refine R.nseq ?_|refine R.nblk ?_|refine R.skip ?_|refine R.blk ?_|refine R.exit rfl ?_|refine R.ld rfl rfl rfl ?_|refine R.fa rfl rfl ?_|refine R.lenO rfl rfl ?_|refine R.lss rfl rfl ?_|refine R.add rfl rfl (by omega) ?_|refine R.stoB rfl rfl rfl rfl ⟨rfl, rfl, Nat.le_of_ble_eq_true rfl⟩ rfl ?_|refine R.bslA (f := enR) [sumK cs cv cs.length] rfl rfl rfl rfl rfl rfl ?_|refine R.appN (f := enR) rfl rfl rfl rfl rfl hap ?_|refine R.cond rfl (fun hc => ?_) (fun hc => ?_))
    all_goals first
      | (exfalso; omega)
      | exact R.nloop (R.again (i + 1) (by omega) (by omega) ⟨rfl, rfl, rfl, rfl, trivial⟩ ⟨rfl, rfl, rfl, arr_eq (by rw [hts]), trivial⟩ rfl rfl)
      | skip
  obtain rfl : i = cvs.length := by omega
  rw [List.take_length, ← hsm]
  repeat' (first|refine R.mv rfl ?_|refine R.reg ?_|refine R.nil ?_|refine R.seq ?_|refine R.nseq ?_|refine R.skip ?_|refine R.blk ?_|refine R.exit rfl ?_|refine R.lda rfl rfl (lbT rfl) rfl ?_|refine R.lenM rfl ?_|refine R.lss rfl rfl ?_|refine R.stoB rfl rfl rfl rfl ⟨rfl, rfl, Nat.le_of_ble_eq_true rfl⟩ rfl ?_|refine R.cond rfl (fun hc => ?_) (fun hc => ?_))
  all_goals first
    | (exfalso; omega)
    | exact R.ret ⟨.inr rfl, R.outR rfl (.cons (R.cell rfl rfl T.ty30 (lbT rfl) rfl) (.cons (R.tmp rfl) .nil)) rfl rfl rfl ⟨by show ¬ (2 = 1); omega, rfl⟩⟩
    | skip
end
end Go.Proofs.YtehkaajakapkmaaGreat
