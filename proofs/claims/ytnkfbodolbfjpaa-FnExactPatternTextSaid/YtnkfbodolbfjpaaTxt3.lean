/- The text of a pattern: what it is; the reference's side. -/
import Derived.Test.YtnkfbodolbfjpaaUniq1
import Derived.Test.YtnkfbodolbfjpaaMkT
namespace Go.Proofs.Ytnkfbodolbfjpaa
open Go.RowKit
set_option maxRecDepth 100000 in
def S.s25 : SC := (.seq (.reg [⟨(.some 1), .none, .false, (.box 54 (.tmp 0))⟩, ⟨(.some 2), .none, .false, (.mv (.const (Go.Value.string { data := #[] })))⟩]) (.seq (.seq (.reg [⟨(.some 6), .none, .false, (.call (.func 88) [(.tmp 1)])⟩, ⟨(.some 7), .none, .false, (.not (.tmp 6))⟩]) (.cond (.tmp 7) (.seq (.reg [⟨(.some 2), .none, .false, (.mv (.const (Go.Value.string { data := #[] })))⟩]) .ret) .skip)) (.seq (.reg [⟨(.some 8), .none, .false, (.bsl (.mk 5 1) 0 [])⟩, ⟨(.some 3), .none, .false, (.mv (.tmp 8))⟩]) (.seq (.seq (.reg [⟨(.some 9), .none, .false, (.fa 1 (.tmp 1))⟩, ⟨(.some 10), .none, .false, (.ld .false 1 (.tmp 9))⟩, ⟨(.some 11), .none, .false, (.bin .sub (.tmp 10) (.const (Go.Value.int Go.IntKind.i64 1)))⟩, ⟨(.some 4), .none, .false, (.mv (.tmp 11))⟩]) (.block 0 (.loop (.seq (.seq (.reg [⟨(.some 12), .none, .false, (.mv (.tmp 4))⟩, ⟨(.some 13), .none, .false, (.bin .geq (.tmp 12) (.const (Go.Value.int Go.IntKind.i64 0)))⟩]) (.cond (.tmp 13) .skip (.exit 0))) (.seq (.block 1 (.seq (.seq (.reg [⟨(.some 5), .none, .false, (.mv (.const (Go.Value.int Go.IntKind.i64 0)))⟩]) (.block 2 (.loop (.seq (.seq (.reg [⟨(.some 16), .none, .false, (.mv (.tmp 5))⟩, ⟨(.some 17), .none, .false, (.fa 0 (.tmp 1))⟩, ⟨(.some 18), .none, .false, (.ld .false 1 (.tmp 17))⟩, ⟨(.some 19), .none, .false, (.bin .lss (.tmp 16) (.tmp 18))⟩]) (.cond (.tmp 19) .skip (.exit 2))) (.seq (.block 3 (.reg [⟨(.some 22), .none, .false, (.mv (.tmp 3))⟩, ⟨(.some 23), .none, .false, (.fa 2 (.tmp 1))⟩, ⟨(.some 24), .none, .false, (.ld .false 1 (.tmp 23))⟩, ⟨(.some 25), .none, .false, (.mv (.tmp 4))⟩, ⟨(.some 26), .none, .false, (.fa 0 (.tmp 1))⟩, ⟨(.some 27), .none, .false, (.ld .false 1 (.tmp 26))⟩, ⟨(.some 28), .none, .false, (.bin .mul (.tmp 25) (.tmp 27))⟩, ⟨(.some 29), .none, .false, (.mv (.tmp 5))⟩, ⟨(.some 30), .none, .false, (.bin .add (.tmp 28) (.tmp 29))⟩, ⟨(.some 31), .none, .false, (.ix (.mk 2 1) (.tmp 24) (.tmp 30))⟩, ⟨(.some 32), .none, .false, (.ld .false 1 (.tmp 31))⟩, ⟨(.some 33), .none, .false, (.bin .add (.const (Go.Value.int Go.IntKind.i64 97)) (.tmp 32))⟩, ⟨(.some 34), .none, .false, (.cv .u8 (.tmp 33))⟩, ⟨(.some 35), .none, .false, (.bsl (.mk 5 1) 1 [(0, (.tmp 34))])⟩, ⟨(.some 36), .none, .false, (.app (.mk 5 1) 1 (.tmp 22) (.tmp 35))⟩, ⟨(.some 3), .none, .false, (.mv (.tmp 36))⟩])) (.reg [⟨(.some 20), .none, .false, (.mv (.tmp 5))⟩, ⟨(.some 21), .none, .false, (.bin .add (.tmp 20) (.const (Go.Value.int Go.IntKind.i64 1)))⟩, ⟨(.some 5), .none, .false, (.mv (.tmp 21))⟩])))))) (.seq (.reg [⟨(.some 37), .none, .false, (.mv (.tmp 4))⟩, ⟨(.some 38), .none, .false, (.bin .gtr (.tmp 37) (.const (Go.Value.int Go.IntKind.i64 0)))⟩]) (.cond (.tmp 38) (.reg [⟨(.some 39), .none, .false, (.mv (.tmp 3))⟩, ⟨(.some 40), .none, .false, (.bsl (.mk 5 1) 1 [(0, (.const (Go.Value.int Go.IntKind.u8 47)))])⟩, ⟨(.some 41), .none, .false, (.app (.mk 5 1) 1 (.tmp 39) (.tmp 40))⟩, ⟨(.some 3), .none, .false, (.mv (.tmp 41))⟩]) .skip)))) (.reg [⟨(.some 14), .none, .false, (.mv (.tmp 4))⟩, ⟨(.some 15), .none, .false, (.bin .sub (.tmp 14) (.const (Go.Value.int Go.IntKind.i64 1)))⟩, ⟨(.some 4), .none, .false, (.mv (.tmp 15))⟩])))))) (.seq (.reg [⟨(.some 42), .none, .false, (.mv (.tmp 3))⟩, ⟨(.some 43), .none, .false, (.b2s (.tmp 42))⟩, ⟨(.some 2), .none, .false, (.mv (.tmp 43))⟩]) .ret)))))
set_option maxRecDepth 100000 in
theorem S.ok25 : stripF Try.prog Try.f25 = some S.s25 := by kernel_rfl
set_option maxRecDepth 10000
set_option maxHeartbeats 4000000
/-- The letters of a row, n of them. -/
def rowB (p : TPattern) (y : Int) (n : Nat) : List Int := (List.range n).map fun (x : Nat) => 97 + p.fCells.getD (y * p.fWidth + (x : Int)).toNat 0
theorem rowB_succ {p : TPattern} {y : Int} {n : Nat} : rowB p y (n + 1) = rowB p y n ++ [97 + p.fCells.getD (y * p.fWidth + (n : Int)).toNat 0] := by unfold rowB; rw [List.range_succ, List.map_append]; rfl
theorem rowB_len {p : TPattern} {y : Int} {n : Nat} : (rowB p y n).length = n := by unfold rowB; simp
/-- The first m rows, from above, each with its line behind it but the last. -/
def txtB (p : TPattern) : Nat → List Int
  | 0 => []
  | m + 1 => txtB p m ++ rowB p (p.fHeight - 1 - m) p.fWidth.toNat ++ (if p.fHeight - 1 - m > 0 then [47] else [])
theorem txtB_len {p : TPattern} : ∀ {m : Nat}, (txtB p m).length ≤ m * (p.fWidth.toNat + 1)
  | 0 => by simp [txtB]
  | m + 1 => by
    have := txtB_len (p := p) (m := m)
    rw [txtB, List.length_append, List.length_append, rowB_len, Nat.succ_mul]
    split
    · simp only [List.length_singleton]; omega
    · simp only [List.length_nil]; omega
open Classical in
noncomputable def fPT (p : TPattern) : ByteArray := if okPat p then bsOf (txtB p p.fHeight.toNat) else ⟨#[]⟩
theorem sPatText (p : TPattern) : Spec Try.prog 25 [.agg (enPattern p)] (oS (fPT p)) := by
  refine Spec.walk T.mixed Try.func25 S.ok25 (by simp [Try.f25]) fun hk => ?_
  clear hk
  unfold S.s25
  by_cases h1 : okPat p
  case neg =>
    rw [show fPT p = ⟨#[]⟩ from if_neg h1]
    repeat' (first | refine R.mv rfl ?_ | refine R.reg ?_ | refine R.nil ?_ | refine R.seq ?_ | refine R.nseq ?_ | refine R.nblk ?_ | refine R.skip ?_ | refine R.blk ?_ | refine R.exit rfl ?_ | refine R.ldEp rfl rfl (by assumption) rfl rfl ?_ | refine R.ldaEp rfl rfl (by assumption) (Nat.le_of_ble_eq_true rfl) rfl rfl ?_ | refine R.ld rfl rfl rfl ?_ | refine R.lda rfl rfl (Nat.le_of_ble_eq_true rfl) rfl ?_ | refine R.fa rfl rfl ?_ | refine R.lss rfl rfl ?_ | refine R.gtr rfl rfl ?_ | refine R.geq rfl rfl ?_ | refine R.add rfl rfl (by omega) ?_ | refine R.sub rfl rfl (by omega) ?_ | refine R.ixN rfl rfl rfl (by omega) (fun a ha => ?_) | refine R.ixM rfl rfl rfl (by omega) (fun a ha => ?_) | refine R.ixON rfl rfl rfl (by first | omega | (simp; omega)) (fun a' ha' => ?_) | refine R.ixO rfl rfl rfl (by first | omega | (simp; omega)) (fun a' ha' => ?_) | refine R.cv64 rfl (by omega) ?_ | refine R.not rfl ?_ | refine R.box rfl rfl rfl ?_ | refine R.cvU rfl (by omega) ?_ | refine R.condT rfl ?_ | refine R.condF rfl ?_ | refine R.call (bor := false) rfl rfl (sPatF h1) rfl rfl rfl ?_ | refine R.call (bor := true) rfl rfl (sPatF h1) rfl rfl rfl ?_ | refine R.fcal (bor := false) rfl rfl (sPatF h1) rfl rfl rfl ?_ | refine R.fcal (bor := true) rfl rfl (sPatF h1) rfl rfl rfl ?_ | refine R.cond rfl (fun hc => ?_) (fun hc => ?_) | refine R.condN rfl (fun hc => ?_) (fun hc => ?_) | refine R.condB rfl (fun hc => ?_) (fun hc => ?_))
    all_goals first
      | (exfalso; omega)
      | exact R.ret ⟨.inr rfl, R.outS rfl rfl rfl⟩
      | skip
  rw [show fPT p = bsOf (txtB p p.fHeight.toNat) from if_pos h1]
  have hT := sPatT h1
  obtain ⟨hW, hH, hl, hcs⟩ := h1
  repeat' (first | refine R.mv rfl ?_ | refine R.reg ?_ | refine R.nil ?_ | refine R.seq ?_ | refine R.nseq ?_ | refine R.nblk ?_ | refine R.skip ?_ | refine R.blk ?_ | refine R.exit rfl ?_ | refine R.ldEp rfl rfl (by assumption) rfl rfl ?_ | refine R.ldaEp rfl rfl (by assumption) (Nat.le_of_ble_eq_true rfl) rfl rfl ?_ | refine R.ld rfl rfl rfl ?_ | refine R.lda rfl rfl (Nat.le_of_ble_eq_true rfl) rfl ?_ | refine R.fa rfl rfl ?_ | refine R.lss rfl rfl ?_ | refine R.gtr rfl rfl ?_ | refine R.geq rfl rfl ?_ | refine R.add rfl rfl (by omega) ?_ | refine R.sub rfl rfl (by omega) ?_ | refine R.ixN rfl rfl rfl (by omega) (fun a ha => ?_) | refine R.ixM rfl rfl rfl (by omega) (fun a ha => ?_) | refine R.ixON rfl rfl rfl (by first | omega | (simp; omega)) (fun a' ha' => ?_) | refine R.ixO rfl rfl rfl (by first | omega | (simp; omega)) (fun a' ha' => ?_) | refine R.cv64 rfl (by omega) ?_ | refine R.not rfl ?_ | refine R.box rfl rfl rfl ?_ | refine R.cvU rfl (by omega) ?_ | refine R.condT rfl ?_ | refine R.condF rfl ?_ | refine R.call (bor := false) rfl rfl (hT) rfl rfl rfl ?_ | refine R.call (bor := true) rfl rfl (hT) rfl rfl rfl ?_ | refine R.fcal (bor := false) rfl rfl (hT) rfl rfl rfl ?_ | refine R.fcal (bor := true) rfl rfl (hT) rfl rfl rfl ?_ | refine R.bsl (f := enB8) ([] : List Int) rfl rfl rfl rfl rfl ?_ | refine R.cond rfl (fun hc => ?_) (fun hc => ?_) | refine R.condN rfl (fun hc => ?_) (fun hc => ?_) | refine R.condB rfl (fun hc => ?_) (fun hc => ?_))
  all_goals first | (exfalso; omega) | skip
  refine R.loop (G := Nat) (fun m => [(1, .v (.c (.ptr 1 0))), (3, .v (.c (.own 8))), (4, pvA (.int .i64 (p.fHeight - 1 - m)))]) (fun m => [(1, .box 54 ((enPattern p).map B.d)), (8, .arr ⟨5, 1⟩ ((txtB p m).map enB8) [])]) (fun m => m ≤ p.fHeight.toNat) (fun m => p.fHeight.toNat - m) 0 (by omega) (Weak.frame _ _ ⟨rfl, rfl, (congrArg (fun z => pvA (.int .i64 z)) (show p.fHeight - 1 = p.fHeight - 1 - ((0 : Nat) : Int) by omega)), trivial⟩ ⟨rfl, rfl, trivial⟩ rfl rfl) fun m hm => ?_
  have htl := txtB_len (p := p) (m := m)
  have htl2 : m * (p.fWidth.toNat + 1) ≤ 10 * 11 := Nat.mul_le_mul (by omega) (by omega)
  by_cases hml : m < p.fHeight.toNat
  case neg =>
    obtain rfl : m = p.fHeight.toNat := by omega
    repeat' (first | refine R.mv rfl ?_ | refine R.reg ?_ | refine R.nil ?_ | refine R.seq ?_ | refine R.nseq ?_ | refine R.nblk ?_ | refine R.skip ?_ | refine R.blk ?_ | refine R.exit rfl ?_ | refine R.ldEp rfl rfl (by assumption) rfl rfl ?_ | refine R.ldaEp rfl rfl (by assumption) (Nat.le_of_ble_eq_true rfl) rfl rfl ?_ | refine R.ld rfl rfl rfl ?_ | refine R.lda rfl rfl (Nat.le_of_ble_eq_true rfl) rfl ?_ | refine R.fa rfl rfl ?_ | refine R.lss rfl rfl ?_ | refine R.gtr rfl rfl ?_ | refine R.geq rfl rfl ?_ | refine R.add rfl rfl (by omega) ?_ | refine R.sub rfl rfl (by omega) ?_ | refine R.ixN rfl rfl rfl (by omega) (fun a ha => ?_) | refine R.ixM rfl rfl rfl (by omega) (fun a ha => ?_) | refine R.ixON rfl rfl rfl (by first | omega | (simp; omega)) (fun a' ha' => ?_) | refine R.ixO rfl rfl rfl (by first | omega | (simp; omega)) (fun a' ha' => ?_) | refine R.cv64 rfl (by omega) ?_ | refine R.not rfl ?_ | refine R.box rfl rfl rfl ?_ | refine R.cvU rfl (by omega) ?_ | refine R.condT rfl ?_ | refine R.condF rfl ?_ | refine R.b2s (κ := ⟨5, 1⟩) _ rfl rfl rfl ?_ | refine R.cond rfl (fun hc => ?_) (fun hc => ?_) | refine R.condN rfl (fun hc => ?_) (fun hc => ?_) | refine R.condB rfl (fun hc => ?_) (fun hc => ?_))
    all_goals first
      | (exfalso; omega)
      | exact R.ret ⟨.inr rfl, R.outS rfl rfl rfl⟩
      | skip
  have hy0 : 0 ≤ p.fHeight - 1 - (m : Int) ∧ p.fHeight - 1 - (m : Int) ≤ p.fHeight - 1 := by omega
  have hyW1 : 0 ≤ (p.fHeight - 1 - (m : Int)) * p.fWidth := Int.mul_nonneg hy0.1 (by omega)
  have hyW2 : (p.fHeight - 1 - (m : Int)) * p.fWidth ≤ (p.fHeight - 1) * p.fWidth := Int.mul_le_mul_of_nonneg_right hy0.2 (by omega)
  have hyW3 : (p.fHeight - 1) * p.fWidth = p.fWidth * p.fHeight - p.fWidth := by rw [Int.sub_mul, Int.one_mul, Int.mul_comm]
  have hwh := mul_bd hW hH
  generalize hyv : p.fHeight - 1 - (m : Int) = y at *
  repeat' (first | refine R.mv rfl ?_ | refine R.reg ?_ | refine R.nil ?_ | refine R.seq ?_ | refine R.nseq ?_ | refine R.nblk ?_ | refine R.skip ?_ | refine R.blk ?_ | refine R.exit rfl ?_ | refine R.ldEp rfl rfl (by assumption) rfl rfl ?_ | refine R.ldaEp rfl rfl (by assumption) (Nat.le_of_ble_eq_true rfl) rfl rfl ?_ | refine R.ld rfl rfl rfl ?_ | refine R.lda rfl rfl (Nat.le_of_ble_eq_true rfl) rfl ?_ | refine R.fa rfl rfl ?_ | refine R.lss rfl rfl ?_ | refine R.gtr rfl rfl ?_ | refine R.geq rfl rfl ?_ | refine R.add rfl rfl (by omega) ?_ | refine R.sub rfl rfl (by omega) ?_ | refine R.ixN rfl rfl rfl (by omega) (fun a ha => ?_) | refine R.ixM rfl rfl rfl (by omega) (fun a ha => ?_) | refine R.ixON rfl rfl rfl (by first | omega | (simp; omega)) (fun a' ha' => ?_) | refine R.ixO rfl rfl rfl (by first | omega | (simp; omega)) (fun a' ha' => ?_) | refine R.cv64 rfl (by omega) ?_ | refine R.not rfl ?_ | refine R.box rfl rfl rfl ?_ | refine R.cvU rfl (by omega) ?_ | refine R.condT rfl ?_ | refine R.condF rfl ?_ | refine R.cond rfl (fun hc => ?_) (fun hc => ?_) | refine R.condN rfl (fun hc => ?_) (fun hc => ?_) | refine R.condB rfl (fun hc => ?_) (fun hc => ?_))
  all_goals first | (exfalso; omega) | skip
  refine R.loop (G := Nat) (fun x => [(1, .v (.c (.ptr 1 0))), (3, .v (.c (.own 8))), (4, pvA (.int .i64 y)), (5, pvA (.int .i64 x))]) (fun x => [(1, .box 54 ((enPattern p).map B.d)), (8, .arr ⟨5, 1⟩ ((txtB p m ++ rowB p y x).map enB8) [])]) (fun x => x ≤ p.fWidth.toNat) (fun x => p.fWidth.toNat - x) 0 (by omega) (Weak.frame _ _ ⟨rfl, rfl, rfl, rfl, trivial⟩ ⟨rfl, arr_eq (by rw [show rowB p y 0 = [] from rfl, List.append_nil]), trivial⟩ rfl rfl) fun x hx => ?_
  by_cases hxl : x < p.fWidth.toNat
  · obtain ⟨i, hi⟩ : ∃ i : Nat, (i : Int) = y * p.fWidth + x := ⟨(y * p.fWidth + x).toNat, by omega⟩
    obtain ⟨c, hcx⟩ : ∃ c, p.fCells[i]? = some c := ⟨_, List.getElem?_eq_getElem (by omega)⟩
    have hcb := hcs c (List.mem_of_getElem? hcx)
    have hst : rowB p y (x + 1) = rowB p y x ++ [97 + c] := by
      rw [rowB_succ, ← hi, Int.toNat_natCast, List.getD, hcx]; rfl
    repeat' (first | refine R.ixK c hcx rfl rfl (congrArg (fun z => pvA (.int .i64 z)) hi.symm) ?_ | refine R.cvU8 rfl (by omega) ?_ | refine R.mv rfl ?_ | refine R.reg ?_ | refine R.nil ?_ | refine R.seq ?_ | refine R.nseq ?_ | refine R.nblk ?_ | refine R.skip ?_ | refine R.blk ?_ | refine R.exit rfl ?_ | refine R.ldEp rfl rfl (by assumption) rfl rfl ?_ | refine R.ldaEp rfl rfl (by assumption) (Nat.le_of_ble_eq_true rfl) rfl rfl ?_ | refine R.ld rfl rfl rfl ?_ | refine R.lda rfl rfl (Nat.le_of_ble_eq_true rfl) rfl ?_ | refine R.fa rfl rfl ?_ | refine R.lss rfl rfl ?_ | refine R.gtr rfl rfl ?_ | refine R.geq rfl rfl ?_ | refine R.add rfl rfl (by omega) ?_ | refine R.sub rfl rfl (by omega) ?_ | refine R.ixN rfl rfl rfl (by omega) (fun a ha => ?_) | refine R.ixM rfl rfl rfl (by omega) (fun a ha => ?_) | refine R.ixON rfl rfl rfl (by first | omega | (simp; omega)) (fun a' ha' => ?_) | refine R.ixO rfl rfl rfl (by first | omega | (simp; omega)) (fun a' ha' => ?_) | refine R.cv64 rfl (by omega) ?_ | refine R.not rfl ?_ | refine R.box rfl rfl rfl ?_ | refine R.cvU rfl (by omega) ?_ | refine R.condT rfl ?_ | refine R.condF rfl ?_ | refine R.mul rfl rfl ⟨by omega, by omega⟩ ?_ | refine R.bsl (f := enB8) [97 + c] rfl rfl rfl rfl rfl ?_ | refine R.app (f := enB8) (fun _ => rfl) rfl rfl rfl rfl rfl ⟨by simp only [List.length_append, rowB_len, List.length_singleton]; omega, by simp only [List.length_append, rowB_len, List.length_singleton]; omega⟩ ?_ | refine R.cond rfl (fun hc => ?_) (fun hc => ?_) | refine R.condN rfl (fun hc => ?_) (fun hc => ?_) | refine R.condB rfl (fun hc => ?_) (fun hc => ?_))
    all_goals first
      | (exfalso; omega)
      | exact R.nloop (R.again (x + 1) (by omega) (by omega) ⟨rfl, rfl, rfl, rfl, trivial⟩ ⟨rfl, arr_eq (by rw [hst, List.append_assoc]), trivial⟩ rfl rfl)
      | skip
  obtain rfl : x = p.fWidth.toNat := by omega
  by_cases hy : y > 0
  · have hst : txtB p (m + 1) = txtB p m ++ rowB p y p.fWidth.toNat ++ [47] := by
      rw [txtB, hyv, if_pos hy]
    repeat' (first | refine R.mv rfl ?_ | refine R.reg ?_ | refine R.nil ?_ | refine R.seq ?_ | refine R.nseq ?_ | refine R.nblk ?_ | refine R.skip ?_ | refine R.blk ?_ | refine R.exit rfl ?_ | refine R.ldEp rfl rfl (by assumption) rfl rfl ?_ | refine R.ldaEp rfl rfl (by assumption) (Nat.le_of_ble_eq_true rfl) rfl rfl ?_ | refine R.ld rfl rfl rfl ?_ | refine R.lda rfl rfl (Nat.le_of_ble_eq_true rfl) rfl ?_ | refine R.fa rfl rfl ?_ | refine R.lss rfl rfl ?_ | refine R.gtr rfl rfl ?_ | refine R.geq rfl rfl ?_ | refine R.add rfl rfl (by omega) ?_ | refine R.sub rfl rfl (by omega) ?_ | refine R.ixN rfl rfl rfl (by omega) (fun a ha => ?_) | refine R.ixM rfl rfl rfl (by omega) (fun a ha => ?_) | refine R.ixON rfl rfl rfl (by first | omega | (simp; omega)) (fun a' ha' => ?_) | refine R.ixO rfl rfl rfl (by first | omega | (simp; omega)) (fun a' ha' => ?_) | refine R.cv64 rfl (by omega) ?_ | refine R.not rfl ?_ | refine R.box rfl rfl rfl ?_ | refine R.cvU rfl (by omega) ?_ | refine R.condT rfl ?_ | refine R.condF rfl ?_ | refine R.bsl (f := enB8) [47] rfl rfl rfl rfl rfl ?_ | refine R.app (f := enB8) (fun _ => rfl) rfl rfl rfl rfl rfl ⟨by simp only [List.length_append, rowB_len, List.length_singleton]; omega, by simp only [List.length_append, rowB_len, List.length_singleton]; omega⟩ ?_ | refine R.cond rfl (fun hc => ?_) (fun hc => ?_) | refine R.condN rfl (fun hc => ?_) (fun hc => ?_) | refine R.condB rfl (fun hc => ?_) (fun hc => ?_))
    all_goals first
      | (exfalso; omega)
      | exact R.nloop (R.again (m + 1) (by omega) (by omega) ⟨rfl, rfl, (congrArg (fun z => pvA (.int .i64 z)) (show y - 1 = p.fHeight - 1 - ((m + 1 : Nat) : Int) by omega)), trivial⟩ ⟨rfl, arr_eq (by rw [hst]), trivial⟩ rfl rfl)
      | skip
  · have hst : txtB p (m + 1) = txtB p m ++ rowB p y p.fWidth.toNat := by
      rw [txtB, hyv, if_neg hy, List.append_nil]
    repeat' (first | refine R.mv rfl ?_ | refine R.reg ?_ | refine R.nil ?_ | refine R.seq ?_ | refine R.nseq ?_ | refine R.nblk ?_ | refine R.skip ?_ | refine R.blk ?_ | refine R.exit rfl ?_ | refine R.ldEp rfl rfl (by assumption) rfl rfl ?_ | refine R.ldaEp rfl rfl (by assumption) (Nat.le_of_ble_eq_true rfl) rfl rfl ?_ | refine R.ld rfl rfl rfl ?_ | refine R.lda rfl rfl (Nat.le_of_ble_eq_true rfl) rfl ?_ | refine R.fa rfl rfl ?_ | refine R.lss rfl rfl ?_ | refine R.gtr rfl rfl ?_ | refine R.geq rfl rfl ?_ | refine R.add rfl rfl (by omega) ?_ | refine R.sub rfl rfl (by omega) ?_ | refine R.ixN rfl rfl rfl (by omega) (fun a ha => ?_) | refine R.ixM rfl rfl rfl (by omega) (fun a ha => ?_) | refine R.ixON rfl rfl rfl (by first | omega | (simp; omega)) (fun a' ha' => ?_) | refine R.ixO rfl rfl rfl (by first | omega | (simp; omega)) (fun a' ha' => ?_) | refine R.cv64 rfl (by omega) ?_ | refine R.not rfl ?_ | refine R.box rfl rfl rfl ?_ | refine R.cvU rfl (by omega) ?_ | refine R.condT rfl ?_ | refine R.condF rfl ?_ | refine R.cond rfl (fun hc => ?_) (fun hc => ?_) | refine R.condN rfl (fun hc => ?_) (fun hc => ?_) | refine R.condB rfl (fun hc => ?_) (fun hc => ?_))
    all_goals first
      | (exfalso; omega)
      | exact R.nloop (R.again (m + 1) (by omega) (by omega) ⟨rfl, rfl, (congrArg (fun z => pvA (.int .i64 z)) (show y - 1 = p.fHeight - 1 - ((m + 1 : Nat) : Int) by omega)), trivial⟩ ⟨rfl, arr_eq (by rw [hst]), trivial⟩ rfl rfl)
      | skip
end Go.Proofs.Ytnkfbodolbfjpaa
