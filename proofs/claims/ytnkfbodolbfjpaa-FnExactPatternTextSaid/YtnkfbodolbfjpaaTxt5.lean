/- The text of a pattern: both tellings agree; the program's side as a contract. -/
import Derived.Test.YtnkfbodolbfjpaaTxt4
namespace Go.Proofs.Ytnkfbodolbfjpaa
open Go.RowKit
set_option maxRecDepth 100000 in
def S.s27 : SC := (.seq (.reg [⟨(.some 1), .none, .false, (.box 54 (.tmp 0))⟩, ⟨(.some 2), .none, .false, (.mv (.const (Go.Value.string { data := #[] })))⟩]) (.seq (.seq (.reg [⟨(.some 3), .none, .false, (.ld .true 3 (.tmp 1))⟩, ⟨(.some 4), .none, .false, (.call (.func 89) [(.tmp 3)])⟩, ⟨(.some 5), .none, .false, (.not (.tmp 4))⟩]) (.cond (.tmp 5) (.seq (.reg [⟨(.some 2), .none, .false, (.mv (.const (Go.Value.string { data := #[] })))⟩]) .ret) .skip)) (.seq (.reg [⟨(.some 6), .none, .false, (.ld .true 3 (.tmp 1))⟩, ⟨(.some 7), .none, .false, (.call (.func 90) [(.tmp 6)])⟩, ⟨(.some 2), .none, .false, (.mv (.tmp 7))⟩]) .ret)))
set_option maxRecDepth 100000 in
theorem S.ok27 : stripF Try.prog Try.f27 = some S.s27 := by kernel_rfl
set_option maxRecDepth 10000
set_option maxHeartbeats 4000000
/-- A number as a byte. -/
def u8N (n : Int) : UInt8 := UInt8.ofNat n.toNat
theorem join_cons2 (x sep : List UInt8) : ∀ r : List (List UInt8), r ≠ [] → Lib.join (x :: r) sep = x ++ (sep ++ Lib.join r sep)
  | [], h => (h rfl).elim
  | y :: r, _ => by rw [Lib.join_cons, Lib.join_cons]; simp [Lib.joinTail]
theorem txt_join (p : TPattern) (h : Nat) (hH : p.fHeight = h) : ∀ r, r ≤ h → (txtB p h).map u8N = (txtB p (h - r)).map u8N ++ Lib.join (((List.range r).map fun (k : Nat) => (rowB p k p.fWidth.toNat).map u8N).reverse) [47]
  | 0, _ => by
    rw [Nat.sub_zero, List.range_zero, List.map_nil, List.reverse_nil, Lib.join_nil, List.append_nil]
  | r + 1, hr => by
    rw [txt_join p h hH r (by omega)]
    obtain ⟨m, hm⟩ : ∃ m, h - r = m + 1 := ⟨h - r - 1, by omega⟩
    have hm2 : h - (r + 1) = m := by omega
    have hmr : p.fHeight - 1 - (m : Int) = (r : Int) := by omega
    rw [hm, hm2, txtB, hmr, List.range_succ]
    simp only [List.map_append, List.reverse_append]
    simp only [List.map_cons, List.map_nil, List.reverse_cons, List.reverse_nil, List.nil_append, List.cons_append, List.append_assoc]
    by_cases h0 : r = 0
    · subst h0
      rw [if_neg (by decide)]
      simp only [List.range_zero, List.map_nil, List.reverse_nil, Lib.join_nil, Lib.join_one, List.append_nil]
    · rw [if_pos (by omega), join_cons2 _ _ _ (fun e => h0 (by simpa using congrArg List.length e))]
      rfl
theorem rowB_eq {p : TPattern} {wd h k : Nat} (hW : p.fWidth = wd) (hl : p.fCells.length = wd * h) (hk : k < h) : rowB p k p.fWidth.toNat = ((p.fCells.drop (wd * k)).take wd).map fun c => 97 + c := by
  have hle : wd * (k + 1) ≤ wd * h := Nat.mul_le_mul_left _ hk
  rw [Nat.mul_succ] at hle
  rw [hW, Int.toNat_natCast]
  unfold rowB
  apply List.ext_getElem?
  intro i
  by_cases hi : i < wd
  · have hc : ((k : Int) * p.fWidth + (i : Int)) = ((wd * k + i : Nat) : Int) := by rw [hW, Int.mul_comm]; simp
    have hin : wd * k + i < p.fCells.length := by omega
    rw [List.getElem?_map, List.getElem?_range hi, List.getElem?_map, List.getElem?_take_of_lt hi, List.getElem?_drop, List.getElem?_eq_getElem hin]
    simp only [Option.map_some]
    rw [hc, Int.toNat_natCast, List.getD, List.getElem?_eq_getElem hin]
    rfl
  · rw [List.getElem?_eq_none (by simp; omega), List.getElem?_eq_none (by simp; omega)]
theorem txt_rows {p : TPattern} {wd h : Nat} (hW : p.fWidth = wd) (hH : p.fHeight = h) (hl : p.fCells.length = wd * h) : (txtB p h).map u8N = Lib.join (((List.range h).map (rowS wd p.fCells)).reverse.map (·.data.toList)) [47] := by
  rw [txt_join p h hH h (Nat.le_refl _), Nat.sub_self, txtB, List.map_nil, List.nil_append, List.map_reverse, List.map_map]
  congr 2
  refine List.map_congr_left fun k hk => ?_
  rw [rowB_eq hW hl (List.mem_range.1 hk)]
  rfl
theorem fPT_join {p : TPattern} (h : okPat p) {wd hh : Nat} (hW : p.fWidth = wd) (hH : p.fHeight = hh) (hl : p.fCells.length = wd * hh) : fPT p = joinB ((List.range hh).map (rowS wd p.fCells)).reverse ⟨#[47]⟩ := by
  rw [show fPT p = bsOf (txtB p p.fHeight.toNat) from if_pos h, hH, Int.toNat_natCast]
  unfold joinB
  rw [← txt_rows hW hH hl]
  rfl
theorem iPatText (p : TPattern) (h : okPat p) : Spec Try.prog 90 [.agg (enPattern p)] (oS (fPT p)) := by
  have hok := h
  obtain ⟨hW, hH, hl, hcs⟩ := h
  obtain ⟨wd, hwd⟩ : ∃ n : Nat, p.fWidth = n := ⟨p.fWidth.toNat, by omega⟩
  obtain ⟨hh, hhh⟩ : ∃ n : Nat, p.fHeight = n := ⟨p.fHeight.toNat, by omega⟩
  have hln : p.fCells.length = wd * hh := by
    rw [hwd, hhh] at hl
    have : ((p.fCells.length : Nat) : Int) = ((wd * hh : Nat) : Int) := by rw [hl]; simp
    omega
  have hwh : wd * hh ≤ 10 * 10 := Nat.mul_le_mul (by omega) (by omega)
  have hF := fPT_join hok hwd hhh hln
  have htx := txt_rows hwd hhh hln
  have htl := txtB_len (p := p) (m := hh)
  have htl2 : hh * (p.fWidth.toNat + 1) ≤ 10 * 11 := Nat.mul_le_mul (by omega) (by omega)
  have hjl : (Lib.join (((List.range hh).map (rowS wd p.fCells)).reverse.map (·.data.toList)) [47]).length ≤ 140737488355328 := by
    rw [← htx, List.length_map]
    omega
  have hsz : okI (.string (fPT p)) := by
    rw [hF]
    show ((Lib.join _ _).toArray).size ≤ maxLen
    rw [List.size_toArray]
    unfold maxLen
    exact Nat.le_trans hjl (by decide)
  refine ⟨callFunc_enter Try.func90 rfl (by simp [Try.f90]), fun w R ι φ vs hR hFs ho => ?_⟩
  cases hFs with | cons h1 h2 =>
  cases h2
  obtain ⟨us, rfl, hus⟩ := h1
  cases hus with | cons u1 hus => cases hus with | cons u2 hus => cases hus with | cons u3 hus =>
  cases hus
  rename_i v1 v2 v
  cases u1; cases u2
  have h1 : RD w R v (.rd kI (ints p.fCells)) := u3
  obtain ⟨a, len, cap, rfl⟩ : ∃ a len cap, v = .slice a len cap := by
    generalize ints p.fCells = xs at h1
    cases h1
    · exact ⟨_, _, _, rfl⟩
    · exact ⟨_, _, _, rfl⟩
  obtain ⟨b, off, hI⟩ : ∃ b off, ISl w w.heap.size (.slice a len cap) p.fCells b off := by
    generalize hxs : ints p.fCells = xs at h1
    cases h1 with
    | nil => exact ⟨0, 0, .inl ⟨List.map_eq_nil_iff.1 hxs, _, _, rfl⟩⟩
    | rd c g0 g1 g2 gR gk gc gr =>
      have hl : xs.length = p.fCells.length := by rw [← hxs]; simp
      refine ⟨_, _, .inr ⟨_, by rw [hl], hR _ gR, by omega, g2, fun i n hn => ?_⟩⟩
      have hx : xs[i]? = some (enI n) := by rw [← hxs, List.getElem?_map, hn]; rfl
      have e1 := gc i _ 0 hx (by decide)
      have e2 := gr i _ 0 _ hx rfl
      generalize c i 0 = u at e1 e2
      cases e2
      have e3 : ∀ o : Nat, o + i * kI.k + 0 = o + i := fun o => by show o + i * 1 + 0 = o + i; omega
      rw [e3] at e1
      exact e1
  have hcalls := callsIn_wide.1 (patText1 _ a len cap rfl p.fCells wd hh b off (by omega) (by omega) hln hcs (by omega) p.fHeight hjl w hI)
  rw [← hwd, ← hF] at hcalls
  refine hcalls.mono ?_
  rintro e w1 ⟨rfl, hbl⟩
  have hn : ∀ o x, frO [] o = some x → False := fun o x h => by simp [frO] at h
  have hO : ObjsOk w1 R ι φ (frO []) := ⟨fun o x h => (hn o x h).elim, fun o x h => (hn o x h).elim, fun o p x y g h => (hn o x h).elim, ho.2.2.2.keep (fun _ h => h) fun b hb => hbl.block b (hR b hb)⟩
  refine ⟨.string (fPT p), rfl, R, ι, φ, BelowM.of_below hbl, fun b h => h, fun b h => Nat.lt_of_lt_of_le (hR b h) hbl.size, fun b h _ => .inl h, RA.of_pv rfl hsz, hO, fun g h => ?_, fun o h => rfl⟩
  obtain ⟨o, x, h, _⟩ := h
  exact (hn o x h).elim
theorem iPatternText (p : TPattern) : Spec Try.prog 27 [.agg (enPattern p)] (oS (fPT p)) := by
  refine Spec.walk T.mixed Try.func27 S.ok27 (by simp [Try.f27]) fun hk => ?_
  clear hk
  unfold S.s27
  by_cases h : okPat p
  · repeat' (first | refine R.mv rfl ?_ | refine R.reg ?_ | refine R.nil ?_ | refine R.seq ?_ | refine R.nseq ?_ | refine R.nblk ?_ | refine R.skip ?_ | refine R.blk ?_ | refine R.exit rfl ?_ | refine R.ldEp rfl rfl (by assumption) rfl rfl ?_ | refine R.ldaEp rfl rfl (by assumption) (Nat.le_of_ble_eq_true rfl) rfl rfl ?_ | refine R.ld rfl rfl rfl ?_ | refine R.lda rfl rfl (Nat.le_of_ble_eq_true rfl) rfl ?_ | refine R.not rfl ?_ | refine R.box rfl rfl rfl ?_ | refine R.condT rfl ?_ | refine R.condF rfl ?_ | refine R.call (bor := false) rfl rfl (iPatT h) rfl rfl rfl ?_ | refine R.call (bor := true) rfl rfl (iPatT h) rfl rfl rfl ?_ | refine R.fcal (bor := false) rfl rfl (iPatT h) rfl rfl rfl ?_ | refine R.fcal (bor := true) rfl rfl (iPatT h) rfl rfl rfl ?_ | refine R.call (bor := false) rfl rfl (iPatText _ h) rfl rfl rfl ?_ | refine R.call (bor := true) rfl rfl (iPatText _ h) rfl rfl rfl ?_ | refine R.fcal (bor := false) rfl rfl (iPatText _ h) rfl rfl rfl ?_ | refine R.fcal (bor := true) rfl rfl (iPatText _ h) rfl rfl rfl ?_ | refine R.cond rfl (fun hc => ?_) (fun hc => ?_) | refine R.condN rfl (fun hc => ?_) (fun hc => ?_) | refine R.condB rfl (fun hc => ?_) (fun hc => ?_))
    all_goals first
      | (exfalso; omega)
      | exact R.ret ⟨.inr rfl, R.outS rfl rfl rfl⟩
      | skip
  · rw [show fPT p = ⟨#[]⟩ from if_neg h]
    repeat' (first | refine R.mv rfl ?_ | refine R.reg ?_ | refine R.nil ?_ | refine R.seq ?_ | refine R.nseq ?_ | refine R.nblk ?_ | refine R.skip ?_ | refine R.blk ?_ | refine R.exit rfl ?_ | refine R.ldEp rfl rfl (by assumption) rfl rfl ?_ | refine R.ldaEp rfl rfl (by assumption) (Nat.le_of_ble_eq_true rfl) rfl rfl ?_ | refine R.ld rfl rfl rfl ?_ | refine R.lda rfl rfl (Nat.le_of_ble_eq_true rfl) rfl ?_ | refine R.not rfl ?_ | refine R.box rfl rfl rfl ?_ | refine R.condT rfl ?_ | refine R.condF rfl ?_ | refine R.call (bor := false) rfl rfl (iPatF h) rfl rfl rfl ?_ | refine R.call (bor := true) rfl rfl (iPatF h) rfl rfl rfl ?_ | refine R.fcal (bor := false) rfl rfl (iPatF h) rfl rfl rfl ?_ | refine R.fcal (bor := true) rfl rfl (iPatF h) rfl rfl rfl ?_ | refine R.cond rfl (fun hc => ?_) (fun hc => ?_) | refine R.condN rfl (fun hc => ?_) (fun hc => ?_) | refine R.condB rfl (fun hc => ?_) (fun hc => ?_))
    all_goals first
      | (exfalso; omega)
      | exact R.ret ⟨.inr rfl, R.outS rfl rfl rfl⟩
      | skip
end Go.Proofs.Ytnkfbodolbfjpaa
