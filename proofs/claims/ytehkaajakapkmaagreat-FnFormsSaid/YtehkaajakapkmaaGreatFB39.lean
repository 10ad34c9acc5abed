/- Texts of one proof, one behind the other. -/
import Derived.Test.YtehkaajakapkmaaGreatFB19
import Derived.Test.YtehkaajakapkmaaGreatFB27
import Derived.Test.YtehkaajakapkmaaGreatFB38
namespace Go.Proofs.YtehkaajakapkmaaGreat
section
open Go.RowKit
set_option maxRecDepth 100000 in
def S.s19 : SC := (.seq (.reg [⟨(.some 2), .none, .false, (.box 30 (.tmp 0))⟩, ⟨(.some 4), .none, .false, (.mv (.const (Go.Value.slice none 0 0)))⟩, ⟨(.some 5), .none, .false, (.mv (.const (Go.Value.int Go.IntKind.i64 0)))⟩]) (.seq (.block 0 (.seq (.reg [⟨(.some 14), .none, .false, (.ld .true 3 (.tmp 2))⟩, ⟨(.some 15), .none, .false, (.call (.func 17) [(.tmp 14)])⟩, ⟨(.some 16), .none, .false, (.not (.tmp 15))⟩, ⟨(.some 13), .none, .false, (.mv (.tmp 16))⟩]) (.cond (.tmp 13) (.seq (.reg [⟨(.some 4), .none, .false, (.mv (.const (Go.Value.slice none 0 0)))⟩, ⟨(.some 5), .none, .false, (.mv (.const (Go.Value.int Go.IntKind.i64 1)))⟩]) .ret) (.seq (.reg [⟨(.some 18), .none, .false, (.mv (.tmp 1))⟩, ⟨(.some 19), .none, .false, (.fa 0 (.tmp 2))⟩, ⟨(.some 20), .none, .false, (.ld .false 1 (.tmp 19))⟩, ⟨(.some 21), .none, .false, (.call (.func 55) [(.tmp 18), (.tmp 20)])⟩, ⟨(.some 22), .none, .false, (.not (.tmp 21))⟩, ⟨(.some 17), .none, .false, (.mv (.tmp 22))⟩]) (.cond (.tmp 17) (.seq (.reg [⟨(.some 4), .none, .false, (.mv (.const (Go.Value.slice none 0 0)))⟩, ⟨(.some 5), .none, .false, (.mv (.const (Go.Value.int Go.IntKind.i64 2)))⟩]) .ret) .skip))))) (.seq (.reg [⟨(.some 6), .none, .false, (.al 2 [(Go.Value.int Go.IntKind.i64 0)])⟩, ⟨.none, .none, .false, (.sto 1 (.tmp 6) (.const (Go.Value.int Go.IntKind.i64 0)))⟩]) (.seq (.seq (.reg [⟨(.some 23), .none, .false, (.mv (.tmp 1))⟩, ⟨(.some 24), .none, .false, (.len (.tmp 23))⟩, ⟨(.some 25), .none, .false, (.mv (.const (Go.Value.int Go.IntKind.i64 0)))⟩]) (.block 1 (.loop (.seq (.reg [⟨(.some 26), .none, .false, (.bin .lss (.tmp 25) (.tmp 24))⟩]) (.seq (.cond (.tmp 26) .skip (.exit 1)) (.seq (.block 2 (.seq (.reg [⟨(.some 27), .none, .false, (.mv (.tmp 25))⟩, ⟨(.some 28), .none, .false, (.ix (.mk 2 1) (.tmp 23) (.tmp 25))⟩, ⟨(.some 29), .none, .false, (.ld .false 1 (.tmp 28))⟩, ⟨(.some 7), .none, .false, (.mv (.tmp 27))⟩, ⟨(.some 8), .none, .false, (.mv (.tmp 29))⟩]) (.reg [⟨(.some 30), .none, .true, (.ld .false 1 (.tmp 6))⟩, ⟨(.some 31), .none, .true, (.mv (.tmp 8))⟩, ⟨(.some 32), .none, .true, (.mv (.tmp 7))⟩, ⟨(.some 33), .none, .true, (.bin .shl (.tmp 31) (.tmp 32))⟩, ⟨(.some 34), .none, .true, (.bin .or (.tmp 30) (.tmp 33))⟩, ⟨.none, .none, .false, (.sto 1 (.tmp 6) (.tmp 34))⟩]))) (.reg [⟨(.some 35), .none, .false, (.bin .add (.tmp 25) (.const (Go.Value.int Go.IntKind.i64 1)))⟩, ⟨(.some 25), .none, .false, (.mv (.tmp 35))⟩]))))))) (.seq (.reg [⟨(.some 9), .none, .false, (.mv (.const (Go.Value.slice none 0 0)))⟩]) (.seq (.seq (.reg [⟨(.some 36), .none, .false, (.fa 2 (.tmp 2))⟩, ⟨(.some 37), .none, .false, (.ld .false 1 (.tmp 36))⟩, ⟨(.some 38), .none, .false, (.len (.tmp 37))⟩, ⟨(.some 39), .none, .false, (.mv (.const (Go.Value.int Go.IntKind.i64 0)))⟩]) (.block 3 (.loop (.seq (.reg [⟨(.some 40), .none, .false, (.bin .lss (.tmp 39) (.tmp 38))⟩]) (.seq (.cond (.tmp 40) .skip (.exit 3)) (.seq (.block 4 (.seq (.reg [⟨(.some 41), .none, .false, (.ix (.mk 23 1) (.tmp 37) (.tmp 39))⟩, ⟨(.some 42), .none, .false, (.ld .false 1 (.tmp 41))⟩, ⟨(.some 11), .none, .false, (.mv (.tmp 42))⟩]) (.seq (.reg [⟨(.some 12), .none, .false, (.mv (.const (Go.Value.int Go.IntKind.i64 0)))⟩]) (.seq (.seq (.reg [⟨(.some 43), .none, .false, (.mv (.tmp 11))⟩, ⟨(.some 44), .none, .false, (.mkf 58 [(.tmp 2), (.tmp 6)])⟩, ⟨(.some 45), .none, .false, (.call (.func 57) [(.tmp 43), (.tmp 44)])⟩]) (.cond (.tmp 45) (.reg [⟨(.some 12), .none, .false, (.mv (.const (Go.Value.int Go.IntKind.i64 1)))⟩]) .skip)) (.reg [⟨(.some 46), .none, .false, (.mv (.tmp 9))⟩, ⟨(.some 47), .none, .false, (.mv (.tmp 12))⟩, ⟨(.some 48), .none, .false, (.bsl (.mk 2 1) 1 [(0, (.tmp 47))])⟩, ⟨(.some 49), .none, .false, (.app (.mk 2 1) 8 (.tmp 46) (.tmp 48))⟩, ⟨(.some 9), .none, .false, (.mv (.tmp 49))⟩]))))) (.reg [⟨(.some 50), .none, .false, (.bin .add (.tmp 39) (.const (Go.Value.int Go.IntKind.i64 1)))⟩, ⟨(.some 39), .none, .false, (.mv (.tmp 50))⟩]))))))) (.seq (.reg [⟨(.some 51), .none, .false, (.mv (.tmp 9))⟩, ⟨(.some 4), .none, .false, (.mv (.tmp 51))⟩, ⟨(.some 5), .none, .false, (.mv (.const (Go.Value.int Go.IntKind.i64 0)))⟩]) .ret)))))))
set_option maxRecDepth 100000 in
theorem S.ok19 : stripF Tryz.prog Tryz.f19 = some S.s19 := by kernel_rfl
set_option maxRecDepth 100000 in
def S.s58 : SC := (.seq (.reg [⟨(.some 4), .none, .false, (.mv (.const (Go.Value.bool false)))⟩]) (.seq (.reg [⟨(.some 5), .none, .true, (.fa 1 (.tmp 1))⟩, ⟨(.some 6), .none, .true, (.ld .false 1 (.tmp 5))⟩, ⟨(.some 7), .none, .true, (.mv (.tmp 0))⟩, ⟨(.some 8), .none, .true, (.ix (.mk 56 2) (.tmp 6) (.tmp 7))⟩, ⟨(.some 9), .none, .true, (.ld .true 2 (.tmp 8))⟩, ⟨(.some 10), .none, .true, (.ld .false 1 (.tmp 2))⟩, ⟨(.some 11), .none, .false, (.call (.func 59) [(.tmp 9), (.tmp 10)])⟩, ⟨(.some 4), .none, .false, (.mv (.tmp 11))⟩]) .ret))
set_option maxRecDepth 100000 in
theorem S.ok58 : stripF Tryz.prog Tryz.f58 = some S.s58 := by kernel_rfl
set_option maxRecDepth 10000
set_option maxHeartbeats 4000000
section
variable {P : Program} {Q : Exit → St → Prop} {ks : List Fr} {e : Nat → AV} {o : Nat → Option Ob} {d : Nat} {fr : Bool} {x y z : Operand} {rest : List SR}
theorem R.shlB {k' : IntKind} {m n : Int} (h1 : ev e x = pvA (.int .i64 m)) (h2 : ev e y = pvA (.int k' n)) (h0 : 0 ≤ n ∧ n ≤ 62) (hm : 0 ≤ m ∧ m ≤ 1) (k : WL P rest ks Q ⟨upd e d (pvA (.int .i64 (m * 2 ^ n.toNat))), o⟩) : WL P (⟨some d, none, fr, .bin .shl x y⟩ :: rest) ks Q ⟨e, o⟩ :=
  R.bin h1 h2 (by
    have hp := pow62 h0
    have h3 : m * 2 ^ n.toNat = 0 ∨ m * 2 ^ n.toNat = 2 ^ n.toNat := by
      have : m = 0 ∨ m = 1 := by omega
      rcases this with rfl | rfl
      · exact .inl (by simp)
      · exact .inr (by simp)
    simp only [binI, shV]
    rw [if_neg (by omega), show Min.min n.toNat (IntKind.i64.bits) = n.toNat from by simp [IntKind.bits]; omega, wrap64 (by omega)]) k
end
def nB (l : List Int) : Nat → Int
  | 0 => 0
  | i + 1 => nB l i + l.getD i 0 * 2 ^ i
theorem nB_bd {l : List Int} (h : ∀ w ∈ l, 0 ≤ w ∧ w ≤ 1) : ∀ i : Nat, 0 ≤ nB l i ∧ nB l i < 2 ^ i
  | 0 => by simp [nB]
  | i + 1 => by
    have h1 := nB_bd h i
    have h2 : 0 ≤ l.getD i 0 ∧ l.getD i 0 ≤ 1 := by
      rw [List.getD_eq_getElem?_getD]
      cases hx : l[i]? with
      | none => simp
      | some v => exact h v (List.mem_of_getElem? hx)
    have h3 : l.getD i 0 = 0 ∨ l.getD i 0 = 1 := by omega
    unfold nB
    rw [show (2 : Int) ^ (i + 1) = 2 ^ i * 2 from Int.pow_succ ..]
    rcases h3 with h3 | h3 <;> rw [h3] <;> omega
theorem or_bit : ∀ i : Fin 4, ∀ u : Fin 16, ∀ v : Fin 2, u.val < 2 ^ i.val → orI (u.val : Int) ((v.val : Int) * 2 ^ i.val) = (u.val : Int) + (v.val : Int) * 2 ^ i.val := by decide
theorem or_bits {i : Nat} {u v : Int} (hi : i < 4) (hu : 0 ≤ u ∧ u < 2 ^ i) (hv : 0 ≤ v ∧ v ≤ 1) : orI u (v * 2 ^ i) = u + v * 2 ^ i := by
  have h16 : (2 : Int) ^ i ≤ 16 := by
    have : i = 0 ∨ i = 1 ∨ i = 2 ∨ i = 3 := by omega
    rcases this with rfl | rfl | rfl | rfl <;> decide
  obtain ⟨m, rfl⟩ : ∃ m : Nat, u = m := ⟨u.toNat, by omega⟩
  obtain ⟨n, rfl⟩ : ∃ n : Nat, v = n := ⟨v.toNat, by omega⟩
  exact or_bit ⟨i, hi⟩ ⟨m, by omega⟩ ⟨n, by omega⟩ (by have := hu.2; exact_mod_cast this)
def hasAt (f : TForm) (n k : Int) : Bool := hasQ (f.fCubes.getD k.toNat ⟨0, 0⟩) n
def sumV (f : TForm) (n : Int) (s : List Int) : Int := if s.any (hasAt f n) then 1 else 0
open Classical in
noncomputable def fEval (f : TForm) (l : List Int) : List Int × Int := if okF f then if inK l f.fInputs then (f.fSums.map (sumV f (nB l l.length)), 0) else ([], 2) else ([], 1)
theorem rises_mem {l : List Int} {lo hi : Int} (h : rises l lo hi) : ∀ a ∈ l, lo ≤ a ∧ a ≤ hi := fun a ha => by
  obtain ⟨i, hi⟩ := List.getElem?_of_mem ha
  exact (h i a (List.getElem?_eq_some_iff.1 hi).1 hi).1
theorem iForT {f : TForm} (h : okF f) : Spec Tryz.prog 17 [.agg (enForm f)] (oB true) := by have := iValidForm f; rwa [bP_iff.2 h] at this
theorem iForF {f : TForm} (h : ¬ okF f) : Spec Tryz.prog 17 [.agg (enForm f)] (oB false) := by have := iValidForm f; rwa [bP_not.2 h] at this
theorem iEval1 (f : TForm) (n k : Int) (h : 0 ≤ k ∧ k ≤ f.fCubes.length - 1) : Spec Tryz.prog 58 [vI k, vP (enForm f), vP [iD n]] (oB (hasAt f n k)) := by
  obtain ⟨m, rfl⟩ : ∃ m : Nat, k = m := ⟨k.toNat, by omega⟩
  obtain ⟨q, hq⟩ : ∃ q, f.fCubes[m]? = some q := ⟨_, List.getElem?_eq_getElem (by omega)⟩
  refine Spec.walk T.mixed Tryz.func58 S.ok58 (by simp [Tryz.f58]) fun hk => ?_
  unfold S.s58
  repeat' (first|refine R.ixK q hq rfl rfl rfl ?_|refine R.mv rfl ?_|refine R.reg ?_|refine R.nil ?_|refine R.seq ?_|refine R.nseq ?_|refine R.ld rfl rfl rfl ?_|refine R.lda rfl rfl (lbT rfl) rfl ?_|refine R.fa rfl rfl ?_|refine R.call (bor := false) rfl rfl (iHas _ _) rfl rfl rfl ?_)
  refine R.ret ⟨.inr rfl, R.outB rfl rfl ?_⟩
  simp [hasAt, List.getD, hq]
theorem iEvalForm (f : TForm) (l : List Int) : Spec Tryz.prog 19 [.agg (enForm f), vL kI (ints l)] (.tup [cN kI (ints (fEval f l).1), cI (fEval f l).2]) := by
  refine Spec.walk T.mixed Tryz.func19 S.ok19 (by simp [Tryz.f19]) fun hk => ?_
  unfold S.s19
  by_cases h1 : okF f
  case neg =>
    rw [show fEval f l = ([], 1) from if_neg h1]
    repeat' (first|refine R.mv rfl ?_|refine R.reg ?_|refine R.nil ?_|refine R.seq ?_|refine R.nseq ?_|refine R.blk ?_|refine R.lda rfl rfl (lbT rfl) rfl ?_|refine R.not rfl ?_|refine R.box rfl rfl rfl ?_|refine R.condT rfl ?_|refine R.call (bor := false) rfl rfl (iForF h1) rfl rfl rfl ?_)
    exact R.ret ⟨.inr rfl, R.outNilI rfl rfl rfl rfl rfl rfl⟩
  by_cases h2 : inK l f.fInputs
  case neg =>
    rw [show fEval f l = ([], 2) from (if_pos h1).trans (if_neg h2)]
    repeat' (first|refine R.mv rfl ?_|refine R.reg ?_|refine R.nil ?_|refine R.seq ?_|refine R.nseq ?_|refine R.blk ?_|refine R.ld rfl rfl rfl ?_|refine R.lda rfl rfl (lbT rfl) rfl ?_|refine R.fa rfl rfl ?_|refine R.not rfl ?_|refine R.box rfl rfl rfl ?_|refine R.condT rfl ?_|refine R.condF rfl ?_|refine R.call (bor := false) rfl rfl (iForT h1) rfl rfl rfl ?_|refine R.call (bor := false) rfl rfl (iBitsF h2) rfl rfl rfl ?_)
    exact R.ret ⟨.inr rfl, R.outNilI rfl rfl rfl rfl rfl rfl⟩
  rw [show fEval f l = (f.fSums.map (sumV f (nB l l.length)), 0) from (if_pos h1).trans (if_pos h2)]
  have hl4 : l.length ≤ 4 := by have := h1.1; have := h2.1; omega
  have hs3 := h1.2.2.1
  repeat' (first|refine R.mv rfl ?_|refine R.reg ?_|refine R.nil ?_|refine R.seq ?_|refine R.nseq ?_|refine R.nblk ?_|refine R.skip ?_|refine R.blk ?_|refine R.ld rfl rfl rfl ?_|refine R.lda rfl rfl (lbT rfl) rfl ?_|refine R.fa rfl rfl ?_|refine R.lenM rfl ?_|refine R.not rfl ?_|refine R.al rfl ?_|refine R.box rfl rfl rfl ?_|refine R.stoB rfl rfl rfl rfl ⟨rfl, rfl, Nat.le_of_ble_eq_true rfl⟩ rfl ?_|refine R.condF rfl ?_|refine R.call (bor := false) rfl rfl (iForT h1) rfl rfl rfl ?_|refine R.call (bor := false) rfl rfl (iBitsT h2) rfl rfl rfl ?_)
  refine R.loop (G := Nat) (fun i => [(2, .v (.c (.ptr 2 0))), (6, .v (.c (.ptr 6 0))), (23, rdA kI (ints l)), (24, pvA (.int .i64 l.length)), (25, pvA (.int .i64 i))]) (fun i => [(2, .box 30 ((enForm f).map B.d)), (6, .box 2 [.d (iD (nB l i))])]) (fun i => i ≤ l.length) (fun i => l.length - i) 0 (by omega) (Weak.frame _ _ ⟨rfl, rfl, rfl, rfl, rfl, trivial⟩ ⟨rfl, rfl, trivial⟩ rfl rfl) fun i hi => ?_
  by_cases hil : i < l.length
  · obtain ⟨v, hv⟩ : ∃ v, l[i]? = some v := ⟨_, List.getElem?_eq_getElem hil⟩
    have hv1 := h2.2 v (List.mem_of_getElem? hv)
    have hor := or_bits (by omega) (nB_bd h2.2 i) hv1
    have hgd : l.getD i 0 = v := by simp [List.getD, hv]
    repeat' (first|refine R.ixK v hv rfl rfl rfl ?_|refine R.mv rfl ?_|refine R.reg ?_|refine R.nil ?_|refine R.seq ?_|refine R.nseq ?_|refine R.nblk ?_|refine R.skip ?_|refine R.blk ?_|refine R.exit rfl ?_|refine R.ld rfl rfl rfl ?_|refine R.fa rfl rfl ?_|refine R.lenM rfl ?_|refine R.lss rfl rfl ?_|refine R.add rfl rfl (by omega) ?_|refine R.stoB rfl rfl rfl rfl ⟨rfl, rfl, Nat.le_of_ble_eq_true rfl⟩ rfl ?_|refine R.or rfl rfl ?_|refine R.shlB rfl rfl ⟨by omega, by omega⟩ hv1 ?_|refine R.cond rfl (fun hc => ?_) (fun hc => ?_))
    all_goals first
      | (exfalso; omega)
      | exact R.nloop (R.again (i + 1) (by omega) (by omega) ⟨rfl, rfl, rfl, rfl, rfl, trivial⟩ ⟨rfl, by rw [show nB l (i + 1) = nB l i + v * 2 ^ i from by rw [← hgd]; rfl, ← hor]; rfl, trivial⟩ rfl rfl)
  obtain rfl : i = l.length := by omega
  repeat' (first|refine R.mv rfl ?_|refine R.reg ?_|refine R.nil ?_|refine R.seq ?_|refine R.nseq ?_|refine R.skip ?_|refine R.blk ?_|refine R.exit rfl ?_|refine R.ld rfl rfl rfl ?_|refine R.fa rfl rfl ?_|refine R.lenM rfl ?_|refine R.lss rfl rfl ?_|refine R.ixN rfl rfl rfl (by omega) (fun a ha => ?_)|refine R.cond rfl (fun hc => ?_) (fun hc => ?_))
  all_goals first | (exfalso; omega) | skip
  refine R.loop (G := Nat) (fun i => [(2, .v (.c (.d (.rp (enForm f))))), (6, .v (.c (.d (.rp [iD (nB l l.length)])))), (9, .v (.c (.own 9))), (37, rdA kR (f.fSums.map enR)), (38, pvA (.int .i64 f.fSums.length)), (39, pvA (.int .i64 i))]) (fun i => [(9, .arr kI (ints ((f.fSums.take i).map (sumV f (nB l l.length)))) [])]) (fun i => i ≤ f.fSums.length) (fun i => f.fSums.length - i) 0 (by omega) (Weak.trans (Weak.freeze 2 rfl rfl) (Weak.trans (Weak.freeze 6 rfl rfl) (Weak.trans (Weak.reify 9 9 kI rfl rfl) (Weak.frame _ _ ⟨rfl, rfl, rfl, rfl, rfl, rfl, trivial⟩ ⟨rfl, trivial⟩ rfl rfl)))) fun i hi => ?_
  by_cases hil : i < f.fSums.length
  · obtain ⟨s, hs⟩ : ∃ s, f.fSums[i]? = some s := ⟨_, List.getElem?_eq_getElem hil⟩
    have hsm := rises_mem (h1.2.2.2.2 s (List.mem_of_getElem? hs))
    by_cases hv : s.any (hasAt f (nB l l.length)) = true
    · have hany := lib_anyI (l := s) (g := 58) (caps := [.rp (enForm f), .rp [iD (nB l l.length)]]) (p := hasAt f (nB l l.length)) fun k hk => iEval1 f _ k (hsm k hk)
      rw [hv] at hany
      repeat' (first|refine R.ixK s hs rfl rfl rfl ?_|refine R.mv rfl ?_|refine R.reg ?_|refine R.nil ?_|refine R.seq ?_|refine R.nseq ?_|refine R.nblk ?_|refine R.skip ?_|refine R.blk ?_|refine R.exit rfl ?_|refine R.ld rfl rfl rfl ?_|refine R.lss rfl rfl ?_|refine R.add rfl rfl (by omega) ?_|refine R.mkf rfl ?_|refine R.condT rfl ?_|refine R.call (bor := false) rfl rfl (hany) rfl rfl rfl ?_|refine R.bsl (f := enI) [(1 : Int)] rfl rfl rfl rfl rfl ?_|refine R.app (f := enI) (fun _ => rfl) rfl rfl rfl rfl rfl ⟨by simp only [List.length_map, List.length_take, List.length_singleton]; omega, by simp only [List.length_map, List.length_take, List.length_singleton]; omega⟩ ?_|refine R.cond rfl (fun hc => ?_) (fun hc => ?_))
      all_goals first
        | (exfalso; omega)
        | exact R.nloop (R.again (i + 1) (by omega) (by omega) ⟨rfl, rfl, rfl, rfl, rfl, rfl, trivial⟩ ⟨arr_eq (by rw [take_snoc hs, List.map_append, List.map_singleton, show sumV f (nB l l.length) s = 1 from if_pos hv]), trivial⟩ rfl rfl)
    · have hany := lib_anyI (l := s) (g := 58) (caps := [.rp (enForm f), .rp [iD (nB l l.length)]]) (p := hasAt f (nB l l.length)) fun k hk => iEval1 f _ k (hsm k hk)
      rw [Bool.eq_false_iff.2 hv] at hany
      repeat' (first|refine R.ixK s hs rfl rfl rfl ?_|refine R.mv rfl ?_|refine R.reg ?_|refine R.nil ?_|refine R.seq ?_|refine R.nseq ?_|refine R.nblk ?_|refine R.skip ?_|refine R.blk ?_|refine R.exit rfl ?_|refine R.ld rfl rfl rfl ?_|refine R.lss rfl rfl ?_|refine R.add rfl rfl (by omega) ?_|refine R.mkf rfl ?_|refine R.condF rfl ?_|refine R.call (bor := false) rfl rfl (hany) rfl rfl rfl ?_|refine R.bsl (f := enI) [(0 : Int)] rfl rfl rfl rfl rfl ?_|refine R.app (f := enI) (fun _ => rfl) rfl rfl rfl rfl rfl ⟨by simp only [List.length_map, List.length_take, List.length_singleton]; omega, by simp only [List.length_map, List.length_take, List.length_singleton]; omega⟩ ?_|refine R.cond rfl (fun hc => ?_) (fun hc => ?_))
      all_goals first
        | (exfalso; omega)
        | exact R.nloop (R.again (i + 1) (by omega) (by omega) ⟨rfl, rfl, rfl, rfl, rfl, rfl, trivial⟩ ⟨arr_eq (by rw [take_snoc hs, List.map_append, List.map_singleton, show sumV f (nB l l.length) s = 0 from if_neg hv]), trivial⟩ rfl rfl)
  obtain rfl : i = f.fSums.length := by omega
  repeat' (first|refine R.mv rfl ?_|refine R.reg ?_|refine R.nil ?_|refine R.seq ?_|refine R.nseq ?_|refine R.skip ?_|refine R.blk ?_|refine R.exit rfl ?_|refine R.ld rfl rfl rfl ?_|refine R.lss rfl rfl ?_|refine R.ixN rfl rfl rfl (by omega) (fun a ha => ?_)|refine R.mkf rfl ?_|refine R.cond rfl (fun hc => ?_) (fun hc => ?_))
  all_goals first
    | (exfalso; omega)
    | exact R.ret ⟨.inr rfl, R.outNI rfl rfl (arr_eq (by simp)) rfl rfl⟩
end
section
open Go.RowKit
set_option maxRecDepth 10000
set_option maxHeartbeats 4000000
theorem rowQ_pw {n : Nat} {l : List Int} {c : Nat} : ∀ V, (rowQ n l c V).Pairwise ltQ
  | 0 => by simp [rowQ]
  | V + 1 => by
    rw [rowQ]
    refine List.pairwise_append.2 ⟨rowQ_pw V, ?_, fun x hx y hy => ?_⟩
    · unfold gQ
      split <;> simp
    · obtain ⟨_, h2, v, h3, h4⟩ := rowQ_ok hx
      unfold gQ at hy
      split at hy
      · obtain rfl := List.mem_singleton.1 hy
        rw [ltQ_iff]
        exact .inr ⟨h2, by rw [h4]; show (v : Int) < (V : Int); omega⟩
      · cases hy
theorem tabQ_pw {n : Nat} {l : List Int} : ∀ C, (tabQ n l C).Pairwise ltQ
  | 0 => by simp [tabQ]
  | C + 1 => by
    rw [tabQ]
    refine List.pairwise_append.2 ⟨tabQ_pw C, rowQ_pw _, fun x hx y hy => ?_⟩
    obtain ⟨_, c, v, h1, _, rfl⟩ := tabQ_ok hx
    obtain ⟨_, h2, _⟩ := rowQ_ok hy
    rw [ltQ_iff]
    exact .inl (by rw [h2]; show (c : Int) < (C : Int); omega)
theorem rise_pw : ∀ {x : List Nat} {a b : Nat}, rise a b x → x.Pairwise (· < ·) ∧ ∀ k ∈ x, a ≤ k ∧ k < b
  | [], _, _, _ => ⟨.nil, fun k hk => by cases hk⟩
  | k :: x, a, b, ⟨h1, h2, h3⟩ => by
    obtain ⟨i1, i2⟩ := rise_pw h3
    refine ⟨List.pairwise_cons.2 ⟨fun y hy => (i2 y hy).1, i1⟩, fun y hy => ?_⟩
    rcases List.mem_cons.1 hy with rfl | hy
    · exact ⟨h1, h2⟩
    · have := i2 y hy; omega
theorem pw_rise : ∀ {x : List Nat} {a b : Nat}, x.Pairwise (· < ·) → (∀ k ∈ x, a ≤ k ∧ k < b) → rise a b x
  | [], _, _, _, _ => trivial
  | k :: x, a, b, h, hb => by
    obtain ⟨h1, h2⟩ := List.pairwise_cons.1 h
    have := hb k (by simp)
    exact ⟨this.1, this.2, pw_rise h2 fun y hy => ⟨h1 y hy, (hb y (by simp [hy])).2⟩⟩
theorem nodup_len {α : Type} [BEq α] [LawfulBEq α] : ∀ {y z : List α}, y.Nodup → (∀ k ∈ y, k ∈ z) → y.length ≤ z.length
  | [], _, _, _ => Nat.zero_le _
  | k :: y, z, h, hs => by
    obtain ⟨h1, h2⟩ := List.nodup_cons.1 h
    have hk := hs k (by simp)
    have ih := nodup_len (y := y) (z := z.erase k) h2 fun x hx => (List.mem_erase_of_ne (fun e => h1 (by subst e; exact hx))).2 (hs x (by simp [hx]))
    have hl := List.length_erase_of_mem hk
    have hp := List.length_pos_of_mem hk
    rw [List.length_cons]
    omega
def ones (t : List Int) : List Nat := (List.range t.length).filter (oneQ t)
theorem cov_mem {n : Int} {t : List Int} (hn : 1 ≤ n ∧ n ≤ 4) (h : inK t (2 ^ n.toNat)) {q : TCube} (hq : q ∈ cov n t) : q ∈ tabQ n.toNat t (2 ^ n.toNat) := by
  obtain ⟨m, _, _, _, _, h5, _⟩ := lcX_ok (n := n.toNat) (tb := t) (by omega) h
  unfold cov cubs at hq
  obtain ⟨k, hk, rfl⟩ := List.mem_map.1 hq
  have hlt := (rise_pw h5).2 k hk
  rw [List.getD_eq_getElem?_getD, List.getElem?_eq_getElem hlt.2]
  exact List.getElem_mem _
theorem cov_pw {n : Int} {t : List Int} (hn : 1 ≤ n ∧ n ≤ 4) (h : inK t (2 ^ n.toNat)) : (cov n t).Pairwise ltQ := by
  obtain ⟨m, _, _, _, _, h5, _⟩ := lcX_ok (n := n.toNat) (tb := t) (by omega) h
  obtain ⟨h6, h7⟩ := rise_pw h5
  unfold cov cubs
  rw [List.pairwise_map]
  refine List.Pairwise.imp_of_mem (fun {a b} ha hb hab => ?_) h6
  have hp := List.pairwise_iff_getElem.1 (tabQ_pw (n := n.toNat) (l := t) (2 ^ n.toNat)) a b (h7 a ha).2 (h7 b hb).2 hab
  rw [List.getD_eq_getElem?_getD, List.getElem?_eq_getElem (h7 a ha).2, List.getD_eq_getElem?_getD, List.getElem?_eq_getElem (h7 b hb).2]
  exact hp
theorem cov_cv {n : Int} {t : List Int} (hn : 1 ≤ n ∧ n ≤ 4) (h : inK t (2 ^ n.toNat)) : cvQ t (tabQ n.toNat t (2 ^ n.toNat)) (lcX n.toNat t) := by
  obtain ⟨m, _, _, h3, _, h5, _⟩ := lcX_ok (n := n.toNat) (tb := t) (by omega) h
  rcases foldI_mem _ _ h3 with h | ⟨l, _, h1, h2⟩
  · cases h
  · exact h2
theorem cov_has {n : Int} {t : List Int} (hn : 1 ≤ n ∧ n ≤ 4) (h : inK t (2 ^ n.toNat)) {i : Nat} (hi : i < t.length) : (∃ q ∈ cov n t, hasQ q i = true) ↔ oneQ t i = true := by
  constructor
  · rintro ⟨q, hq, hh⟩
    have hm := (tabQ_ok (cov_mem hn h hq)).1.2.1
    have hv : t[i]? = some t[i] := List.getElem?_eq_getElem hi
    have h01 := h.2 t[i] (List.getElem_mem _)
    by_cases h0 : t[i] = 0
    · have := hm i _ hi hv h0
      rw [hh] at this
      cases this
    · have h1 : t[i] = 1 := by omega
      unfold oneQ
      rw [hv, h1]
      rfl
  · intro ho
    have hc := cov_cv hn h i hi ho
    obtain ⟨k, hk, hx⟩ := List.any_eq_true.1 hc
    unfold ctx at hx
    split at hx
    · rename_i c hcx
      refine ⟨c, ?_, hx⟩
      unfold cov cubs
      exact List.mem_map.2 ⟨k, hk, by rw [List.getD_eq_getElem?_getD, hcx]; rfl⟩
    · cases hx
theorem cov_few {n : Int} {t : List Int} (hn : 1 ≤ n ∧ n ≤ 4) (h : inK t (2 ^ n.toNat)) : (cov n t).length ≤ (ones t).length := by
  obtain ⟨m, _, h2, _, _, _, h6⟩ := lcX_ok (n := n.toNat) (tb := t) (by omega) h
  have hcov := fun (i : Nat) (hi : i < t.length) (ho : oneQ t i = true) => tabQ_covers (n := n.toNat) (l := t) (by omega) (inK_len h) hi ho
  have hlen : (cov n t).length = m := by unfold cov; rw [cubs_len, h6]
  rw [hlen]
  generalize tabQ n.toNat t (2 ^ n.toNat) = ps at *
  let sel : Nat → Option Nat := fun i => (List.range ps.length).find? fun k => ctx ps k i
  let y := (List.range ps.length).filter fun k => (ones t).any fun i => decide (sel i = some k)
  have hy1 : y.Pairwise (· < ·) := List.Pairwise.filter _ List.pairwise_lt_range
  have hy2 : rise 0 ps.length y := pw_rise hy1 fun k hk => ⟨Nat.zero_le _, List.mem_range.1 (List.mem_filter.1 hk).1⟩
  have hyc : cvQ t ps y := fun i hi ho => by
    obtain ⟨q, hq, hh⟩ := hcov i hi ho
    obtain ⟨k, hk, he⟩ := List.getElem_of_mem hq
    have hs : (sel i).isSome = true := by
      rw [List.find?_isSome]
      exact ⟨k, List.mem_range.2 hk, by unfold ctx; rw [List.getElem?_eq_getElem hk, he]; exact hh⟩
    obtain ⟨k', hk'⟩ := Option.isSome_iff_exists.1 hs
    have h3 := List.find?_some hk'
    refine List.any_eq_true.2 ⟨k', List.mem_filter.2 ⟨List.mem_of_find?_eq_some hk', ?_⟩, h3⟩
    exact List.any_eq_true.2 ⟨i, List.mem_filter.2 ⟨List.mem_range.2 hi, ho⟩, by simpa using hk'⟩
  have hyl : y.length ≤ (ones t).length := by
    have h4 : y.length ≤ ((ones t).filterMap sel).length := nodup_len (hy1.imp fun h => Nat.ne_of_lt h) fun k hk => by
      obtain ⟨i, hi, he⟩ := List.any_eq_true.1 (List.mem_filter.1 hk).2
      exact List.mem_filterMap.2 ⟨i, hi, by simpa using he⟩
    exact Nat.le_trans h4 (List.length_filterMap_le _ _)
  refine Nat.le_trans ?_ hyl
  refine Nat.le_of_not_lt fun hlt => ?_
  have hno := h2 y.length hlt
  obtain ⟨x, hx⟩ := foldI_some (cvQ t ps) (costQ ps) (L := combs ps.length y.length 0) (b := none) (pre := []) (.inl ⟨y, rise_combs (by simpa using hy2), by simpa using hyc⟩)
  unfold srch at hno
  rw [hx] at hno
  cases hno
theorem sum_ones : ∀ {t : List Int}, (∀ w ∈ t, 0 ≤ w ∧ w ≤ 1) → t.sum = ((t.filter fun w => decide (w = 1)).length : Int)
  | [], _ => rfl
  | w :: t, h => by
    have ih := sum_ones (t := t) fun x hx => h x (by simp [hx])
    have hw := h w (by simp)
    rw [List.sum_cons, ih]
    by_cases h1 : w = 1
    · rw [List.filter_cons, if_pos (by simpa using h1), List.length_cons]; omega
    · rw [List.filter_cons, if_neg (by simpa using h1)]; omega
theorem sumJ_one {q : TCube} {k : Nat} {cv : List TCube} (h : cv.Pairwise ltQ) : (sumJ q k cv).length ≤ 1 := by
  unfold sumJ
  rw [List.length_map]
  have h1 : (cv.filter fun c => decide (c = q)).Pairwise ltQ := List.Pairwise.filter _ h
  have h2 : ∀ x ∈ cv.filter fun c => decide (c = q), x = q := fun x hx => by simpa using (List.mem_filter.1 hx).2
  generalize cv.filter (fun c => decide (c = q)) = l at *
  match l, h1, h2 with
  | [], _, _ => simp
  | [_], _, _ => simp
  | a :: b :: l, h1, h2 =>
    have := (List.pairwise_cons.1 h1).1 b (by simp)
    rw [h2 a (by simp), h2 b (by simp)] at this
    exact absurd this (ltQ_irr q)
theorem sumK_lt {cs cv : List TCube} (h : cv.Pairwise ltQ) : ∀ m, (sumK cs cv m).Pairwise (· < ·)
  | 0 => by simp [sumK]
  | m + 1 => by
    rw [sumK_succ]
    refine List.pairwise_append.2 ⟨sumK_lt h m, ?_, fun x hx y hy => ?_⟩
    · have := sumJ_one (q := cs.getD m ⟨0, 0⟩) (k := m) h
      generalize sumJ (cs.getD m ⟨0, 0⟩) m cv = l at *
      match l, this with
      | [], _ => exact .nil
      | [_], _ => exact List.pairwise_singleton _ _
      | _ :: _ :: _, h => simp at h
    · have := sumK_mem hx
      unfold sumJ at hy
      obtain ⟨_, _, rfl⟩ := List.mem_map.1 hy
      omega
theorem pw_rises {s : List Int} {hi : Int} (h : s.Pairwise (· < ·)) (hb : ∀ a ∈ s, 0 ≤ a ∧ a ≤ hi) : rises s 0 hi := fun i a hi ha => by
  refine ⟨hb a (List.mem_of_getElem? ha), fun b h0 hb => ?_⟩
  obtain ⟨h1, rfl⟩ := List.getElem?_eq_some_iff.1 ha
  obtain ⟨h2, rfl⟩ := List.getElem?_eq_some_iff.1 hb
  exact List.pairwise_iff_getElem.1 h (i - 1) i h2 h1 (by omega)
def allQ : List TCube := (List.range 16).flatMap fun (c : Nat) => (List.range 16).filterMap fun (v : Nat) => if andI (v : Int) (c : Int) = (v : Int) then some (⟨(c : Int), (v : Int)⟩ : TCube) else none
theorem allQ_len : allQ.length = 81 := by decide +kernel
theorem cubF_tab {c : TCircuit} (h : okC c) {q : TCube} (hq : q ∈ cubF c) : ∃ t, inK t (2 ^ c.fInputs.toNat) ∧ q ∈ tabQ c.fInputs.toNat t (2 ^ c.fInputs.toNat) := by
  obtain ⟨cv, hcv, hq⟩ := cubF_mem.1 hq
  unfold covs at hcv
  obtain ⟨t, ht, rfl⟩ := List.mem_map.1 hcv
  exact ⟨t, tab_inK h t ht, cov_mem h.1 (tab_inK h t ht) hq⟩
theorem cubF_okQ {c : TCircuit} (h : okC c) {q : TCube} (hq : q ∈ cubF c) : okQ c.fInputs q := by
  obtain ⟨t, _, hm⟩ := cubF_tab h hq
  obtain ⟨h1, a, v, h2, h3, rfl⟩ := tabQ_ok hm
  have h4 : ((2 ^ c.fInputs.toNat : Nat) : Int) = 2 ^ c.fInputs.toNat := by simp
  refine ⟨⟨by show (0 : Int) ≤ (a : Int); omega, ?_⟩, h1.1⟩
  show (a : Int) ≤ 2 ^ c.fInputs.toNat - 1
  omega
theorem cubF_81 {c : TCircuit} (h : okC c) : (cubF c).length ≤ 81 := by
  rw [← allQ_len]
  refine nodup_len ((cubF_pw c).imp fun {a b} hab e => by subst e; exact ltQ_irr a hab) fun q hq => ?_
  obtain ⟨t, _, hm⟩ := cubF_tab h hq
  obtain ⟨h1, a, v, h2, h3, rfl⟩ := tabQ_ok hm
  have h16 := (q16 h.1).2
  unfold allQ
  refine List.mem_flatMap.2 ⟨a, List.mem_range.2 (by omega), List.mem_filterMap.2 ⟨v, List.mem_range.2 (by omega), ?_⟩⟩
  rw [if_pos h1.1]
theorem covs_pw {c : TCircuit} (h : okC c) {cv : List TCube} (hc : cv ∈ covs c) : cv.Pairwise ltQ := by
  unfold covs at hc
  obtain ⟨t, ht, rfl⟩ := List.mem_map.1 hc
  exact cov_pw h.1 (tab_inK h t ht)
theorem form_ok {c : TCircuit} (h : okC c) : okF ⟨c.fInputs, cubF c, sumsF c⟩ := by
  refine ⟨h.1, cubF_81 h, by show 1 ≤ (sumsF c).length ∧ (sumsF c).length ≤ 3; rw [sumsF_len]; exact h.2.2.1, fun i q hi hq => ⟨cubF_okQ h (List.mem_of_getElem? hq), fun p h0 hp => ?_⟩, fun s hs => ?_⟩
  · obtain ⟨h1, rfl⟩ := List.getElem?_eq_some_iff.1 hq
    obtain ⟨h2, rfl⟩ := List.getElem?_eq_some_iff.1 hp
    exact List.pairwise_iff_getElem.1 (cubF_pw c) (i - 1) i h2 h1 (by omega)
  · have hs : s ∈ sumsF c := hs
    unfold sumsF at hs
    obtain ⟨cv, hcv, rfl⟩ := List.mem_map.1 hs
    refine pw_rises (sumK_lt (covs_pw h hcv) _) fun a ha => ?_
    have := sumK_mem ha
    show 0 ≤ a ∧ a ≤ ((cubF c).length : Int) - 1
    omega
theorem nB_inp : ∀ n : Fin 5, ∀ k : Fin 16, k.val < 2 ^ n.val → nB (inp 0 k.val n.val) n.val = k.val := by decide
theorem form_any {c : TCircuit} {cv : List TCube} (hc : cv ∈ covs c) (k : Int) : (sumK (cubF c) cv (cubF c).length).any (hasAt ⟨c.fInputs, cubF c, sumsF c⟩ k) = cv.any fun q => hasQ q k := by
  have hin : ∀ q ∈ cv, q ∈ cubF c := fun q hq => cubF_mem.2 ⟨cv, hc, hq⟩
  rw [← (sum_perm (cubF_pw c) hin).any_eq, List.any_map]
  have key : ∀ q ∈ cv, (hasAt ⟨c.fInputs, cubF c, sumsF c⟩ k ∘ fun q => (ixQ (cubF c) q : Int)) q = hasQ q k := fun q hq => by
    show hasQ ((cubF c).getD ((ixQ (cubF c) q : Int)).toNat ⟨0, 0⟩) k = hasQ q k
    rw [Int.toNat_natCast, List.getD_eq_getElem?_getD, (ixQ_ok (hin q hq)).1]
    rfl
  rw [Bool.eq_iff_iff, List.any_eq_true, List.any_eq_true]
  constructor
  · rintro ⟨q, hq, hh⟩
    exact ⟨q, hq, by rw [← key q hq]; exact hh⟩
  · rintro ⟨q, hq, hh⟩
    exact ⟨q, hq, by rw [key q hq]; exact hh⟩
theorem one_val {t : List Int} {m : Int} (h : inK t m) {k : Nat} (hk : k < t.length) : t.getD k 0 = if oneQ t k then 1 else 0 := by
  have hv : t[k]? = some t[k] := List.getElem?_eq_getElem hk
  have h01 := h.2 t[k] (List.getElem_mem _)
  rw [List.getD_eq_getElem?_getD, hv]
  unfold oneQ
  rw [hv]
  by_cases h1 : t[k] = 1
  · simp [h1]
  · have : t[k] = 0 := by omega
    simp [this]
theorem form_val {c : TCircuit} (h : okC c) {k : Nat} (hk : k < 2 ^ c.fInputs.toNat) : (sumsF c).map (sumV ⟨c.fInputs, cubF c, sumsF c⟩ (nB (inp c.fInputs k c.fInputs.toNat) (inp c.fInputs k c.fInputs.toNat).length)) = evC c (inp c.fInputs k c.fInputs.toNat) := by
  have h16 := (q16 h.1).2
  have hnB : nB (inp c.fInputs k c.fInputs.toNat) (inp c.fInputs k c.fInputs.toNat).length = k := by
    rw [inp_len]
    have h4 := h.1
    exact nB_inp ⟨c.fInputs.toNat, by omega⟩ ⟨k, by omega⟩ hk
  rw [hnB]
  have hel := evC_len (c := c) (l := inp c.fInputs k c.fInputs.toNat)
  have hsl := sumsF_len (c := c)
  refine List.ext_getElem (by rw [List.length_map, hsl, hel]) fun i h1 h2 => ?_
  rw [List.length_map, hsl] at h1
  have ht : (tabT c (2 ^ c.fInputs.toNat) 0)[i]? = some (rowT c i (2 ^ c.fInputs.toNat)) := by
    unfold tabT
    rw [List.getElem?_map, List.getElem?_range h1]
    show some (rowT c i (if i < 0 then _ else _)) = _
    rw [if_neg (by omega)]
  have hcv := covs_get ht
  have hK := tab_inK h _ (List.mem_of_getElem? ht)
  have hs : (sumsF c)[i]? = some (sumK (cubF c) (cov c.fInputs (rowT c i (2 ^ c.fInputs.toNat))) (cubF c).length) := by
    unfold sumsF
    rw [List.getElem?_map, hcv]
    rfl
  have hs2 := (List.getElem?_eq_some_iff.1 hs).2
  rw [List.getElem_map, hs2]
  have hmem := List.mem_of_getElem? hcv
  have hrl : (rowT c i (2 ^ c.fInputs.toNat)).length = 2 ^ c.fInputs.toNat := rowT_len
  have hval : (rowT c i (2 ^ c.fInputs.toNat)).getD k 0 = (evC c (inp c.fInputs k c.fInputs.toNat))[i] := by
    unfold rowT
    rw [List.getD_eq_getElem?_getD, List.getElem?_map, List.getElem?_range hk]
    show (evC c (inp c.fInputs k c.fInputs.toNat)).getD i 0 = _
    rw [List.getD_eq_getElem?_getD, List.getElem?_eq_getElem h2]
    rfl
  rw [← hval, one_val hK (by rw [hrl]; exact hk)]
  unfold sumV
  rw [form_any hmem]
  have hiff := cov_has h.1 hK (i := k) (by rw [hrl]; exact hk)
  cases ho : oneQ (rowT c i (2 ^ c.fInputs.toNat)) k with
  | true =>
    obtain ⟨q, hq, hh⟩ := hiff.2 ho
    rw [show (cov c.fInputs (rowT c i (2 ^ c.fInputs.toNat))).any (fun q => hasQ q k) = true from List.any_eq_true.2 ⟨q, hq, hh⟩]
  | false =>
    rw [show (cov c.fInputs (rowT c i (2 ^ c.fInputs.toNat))).any (fun q => hasQ q k) = false from Bool.eq_false_iff.2 fun ha => by
      obtain ⟨q, hq, hh⟩ := List.any_eq_true.1 ha
      have := hiff.1 ⟨q, hq, hh⟩
      rw [ho] at this
      cases this]
end
end Go.Proofs.YtehkaajakapkmaaGreat
