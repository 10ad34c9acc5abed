/- What the laws do beside the functions, for the types only:Config. -/
import Derived.Test.YtnkfbodolbfjpaaDoorBel
namespace Go.Proofs.YtnkfbodolbfjpaaDoor
open Go.RowKit
set_option maxRecDepth 100000 in
def S.s6 : SC := (.seq (.reg [⟨(.some 2), .none, .false, (.box 24 (.tmp 0))⟩, ⟨(.some 4), .none, .false, (.mv (.const (Go.Value.int Go.IntKind.i64 0)))⟩]) (.seq (.reg [⟨(.some 5), .none, .false, (.fa 0 (.tmp 2))⟩, ⟨(.some 6), .none, .false, (.ld .false 1 (.tmp 5))⟩, ⟨(.some 7), .none, .false, (.mv (.tmp 1))⟩, ⟨(.some 8), .none, .false, (.call (.func 21) [(.tmp 6), (.tmp 7)])⟩, ⟨(.some 1), .none, .false, (.mv (.tmp 8))⟩]) (.seq (.seq (.reg [⟨(.some 9), .none, .false, (.mv (.tmp 1))⟩, ⟨(.some 10), .none, .false, (.bin .lss (.tmp 9) (.const (Go.Value.int Go.IntKind.i64 0)))⟩]) (.cond (.tmp 10) (.seq (.reg [⟨(.some 4), .none, .false, (.mv (.const (Go.Value.int Go.IntKind.i64 (-1))))⟩]) .ret) .skip)) (.seq (.reg [⟨(.some 11), .none, .false, (.mv (.tmp 1))⟩, ⟨(.some 4), .none, .false, (.mv (.tmp 11))⟩]) .ret))))
set_option maxRecDepth 100000 in
theorem S.ok6 : stripF Tryd.prog Tryd.f6 = some S.s6 := by kernel_rfl
set_option maxRecDepth 100000 in
def S.s8 : SC := (.seq (.reg [⟨(.some 1), .none, .false, (.box 24 (.tmp 0))⟩, ⟨(.some 2), .none, .false, (.al 27 [(Go.Value.slice none 0 0), (Go.Value.int Go.IntKind.i64 0), (Go.Value.int Go.IntKind.i64 0)])⟩]) (.seq (.reg [⟨(.some 3), .none, .false, (.al 27 [(Go.Value.slice none 0 0), (Go.Value.int Go.IntKind.i64 0), (Go.Value.int Go.IntKind.i64 0)])⟩]) (.seq (.reg [⟨(.some 4), .none, .false, (.fa 0 (.tmp 1))⟩, ⟨(.some 5), .none, .false, (.ld .false 1 (.tmp 4))⟩, ⟨(.some 6), .none, .false, (.call (.func 23) [(.tmp 5)])⟩, ⟨(.some 7), .none, .false, (.fa 0 (.tmp 3))⟩, ⟨.none, .none, .false, (.sto 1 (.tmp 7) (.tmp 6))⟩]) (.seq (.reg [⟨(.some 8), .none, .false, (.fa 1 (.tmp 1))⟩, ⟨(.some 9), .none, .false, (.ld .false 1 (.tmp 8))⟩, ⟨(.some 10), .none, .false, (.fa 1 (.tmp 3))⟩, ⟨.none, .none, .false, (.sto 1 (.tmp 10) (.tmp 9))⟩]) (.seq (.reg [⟨(.some 11), .none, .false, (.fa 2 (.tmp 1))⟩, ⟨(.some 12), .none, .false, (.ld .false 1 (.tmp 11))⟩, ⟨(.some 13), .none, .false, (.fa 2 (.tmp 3))⟩, ⟨.none, .none, .false, (.sto 1 (.tmp 13) (.tmp 12))⟩]) (.seq (.reg [⟨(.some 14), .none, .false, (.ld .true 3 (.tmp 3))⟩, ⟨.none, .none, .false, (.sto 3 (.tmp 2) (.tmp 14))⟩]) .ret))))))
set_option maxRecDepth 100000 in
theorem S.ok8 : stripF Tryd.prog Tryd.f8 = some S.s8 := by kernel_rfl
set_option maxRecDepth 100000 in
def S.s10 : SC := (.seq (.reg [⟨(.some 2), .none, .false, (.box 27 (.tmp 0))⟩, ⟨(.some 3), .none, .false, (.box 27 (.tmp 1))⟩, ⟨(.some 4), .none, .false, (.mv (.const (Go.Value.bool false)))⟩]) (.seq (.seq (.reg [⟨(.some 5), .none, .false, (.fa 0 (.tmp 2))⟩, ⟨(.some 6), .none, .false, (.ld .false 1 (.tmp 5))⟩, ⟨(.some 7), .none, .false, (.fa 0 (.tmp 3))⟩, ⟨(.some 8), .none, .false, (.ld .false 1 (.tmp 7))⟩, ⟨(.some 9), .none, .false, (.call (.func 27) [(.tmp 6), (.tmp 8)])⟩, ⟨(.some 10), .none, .false, (.not (.tmp 9))⟩]) (.cond (.tmp 10) (.seq (.reg [⟨(.some 4), .none, .false, (.mv (.const (Go.Value.bool false)))⟩]) .ret) .skip)) (.seq (.seq (.reg [⟨(.some 11), .none, .false, (.fa 1 (.tmp 2))⟩, ⟨(.some 12), .none, .false, (.ld .false 1 (.tmp 11))⟩, ⟨(.some 13), .none, .false, (.fa 1 (.tmp 3))⟩, ⟨(.some 14), .none, .false, (.ld .false 1 (.tmp 13))⟩, ⟨(.some 15), .none, .false, (.bin .neq (.tmp 12) (.tmp 14))⟩]) (.cond (.tmp 15) (.seq (.reg [⟨(.some 4), .none, .false, (.mv (.const (Go.Value.bool false)))⟩]) .ret) .skip)) (.seq (.seq (.reg [⟨(.some 16), .none, .false, (.fa 2 (.tmp 2))⟩, ⟨(.some 17), .none, .false, (.ld .false 1 (.tmp 16))⟩, ⟨(.some 18), .none, .false, (.fa 2 (.tmp 3))⟩, ⟨(.some 19), .none, .false, (.ld .false 1 (.tmp 18))⟩, ⟨(.some 20), .none, .false, (.bin .neq (.tmp 17) (.tmp 19))⟩]) (.cond (.tmp 20) (.seq (.reg [⟨(.some 4), .none, .false, (.mv (.const (Go.Value.bool false)))⟩]) .ret) .skip)) (.seq (.reg [⟨(.some 4), .none, .false, (.mv (.const (Go.Value.bool true)))⟩]) .ret)))))
set_option maxRecDepth 100000 in
theorem S.ok10 : stripF Tryd.prog Tryd.f10 = some S.s10 := by kernel_rfl
set_option maxRecDepth 10000
set_option maxHeartbeats 4000000
structure TConfig where
  fTape : List Int
  fHead : Int
  fState : Int
abbrev enConfig (x : TConfig) : List D := [.rd kI (x.fTape.map enI), iD x.fHead, iD x.fState]
abbrev kConfig : Ky := ⟨27, 3⟩
def szConfig (x : TConfig) (left : Int) : Int := (fun left => (fun (l : List Int) left => szV left l.length) x.fTape left) left
def bdConfig (x : TConfig) : Prop := (fun (l : List Int) => l.length ≤ 1048576) x.fTape
theorem rngConfig (x : TConfig) (q : Int) (h : rng q) : rng (szConfig x q) := by
  unfold szConfig
  repeat (first | assumption | intro _ | with_reducible apply rng_V | with_reducible apply rng_Sq | with_reducible apply rng_S)
theorem gdConfig (x : TConfig) (q : Int) (h : rng q) (h0 : 0 ≤ szConfig x q) : bdConfig x := by
  unfold szConfig at h0
  unfold bdConfig
  skip
  all_goals (repeat (first | assumption | intro _ | (refine gd_V ?_ (by assumption)) | (refine gd_S ?_ ?_ ?_ (by assumption)) | with_reducible apply rng_V | with_reducible apply rng_Sq | with_reducible apply rng_S))
theorem szConfig_ok (x : TConfig) (left : Int) (h : rng left) : Spec Tryd.prog 6 [.agg (enConfig x), vI left] (oI (szConfig x left)) := by
  refine Spec.walk T.mixed Tryd.func6 S.ok6 (by simp [Tryd.f6]) fun hk => ?_
  have hr0 := h
  unfold rng at hr0
  have hq0 := rngConfig x left h
  unfold rng szConfig at hq0
  (try unfold szSq at hq0)
  unfold S.s6
  repeat' (first | refine R.mv rfl ?_ | refine R.reg ?_ | refine R.nil ?_ | refine R.seq ?_ | refine R.nseq ?_ | refine R.nblk ?_ | refine R.skip ?_ | refine R.blk ?_ | refine R.exit rfl ?_ | refine R.ldEp rfl rfl (by assumption) rfl rfl ?_ | refine R.ldaEp rfl rfl (by assumption) (Nat.le_of_ble_eq_true rfl) rfl rfl ?_ | refine R.ld rfl rfl rfl ?_ | refine R.lda rfl rfl (Nat.le_of_ble_eq_true rfl) rfl ?_ | refine R.fa rfl rfl ?_ | refine R.lss rfl rfl ?_ | refine R.box rfl rfl rfl ?_ | refine R.condT rfl ?_ | refine R.condF rfl ?_ | refine R.call (bor := false) rfl rfl (szI_ok _ _ (by repeat (first | assumption | intro _ | with_reducible apply rng_V | with_reducible apply rng_Sq | with_reducible apply rng_S | with_reducible apply rng_Lp | with_reducible apply rngConfig | (unfold rng; apply And.intro <;> omega)))) rfl rfl rfl ?_ | refine R.call (bor := true) rfl rfl (szI_ok _ _ (by repeat (first | assumption | intro _ | with_reducible apply rng_V | with_reducible apply rng_Sq | with_reducible apply rng_S | with_reducible apply rng_Lp | with_reducible apply rngConfig | (unfold rng; apply And.intro <;> omega)))) rfl rfl rfl ?_ | refine R.fcal (bor := false) rfl rfl (szI_ok _ _ (by repeat (first | assumption | intro _ | with_reducible apply rng_V | with_reducible apply rng_Sq | with_reducible apply rng_S | with_reducible apply rng_Lp | with_reducible apply rngConfig | (unfold rng; apply And.intro <;> omega)))) rfl rfl rfl ?_ | refine R.fcal (bor := true) rfl rfl (szI_ok _ _ (by repeat (first | assumption | intro _ | with_reducible apply rng_V | with_reducible apply rng_Sq | with_reducible apply rng_S | with_reducible apply rng_Lp | with_reducible apply rngConfig | (unfold rng; apply And.intro <;> omega)))) rfl rfl rfl ?_ | refine R.cond rfl (fun hc => ?_) (fun hc => ?_) | refine R.condN rfl (fun hc => ?_) (fun hc => ?_) | refine R.condB rfl (fun hc => ?_) (fun hc => ?_))
  all_goals refine R.ret ⟨.inr rfl, R.outI rfl rfl ?_⟩
  all_goals unfold szConfig
  all_goals (try unfold szSq); (try unfold szV at *)
  all_goals simp_all
  all_goals omega
theorem toConfig_ok (x : TConfig) (h : bdConfig x) : Spec Tryd.prog 8 [.agg (enConfig x)] (.v (.agg [.nw kI (x.fTape.map enI), .fz (iD x.fHead), .fz (iD x.fState)])) := by
  refine Spec.walk T.mixed Tryd.func8 S.ok8 (by simp [Tryd.f8]) fun hk => ?_
  unfold S.s8
  repeat' (first | refine R.mv rfl ?_ | refine R.reg ?_ | refine R.nil ?_ | refine R.seq ?_ | refine R.nseq ?_ | refine R.nblk ?_ | refine R.skip ?_ | refine R.blk ?_ | refine R.exit rfl ?_ | refine R.ldEp rfl rfl (by assumption) rfl rfl ?_ | refine R.ldaEp rfl rfl (by assumption) (Nat.le_of_ble_eq_true rfl) rfl rfl ?_ | refine R.ld rfl rfl rfl ?_ | refine R.lda rfl rfl (Nat.le_of_ble_eq_true rfl) rfl ?_ | refine R.fa rfl rfl ?_ | refine R.al rfl ?_ | refine R.box rfl rfl rfl ?_ | refine R.stoB rfl rfl rfl rfl ⟨rfl, rfl, Nat.le_of_ble_eq_true rfl⟩ rfl ?_ | refine R.stoE _ rfl rfl rfl rfl rfl (by assumption) rfl ⟨rfl, rfl, Nat.le_of_ble_eq_true rfl⟩ ?_ | refine R.condT rfl ?_ | refine R.condF rfl ?_ | refine R.callN1 (bor := false) rfl rfl (toI_ok x.fTape (h)) rfl rfl ?_ | refine R.callN1 (bor := true) rfl rfl (toI_ok x.fTape (h)) rfl rfl ?_ | refine R.callN (bor := false) rfl rfl (toI_ok x.fTape (h)) rfl rfl rfl rfl rfl ?_ | refine R.callN (bor := true) rfl rfl (toI_ok x.fTape (h)) rfl rfl rfl rfl rfl ?_ | refine R.cond rfl (fun hc => ?_) (fun hc => ?_) | refine R.condN rfl (fun hc => ?_) (fun hc => ?_) | refine R.condB rfl (fun hc => ?_) (fun hc => ?_))
  exact R.ret ⟨.inr rfl, R.outR rfl (.cons (R.cell rfl rfl T.ty27 (Nat.le_of_ble_eq_true rfl) rfl) .nil) rfl rfl rfl rfl⟩
theorem eqConfig_ok (x : TConfig) : Spec Tryd.prog 10 [.agg (enConfig x), .agg (enConfig x)] (oB true) := by
  refine Spec.walk T.mixed Tryd.func10 S.ok10 (by simp [Tryd.f10]) fun hk => ?_
  unfold S.s10
  repeat' (first | refine R.mv rfl ?_ | refine R.reg ?_ | refine R.nil ?_ | refine R.seq ?_ | refine R.nseq ?_ | refine R.nblk ?_ | refine R.skip ?_ | refine R.blk ?_ | refine R.exit rfl ?_ | refine R.ldEp rfl rfl (by assumption) rfl rfl ?_ | refine R.ldaEp rfl rfl (by assumption) (Nat.le_of_ble_eq_true rfl) rfl rfl ?_ | refine R.ld rfl rfl rfl ?_ | refine R.lda rfl rfl (Nat.le_of_ble_eq_true rfl) rfl ?_ | refine R.fa rfl rfl ?_ | refine R.neq rfl rfl ?_ | refine R.not rfl ?_ | refine R.box rfl rfl rfl ?_ | refine R.condT rfl ?_ | refine R.condF rfl ?_ | refine R.call (bor := false) rfl rfl (eqI_ok _) rfl rfl rfl ?_ | refine R.call (bor := true) rfl rfl (eqI_ok _) rfl rfl rfl ?_ | refine R.fcal (bor := false) rfl rfl (eqI_ok _) rfl rfl rfl ?_ | refine R.fcal (bor := true) rfl rfl (eqI_ok _) rfl rfl rfl ?_ | refine R.cond rfl (fun hc => ?_) (fun hc => ?_) | refine R.condN rfl (fun hc => ?_) (fun hc => ?_) | refine R.condB rfl (fun hc => ?_) (fun hc => ?_))
  all_goals first | (exfalso; simp_all; done) | exact R.ret ⟨.inr rfl, R.outB rfl rfl rfl⟩
def mkConfig (x : TConfig) (k : Int) : TConfig := ⟨(mkS mI c1 x.fTape (k)), x.fHead, x.fState⟩
def cnConfig (x : TConfig) : Nat := cnt c1 x.fTape
end Go.Proofs.YtnkfbodolbfjpaaDoor
