/- Grd0 and Grd1. -/
import Derived.Test.YtnkfbodolbfjpaaMrgB
import Derived.Test.YtnkfbodolbfjpaaUniq1
namespace Go.Proofs.Ytnkfbodolbfjpaa
open Go.RowKit
set_option maxRecDepth 100000 in
def S.s52 : SC := (.seq (.reg [⟨(.some 1), .none, .false, (.box 54 (.tmp 0))⟩, ⟨(.some 2), .none, .false, (.al 86 [(Go.Value.slice none 0 0), (Go.Value.slice none 0 0), (Go.Value.slice none 0 0)])⟩, ⟨(.some 3), .none, .false, (.mv (.const (Go.Value.int Go.IntKind.i64 0)))⟩]) (.seq (.block 0 (.seq (.reg [⟨(.some 7), .none, .false, (.ld .true 3 (.tmp 1))⟩, ⟨(.some 8), .none, .false, (.call (.func 89) [(.tmp 7)])⟩, ⟨(.some 9), .none, .false, (.not (.tmp 8))⟩, ⟨(.some 6), .none, .false, (.mv (.tmp 9))⟩]) (.cond (.tmp 6) (.seq (.reg [⟨(.some 10), .none, .false, (.bld [(Go.Value.slice none 0 0), (Go.Value.slice none 0 0), (Go.Value.slice none 0 0)] [(0, 1), (1, 1), (2, 1)] [])⟩, ⟨.none, .none, .false, (.sto 3 (.tmp 2) (.tmp 10))⟩, ⟨(.some 3), .none, .false, (.mv (.const (Go.Value.int Go.IntKind.i64 1)))⟩]) .ret) (.seq (.reg [⟨(.some 12), .none, .false, (.fa 2 (.tmp 1))⟩, ⟨(.some 13), .none, .false, (.ld .false 1 (.tmp 12))⟩, ⟨(.some 14), .none, .false, (.len (.tmp 13))⟩, ⟨(.some 15), .none, .false, (.bin .gtr (.tmp 14) (.const (Go.Value.int Go.IntKind.i64 25)))⟩, ⟨(.some 11), .none, .false, (.mv (.tmp 15))⟩]) (.cond (.tmp 11) (.seq (.reg [⟨(.some 16), .none, .false, (.bld [(Go.Value.slice none 0 0), (Go.Value.slice none 0 0), (Go.Value.slice none 0 0)] [(0, 1), (1, 1), (2, 1)] [])⟩, ⟨.none, .none, .false, (.sto 3 (.tmp 2) (.tmp 16))⟩, ⟨(.some 3), .none, .false, (.mv (.const (Go.Value.int Go.IntKind.i64 4)))⟩]) .ret) .skip))))) (.seq (.reg [⟨(.some 17), .none, .false, (.ld .true 3 (.tmp 1))⟩, ⟨(.some 18), .none, .false, (.call (.func 121) [(.tmp 17)])⟩, ⟨(.some 4), .none, .false, (.al 86 [(Go.Value.slice none 0 0), (Go.Value.slice none 0 0), (Go.Value.slice none 0 0)])⟩, ⟨.none, .none, .false, (.sto 3 (.tmp 4) (.tmp 18))⟩]) (.seq (.seq (.reg [⟨(.some 5), .none, .false, (.mv (.const (Go.Value.bool true)))⟩]) (.block 1 (.loop (.seq (.seq (.reg [⟨(.some 19), .none, .false, (.mv (.tmp 5))⟩]) (.cond (.tmp 19) .skip (.exit 1))) (.block 2 (.reg [⟨(.some 21), .none, .false, (.ld .true 3 (.tmp 4))⟩, ⟨(.some 22), .none, .false, (.call (.func 122) [(.tmp 21)])⟩, ⟨(.some 20), .none, .false, (.mv (.tmp 22))⟩, ⟨(.some 23), .none, .false, (.ext (.tmp 20) 0)⟩, ⟨(.some 24), .none, .false, (.ext (.tmp 20) 1)⟩, ⟨.none, .none, .false, (.sto 3 (.tmp 4) (.tmp 23))⟩, ⟨(.some 5), .none, .false, (.mv (.tmp 24))⟩])))))) (.seq (.reg [⟨(.some 25), .none, .false, (.ld .true 3 (.tmp 4))⟩, ⟨.none, .none, .false, (.sto 3 (.tmp 2) (.tmp 25))⟩, ⟨(.some 3), .none, .false, (.mv (.const (Go.Value.int Go.IntKind.i64 0)))⟩]) .ret)))))
set_option maxRecDepth 100000 in
theorem S.ok52 : stripF Try.prog Try.f52 = some S.s52 := by kernel_rfl
set_option maxRecDepth 100000 in
def S.s122 : SC := (.seq (.reg [⟨(.some 1), .none, .false, (.box 86 (.tmp 0))⟩, ⟨(.some 2), .none, .false, (.al 86 [(Go.Value.slice none 0 0), (Go.Value.slice none 0 0), (Go.Value.slice none 0 0)])⟩, ⟨(.some 3), .none, .false, (.mv (.const (Go.Value.bool false)))⟩]) (.seq (.seq (.reg [⟨(.some 8), .none, .false, (.fa 2 (.tmp 1))⟩, ⟨(.some 9), .none, .false, (.ld .false 1 (.tmp 8))⟩, ⟨(.some 10), .none, .false, (.len (.tmp 9))⟩, ⟨(.some 11), .none, .false, (.mv (.const (Go.Value.int Go.IntKind.i64 0)))⟩]) (.block 0 (.loop (.seq (.reg [⟨(.some 12), .none, .false, (.bin .lss (.tmp 11) (.tmp 10))⟩]) (.seq (.cond (.tmp 12) .skip (.exit 0)) (.seq (.block 1 (.seq (.reg [⟨(.some 13), .none, .false, (.mv (.tmp 11))⟩, ⟨(.some 4), .none, .false, (.mv (.tmp 13))⟩]) (.seq (.reg [⟨(.some 14), .none, .false, (.mv (.tmp 4))⟩, ⟨(.some 15), .none, .false, (.mv (.const (Go.Value.int Go.IntKind.i64 0)))⟩]) (.block 2 (.loop (.seq (.reg [⟨(.some 16), .none, .false, (.bin .lss (.tmp 15) (.tmp 14))⟩]) (.seq (.cond (.tmp 16) .skip (.exit 2)) (.seq (.block 3 (.seq (.reg [⟨(.some 17), .none, .false, (.mv (.tmp 15))⟩, ⟨(.some 5), .none, .false, (.mv (.tmp 17))⟩]) (.seq (.reg [⟨(.some 19), .none, .false, (.ld .true 3 (.tmp 1))⟩, ⟨(.some 20), .none, .false, (.mv (.tmp 4))⟩, ⟨(.some 21), .none, .false, (.mv (.tmp 5))⟩, ⟨(.some 22), .none, .false, (.call (.func 115) [(.tmp 19), (.tmp 20), (.tmp 21)])⟩, ⟨(.some 18), .none, .false, (.mv (.tmp 22))⟩, ⟨(.some 23), .none, .false, (.ext (.tmp 18) 0)⟩, ⟨(.some 24), .none, .false, (.ext (.tmp 18) 1)⟩, ⟨(.some 6), .none, .false, (.al 86 [(Go.Value.slice none 0 0), (Go.Value.slice none 0 0), (Go.Value.slice none 0 0)])⟩, ⟨.none, .none, .false, (.sto 3 (.tmp 6) (.tmp 23))⟩, ⟨(.some 7), .none, .false, (.mv (.tmp 24))⟩]) (.seq (.reg [⟨(.some 25), .none, .false, (.mv (.tmp 7))⟩]) (.cond (.tmp 25) (.seq (.reg [⟨(.some 26), .none, .false, (.ld .true 3 (.tmp 6))⟩, ⟨.none, .none, .false, (.sto 3 (.tmp 2) (.tmp 26))⟩, ⟨(.some 3), .none, .false, (.mv (.const (Go.Value.bool true)))⟩]) .ret) .skip))))) (.reg [⟨(.some 27), .none, .false, (.bin .add (.tmp 15) (.const (Go.Value.int Go.IntKind.i64 1)))⟩, ⟨(.some 15), .none, .false, (.mv (.tmp 27))⟩]))))))))) (.reg [⟨(.some 28), .none, .false, (.bin .add (.tmp 11) (.const (Go.Value.int Go.IntKind.i64 1)))⟩, ⟨(.some 11), .none, .false, (.mv (.tmp 28))⟩]))))))) (.seq (.reg [⟨(.some 29), .none, .false, (.ld .true 3 (.tmp 1))⟩, ⟨.none, .none, .false, (.sto 3 (.tmp 2) (.tmp 29))⟩, ⟨(.some 3), .none, .false, (.mv (.const (Go.Value.bool false)))⟩]) .ret)))
set_option maxRecDepth 100000 in
theorem S.ok122 : stripF Try.prog Try.f122 = some S.s122 := by kernel_rfl
set_option maxRecDepth 20000
set_option maxHeartbeats 8000000
def sw2 (p q o : Nat) : Nat := if o = p then q else if o = q then p else o
theorem sw2_sw2 (p q o : Nat) : sw2 p q (sw2 p q o) = o := by
  unfold sw2
  by_cases h1 : o = p
  · subst h1
    rw [if_pos rfl]
    by_cases h2 : q = o
    · subst h2; simp
    · rw [if_neg h2, if_pos rfl]
  · rw [if_neg h1]
    by_cases h2 : o = q
    · subst h2; rw [if_pos rfl, if_pos rfl]
    · rw [if_neg h2, if_neg h1, if_neg h2]
theorem sw2_pin {p q o : Nat} (hp : p < pinN) (hq : q < pinN) (ho : pinN ≤ o) : sw2 p q o = o := by
  unfold sw2
  rw [if_neg (by omega), if_neg (by omega)]
def St.swap (p q : Nat) (st : St) : St := ⟨fun d => (st.env d).ren (sw2 p q), fun o => (st.objs (sw2 p q o)).map (Ob.ren (sw2 p q))⟩
/-- Two objects change their names. -/
theorem Weak.swap {st : St} (p q : Nat) (hp : Nat.blt p pinN = true) (hq : Nat.blt q pinN = true) : Weak st (st.swap p q) := fun F R ι φ a w hs => by
  have hp : p < pinN := Nat.le_of_ble_eq_true hp
  have hq : q < pinN := Nat.le_of_ble_eq_true hq
  have hσ : ∀ j, st.dom j → (st.swap p q).dom (sw2 p q j) ∧ (fun o => ι (sw2 p q o)) (sw2 p q j) = ι j := fun j ⟨x, hx⟩ =>
    ⟨⟨x.ren (sw2 p q), by show (st.objs (sw2 p q (sw2 p q j))).map _ = _; rw [sw2_sw2, hx]; rfl⟩, by show ι (sw2 p q (sw2 p q j)) = _; rw [sw2_sw2]⟩
  have hob : ∀ o x, (st.swap p q).objs o = some x → ∃ y, st.objs (sw2 p q o) = some y ∧ x = y.ren (sw2 p q) := fun o x hx => by
    have hx : (st.objs (sw2 p q o)).map (Ob.ren (sw2 p q)) = some x := hx
    cases hy : st.objs (sw2 p q o) with
    | none => rw [hy] at hx; cases hx
    | some y => rw [hy] at hx; cases hx; exact ⟨y, rfl, rfl⟩
  refine ⟨R, fun o => ι (sw2 p q o), fun o => φ (sw2 p q o), hs.below, hs.rlt, hs.rsub, hs.rnew, hs.size, hs.defers, fun d => RA.ren hσ (.inl fun _ h => h) (hs.env d), fun o x hx => ?_, fun o x hx => ?_, fun o o' x x' g hx hx' h1 h2 => ?_, fun o ho => ?_⟩
  · obtain ⟨y, hy, rfl⟩ := hob o x hx
    exact RO.ren hσ (.inl fun _ h => h) (hs.objs _ y hy)
  · obtain ⟨y, hy, rfl⟩ := hob o x hx
    exact hs.mine _ y hy
  · obtain ⟨y, hy, rfl⟩ := hob o x hx
    obtain ⟨y', hy', rfl⟩ := hob o' x' hx'
    have := hs.apart _ _ y y' g hy hy' h1 h2
    rw [← sw2_sw2 p q o, this, sw2_sw2]
  · show ι (sw2 p q o) = _
    rw [sw2_pin hp hq ho]
    exact hs.pin o ho
-- what a merge leaves
theorem nm_bd {l : List Int} (h1 : nnL l) (h2 : ∀ k ∈ l, k ≤ 119) (a : Int) : 0 ≤ nm l a ∧ nm l a ≤ 119 := by
  refine ⟨nm_nn h1 a, ?_⟩
  unfold nm
  rw [List.getD]
  cases hx : l[a.toNat]? with
  | none => show (0 : Int) ≤ 119; omega
  | some x => have := h2 x (List.mem_of_getElem? hx); show x ≤ 119; omega
theorem foldP_pw : ∀ {l out : List TPiece}, out.Pairwise (fun a b => ¬ sk a b) → (l.foldl addP out).Pairwise (fun a b => ¬ sk a b)
  | [], _, h => h
  | p :: l, out, h => by
    refine foldP_pw (l := l) ?_
    by_cases hh : has2 out p
    · rw [addP_old hh]; exact h
    · rw [addP_new hh]
      exact List.pairwise_append.2 ⟨h, by simp, fun a ha b hb hk => by
        rw [List.mem_singleton.1 hb] at hk
        exact hh ⟨a, ha, hk⟩⟩
theorem okDes_out {d : TDesign} {s : S2} (hd : okDes d) (hl : Lat i2 s) : okDes (outM d s) := by
  obtain ⟨⟨hB1, hB2⟩, ⟨hL1, hL2⟩, hPn, hP⟩ := hd
  have hn := hl.n ⟨ids_nn, ids_nn⟩
  have hu := hl.u 119 ⟨ids_le, ids_le⟩
  have h1 := nm_bd hn.1 hu.1
  have h2 := nm_bd hn.2 hu.2
  refine ⟨⟨?_, fun n hn => ?_⟩, ⟨?_, fun n hn => ?_⟩, ?_, fun i v hv => ⟨?_, fun k u hki hu' hk => ?_⟩⟩
  · show 1 ≤ ((d.fBottom.map (nm s.1)).length : Int) ∧ ((d.fBottom.map (nm s.1)).length : Int) ≤ 10
    rw [List.length_map]; exact hB1
  · obtain ⟨a, _, rfl⟩ := List.mem_map.1 hn; exact h1 a
  · show 1 ≤ ((d.fLeft.map (nm s.2)).length : Int) ∧ ((d.fLeft.map (nm s.2)).length : Int) ≤ 10
    rw [List.length_map]; exact hL1
  · obtain ⟨a, _, rfl⟩ := List.mem_map.1 hn; exact h2 a
  · exact Nat.le_trans dedP_len (by rw [List.length_map]; exact hPn)
  · obtain ⟨p, hp, rfl⟩ := List.mem_map.1 (dedP_mem (List.mem_of_getElem? hv))
    obtain ⟨j, hj⟩ := List.getElem?_of_mem hp
    exact ⟨(hP j p hj).1.1, h1 _, h2 _, h1 _, h2 _⟩
  · have hpw : (dedP (d.fPieces.map (pcM s))).Pairwise (fun a b => ¬ sk a b) := foldP_pw .nil
    have hv : (dedP (d.fPieces.map (pcM s)))[i]? = some v := hv
    have hu' : (dedP (d.fPieces.map (pcM s)))[k]? = some u := hu'
    obtain ⟨hi, rfl⟩ := List.getElem?_eq_some_iff.1 hv
    obtain ⟨hk', rfl⟩ := List.getElem?_eq_some_iff.1 hu'
    exact List.pairwise_iff_getElem.1 hpw k i hk' hi hki hk
theorem dedP_lt {l : List TPiece} {a b : Nat} {p q : TPiece} (hab : a < b) (ha : l[a]? = some p) (hb : l[b]? = some q) (h : sk p q) : ∀ {n : Nat}, b < n → n ≤ l.length → (dedP (l.take n)).length < n
  | 0, h1, _ => by omega
  | n + 1, h1, h2 => by
    obtain ⟨r, hr⟩ : ∃ r, l[n]? = some r := ⟨_, List.getElem?_eq_getElem (by omega)⟩
    rw [dedP_snoc hr]
    by_cases hbn : b = n
    · subst hbn
      rw [hb] at hr; cases hr
      have hp : p ∈ l.take b := List.mem_of_getElem? (i := a) (by rw [List.getElem?_take_of_lt hab]; exact ha)
      obtain ⟨p', hp', hk'⟩ := dedP_has hp
      rw [addP_old ⟨p', hp', hk'.trans h⟩]
      exact Nat.lt_succ_of_le (Nat.le_trans dedP_len (by simp; omega))
    · have := dedP_lt hab ha hb h (n := n) (by omega) (by omega)
      by_cases hh : has2 (dedP (l.take n)) r
      · rw [addP_old hh]; omega
      · rw [addP_new hh, List.length_append, List.length_singleton]; omega
noncomputable def hitB (d : TDesign) (i k : Nat) : Bool := (fMrg d (pAt d i) (pAt d k)).2
noncomputable def mrgD (d : TDesign) (i k : Nat) : TDesign := (fMrg d (pAt d i) (pAt d k)).1
theorem pAt_nat {d : TDesign} {i : Nat} (h : i < d.fPieces.length) : d.fPieces[i]? = some (pAt d i) := pAt_get (i := (i : Int)) ⟨by omega, by omega⟩
theorem hit_ok {d : TDesign} {i k : Nat} (hd : okDes d) (hi : i < d.fPieces.length) (hk : k < i) (h : hitB d i k = true) : okDes (mrgD d i k) ∧ (mrgD d i k).fPieces.length < d.fPieces.length := by
  have e : mrgD d i k = outM d (fin d.fPieces (s0M (pAt d i) (pAt d k))) := by
    unfold mrgD
    unfold hitB at h
    unfold fMrg at h ⊢
    split
    · rename_i h'; rw [if_pos h'] at h; cases h
    · rfl
  have hl : Lat i2 (fin d.fPieces (s0M (pAt d i) (pAt d k))) := (Lat.s0 _ _).trans (Lat.fin _ _)
  rw [e]
  refine ⟨okDes_out hd hl, ?_⟩
  have gi := pAt_nat hi
  have gk := pAt_nat (Nat.lt_trans hk hi)
  have oi := (hd.2.2.2 i _ gi).1
  have ok' := (hd.2.2.2 k _ gk).1
  have hs := i2_in.lat (Lat.s0 (pAt d i) (pAt d k))
  have hm : In2 (jn ids (pAt d i).fSouth (pAt d k).fSouth, jn ids (pAt d i).fWest (pAt d k).fWest) := ⟨by rw [jn_len]; exact ids_len, by rw [jn_len]; exact ids_len⟩
  have hkq : keq (s0M (pAt d i) (pAt d k)) (pAt d i) (pAt d k) :=
    (Lat.outl (jn ids (pAt d i).fSouth (pAt d k).fSouth, jn ids (pAt d i).fWest (pAt d k).fWest) (pAt d i) (pAt d k)).keq (hm.pc oi) (hm.pc ok') ⟨jn_eq (inN_len ids_len oi.2.2.2.1) (inN_len ids_len ok'.2.2.2.1), jn_eq (inN_len ids_len oi.2.2.2.2) (inN_len ids_len ok'.2.2.2.2)⟩
  have hkf := (Lat.fin d.fPieces (s0M (pAt d i) (pAt d k))).keq (hs.pc oi) (hs.pc ok') hkq
  have hsk : sk (pcM (fin d.fPieces (s0M (pAt d i) (pAt d k))) (pAt d k)) (pcM (fin d.fPieces (s0M (pAt d i) (pAt d k))) (pAt d i)) := ⟨hkf.1.symm, hkf.2.symm⟩
  have hlen : (d.fPieces.map (pcM (fin d.fPieces (s0M (pAt d i) (pAt d k))))).length = d.fPieces.length := List.length_map ..
  have := dedP_lt (l := d.fPieces.map (pcM (fin d.fPieces (s0M (pAt d i) (pAt d k))))) hk (by rw [List.getElem?_map, gk]; rfl) (by rw [List.getElem?_map, gi]; rfl) hsk hi (by rw [hlen]; exact Nat.le_refl _)
  rw [← hlen, List.take_length, hlen] at this
  exact this
/-- The first pair that can be merged. -/
def isHit (d : TDesign) (ik : Nat × Nat) : Prop := ik.2 < ik.1 ∧ ik.1 < d.fPieces.length ∧ hitB d ik.1 ik.2 = true
def isFirst (d : TDesign) (i k : Nat) : Prop := isHit d (i, k) ∧ ∀ i' k', (i' < i ∨ i' = i ∧ k' < k) → k' < i' → hitB d i' k' = false
theorem first_ex {d : TDesign} : ∀ {n : Nat} {i k : Nat}, i ≤ n → isHit d (i, k) → ∃ i k, isFirst d i k
  | n, i, k, hn, h => by
    by_cases hr : ∃ k', k' < k ∧ hitB d i k' = true
    · obtain ⟨k', h1, h2⟩ := hr
      exact first_ex (k := k') hn ⟨Nat.lt_trans h1 h.1, h.2.1, h2⟩
    · by_cases hi : ∃ i' k', i' < i ∧ k' < i' ∧ hitB d i' k' = true
      · obtain ⟨i', k', h1, h2, h3⟩ := hi
        exact first_ex (n := n - 1) (i := i') (k := k') (by omega) ⟨h2, Nat.lt_trans h1 h.2.1, h3⟩
      · refine ⟨i, k, h, fun i' k' h1 h2 => Bool.eq_false_iff.2 fun h3 => ?_⟩
        rcases h1 with h1 | ⟨rfl, h1⟩
        · exact hi ⟨i', k', h1, h2, h3⟩
        · exact hr ⟨k', h1, h3⟩
termination_by n _ k => (n, k)
decreasing_by all_goals simp_wf; first | (right; exact h1) | (left; omega)
theorem first_uniq {d : TDesign} {i k i' k' : Nat} (h : isFirst d i k) (h' : isFirst d i' k') : i = i' ∧ k = k' := by
  have a1 : ¬ (i' < i ∨ i' = i ∧ k' < k) := fun e => by have := h.2 i' k' e h'.1.1; rw [h'.1.2.2] at this; cases this
  have a2 : ¬ (i < i' ∨ i = i' ∧ k < k') := fun e => by have := h'.2 i k e h.1.1; rw [h.1.2.2] at this; cases this
  omega
open Classical in
noncomputable def gStep (d : TDesign) : Option TDesign := if h : ∃ i k, isFirst d i k then some (mrgD d h.choose h.choose_spec.choose) else none
theorem gStep_some {d x : TDesign} (h : gStep d = some x) : ∃ i k, isFirst d i k ∧ x = mrgD d i k := by
  unfold gStep at h
  split at h
  · rename_i hx
    cases h
    exact ⟨_, _, hx.choose_spec.choose_spec, rfl⟩
  · cases h
theorem gStep_none {d : TDesign} (h : gStep d = none) {i k : Nat} (hi : i < d.fPieces.length) (hk : k < i) : hitB d i k = false := by
  unfold gStep at h
  split at h
  · cases h
  · rename_i hx
    exact Bool.eq_false_iff.2 fun he => hx (first_ex (Nat.le_refl i) ⟨hk, hi, he⟩)
theorem gStep_ok {d x : TDesign} (hd : okDes d) (h : gStep d = some x) : okDes x ∧ x.fPieces.length < d.fPieces.length := by
  obtain ⟨i, k, hf, rfl⟩ := gStep_some h
  exact hit_ok hd hf.1.2.1 hf.1.1 hf.1.2.2
noncomputable def gFin : Nat → TDesign → TDesign
  | 0, d => d
  | n + 1, d => match gStep d with
    | none => d
    | some x => gFin n x
theorem gFin_none {d : TDesign} (h : gStep d = none) : ∀ n, gFin n d = d
  | 0 => rfl
  | n + 1 => by show (match gStep d with | none => d | some x => gFin n x) = d; rw [h]
theorem gFin_some {d x : TDesign} (h : gStep d = some x) (n : Nat) : gFin (n + 1) d = gFin n x := by
  show (match gStep d with | none => d | some x => gFin n x) = _
  rw [h]
theorem pcL_get {p : TPattern} {n i : Nat} {v : TPiece} (h : (pcL p n)[i]? = some v) : i < n ∧ v = pcU p i := by
  obtain ⟨hi, rfl⟩ := List.getElem?_eq_some_iff.1 h
  have hi' : i < n := by rwa [pcL_len] at hi
  exact ⟨hi', by simp [pcL]⟩
theorem okDes_uniq {p : TPattern} (h : okPat p) (hn : p.fCells.length ≤ 25) : okDes (fUniq p) := by
  obtain ⟨hW, hH, hl, hcs⟩ := h
  refine ⟨⟨?_, fun n hn => ?_⟩, ⟨?_, fun n hn => ?_⟩, ?_, fun i v hv => ?_⟩
  · show 1 ≤ ((botL p.fWidth.toNat).length : Int) ∧ ((botL p.fWidth.toNat).length : Int) ≤ 10
    rw [botL_len]; omega
  · obtain ⟨k, hk, rfl⟩ := List.mem_map.1 hn
    have := List.mem_range.1 hk
    omega
  · show 1 ≤ ((lefL p.fWidth p.fHeight.toNat).length : Int) ∧ ((lefL p.fWidth p.fHeight.toNat).length : Int) ≤ 10
    rw [lefL_len]; omega
  · obtain ⟨k, hk, rfl⟩ := List.mem_map.1 hn
    have hk := List.mem_range.1 hk
    have h1 : (k : Int) * (p.fWidth + 1) ≤ 9 * 11 := Int.mul_le_mul (by omega) (by omega) (by omega) (by omega)
    have h2 : 0 ≤ (k : Int) * (p.fWidth + 1) := Int.mul_nonneg (by omega) (by omega)
    omega
  · show (pcL p p.fCells.length).length ≤ 100
    rw [pcL_len]; omega
  · obtain ⟨hi, rfl⟩ := pcL_get hv
    have hq0 : 0 ≤ (i : Int) / p.fWidth := Int.ediv_nonneg (by omega) (by omega)
    have hq1 : (i : Int) / p.fWidth ≤ i := Int.ediv_le_self _ (by omega)
    refine ⟨⟨?_, ?_, ?_, ?_, ?_⟩, fun k u hk hu he => ?_⟩
    · show 0 ≤ p.fCells.getD i 0 ∧ p.fCells.getD i 0 ≤ 5
      rw [List.getD, List.getElem?_eq_getElem hi]
      exact hcs _ (List.getElem_mem hi)
    · show 0 ≤ (i : Int) + p.fWidth ∧ (i : Int) + p.fWidth ≤ 119; omega
    · show 0 ≤ (i : Int) + (i : Int) / p.fWidth + 1 ∧ (i : Int) + (i : Int) / p.fWidth + 1 ≤ 119; omega
    · show 0 ≤ (i : Int) ∧ (i : Int) ≤ 119; omega
    · show 0 ≤ (i : Int) + (i : Int) / p.fWidth ∧ (i : Int) + (i : Int) / p.fWidth ≤ 119; omega
    · obtain ⟨_, rfl⟩ := pcL_get hu
      have : (k : Int) = (i : Int) := he.1
      omega
open Classical in
noncomputable def fGrd (p : TPattern) : TDesign × Int := if okPat p then (if p.fCells.length ≤ 25 then (gFin (fUniq p).fPieces.length (fUniq p), 0) else (eD, 4)) else (eD, 1)
theorem gFin_bd : ∀ {n : Nat} {d : TDesign}, okDes d → okDes (gFin n d)
  | 0, _, h => h
  | n + 1, d, h => by
    cases hg : gStep d with
    | none => rw [gFin_none hg]; exact h
    | some x => rw [gFin_some hg]; exact gFin_bd (gStep_ok h hg).1
theorem fGrd_bd (p : TPattern) : (fGrd p).1.fBottom.length ≤ 1048576 ∧ (fGrd p).1.fLeft.length ≤ 1048576 ∧ (fGrd p).1.fPieces.length ≤ 1048576 := by
  have h0 : eD.fBottom.length ≤ 1048576 ∧ eD.fLeft.length ≤ 1048576 ∧ eD.fPieces.length ≤ 1048576 := ⟨by simp [eD], by simp [eD], by simp [eD]⟩
  unfold fGrd
  split
  · rename_i h1
    split
    · rename_i h2
      have := gFin_bd (n := (fUniq p).fPieces.length) (okDes_uniq h1 h2)
      obtain ⟨⟨hB1, _⟩, ⟨hL1, _⟩, hPn, _⟩ := this
      show (gFin _ _).fBottom.length ≤ _ ∧ (gFin _ _).fLeft.length ≤ _ ∧ (gFin _ _).fPieces.length ≤ _
      omega
    · exact h0
  · exact h0
theorem iFirstS (d x : TDesign) (hd : okDes d) (hg : gStep d = some x) : Spec Try.prog 122 [.agg (enDesign d)] (oDB (x, true)) := by
  obtain ⟨i0, k0, hf, rfl⟩ := gStep_some hg
  have hlen : d.fPieces.length ≤ 100 := hd.2.2.1
  refine Spec.walk T.mixed Try.func122 S.ok122 (by simp [Try.f122]) fun hk => ?_
  clear hk
  unfold S.s122
  repeat' (first | refine R.mv rfl ?_ | refine R.reg ?_ | refine R.nil ?_ | refine R.seq ?_ | refine R.nseq ?_ | refine R.nblk ?_ | refine R.skip ?_ | refine R.blk ?_ | refine R.exit rfl ?_ | refine R.ldEp rfl rfl (by assumption) rfl rfl ?_ | refine R.ldaEp rfl rfl (by assumption) (Nat.le_of_ble_eq_true rfl) rfl rfl ?_ | refine R.ld rfl rfl rfl ?_ | refine R.lda rfl rfl (Nat.le_of_ble_eq_true rfl) rfl ?_ | refine R.fa rfl rfl ?_ | refine R.lenM rfl ?_ | refine R.lenO rfl rfl ?_ | refine R.len rfl rfl ?_ | refine R.lss rfl rfl ?_ | refine R.add rfl rfl (by omega) ?_ | refine R.mvU rfl ?_ | refine R.ext rfl rfl ?_ | refine R.al rfl ?_ | refine R.box rfl rfl rfl ?_ | refine R.stoB rfl rfl rfl rfl ⟨rfl, rfl, Nat.le_of_ble_eq_true rfl⟩ rfl ?_ | refine R.stoE _ rfl rfl rfl rfl rfl (by assumption) rfl ⟨rfl, rfl, Nat.le_of_ble_eq_true rfl⟩ ?_ | refine R.condT rfl ?_ | refine R.condF rfl ?_ | refine R.cond rfl (fun hc => ?_) (fun hc => ?_) | refine R.condN rfl (fun hc => ?_) (fun hc => ?_) | refine R.condB rfl (fun hc => ?_) (fun hc => ?_))
  refine R.loop (G := Nat) (fun i => [(1, .v (.c (.ptr 1 0))), (2, .v (.c (.ptr 2 0))), (10, pvA (.int .i64 d.fPieces.length)), (11, pvA (.int .i64 i))]) (fun _ => [(1, .box 86 ((enDesign d).map B.d)), (2, .box 86 [nilB, nilB, nilB])]) (fun i => i ≤ i0) (fun i => i0 - i) 0 (by omega) (Weak.frame _ _ ⟨rfl, rfl, rfl, rfl, trivial⟩ ⟨rfl, rfl, trivial⟩ rfl rfl) fun i hi => ?_
  have hfl := hf.1.2.1
  have hfk := hf.1.1
  have hil : i < d.fPieces.length := by
    have : i0 < d.fPieces.length := hfl
    omega
  repeat' (first | refine R.mv rfl ?_ | refine R.reg ?_ | refine R.nil ?_ | refine R.seq ?_ | refine R.nseq ?_ | refine R.nblk ?_ | refine R.skip ?_ | refine R.blk ?_ | refine R.exit rfl ?_ | refine R.ldEp rfl rfl (by assumption) rfl rfl ?_ | refine R.ldaEp rfl rfl (by assumption) (Nat.le_of_ble_eq_true rfl) rfl rfl ?_ | refine R.ld rfl rfl rfl ?_ | refine R.lda rfl rfl (Nat.le_of_ble_eq_true rfl) rfl ?_ | refine R.fa rfl rfl ?_ | refine R.lenM rfl ?_ | refine R.lenO rfl rfl ?_ | refine R.len rfl rfl ?_ | refine R.lss rfl rfl ?_ | refine R.add rfl rfl (by omega) ?_ | refine R.mvU rfl ?_ | refine R.ext rfl rfl ?_ | refine R.al rfl ?_ | refine R.box rfl rfl rfl ?_ | refine R.stoB rfl rfl rfl rfl ⟨rfl, rfl, Nat.le_of_ble_eq_true rfl⟩ rfl ?_ | refine R.stoE _ rfl rfl rfl rfl rfl (by assumption) rfl ⟨rfl, rfl, Nat.le_of_ble_eq_true rfl⟩ ?_ | refine R.condT rfl ?_ | refine R.condF rfl ?_ | refine R.cond rfl (fun hc => ?_) (fun hc => ?_) | refine R.condN rfl (fun hc => ?_) (fun hc => ?_) | refine R.condB rfl (fun hc => ?_) (fun hc => ?_))
  all_goals first | (exfalso; omega) | skip
  refine R.loop (G := Nat) (fun k => [(1, .v (.c (.ptr 1 0))), (2, .v (.c (.ptr 2 0))), (4, pvA (.int .i64 i)), (10, pvA (.int .i64 d.fPieces.length)), (11, pvA (.int .i64 i)), (14, pvA (.int .i64 i)), (15, pvA (.int .i64 k))]) (fun _ => [(1, .box 86 ((enDesign d).map B.d)), (2, .box 86 [nilB, nilB, nilB])]) (fun k => k ≤ i ∧ (i = i0 → k ≤ k0)) (fun k => i - k) 0 (⟨by omega, fun _ => by omega⟩) (Weak.frame _ _ ⟨rfl, rfl, rfl, rfl, rfl, rfl, rfl, trivial⟩ ⟨rfl, rfl, trivial⟩ rfl rfl) fun k hk => ?_
  by_cases hkl : k < i
  case neg =>
    have hii : i < i0 := by
      have h1 : k0 < i0 := hfk
      have h2 := hk.2
      have h3 := hk.1
      by_cases e : i = i0
      · have := h2 e; omega
      · omega
    repeat' (first | refine R.mv rfl ?_ | refine R.reg ?_ | refine R.nil ?_ | refine R.seq ?_ | refine R.nseq ?_ | refine R.nblk ?_ | refine R.skip ?_ | refine R.blk ?_ | refine R.exit rfl ?_ | refine R.ldEp rfl rfl (by assumption) rfl rfl ?_ | refine R.ldaEp rfl rfl (by assumption) (Nat.le_of_ble_eq_true rfl) rfl rfl ?_ | refine R.ld rfl rfl rfl ?_ | refine R.lda rfl rfl (Nat.le_of_ble_eq_true rfl) rfl ?_ | refine R.fa rfl rfl ?_ | refine R.lenM rfl ?_ | refine R.lenO rfl rfl ?_ | refine R.len rfl rfl ?_ | refine R.lss rfl rfl ?_ | refine R.add rfl rfl (by omega) ?_ | refine R.mvU rfl ?_ | refine R.ext rfl rfl ?_ | refine R.al rfl ?_ | refine R.box rfl rfl rfl ?_ | refine R.stoB rfl rfl rfl rfl ⟨rfl, rfl, Nat.le_of_ble_eq_true rfl⟩ rfl ?_ | refine R.stoE _ rfl rfl rfl rfl rfl (by assumption) rfl ⟨rfl, rfl, Nat.le_of_ble_eq_true rfl⟩ ?_ | refine R.condT rfl ?_ | refine R.condF rfl ?_ | refine R.cond rfl (fun hc => ?_) (fun hc => ?_) | refine R.condN rfl (fun hc => ?_) (fun hc => ?_) | refine R.condB rfl (fun hc => ?_) (fun hc => ?_))
    all_goals first
      | (exfalso; omega)
      | exact R.nloop (R.again (i + 1) (by omega) (by omega) ⟨rfl, rfl, rfl, rfl, trivial⟩ ⟨rfl, rfl, trivial⟩ rfl rfl)
      | skip
  have hM := iMergePcs d i k (pAt d i) (pAt d k) hd (pAt_nat hil) (pAt_nat (Nat.lt_trans hkl hil))
  unfold oDB at hM
  by_cases hh : i = i0 ∧ k = k0
  · obtain ⟨rfl, rfl⟩ := hh
    have hb : (fMrg d (pAt d i) (pAt d k)).2 = true := hf.1.2.2
    rw [hb] at hM
    repeat' (first | refine R.mv rfl ?_ | refine R.reg ?_ | refine R.nil ?_ | refine R.seq ?_ | refine R.nseq ?_ | refine R.nblk ?_ | refine R.skip ?_ | refine R.blk ?_ | refine R.exit rfl ?_ | refine R.ldEp rfl rfl (by assumption) rfl rfl ?_ | refine R.ldaEp rfl rfl (by assumption) (Nat.le_of_ble_eq_true rfl) rfl rfl ?_ | refine R.ld rfl rfl rfl ?_ | refine R.lda rfl rfl (Nat.le_of_ble_eq_true rfl) rfl ?_ | refine R.fa rfl rfl ?_ | refine R.lenM rfl ?_ | refine R.lenO rfl rfl ?_ | refine R.len rfl rfl ?_ | refine R.lss rfl rfl ?_ | refine R.add rfl rfl (by omega) ?_ | refine R.mvU rfl ?_ | refine R.ext rfl rfl ?_ | refine R.al rfl ?_ | refine R.box rfl rfl rfl ?_ | refine R.stoB rfl rfl rfl rfl ⟨rfl, rfl, Nat.le_of_ble_eq_true rfl⟩ rfl ?_ | refine R.stoE _ rfl rfl rfl rfl rfl (by assumption) rfl ⟨rfl, rfl, Nat.le_of_ble_eq_true rfl⟩ ?_ | refine R.condT rfl ?_ | refine R.condF rfl ?_ | refine R.callN (bor := true) rfl rfl hM rfl rfl rfl rfl rfl ?_ | refine R.cond rfl (fun hc => ?_) (fun hc => ?_) | refine R.condN rfl (fun hc => ?_) (fun hc => ?_) | refine R.condB rfl (fun hc => ?_) (fun hc => ?_))
    all_goals first
      | (exfalso; omega)
      | exact R.ret ⟨.inr rfl, R.outR rfl (.cons (R.cell rfl rfl T.ty86 (Nat.le_of_ble_eq_true rfl) rfl) (.cons (R.tmp rfl) .nil)) rfl rfl rfl ⟨by show ¬ (2 = 1); omega, rfl⟩⟩
      | skip
  · have hlt : i < i0 ∨ i = i0 ∧ k < k0 := by
      have h2 := hk.2
      by_cases e : i = i0
      · have := h2 e
        exact .inr ⟨e, by omega⟩
      · exact .inl (by omega)
    have hb : (fMrg d (pAt d i) (pAt d k)).2 = false := hf.2 i k hlt hkl
    rw [hb] at hM
    repeat' (first | refine R.mv rfl ?_ | refine R.reg ?_ | refine R.nil ?_ | refine R.seq ?_ | refine R.nseq ?_ | refine R.nblk ?_ | refine R.skip ?_ | refine R.blk ?_ | refine R.exit rfl ?_ | refine R.ldEp rfl rfl (by assumption) rfl rfl ?_ | refine R.ldaEp rfl rfl (by assumption) (Nat.le_of_ble_eq_true rfl) rfl rfl ?_ | refine R.ld rfl rfl rfl ?_ | refine R.lda rfl rfl (Nat.le_of_ble_eq_true rfl) rfl ?_ | refine R.fa rfl rfl ?_ | refine R.lenM rfl ?_ | refine R.lenO rfl rfl ?_ | refine R.len rfl rfl ?_ | refine R.lss rfl rfl ?_ | refine R.add rfl rfl (by omega) ?_ | refine R.mvU rfl ?_ | refine R.ext rfl rfl ?_ | refine R.al rfl ?_ | refine R.box rfl rfl rfl ?_ | refine R.stoB rfl rfl rfl rfl ⟨rfl, rfl, Nat.le_of_ble_eq_true rfl⟩ rfl ?_ | refine R.stoE _ rfl rfl rfl rfl rfl (by assumption) rfl ⟨rfl, rfl, Nat.le_of_ble_eq_true rfl⟩ ?_ | refine R.condT rfl ?_ | refine R.condF rfl ?_ | refine R.call (bor := true) rfl rfl hM rfl rfl rfl ?_ | refine R.cond rfl (fun hc => ?_) (fun hc => ?_) | refine R.condN rfl (fun hc => ?_) (fun hc => ?_) | refine R.condB rfl (fun hc => ?_) (fun hc => ?_))
    all_goals first
      | (exfalso; omega)
      | exact R.nloop (R.again (k + 1) ⟨by omega, fun e => by omega⟩ (by omega) ⟨rfl, rfl, rfl, rfl, rfl, rfl, rfl, trivial⟩ ⟨rfl, rfl, trivial⟩ rfl rfl)
      | skip
theorem iFirstN (d : TDesign) (hd : okDes d) (hg : gStep d = none) : SpecM Try.prog 122 [.agg [.own (pin 0), .own (pin 1), .own (pin 2)]] [(pin 0, .arr kI (ints d.fBottom) []), (pin 1, .arr kI (ints d.fLeft) []), (pin 2, .arr kPiece (d.fPieces.map enPiece) [])] (.tup [.agg [.own (pin 0), .own (pin 1), .own (pin 2)], .c (.d (bD false))]) [(pin 0, .arr kI (ints d.fBottom) []), (pin 1, .arr kI (ints d.fLeft) []), (pin 2, .arr kPiece (d.fPieces.map enPiece) [])] := by
  have hlen : d.fPieces.length ≤ 100 := hd.2.2.1
  refine SpecM.walk T.mixed Try.func122 S.ok122 (by simp [Try.f122]) fun hk => ?_
  clear hk
  unfold S.s122
  repeat' (first | refine R.mv rfl ?_ | refine R.reg ?_ | refine R.nil ?_ | refine R.seq ?_ | refine R.nseq ?_ | refine R.nblk ?_ | refine R.skip ?_ | refine R.blk ?_ | refine R.exit rfl ?_ | refine R.ldEp rfl rfl (by assumption) rfl rfl ?_ | refine R.ldaEp rfl rfl (by assumption) (Nat.le_of_ble_eq_true rfl) rfl rfl ?_ | refine R.ld rfl rfl rfl ?_ | refine R.lda rfl rfl (Nat.le_of_ble_eq_true rfl) rfl ?_ | refine R.fa rfl rfl ?_ | refine R.lenM rfl ?_ | refine R.lenO rfl rfl ?_ | refine R.len rfl rfl ?_ | refine R.lss rfl rfl ?_ | refine R.add rfl rfl (by omega) ?_ | refine R.mvU rfl ?_ | refine R.ext rfl rfl ?_ | refine R.al rfl ?_ | refine R.box rfl rfl rfl ?_ | refine R.stoB rfl rfl rfl rfl ⟨rfl, rfl, Nat.le_of_ble_eq_true rfl⟩ rfl ?_ | refine R.stoE _ rfl rfl rfl rfl rfl (by assumption) rfl ⟨rfl, rfl, Nat.le_of_ble_eq_true rfl⟩ ?_ | refine R.condT rfl ?_ | refine R.condF rfl ?_ | refine R.cond rfl (fun hc => ?_) (fun hc => ?_) | refine R.condN rfl (fun hc => ?_) (fun hc => ?_) | refine R.condB rfl (fun hc => ?_) (fun hc => ?_))
  refine R.loop (G := Nat) (fun i => [(1, .v (.c (.ptr 1 0))), (2, .v (.c (.ptr 2 0))), (10, pvA (.int .i64 d.fPieces.length)), (11, pvA (.int .i64 i))]) (fun _ => [(1, .box 86 [.own (pin 0), .own (pin 1), .own (pin 2)]), (2, .box 86 [nilB, nilB, nilB]), (pin 0, .arr kI (ints d.fBottom) []), (pin 1, .arr kI (ints d.fLeft) []), (pin 2, .arr kPiece (d.fPieces.map enPiece) [])]) (fun i => i ≤ d.fPieces.length) (fun i => d.fPieces.length - i) 0 (by omega) (Weak.frame _ _ ⟨rfl, rfl, rfl, rfl, trivial⟩ ⟨rfl, rfl, rfl, rfl, rfl, trivial⟩ rfl rfl) fun i hi => ?_
  by_cases hil : i < d.fPieces.length
  case neg =>
    obtain rfl : i = d.fPieces.length := by omega
    repeat' (first | refine R.mv rfl ?_ | refine R.reg ?_ | refine R.nil ?_ | refine R.seq ?_ | refine R.nseq ?_ | refine R.nblk ?_ | refine R.skip ?_ | refine R.blk ?_ | refine R.exit rfl ?_ | refine R.ldEp rfl rfl (by assumption) rfl rfl ?_ | refine R.ldaEp rfl rfl (by assumption) (Nat.le_of_ble_eq_true rfl) rfl rfl ?_ | refine R.ld rfl rfl rfl ?_ | refine R.lda rfl rfl (Nat.le_of_ble_eq_true rfl) rfl ?_ | refine R.fa rfl rfl ?_ | refine R.lenM rfl ?_ | refine R.lenO rfl rfl ?_ | refine R.len rfl rfl ?_ | refine R.lss rfl rfl ?_ | refine R.add rfl rfl (by omega) ?_ | refine R.mvU rfl ?_ | refine R.ext rfl rfl ?_ | refine R.al rfl ?_ | refine R.box rfl rfl rfl ?_ | refine R.stoB rfl rfl rfl rfl ⟨rfl, rfl, Nat.le_of_ble_eq_true rfl⟩ rfl ?_ | refine R.stoE _ rfl rfl rfl rfl rfl (by assumption) rfl ⟨rfl, rfl, Nat.le_of_ble_eq_true rfl⟩ ?_ | refine R.condT rfl ?_ | refine R.condF rfl ?_ | refine R.cond rfl (fun hc => ?_) (fun hc => ?_) | refine R.condN rfl (fun hc => ?_) (fun hc => ?_) | refine R.condB rfl (fun hc => ?_) (fun hc => ?_))
    all_goals first
      | (exfalso; omega)
      | exact R.ret ⟨.inr rfl, R.out rfl (.cons (R.cell rfl rfl T.ty86 (Nat.le_of_ble_eq_true rfl) rfl) (.cons (R.tmp rfl) .nil)) [(pin 0, pin 0), (pin 1, pin 1), (pin 2, pin 2)] rfl rfl rfl ⟨by show ¬ (2 = 1); omega, rfl⟩⟩
      | skip
  repeat' (first | refine R.mv rfl ?_ | refine R.reg ?_ | refine R.nil ?_ | refine R.seq ?_ | refine R.nseq ?_ | refine R.nblk ?_ | refine R.skip ?_ | refine R.blk ?_ | refine R.exit rfl ?_ | refine R.ldEp rfl rfl (by assumption) rfl rfl ?_ | refine R.ldaEp rfl rfl (by assumption) (Nat.le_of_ble_eq_true rfl) rfl rfl ?_ | refine R.ld rfl rfl rfl ?_ | refine R.lda rfl rfl (Nat.le_of_ble_eq_true rfl) rfl ?_ | refine R.fa rfl rfl ?_ | refine R.lenM rfl ?_ | refine R.lenO rfl rfl ?_ | refine R.len rfl rfl ?_ | refine R.lss rfl rfl ?_ | refine R.add rfl rfl (by omega) ?_ | refine R.mvU rfl ?_ | refine R.ext rfl rfl ?_ | refine R.al rfl ?_ | refine R.box rfl rfl rfl ?_ | refine R.stoB rfl rfl rfl rfl ⟨rfl, rfl, Nat.le_of_ble_eq_true rfl⟩ rfl ?_ | refine R.stoE _ rfl rfl rfl rfl rfl (by assumption) rfl ⟨rfl, rfl, Nat.le_of_ble_eq_true rfl⟩ ?_ | refine R.condT rfl ?_ | refine R.condF rfl ?_ | refine R.cond rfl (fun hc => ?_) (fun hc => ?_) | refine R.condN rfl (fun hc => ?_) (fun hc => ?_) | refine R.condB rfl (fun hc => ?_) (fun hc => ?_))
  all_goals first | (exfalso; omega) | skip
  refine R.loop (G := Nat) (fun k => [(1, .v (.c (.ptr 1 0))), (2, .v (.c (.ptr 2 0))), (4, pvA (.int .i64 i)), (10, pvA (.int .i64 d.fPieces.length)), (11, pvA (.int .i64 i)), (14, pvA (.int .i64 i)), (15, pvA (.int .i64 k))]) (fun _ => [(1, .box 86 [.own (pin 0), .own (pin 1), .own (pin 2)]), (2, .box 86 [nilB, nilB, nilB]), (pin 0, .arr kI (ints d.fBottom) []), (pin 1, .arr kI (ints d.fLeft) []), (pin 2, .arr kPiece (d.fPieces.map enPiece) [])]) (fun k => k ≤ i) (fun k => i - k) 0 (by omega) (Weak.frame _ _ ⟨rfl, rfl, rfl, rfl, rfl, rfl, rfl, trivial⟩ ⟨rfl, rfl, rfl, rfl, rfl, trivial⟩ rfl rfl) fun k hk => ?_
  by_cases hkl : k < i
  case neg =>
    repeat' (first | refine R.mv rfl ?_ | refine R.reg ?_ | refine R.nil ?_ | refine R.seq ?_ | refine R.nseq ?_ | refine R.nblk ?_ | refine R.skip ?_ | refine R.blk ?_ | refine R.exit rfl ?_ | refine R.ldEp rfl rfl (by assumption) rfl rfl ?_ | refine R.ldaEp rfl rfl (by assumption) (Nat.le_of_ble_eq_true rfl) rfl rfl ?_ | refine R.ld rfl rfl rfl ?_ | refine R.lda rfl rfl (Nat.le_of_ble_eq_true rfl) rfl ?_ | refine R.fa rfl rfl ?_ | refine R.lenM rfl ?_ | refine R.lenO rfl rfl ?_ | refine R.len rfl rfl ?_ | refine R.lss rfl rfl ?_ | refine R.add rfl rfl (by omega) ?_ | refine R.mvU rfl ?_ | refine R.ext rfl rfl ?_ | refine R.al rfl ?_ | refine R.box rfl rfl rfl ?_ | refine R.stoB rfl rfl rfl rfl ⟨rfl, rfl, Nat.le_of_ble_eq_true rfl⟩ rfl ?_ | refine R.stoE _ rfl rfl rfl rfl rfl (by assumption) rfl ⟨rfl, rfl, Nat.le_of_ble_eq_true rfl⟩ ?_ | refine R.condT rfl ?_ | refine R.condF rfl ?_ | refine R.cond rfl (fun hc => ?_) (fun hc => ?_) | refine R.condN rfl (fun hc => ?_) (fun hc => ?_) | refine R.condB rfl (fun hc => ?_) (fun hc => ?_))
    all_goals first
      | (exfalso; omega)
      | exact R.nloop (R.again (i + 1) (by omega) (by omega) ⟨rfl, rfl, rfl, rfl, trivial⟩ ⟨rfl, rfl, rfl, rfl, rfl, trivial⟩ rfl rfl)
      | skip
  have hM := iMergePcs d i k (pAt d i) (pAt d k) hd (pAt_nat hil) (pAt_nat (Nat.lt_trans hkl hil))
  unfold oDB at hM
  have hb : (fMrg d (pAt d i) (pAt d k)).2 = false := gStep_none hg hil hkl
  rw [hb] at hM
  repeat' (first | refine R.mv rfl ?_ | refine R.reg ?_ | refine R.nil ?_ | refine R.seq ?_ | refine R.nseq ?_ | refine R.nblk ?_ | refine R.skip ?_ | refine R.blk ?_ | refine R.exit rfl ?_ | refine R.ldEp rfl rfl (by assumption) rfl rfl ?_ | refine R.ldaEp rfl rfl (by assumption) (Nat.le_of_ble_eq_true rfl) rfl rfl ?_ | refine R.ld rfl rfl rfl ?_ | refine R.lda rfl rfl (Nat.le_of_ble_eq_true rfl) rfl ?_ | refine R.fa rfl rfl ?_ | refine R.lenM rfl ?_ | refine R.lenO rfl rfl ?_ | refine R.len rfl rfl ?_ | refine R.lss rfl rfl ?_ | refine R.add rfl rfl (by omega) ?_ | refine R.mvU rfl ?_ | refine R.ext rfl rfl ?_ | refine R.al rfl ?_ | refine R.box rfl rfl rfl ?_ | refine R.stoB rfl rfl rfl rfl ⟨rfl, rfl, Nat.le_of_ble_eq_true rfl⟩ rfl ?_ | refine R.stoE _ rfl rfl rfl rfl rfl (by assumption) rfl ⟨rfl, rfl, Nat.le_of_ble_eq_true rfl⟩ ?_ | refine R.condT rfl ?_ | refine R.condF rfl ?_ | refine R.call (bor := true) rfl rfl hM rfl rfl rfl ?_ | refine R.cond rfl (fun hc => ?_) (fun hc => ?_) | refine R.condN rfl (fun hc => ?_) (fun hc => ?_) | refine R.condB rfl (fun hc => ?_) (fun hc => ?_))
  all_goals first
    | (exfalso; omega)
    | exact R.nloop (R.again (k + 1) (by omega) (by omega) ⟨rfl, rfl, rfl, rfl, rfl, rfl, rfl, trivial⟩ ⟨rfl, rfl, rfl, rfl, rfl, trivial⟩ rfl rfl)
    | skip
theorem iGreedy (p : TPattern) : Spec Try.prog 52 [.agg (enPattern p)] (oDI (fGrd p)) := by
  refine Spec.walk T.mixed Try.func52 S.ok52 (by simp [Try.f52]) fun hk => ?_
  have h3 := (K.a hk 0 2 rfl rfl).lenM
  unfold S.s52
  by_cases h1 : okPat p
  case neg =>
    rw [show fGrd p = (eD, 1) from if_neg h1]
    repeat' (first | refine R.mv rfl ?_ | refine R.reg ?_ | refine R.nil ?_ | refine R.seq ?_ | refine R.nseq ?_ | refine R.nblk ?_ | refine R.skip ?_ | refine R.blk ?_ | refine R.exit rfl ?_ | refine R.ldEp rfl rfl (by assumption) rfl rfl ?_ | refine R.ldaEp rfl rfl (by assumption) (Nat.le_of_ble_eq_true rfl) rfl rfl ?_ | refine R.ld rfl rfl rfl ?_ | refine R.lda rfl rfl (Nat.le_of_ble_eq_true rfl) rfl ?_ | refine R.fa rfl rfl ?_ | refine R.lenM rfl ?_ | refine R.lenO rfl rfl ?_ | refine R.len rfl rfl ?_ | refine R.gtr rfl rfl ?_ | refine R.not rfl ?_ | refine R.mvU rfl ?_ | refine R.ext rfl rfl ?_ | refine R.al rfl ?_ | refine R.box rfl rfl rfl ?_ | refine R.stoB rfl rfl rfl rfl ⟨rfl, rfl, Nat.le_of_ble_eq_true rfl⟩ rfl ?_ | refine R.stoE _ rfl rfl rfl rfl rfl (by assumption) rfl ⟨rfl, rfl, Nat.le_of_ble_eq_true rfl⟩ ?_ | refine R.bld rfl rfl ?_ | refine R.condT rfl ?_ | refine R.condF rfl ?_ | refine R.call (bor := false) rfl rfl (iPatF h1) rfl rfl rfl ?_ | refine R.call (bor := true) rfl rfl (iPatF h1) rfl rfl rfl ?_ | refine R.fcal (bor := false) rfl rfl (iPatF h1) rfl rfl rfl ?_ | refine R.fcal (bor := true) rfl rfl (iPatF h1) rfl rfl rfl ?_ | refine R.cond rfl (fun hc => ?_) (fun hc => ?_) | refine R.condN rfl (fun hc => ?_) (fun hc => ?_) | refine R.condB rfl (fun hc => ?_) (fun hc => ?_))
    all_goals first
      | (exfalso; omega)
      | exact R.ret ⟨.inr rfl, R.outW (Weak.reifyBox 2 0 900000 kI rfl rfl rfl) (R.outW (Weak.reifyBox 2 1 900001 kI rfl rfl rfl) (R.outW (Weak.reifyBox 2 2 900002 kPiece rfl rfl rfl) (R.outR rfl (.cons (R.cell rfl rfl T.ty86 (Nat.le_of_ble_eq_true rfl) rfl) (.cons (R.tmp rfl) .nil)) rfl rfl rfl ⟨by show ¬ (2 = 1); omega, rfl⟩)))⟩
      | skip
  by_cases h2 : p.fCells.length ≤ 25
  case neg =>
    rw [show fGrd p = (eD, 4) from (if_pos h1).trans (if_neg h2)]
    repeat' (first | refine R.mv rfl ?_ | refine R.reg ?_ | refine R.nil ?_ | refine R.seq ?_ | refine R.nseq ?_ | refine R.nblk ?_ | refine R.skip ?_ | refine R.blk ?_ | refine R.exit rfl ?_ | refine R.ldEp rfl rfl (by assumption) rfl rfl ?_ | refine R.ldaEp rfl rfl (by assumption) (Nat.le_of_ble_eq_true rfl) rfl rfl ?_ | refine R.ld rfl rfl rfl ?_ | refine R.lda rfl rfl (Nat.le_of_ble_eq_true rfl) rfl ?_ | refine R.fa rfl rfl ?_ | refine R.lenM rfl ?_ | refine R.lenO rfl rfl ?_ | refine R.len rfl rfl ?_ | refine R.gtr rfl rfl ?_ | refine R.not rfl ?_ | refine R.mvU rfl ?_ | refine R.ext rfl rfl ?_ | refine R.al rfl ?_ | refine R.box rfl rfl rfl ?_ | refine R.stoB rfl rfl rfl rfl ⟨rfl, rfl, Nat.le_of_ble_eq_true rfl⟩ rfl ?_ | refine R.stoE _ rfl rfl rfl rfl rfl (by assumption) rfl ⟨rfl, rfl, Nat.le_of_ble_eq_true rfl⟩ ?_ | refine R.bld rfl rfl ?_ | refine R.condT rfl ?_ | refine R.condF rfl ?_ | refine R.call (bor := false) rfl rfl (iPatT h1) rfl rfl rfl ?_ | refine R.call (bor := true) rfl rfl (iPatT h1) rfl rfl rfl ?_ | refine R.fcal (bor := false) rfl rfl (iPatT h1) rfl rfl rfl ?_ | refine R.fcal (bor := true) rfl rfl (iPatT h1) rfl rfl rfl ?_ | refine R.cond rfl (fun hc => ?_) (fun hc => ?_) | refine R.condN rfl (fun hc => ?_) (fun hc => ?_) | refine R.condB rfl (fun hc => ?_) (fun hc => ?_))
    all_goals first
      | (exfalso; omega)
      | exact R.ret ⟨.inr rfl, R.outW (Weak.reifyBox 2 0 900000 kI rfl rfl rfl) (R.outW (Weak.reifyBox 2 1 900001 kI rfl rfl rfl) (R.outW (Weak.reifyBox 2 2 900002 kPiece rfl rfl rfl) (R.outR rfl (.cons (R.cell rfl rfl T.ty86 (Nat.le_of_ble_eq_true rfl) rfl) (.cons (R.tmp rfl) .nil)) rfl rfl rfl ⟨by show ¬ (2 = 1); omega, rfl⟩)))⟩
      | skip
  rw [show fGrd p = (gFin (fUniq p).fPieces.length (fUniq p), 0) from (if_pos h1).trans (if_pos h2)]
  have hU := iUniq p h1
  repeat' (first | refine R.mv rfl ?_ | refine R.reg ?_ | refine R.nil ?_ | refine R.seq ?_ | refine R.nseq ?_ | refine R.nblk ?_ | refine R.skip ?_ | refine R.blk ?_ | refine R.exit rfl ?_ | refine R.ldEp rfl rfl (by assumption) rfl rfl ?_ | refine R.ldaEp rfl rfl (by assumption) (Nat.le_of_ble_eq_true rfl) rfl rfl ?_ | refine R.ld rfl rfl rfl ?_ | refine R.lda rfl rfl (Nat.le_of_ble_eq_true rfl) rfl ?_ | refine R.fa rfl rfl ?_ | refine R.lenM rfl ?_ | refine R.lenO rfl rfl ?_ | refine R.len rfl rfl ?_ | refine R.gtr rfl rfl ?_ | refine R.not rfl ?_ | refine R.mvU rfl ?_ | refine R.ext rfl rfl ?_ | refine R.al rfl ?_ | refine R.box rfl rfl rfl ?_ | refine R.stoB rfl rfl rfl rfl ⟨rfl, rfl, Nat.le_of_ble_eq_true rfl⟩ rfl ?_ | refine R.stoE _ rfl rfl rfl rfl rfl (by assumption) rfl ⟨rfl, rfl, Nat.le_of_ble_eq_true rfl⟩ ?_ | refine R.bld rfl rfl ?_ | refine R.condT rfl ?_ | refine R.condF rfl ?_ | refine R.call (bor := false) rfl rfl (iPatT h1) rfl rfl rfl ?_ | refine R.call (bor := true) rfl rfl (iPatT h1) rfl rfl rfl ?_ | refine R.fcal (bor := false) rfl rfl (iPatT h1) rfl rfl rfl ?_ | refine R.fcal (bor := true) rfl rfl (iPatT h1) rfl rfl rfl ?_ | refine R.callN1 (bor := false) rfl rfl (hU) rfl rfl ?_ | refine R.callN1 (bor := true) rfl rfl (hU) rfl rfl ?_ | refine R.callN (bor := false) rfl rfl (hU) rfl rfl rfl rfl rfl ?_ | refine R.callN (bor := true) rfl rfl (hU) rfl rfl rfl rfl rfl ?_ | refine R.cond rfl (fun hc => ?_) (fun hc => ?_) | refine R.condN rfl (fun hc => ?_) (fun hc => ?_) | refine R.condB rfl (fun hc => ?_) (fun hc => ?_))
  all_goals first | (exfalso; omega) | skip
  refine R.loop (G := TDesign × Nat × Bool) (fun g => [(2, .v (.c (.ptr 2 0))), (4, .v (.c (.ptr 4 0))), (5, pvA (.bool g.2.2))]) (fun g => [(2, .box 86 [nilB, nilB, nilB]), (4, .box 86 [.own 20000, .own 20001, .own 20002]), (20000, .arr kI (ints g.1.fBottom) []), (20001, .arr kI (ints g.1.fLeft) []), (20002, .arr kPiece (g.1.fPieces.map enPiece) [])]) (fun g => okDes g.1 ∧ g.1.fPieces.length ≤ g.2.1 ∧ gFin g.2.1 g.1 = gFin (fUniq p).fPieces.length (fUniq p) ∧ (g.2.2 = false → gStep g.1 = none)) (fun g => if g.2.2 then g.1.fPieces.length + 1 else 0) (fUniq p, (fUniq p).fPieces.length, true) ⟨okDes_uniq h1 h2, Nat.le_refl _, rfl, fun h => by cases h⟩ (Weak.frame _ _ ⟨rfl, rfl, rfl, trivial⟩ ⟨rfl, rfl, rfl, rfl, rfl, trivial⟩ rfl rfl) fun g hg => ?_
  obtain ⟨d, n, b⟩ := g
  obtain ⟨hd, hn, hf, hz⟩ := hg
  dsimp only at hd hn hf hz
  cases b
  case false =>
    have hz := hz rfl
    rw [gFin_none hz] at hf
    rw [← hf]
    repeat' (first | refine R.mv rfl ?_ | refine R.reg ?_ | refine R.nil ?_ | refine R.seq ?_ | refine R.nseq ?_ | refine R.nblk ?_ | refine R.skip ?_ | refine R.blk ?_ | refine R.exit rfl ?_ | refine R.ldEp rfl rfl (by assumption) rfl rfl ?_ | refine R.ldaEp rfl rfl (by assumption) (Nat.le_of_ble_eq_true rfl) rfl rfl ?_ | refine R.ld rfl rfl rfl ?_ | refine R.lda rfl rfl (Nat.le_of_ble_eq_true rfl) rfl ?_ | refine R.fa rfl rfl ?_ | refine R.lenM rfl ?_ | refine R.lenO rfl rfl ?_ | refine R.len rfl rfl ?_ | refine R.gtr rfl rfl ?_ | refine R.not rfl ?_ | refine R.mvU rfl ?_ | refine R.ext rfl rfl ?_ | refine R.al rfl ?_ | refine R.box rfl rfl rfl ?_ | refine R.stoB rfl rfl rfl rfl ⟨rfl, rfl, Nat.le_of_ble_eq_true rfl⟩ rfl ?_ | refine R.stoE _ rfl rfl rfl rfl rfl (by assumption) rfl ⟨rfl, rfl, Nat.le_of_ble_eq_true rfl⟩ ?_ | refine R.bld rfl rfl ?_ | refine R.condT rfl ?_ | refine R.condF rfl ?_ | refine R.cond rfl (fun hc => ?_) (fun hc => ?_) | refine R.condN rfl (fun hc => ?_) (fun hc => ?_) | refine R.condB rfl (fun hc => ?_) (fun hc => ?_))
    all_goals first
      | (exfalso; omega)
      | exact R.ret ⟨.inr rfl, R.outR rfl (.cons (R.cell rfl rfl T.ty86 (Nat.le_of_ble_eq_true rfl) rfl) (.cons (R.tmp rfl) .nil)) rfl rfl rfl ⟨by show ¬ (2 = 1); omega, rfl⟩⟩
      | skip
  cases hs : gStep d with
  | none =>
    have hF := iFirstN d hd hs
    repeat' (first | refine R.mv rfl ?_ | refine R.reg ?_ | refine R.nil ?_ | refine R.seq ?_ | refine R.nseq ?_ | refine R.nblk ?_ | refine R.skip ?_ | refine R.blk ?_ | refine R.exit rfl ?_ | refine R.ldEp rfl rfl (by assumption) rfl rfl ?_ | refine R.ldaEp rfl rfl (by assumption) (Nat.le_of_ble_eq_true rfl) rfl rfl ?_ | refine R.ld rfl rfl rfl ?_ | refine R.lda rfl rfl (Nat.le_of_ble_eq_true rfl) rfl ?_ | refine R.fa rfl rfl ?_ | refine R.lenM rfl ?_ | refine R.lenO rfl rfl ?_ | refine R.len rfl rfl ?_ | refine R.gtr rfl rfl ?_ | refine R.not rfl ?_ | refine R.mvU rfl ?_ | refine R.ext rfl rfl ?_ | refine R.al rfl ?_ | refine R.box rfl rfl rfl ?_ | refine R.stoB rfl rfl rfl rfl ⟨rfl, rfl, Nat.le_of_ble_eq_true rfl⟩ rfl ?_ | refine R.stoE _ rfl rfl rfl rfl rfl (by assumption) rfl ⟨rfl, rfl, Nat.le_of_ble_eq_true rfl⟩ ?_ | refine R.bld rfl rfl ?_ | refine R.condT rfl ?_ | refine R.condF rfl ?_ | refine R.callX (bor := false) [(20000, pin 0), (20001, pin 1), (20002, pin 2)] rfl hF rfl rfl rfl rfl rfl ?_ | refine R.cond rfl (fun hc => ?_) (fun hc => ?_) | refine R.condN rfl (fun hc => ?_) (fun hc => ?_) | refine R.condB rfl (fun hc => ?_) (fun hc => ?_))
    all_goals first
      | (exfalso; omega)
      | exact R.nloop (R.again (d, n, false) ⟨hd, hn, hf, fun _ => hs⟩ (Nat.succ_pos _) ⟨rfl, rfl, rfl, trivial⟩ ⟨rfl, rfl, rfl, rfl, rfl, trivial⟩ rfl rfl)
      | skip
  | some x =>
    have hF := iFirstS d x hd hs
    obtain ⟨hx1, hx2⟩ := gStep_ok hd hs
    obtain ⟨n', rfl⟩ : ∃ n', n = n' + 1 := ⟨n - 1, by omega⟩
    rw [gFin_some hs] at hf
    repeat' (first | refine R.mv rfl ?_ | refine R.reg ?_ | refine R.nil ?_ | refine R.seq ?_ | refine R.nseq ?_ | refine R.nblk ?_ | refine R.skip ?_ | refine R.blk ?_ | refine R.exit rfl ?_ | refine R.ldEp rfl rfl (by assumption) rfl rfl ?_ | refine R.ldaEp rfl rfl (by assumption) (Nat.le_of_ble_eq_true rfl) rfl rfl ?_ | refine R.ld rfl rfl rfl ?_ | refine R.lda rfl rfl (Nat.le_of_ble_eq_true rfl) rfl ?_ | refine R.fa rfl rfl ?_ | refine R.lenM rfl ?_ | refine R.lenO rfl rfl ?_ | refine R.len rfl rfl ?_ | refine R.gtr rfl rfl ?_ | refine R.not rfl ?_ | refine R.mvU rfl ?_ | refine R.ext rfl rfl ?_ | refine R.al rfl ?_ | refine R.box rfl rfl rfl ?_ | refine R.stoB rfl rfl rfl rfl ⟨rfl, rfl, Nat.le_of_ble_eq_true rfl⟩ rfl ?_ | refine R.stoE _ rfl rfl rfl rfl rfl (by assumption) rfl ⟨rfl, rfl, Nat.le_of_ble_eq_true rfl⟩ ?_ | refine R.bld rfl rfl ?_ | refine R.condT rfl ?_ | refine R.condF rfl ?_ | refine R.callN (bor := true) rfl rfl hF rfl rfl rfl rfl rfl ?_ | refine R.cond rfl (fun hc => ?_) (fun hc => ?_) | refine R.condN rfl (fun hc => ?_) (fun hc => ?_) | refine R.condB rfl (fun hc => ?_) (fun hc => ?_))
    all_goals first
      | (exfalso; omega)
      | exact R.nloop ⟨(x, n', true), ⟨hx1, by show x.fPieces.length ≤ n'; omega, hf, fun h => by cases h⟩, Nat.succ_lt_succ hx2, Weak.trans (Weak.swap 24000 20000 rfl rfl) (Weak.trans (Weak.swap 24001 20001 rfl rfl) (Weak.trans (Weak.swap 24002 20002 rfl rfl) (Weak.frame _ _ ⟨rfl, rfl, rfl, trivial⟩ ⟨rfl, rfl, rfl, rfl, rfl, trivial⟩ rfl rfl)))⟩
      | skip
end Go.Proofs.Ytnkfbodolbfjpaa
