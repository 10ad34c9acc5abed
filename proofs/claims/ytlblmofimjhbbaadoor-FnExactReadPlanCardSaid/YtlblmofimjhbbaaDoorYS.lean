/- Fewer orders: the tree, and that it tells all. No program is named here. -/
import Derived.Test.YtlblmofimjhbbaaDoorYR
namespace Go.Proofs.YtlblmofimjhbbaaDoor
open Go.RowKit
section
variable {P : Program} {md : Region.Mode} {ops : Array Oper} {Q : Exit → Act → World → Prop} {rd : Nat → Bool}
theorem at_of {o : Oper} {v : Value} {a : Act} {w : World} (h : Yields P ops o v a) : YieldsAt P ops o v a w := h.elim (fun h => .inl ⟨h.1, h.2 w⟩) .inr
/-- What hands a value on, in whatever world, comes at once. -/
theorem WS.first {i : Nat} {oi : Oper} {v : Value} (hi : ops[i]? = some oi) (hrd : rd i = true) (hsel : ∀ (j : Nat) (o : Oper) cs b, ops[j]? = some o → o.op ≠ .select cs b)
    (hQ : ∀ c a w, Q (.panic c) (a.put oi.dst v) w → Q (.panic c) a w) :
    ∀ (f : Nat) (listed : Array Bool) (Z : Nat → Bool) (a : Act) (w : World),
      (∀ j oj, ops[j]? = some oj → j ≠ i → listed.getD j true = false → (∀ e ∈ oj.after, Region.binds md e = true → e.on ≠ i) → oi.apart ops oj = true) →
      i ∈ Region.ready md ops listed → Yields P ops oi v a →
      WS P md ops Q rd f (listed.setIfInBounds i true) Z (a.put oi.dst v) w → WS P md ops Q rd (f + 1) listed Z a w := by
  intro f
  induction f with
  | zero =>
    intro listed Z a w _ hr hy H
    refine ⟨fun h => (by rw [h] at hr; cases hr), fun j hj hZ => ?_⟩
    by_cases hji : j = i
    · subst hji; exact ⟨fun _ => ⟨oi, v, hi, at_of hy, H⟩, fun h => by rw [hrd] at h; cases h⟩
    · have := ready_mono hj hji
      rw [H.1] at this
      cases this
  | succ f ih =>
    intro listed Z a w hfree hr hy H
    refine ⟨fun h => (by rw [h] at hr; cases hr), fun j hj hZ => ?_⟩
    by_cases hji : j = i
    · subst hji; exact ⟨fun _ => ⟨oi, v, hi, at_of hy, H⟩, fun h => by rw [hrd] at h; cases h⟩
    · obtain ⟨H1, H2⟩ := H.2 j (ready_mono hj hji) hZ
      obtain ⟨hjun, oj, hoj, hall⟩ := mem_ready.1 hj
      have hnot : ∀ e ∈ oj.after, Region.binds md e = true → e.on ≠ i := fun e he hb heq => by
        have h1 := hall e he hb
        have h0 := (mem_ready.1 hr).1
        rw [heq] at h1
        rcases Nat.lt_or_ge i listed.size with h' | h'
        · simp [h'] at h0 h1; rw [h0] at h1; cases h1
        · simp [Array.getElem?_eq_none h'] at h1
      have hap := hfree j oj hoj hji hjun hnot
      obtain ⟨p1, p2, p3⟩ := Oper.apart_spec hap
      have hfree' : ∀ k ok, ops[k]? = some ok → k ≠ i → (listed.setIfInBounds j true).getD k true = false →
          (∀ e ∈ ok.after, Region.binds md e = true → e.on ≠ i) → oi.apart ops ok = true := fun k ok hk hki hun hno => by
        refine hfree k ok hk hki ?_ hno
        by_cases hjk : j = k
        · subst hjk; exact hjun
        · rw [getD_set_ne true hjk] at hun; exact hun
      have keep : ∀ u, Yields P ops oi v (a.put oj.dst u) := fun u => hy.of_same (execOp_put oi (fun cs b => hsel i oi cs b hi) a oj.dst u p3) (wanted_put oi a oj.dst u p3)
      refine ⟨fun hrj => ?_, fun hrj => ?_⟩
      · obtain ⟨oj', u, hoj', hyj, hk⟩ := H1 hrj
        rw [hoj] at hoj'
        cases hoj'
        refine ⟨oj, u, hoj, hyj.unput (fun cs b => hsel j oj cs b hoj) p1, ?_⟩
        refine ih (listed.setIfInBounds j true) Z (a.put oj.dst u) w hfree' (ready_mono hr (Ne.symm hji)) (keep u) ?_
        rw [Array.setIfInBounds_comm _ _ hji, ← Act.put_comm a v u p2]
        exact hk
      · have h2 := wpOp_put hoj hap (fun cs b => hsel i oi cs b hi) (fun cs b => hsel j oj cs b hoj) hQ hy (H2 hrj)
        refine wpOp_mono (fun a' w' h3 => ih (listed.setIfInBounds j true) (fun _ => false) a' w' hfree' (ready_mono hr (Ne.symm hji)) h3.1 ?_) h2
        rw [Array.setIfInBounds_comm _ _ hji]
        exact h3.2
end
/-- Operations that only read, or hand a value on. -/
def rdK (P : Program) (o : Oper) : Bool := (isMvO P o || rdO o) && o.guard.isNone
def rdAt (P : Program) (l : List Oper) (i : Nat) : Bool := match l[i]? with
  | some o => rdK P o
  | none => false
def rdRt (l : List Oper) (i : Nat) : Bool := match l[i]? with
  | some o => rdO o && o.guard.isNone
  | none => false
/-- Two operations that may both come up are apart (as Region.free asks). -/
def apartL (l : List Oper) (P : Program) : Bool := (List.range l.length).all fun i => (List.range l.length).all fun j => i == j || !rdAt P l i || !rdAt P l j || match l[i]?, l[j]? with
  | some oi, some oj => oj.after.any (fun e => Region.binds .any e && e.on == i) || oi.after.any (fun e => Region.binds .any e && e.on == j) || oi.apart l.toArray oj
  | _, _ => true
/-- The orders, but for reads that are swapped with reads. -/
def ordS (P : Program) (l : List Oper) : Nat → Nat → Array Bool → List Nat → Option (OT Oper)
  | 0, _, _, _ => none
  | n + 1, f, listed, Z => match Region.ready .any l.toArray listed with
    | [] => some .done
    | i :: is => match f with
      | 0 => none
      | f + 1 => match ordF P l listed ((i :: is).filter fun j => !Z.contains j) with
        | some j => match l[j]?, ordS P l n f (listed.setIfInBounds j true) Z with
          | some o, some t => some (.take o t)
          | _, _ => none
        | none => match (i :: is).find? (fun j => rdRt l j && !Z.contains j) with
          | some r => match l[r]?, ordS P l n f (listed.setIfInBounds r true) Z, ordS P l n (f + 1) listed (r :: Z) with
            | some o, some t, some u => some (.both (.take o t) u)
            | _, _, _ => none
          | none => if (i :: is).any (fun j => rdAt P l j && !Z.contains j) then none else match (i :: is).filter (fun j => !rdAt P l j) with
            | [] => some .vac
            | k :: ks => ordB l (fun j => ordS P l n f (listed.setIfInBounds j true) []) k ks
section
variable {P : Program} {F : Fx} {l : List Oper} {Qs : St → Prop} {Q : Exit → Act → World → Prop}
theorem apartL_ok (h : apartL l P = true) : ReadsApart .any l.toArray (rdAt P l) := by
  intro listed i j oi oj hi hj hne hoi hoj hri hrj
  unfold apartL at h
  have hil : i < l.length := by have := (Array.getElem?_eq_some_iff.1 hoi).1; simpa using this
  have hjl : j < l.length := by have := (Array.getElem?_eq_some_iff.1 hoj).1; simpa using this
  have h1 := List.all_eq_true.1 (List.all_eq_true.1 h i (List.mem_range.2 hil)) j (List.mem_range.2 hjl)
  have hoi' : l[i]? = some oi := by simpa using hoi
  have hoj' : l[j]? = some oj := by simpa using hoj
  simp only [hi, hj, hoi', hoj', Bool.not_true, Bool.or_false, Bool.or_eq_true, beq_iff_eq, hne, false_or] at h1
  obtain ⟨hu1, o1, ho1, ha1⟩ := mem_ready.1 hri
  obtain ⟨hu2, o2, ho2, ha2⟩ := mem_ready.1 hrj
  rw [hoi] at ho1; cases ho1
  rw [hoj] at ho2; cases ho2
  have hnl : ∀ {k : Nat}, listed.getD k true = false → listed.getD k false = true → False := fun {k} a b => by
    rcases Nat.lt_or_ge k listed.size with h' | h'
    · simp [h'] at a b; rw [a] at b; cases b
    · simp [Array.getElem?_eq_none h'] at a
  rcases h1 with (h1 | h1) | h1
  · obtain ⟨e, he, hb⟩ := Array.any_eq_true'.1 h1
    simp only [Bool.and_eq_true, beq_iff_eq] at hb
    have := ha2 e he hb.1
    rw [hb.2] at this
    exact (hnl hu1 this).elim
  · obtain ⟨e, he, hb⟩ := Array.any_eq_true'.1 h1
    simp only [Bool.and_eq_true, beq_iff_eq] at hb
    have := ha1 e he hb.1
    rw [hb.2] at this
    exact (hnl hu2 this).elim
  · exact h1
/-- A read that is walked: its value here. -/
theorem read_step {o : Oper} {t : OT Oper} {a : Act} {w : World} (hrd : rdO o = true) (hg : o.guard.isNone = true) (h : SatT P F l (.take o t) Qs a w) : ∃ v, YieldsAt P l.toArray o v a w ∧ SatT P F l t Qs (a.put o.dst v) w := by
  have h1 := VCT_step h
  have hw : Region.wanted o (yielded l.toArray a.tmps) = true := by
    have : o.guard = none := by simpa using hg
    simp [Region.wanted, this]
  unfold wpList at h1
  rw [if_pos hw] at h1
  rcases h1 with h1 | ⟨_, a1, w1, h1⟩
  · unfold Oper.wp at h1
    cases hr : (execOp a.eval o).run P w with
    | ok n w' =>
      rw [hr] at h1
      obtain ⟨v, rfl, rfl⟩ := rdO_run hrd hr
      exact ⟨v, .inl ⟨hw, hr⟩, h1⟩
    | halt y w' =>
      rw [hr] at h1
      cases y <;> first | exact h1.elim | (simp only [Oper.upon] at h1; exact h1.elim)
  · exact h1.elim
theorem mv_yields {o : Oper} {t : OT Oper} {a : Act} {w : World} (hmv : isMvO P o = true) (h : SatT P F l (.take o t) Qs a w) : ∃ v, Yields P l.toArray o v a ∧ SatT P F l t Qs (a.put o.dst v) w := by
  have h1 := VCT_step h
  unfold isMvO at hmv
  split at hmv
  · rename_i x hop hg
    have hw : Region.wanted o (yielded l.toArray a.tmps) = true := by simp [Region.wanted, hg]
    have hex : ∀ w, (execOp a.eval o).run P w = .ok (.value (a.eval x)) w := fun w => by
      unfold execOp
      rw [hop]
      rfl
    unfold wpList at h1
    rw [if_pos hw] at h1
    rcases h1 with h1 | ⟨_, a1, w1, h1⟩
    · unfold Oper.wp at h1
      rw [hex, Oper.upon_value] at h1
      exact ⟨_, .inl ⟨hw, hex⟩, h1⟩
    · exact h1.elim
  · rename_i T x fl hop hg
    have hw : Region.wanted o (yielded l.toArray a.tmps) = true := by simp [Region.wanted, hg]
    unfold wpList at h1
    rw [if_pos hw] at h1
    rcases h1 with h1 | ⟨_, a1, w1, h1⟩
    · unfold Oper.wp at h1
      have hrun : ∀ w, (execOp a.eval o).run P w = ((Instr.fieldAt T (a.eval x) fl).run P w).andThen fun v w => .ok (.value v) w := fun w => by
        unfold execOp
        rw [hop]
        simp only [Sem.run_bind]
        rfl
      rw [hrun] at h1
      cases hf : (Instr.fieldAt T (a.eval x) fl).run P w with
      | ok v w' =>
        have hall := fieldAt_any hmv hf
        have hex : ∀ w, (execOp a.eval o).run P w = .ok (.value v) w := fun w => by rw [hrun, hall w]; rfl
        have hww : w' = w := by have := hall w; rw [hf] at this; injection this
        subst hww
        rw [hf] at h1
        exact ⟨v, .inl ⟨hw, hex⟩, h1⟩
      | halt y w' =>
        rw [hf] at h1
        cases y <;> first | exact h1.elim | (simp only [Result.andThen, Oper.upon] at h1; exact h1.elim)
    · exact h1.elim
  · rename_i T str y T' hop hg
    have hw : Region.wanted o (yielded l.toArray a.tmps) = true := by simp [Region.wanted, hg]
    unfold wpList at h1
    rw [if_pos hw] at h1
    rcases h1 with h1 | ⟨_, a1, w1, h1⟩
    · unfold Oper.wp at h1
      have hrun : ∀ w, (execOp a.eval o).run P w = ((do eqGuard .add T (.const (.string str)) y (.string str) (a.eval y); binOp .add T (.string str) (a.eval y) : Sem Value).run P w).andThen fun v w => .ok (.value v) w := fun w => by
        unfold execOp
        rw [hop]
        simp only [Sem.run_bind]
        rfl
      rw [hrun] at h1
      cases hf : (do eqGuard .add T (.const (.string str)) y (.string str) (a.eval y); binOp .add T (.string str) (a.eval y) : Sem Value).run P w with
      | ok v w' =>
        have hall := addS_any hf
        have hex : ∀ w, (execOp a.eval o).run P w = .ok (.value v) w := fun w => by rw [hrun, hall w]; rfl
        have hww : w' = w := by have := hall w; rw [hf] at this; injection this
        subst hww
        rw [hf] at h1
        exact ⟨v, .inl ⟨hw, hex⟩, h1⟩
      | halt y w' =>
        rw [hf] at h1
        cases y <;> first | exact h1.elim | (simp only [Result.andThen, Oper.upon] at h1; exact h1.elim)
    · exact h1.elim
  · cases hmv
theorem ordS_sound (hnos : Region.noSelect l.toArray = true) (hap : apartL l P = true) (hQp : ∀ c a t v w, Q (.panic c) (a.put t v) w → Q (.panic c) a w) (hQ : ∀ st a w R ι φ, Qs st → Sat F R ι φ st a w → Q .normal a w) : ∀ (n f : Nat) (listed : Array Bool) (Z : List Nat) (t : OT Oper),
    ordS P l n f listed Z = some t → ∀ a w, SatT P F l t Qs a w → WS P .any l.toArray Q (rdAt P l) f listed (fun i => Z.contains i) a w := by
  intro n
  induction n with
  | zero => intro f listed Z t h; cases h
  | succ n ih =>
    intro f listed Z t h a w hs
    unfold ordS at h
    split at h
    · rename_i he
      cases h
      obtain ⟨st, R, ι, φ, hv, hsat⟩ := hs
      have hq : Q .normal a w := hQ st a w R ι φ hv hsat
      cases f with
      | zero => exact ⟨he, hq⟩
      | succ f => exact ⟨fun _ => hq, fun i hi => by rw [he] at hi; cases hi⟩
    · rename_i i is he
      split at h
      · cases h
      · rename_i f'
        split at h
        · rename_i j hj
          split at h
          · rename_i o u ho hu
            cases h
            unfold ordF at hj
            have hmem := List.mem_of_find?_eq_some hj
            have hp := List.find?_some hj
            rw [ho] at hp
            simp only [Bool.and_eq_true] at hp
            obtain ⟨hmv, hfree⟩ := hp
            have hrdy : j ∈ Region.ready .any l.toArray listed := by rw [he]; exact (List.mem_filter.1 hmem).1
            obtain ⟨v, hy, hsu⟩ := mv_yields hmv hs
            have hoj : l.toArray[j]? = some o := by simpa using ho
            have hgn : o.guard.isNone = true := by
              unfold isMvO at hmv
              split at hmv
              · rename_i hg; simp [hg]
              · rename_i hg; simp [hg]
              · rename_i hg; simp [hg]
              · cases hmv
            have hrd : rdAt P l j = true := by unfold rdAt rdK; rw [ho]; simp [hmv, hgn]
            exact WS.first hoj hrd (Region.noSelect_spec hnos) (fun c a w h => hQp c a _ _ w h) f' listed _ a w (Region.free_spec hoj hfree) hrdy hy (ih f' _ Z u hu _ _ hsu)
          · cases h
        · split at h
          · rename_i r hr
            split at h
            · rename_i o t1 u1 ho ht hu
              cases h
              have hmem := List.mem_of_find?_eq_some hr
              have hp := List.find?_some hr
              simp only [Bool.and_eq_true, Bool.not_eq_true'] at hp
              obtain ⟨hrt, hrZ⟩ := hp
              unfold rdRt at hrt
              rw [ho] at hrt
              simp only [Bool.and_eq_true] at hrt
              have hrdy : r ∈ Region.ready .any l.toArray listed := by rw [he]; exact hmem
              have hoj : l.toArray[r]? = some o := by simpa using ho
              have hrd : rdAt P l r = true := by unfold rdAt rdK; rw [ho]; simp [hrt.1, hrt.2]
              obtain ⟨st, R, ι, φ, ⟨hv1, hv2⟩, hsat⟩ := hs
              obtain ⟨v, hy, hsu⟩ := read_step hrt.1 hrt.2 ⟨st, R, ι, φ, hv1, hsat⟩
              have hB := ih (f' + 1) listed (r :: Z) u1 hu a w ⟨st, R, ι, φ, hv2, hsat⟩
              refine WS.sleep (Region.noSelect_spec hnos) (apartL_ok hap) hoj hrd f' listed _ a w v hrdy hy (ih f' _ Z t1 ht _ _ hsu) ?_
              have hZ : (fun i => Z.contains i || i == r) = fun i => (r :: Z).contains i := by
                funext i
                simp only [List.contains_cons]
                rw [Bool.or_comm]
              rw [hZ]
              exact hB
            · cases h
          · rename_i hnr
            split at h
            · cases h
            · rename_i hany
              have hno : ∀ k ∈ Region.ready .any l.toArray listed, Z.contains k = false → rdAt P l k = false := fun k hk hZ => by
                cases hrk : rdAt P l k with
                | false => rfl
                | true =>
                  exfalso
                  apply hany
                  rw [List.any_eq_true]
                  exact ⟨k, by rw [← he]; exact hk, by rw [hrk, hZ]; rfl⟩
              refine ⟨fun h0 => (by rw [he] at h0; cases h0), fun k hk hZ => ⟨fun hr => (by rw [hno k hk hZ] at hr; cases hr), fun hrk => ?_⟩⟩
              have hkf : k ∈ (i :: is).filter (fun j => !rdAt P l j) := List.mem_filter.2 ⟨by rw [← he]; exact hk, by rw [hrk]; rfl⟩
              split at h
              · rename_i hf0
                rw [hf0] at hkf
                cases hkf
              · rename_i k0 ks hf0
                rw [hf0] at hkf
                obtain ⟨o, u, ho, hu, hsu⟩ := ordB_ok h hs k hkf
                refine VCT_op ho hsu fun a w h => ?_
                have := ih f' _ [] u hu a w h
                exact WS.more _ _ _ _ _ _ (fun i hi => by simp at hi) this
end
/-- Few enough to be told order by order. -/
def isMM (o : Oper) : Bool := match o.op with
  | .call { callee := .builtin .min, .. } | .call { callee := .builtin .max, .. } => true
  | _ => false
def fewO (P : Program) (ops : List Oper) : Bool := (Nat.ble (ops.filter fun o => !isMvO P o).length 8 || (Nat.ble (ops.filter fun o => !isMvO P o).length 9 && ops.any isMM))
/-- The orders: all of them, if they are few; else but for reads swapped with reads. -/
def ordX (P : Program) (l : List Oper) : Option (OT Oper) :=
  if fewO P l then ordT P l l.length (Array.replicate l.length false)
  else if Nat.ble (l.filter fun o => !isMvO P o).length 16 && apartL l P then ordS P l 400 l.length (Array.replicate l.length false) []
  else none
theorem wp_region_ordX {P : Program} {F : Fx} {l : List Oper} {Qs : St → Prop} {Q : Exit → Act → World → Prop} {id : Nat} {t : OT Oper} {st : St} {R : Nat → Prop} {ι : Nat → Value} {φ : Nat → List Nat} {a : Act} {w : World} (hm : P.follows .mixedOrders = true) (hnos : Region.noSelect l.toArray = true) (ht : ordX P l = some t)
    (hQp : ∀ c a t v w, Q (.panic c) (a.put t v) w → Q (.panic c) a w) (hQ : ∀ st a w R ι φ, Qs st → Sat F R ι φ st a w → Q .normal a w) (h : VCT P F.n l t Qs st) (hs : Sat F R ι φ st a w) : (Code.region id l.toArray true).wp P Q a w := by
  unfold ordX at ht
  split at ht
  · exact wp_region_ord hm hnos ht hQp hQ h hs
  · split at ht
    · rename_i hc
      simp only [Bool.and_eq_true] at hc
      refine wp_region_any hm ?_
      rw [show l.toArray.size = l.length by simp]
      refine WS.any (rd := rdAt P l) _ _ _ _ ?_
      have := ordS_sound (F := F) (Qs := Qs) hnos hc.2 hQp hQ 400 l.length (Array.replicate l.length false) [] t ht a _ ⟨st, R, ι, φ, h, hs.below' (w' := w.drew) (Below.drew (Below.refl _ _))⟩
      exact WS.more _ _ _ _ _ _ (fun i hi => by simp at hi) this
    · cases ht
/-- One more has been carried out. -/
def setB (L : Nat → Bool) (k : Nat) (i : Nat) : Bool := bif Nat.beq i k then true else L i
theorem setB_same (L : Nat → Bool) (k : Nat) : setB L k k = true := by simp [setB]
theorem setB_ne (L : Nat → Bool) {k i : Nat} (h : i ≠ k) : setB L k i = L i := by
  have : Nat.beq i k = false := by
    cases hb : Nat.beq i k with
    | false => rfl
    | true => exact absurd (Nat.eq_of_beq_eq_true hb) h
  simp [setB, this]
/-- What is known hangs on which operations have been carried out, not on their order. -/
def VCZ (P : Program) (n : Nat) (l : List Oper) (Q : St → Prop) (st : St) : Prop :=
  ∃ S : (Nat → Bool) → St, (∀ L : Nat → Bool, (∀ i, i < l.length → L i = false) → Weak st (S L)) ∧
    (∀ (L : Nat → Bool) k o, l[k]? = some o → L k = false → (∀ j ∈ rgDirect l k, L j = true) → (∀ i j, L i = true → i < l.length → j ∈ rgDirect l i → L j = true) → VCL P n l [o] (fun s => Weak s (S (setB L k))) (S L)) ∧
    ∀ L : Nat → Bool, (∀ i, i < l.length → L i = true) → Q (S L)
/-- Each waits for earlier ones alone. -/
def hltB (l : List Oper) : Bool := (List.range l.length).all fun i => (rgDirect l i).all fun j => Nat.blt j i
theorem hltB_ok {l : List Oper} (h : hltB l = true) : ∀ i, i < l.length → ∀ j ∈ rgDirect l i, j < i := fun i hi j hj => by
  have := List.all_eq_true.1 (List.all_eq_true.1 h i (List.mem_range.2 hi)) j hj
  exact Nat.le_of_ble_eq_true this
theorem getD_ft {listed : Array Bool} {j : Nat} (h : listed.getD j false = true) : listed.getD j true = true := by
  rcases Nat.lt_or_ge j listed.size with h' | h'
  · simpa [h'] using h
  · simp [Array.getElem?_eq_none h'] at h
theorem VCZ_sound {P : Program} {F : Fx} {l : List Oper} {Qs : St → Prop} {Q : Exit → Act → World → Prop} {id : Nat} {st : St} {R : Nat → Prop} {ι : Nat → Value} {φ : Nat → List Nat} {a : Act} {w : World} (hm : P.follows .mixedOrders = true) (hlt : ∀ i, i < l.length → ∀ j ∈ rgDirect l i, j < i)
    (hQ : ∀ st a w R ι φ, Qs st → Sat F R ι φ st a w → Q .normal a w) (h : VCZ P F.n l Qs st) (hs : Sat F R ι φ st a w) : (Code.region id l.toArray true).wp P Q a w := by
  obtain ⟨S, h0, h1, h2⟩ := h
  refine wp_region_any hm ?_
  rw [show l.toArray.size = l.length by simp]
  have main : ∀ (f : Nat) (listed : Array Bool) (a : Act) (w : World), listed.size = l.length → rgLeft listed l.length ≤ f → (∀ i j, listed.getD i true = true → i < l.length → j ∈ rgDirect l i → listed.getD j true = true) → (∃ R ι φ, Sat F R ι φ (S fun i => listed.getD i true) a w) → wpAny P .any l.toArray Q f listed a w := by
    intro f
    induction f with
    | zero =>
      intro listed a w hsz hf hcl ⟨R, ι, φ, hsat⟩
      have hall := rgLeft_zero l.length (Nat.le_zero.1 hf)
      refine ⟨List.eq_nil_iff_forall_not_mem.2 fun i hi => ?_, hQ _ a w R ι φ (h2 _ hall) hsat⟩
      obtain ⟨q1, q2, _⟩ := rgReady hi
      rw [hall i q1] at q2
      cases q2
    | succ f ih =>
      intro listed a w hsz hf hcl ⟨R, ι, φ, hsat⟩
      refine ⟨fun hr => ?_, fun k hk => ?_⟩
      · have hall : ∀ i, i < l.length → listed.getD i true = true := fun i => by
          induction i using Nat.strongRecOn with
          | _ i ih =>
            intro hi
            cases hb : listed.getD i true with
            | true => rfl
            | false =>
              have hin : i ∈ Region.ready .any l.toArray listed := rgReady_of hi hb fun j hj => getD_true_of (by have := hlt i hi j hj; omega) (ih j (hlt i hi j hj) (by have := hlt i hi j hj; omega))
              rw [hr] at hin
              cases hin
        exact hQ _ a w R ι φ (h2 _ hall) hsat
      · obtain ⟨q1, q2, q3⟩ := rgReady hk
        have ho : l[k]? = some l[k] := List.getElem?_eq_getElem q1
        have hst := h1 (fun i => listed.getD i true) k l[k] ho q2 (fun j hj => getD_ft (q3 j hj)) (fun i j hi hi2 hj => hcl i j hi hi2 hj)
        have hfun : (fun i => (listed.setIfInBounds k true).getD i true) = setB (fun i => listed.getD i true) k := by
          funext i
          by_cases hik : i = k
          · subst hik
            rw [setB_same]
            exact getD_set_self q2 true
          · rw [setB_ne _ hik]
            exact getD_set_ne true fun h => hik h.symm
        have hmon : ∀ i, listed.getD i true = true → (listed.setIfInBounds k true).getD i true = true := fun i hi => by
          have := congrFun hfun i
          rw [this]
          unfold setB
          cases Nat.beq i k <;> simp [hi]
        refine VCT_op (F := F) (t := .done) (Qs := fun s => Weak s (S (setB (fun i => listed.getD i true) k))) ho ⟨_, R, ι, φ, hst, hsat⟩ fun a1 w1 hsa => ih _ a1 w1 (by simpa using hsz) ?_ (fun i j hi hi2 hj => ?_) ?_
        · have := rgLeft_set q2 l.length
          rw [if_pos q1] at this
          omega
        · by_cases hik : i = k
          · subst hik
            exact hmon j (getD_ft (q3 j hj))
          · refine hmon j (hcl i j ?_ hi2 hj)
            rw [congrFun hfun i, setB_ne _ hik] at hi
            exact hi
        · obtain ⟨s, R1, ι1, φ1, hq, hsat1⟩ := hsa
          have hq : Weak s (S (setB (fun i => listed.getD i true) k)) := hq
          rw [hfun]
          exact hq F R1 ι1 φ1 a1 w1 hsat1
  have hF : ∀ j, j < l.length → (Array.replicate l.length false).getD j true = false := fun j hj => by simp [hj]
  refine main _ _ a _ (by simp) ?_ (fun i j hi hi2 _ => ?_) ?_
  · have : ∀ k, rgLeft (Array.replicate l.length false) k ≤ k := by
      intro k
      induction k with
      | zero => exact Nat.le_refl _
      | succ k ih => unfold rgLeft; split <;> omega
    exact this _
  · rw [hF i hi2] at hi
    cases hi
  · obtain ⟨R1, ι1, φ1, h3⟩ := h0 (fun i => (Array.replicate l.length false).getD i true) hF F R ι φ a _ (hs.below' (w' := w.drew) (Below.drew (Below.refl _ _)))
    exact ⟨R1, ι1, φ1, h3⟩
end Go.Proofs.YtlblmofimjhbbaaDoor
