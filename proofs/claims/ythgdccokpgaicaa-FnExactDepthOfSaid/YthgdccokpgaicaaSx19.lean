/- Rules to walk with: one step each. No program is named here. -/
import Derived.Test.YthgdccokpgaicaaSx18
import Derived.Test.YthgdccokpgaicaaSx15
namespace Go.Proofs.Ythgdccokpgaicaa
open Go.RowKit
/-- What is still to be done behind the code: more code, the end of a block, the next round of a loop. -/
inductive Fr where
  | seq (b : SC)
  | blk (id : Nat)
  | loop (I : St → Prop)
def kQ (P : Program) : List Fr → (Exit → St → Prop) → Exit → St → Prop
  | [], Q, e, s => Q e s
  | .seq b :: ks, Q, e, s => match e with
    | .normal => ∃ s', Weak s s' ∧ VSC P b (kQ P ks Q) s'
    | e => kQ P ks Q e s
  | .blk id :: ks, Q, e, s => match e with
    | .exit id' => if id' = id then kQ P ks Q .normal s else kQ P ks Q (.exit id') s
    | e => kQ P ks Q e s
  | .loop I :: ks, Q, e, s => match e with
    | .normal => I s
    | e => kQ P ks Q e s
@[irreducible] def WC (P : Program) (c : SC) (ks : List Fr) (Q : Exit → St → Prop) (st : St) : Prop := VSC P c (kQ P ks Q) st
@[irreducible] def WL (P : Program) (l : List SR) (ks : List Fr) (Q : Exit → St → Prop) (st : St) : Prop := VLs P l (kQ P ks Q .normal) st
@[irreducible] def WN (P : Program) (ks : List Fr) (Q : Exit → St → Prop) (st : St) : Prop := kQ P ks Q .normal st
/-- What an exit leaves to be done. -/
def popTo (id : Nat) : List Fr → Option (List Fr)
  | [] => none
  | .blk id' :: ks => if id = id' then some ks else popTo id ks
  | _ :: ks => popTo id ks
def frE : List (Nat × AV) → Nat → AV
  | [] => fun _ => deadA
  | (d, v) :: l => upd (frE l) d v
def frO : List (Nat × Ob) → Nat → Option Ob
  | [] => fun _ => none
  | (d, v) :: l => upd (frO l) d (some v)
def holdsE (st : St) : List (Nat × AV) → Prop
  | [] => True
  | (d, v) :: l => st.env d = v ∧ holdsE st l
def holdsO (st : St) : List (Nat × Ob) → Prop
  | [] => True
  | (d, v) :: l => st.objs d = some v ∧ holdsO st l
def binI (op : BinOp) (a b : Value) : Option Value :=
  match a, b with
  | .int k x, .int k' y => match op with
    | .shl => shV .shl k x y
    | .shr => shV .shr k x y
    | op => if k = k' then numV op k x y else none
  | .string x, .string y => strV op x y
  | _, _ => none
section
variable {P : Program} {Q : Exit → St → Prop} {ks : List Fr} {e : Nat → AV} {o : Nat → Option Ob} {d : Nat} {x y z : Operand} {rest : List SR}
theorem WC.intro {c : SC} {st : St} (h : WC P c [] Q st) : VSC P c Q st := by
  unfold WC at h
  exact strip_ok_id h
where
  strip_ok_id {c : SC} {st : St} (h : VSC P c (kQ P [] Q) st) : VSC P c Q st := VSC_mono (fun _ _ h => h) h
theorem R.seq {a b : SC} {st : St} (h : WC P a (.seq b :: ks) Q st) : WC P (.seq a b) ks Q st := by
  unfold WC at h ⊢
  exact VSC_mono (fun e s h => by cases e <;> exact h) h
theorem R.reg {l : List SR} {st : St} (h : WL P l ks Q st) : WC P (.reg l) ks Q st := by
  unfold WL at h; unfold WC; exact h
theorem R.nil {st : St} (h : WN P ks Q st) : WL P [] ks Q st := by unfold WN at h; unfold WL; exact h
theorem R.skip {st : St} (h : WN P ks Q st) : WC P .skip ks Q st := by unfold WN at h; unfold WC; exact h
theorem R.nseq {b : SC} {st : St} (h : WC P b ks Q st) : WN P (.seq b :: ks) Q st := by unfold WC at h; unfold WN; exact ⟨_, Weak.refl _, h⟩
/-- .. and what is known is told in other words. -/
theorem R.nseqW {b : SC} {st st' : St} (hw : Weak st st') (h : WC P b ks Q st') : WN P (.seq b :: ks) Q st := by unfold WC at h; unfold WN; exact ⟨_, hw, h⟩
theorem R.nblk {id : Nat} {st : St} (h : WN P ks Q st) : WN P (.blk id :: ks) Q st := by unfold WN at h ⊢; exact h
theorem R.nloop {I : St → Prop} {st : St} (h : I st) : WN P (.loop I :: ks) Q st := by unfold WN; exact h
theorem R.nend {st : St} (h : Q .normal st) : WN P [] Q st := by unfold WN; exact h
theorem R.blk {id : Nat} {c : SC} {st : St} (h : WC P c (.blk id :: ks) Q st) : WC P (.block id c) ks Q st := by
  unfold WC at h ⊢
  exact VSC_mono (fun e s h => by cases e <;> exact h) h
theorem R.ret {st : St} (h : Q .ret st) : WC P .ret ks Q st := by
  unfold WC
  show kQ P ks Q .ret st
  induction ks with
  | nil => exact h
  | cons f ks ih => cases f <;> exact ih
theorem R.exit {id : Nat} {st : St} {ks' : List Fr} (hp : popTo id ks = some ks') (h : WN P ks' Q st) : WC P (.exit id) ks Q st := by
  unfold WC
  unfold WN at h
  show kQ P ks Q (.exit id) st
  induction ks with
  | nil => cases hp
  | cons f ks ih =>
    cases f with
    | seq b => exact ih hp
    | loop I => exact ih hp
    | blk id' =>
      simp only [popTo] at hp
      show (if id = id' then kQ P ks Q .normal st else kQ P ks Q (.exit id) st)
      split at hp
      · rename_i hi
        cases hp
        rw [if_pos hi]
        exact h
      · rename_i hi
        rw [if_neg hi]
        exact ih hp
theorem R.condT {a b : SC} (h : ev e x = pvA (.bool true)) (k : WC P a ks Q ⟨e, o⟩) : WC P (.cond x a b) ks Q ⟨e, o⟩ := by
  unfold WC at k ⊢
  exact ⟨true, h, fun _ => k, fun h => by cases h⟩
theorem R.condF {a b : SC} (h : ev e x = pvA (.bool false)) (k : WC P b ks Q ⟨e, o⟩) : WC P (.cond x a b) ks Q ⟨e, o⟩ := by
  unfold WC at k ⊢
  exact ⟨false, h, fun h => (by cases h), fun _ => k⟩
theorem R.cond {a b : SC} {p : Prop} [Decidable p] (h : ev e x = pvA (.bool (decide p))) (k1 : p → WC P a ks Q ⟨e, o⟩) (k2 : ¬ p → WC P b ks Q ⟨e, o⟩) : WC P (.cond x a b) ks Q ⟨e, o⟩ := by
  unfold WC at k1 k2 ⊢
  exact ⟨decide p, h, fun h => k1 (of_decide_eq_true h), fun h => k2 (of_decide_eq_false h)⟩
theorem R.condN {a b : SC} {p : Prop} [Decidable p] (h : ev e x = pvA (.bool !(decide p))) (k1 : p → WC P b ks Q ⟨e, o⟩) (k2 : ¬ p → WC P a ks Q ⟨e, o⟩) : WC P (.cond x a b) ks Q ⟨e, o⟩ := by
  unfold WC at k1 k2 ⊢
  exact ⟨!(decide p), h, fun h => k2 (by simpa using h), fun h => k1 (by simpa using h)⟩
theorem R.condB {a b : SC} {t : Bool} (h : ev e x = pvA (.bool t)) (k1 : t = true → WC P a ks Q ⟨e, o⟩) (k2 : t = false → WC P b ks Q ⟨e, o⟩) : WC P (.cond x a b) ks Q ⟨e, o⟩ := by
  unfold WC at k1 k2 ⊢
  exact ⟨t, h, k1, k2⟩
theorem frame_env {st : St} : ∀ {L : List (Nat × AV)}, holdsE st L → ∀ d, frE L d = st.env d ∨ frE L d = deadA
  | [], _, d => .inr rfl
  | (d', v) :: L, h, d => by
    show upd (frE L) d' v d = _ ∨ upd (frE L) d' v d = deadA
    by_cases hd : d = d'
    · subst hd; rw [upd_same]; exact .inl h.1.symm
    · rw [upd_ne _ _ hd]; exact frame_env h.2 d
theorem frame_obj {st : St} : ∀ {L : List (Nat × Ob)}, holdsO st L → ∀ d x, frO L d = some x → st.objs d = some x ∧ (L.map (·.1)).contains d = true
  | [], _, d, x, hx => by cases hx
  | (d', v) :: L, h, d, x, hx => by
    have hx : upd (frO L) d' (some v) d = some x := hx
    by_cases hd : d = d'
    · subst hd; rw [upd_same] at hx; cases hx; exact ⟨h.1, by simp⟩
    · rw [upd_ne _ _ hd] at hx
      obtain ⟨h1, h2⟩ := frame_obj h.2 d x hx
      exact ⟨h1, by simp at h2 ⊢; exact .inr h2⟩
theorem frO_dom : ∀ {L : List (Nat × Ob)} {o : Nat}, (L.map (·.1)).contains o = true → ∃ x, frO L o = some x
  | [], _, h => by simp at h
  | (d, v) :: L, o, h => by
    by_cases ho : o = d
    · subst ho; exact ⟨v, upd_same _ _ _⟩
    · obtain ⟨x, hx⟩ := frO_dom (L := L) (o := o) (by simp [ho] at h ⊢; exact h)
      exact ⟨x, (upd_ne _ _ ho).trans hx⟩
/-- Only so much is kept. -/
theorem Weak.frame {st : St} (L : List (Nat × AV)) (K : List (Nat × Ob)) (hE : holdsE st L) (hO : holdsO st K) (iE : L.all (fun p => p.2.inK (K.map (·.1))) = true) (iO : K.all (fun p => p.2.inK (K.map (·.1))) = true) : Weak st ⟨frE L, frO K⟩ := fun w0 n R ι a w hs => by
  have hd : ∀ q, (K.map (·.1)).contains q = true → st.dom q → St.dom ⟨frE L, frO K⟩ q := fun q hq _ => frO_dom hq
  refine ⟨R, ι, hs.below, hs.rlt, hs.size, hs.defers, fun d => ?_, fun q x hq => ?_, fun q p x y g hq hp => hs.apart q p x y g (frame_obj hO q x hq).1 (frame_obj hO p y hp).1⟩
  · show RA w R ι (St.dom ⟨frE L, frO K⟩) _ (frE L d)
    rcases frE_cases L d with h | ⟨v, hv, h⟩
    · rw [h]; trivial
    · rcases frame_env hE d with h1 | h1
      · have h2 := hs.env d
        rw [← h1, h] at h2
        rw [h]
        exact RA.inK hd (List.all_eq_true.1 iE _ hv) h2
      · rw [h1]; trivial
  · obtain ⟨hob, hk⟩ := frame_obj hO q x hq
    have h1 := hs.objs q x hob
    obtain ⟨y, hy, hxy⟩ := frO_mem hq
    cases x with
    | box T cs =>
      obtain ⟨g, vs, q1, q2, q3, q4, q5⟩ := h1
      have h2 := List.all_eq_true.1 iO _ hy
      rw [hxy] at h2
      have h2 : cs.all (B.inK (K.map (·.1))) = true := h2
      exact ⟨g, vs, q1, q2, q3, q4, F2.all (p := B.inK (K.map (·.1))) (fun _ _ hk h => RB.inK hd hk h) h2 q5⟩
    | arr e k xs => exact h1
where
  frE_cases : ∀ (L : List (Nat × AV)) (d : Nat), frE L d = deadA ∨ ∃ v, (d, v) ∈ L ∧ frE L d = v
    | [], d => .inl rfl
    | (d', v) :: L, d => by
      show upd (frE L) d' v d = _ ∨ ∃ u, _ ∧ upd (frE L) d' v d = u
      by_cases hd : d = d'
      · subst hd; exact .inr ⟨v, by simp, upd_same _ _ _⟩
      · rw [upd_ne _ _ hd]
        rcases frE_cases L d with h | ⟨u, h1, h2⟩
        · exact .inl h
        · exact .inr ⟨u, by simp [h1], h2⟩
  frO_mem {L : List (Nat × Ob)} {d : Nat} {x : Ob} (h : frO L d = some x) : ∃ y, y ∈ L ∧ y.2 = x := by
    induction L with
    | nil => cases h
    | cons p L ih =>
      obtain ⟨d', v⟩ := p
      have h : upd (frO L) d' (some v) d = some x := h
      by_cases hd : d = d'
      · subst hd; rw [upd_same] at h; cases h; exact ⟨(d, x), by simp, rfl⟩
      · rw [upd_ne _ _ hd] at h
        obtain ⟨y, h1, h2⟩ := ih h
        exact ⟨y, by simp [h1], h2⟩
def B.frz (p : Nat) (ds : List D) : B → B
  | .ptr o off => if o = p then .d (.rp (ds.drop off)) else .ptr o off
  | .own o => if o = p then .dead else .own o
  | .ep o k i off => if o = p then .dead else .ep o k i off
  | b => b
def V1.frz (p : Nat) (ds : List D) : V1 → V1
  | .c b => .c (b.frz p ds)
  | .agg bs => .agg (bs.map (B.frz p ds))
def AV.frz (p : Nat) (ds : List D) : AV → AV
  | .v x => .v (x.frz p ds)
  | .tup xs => .tup (xs.map (V1.frz p ds))
def Ob.frz (p : Nat) (ds : List D) : Ob → Ob
  | .box T cs => .box T (cs.map (B.frz p ds))
  | .arr e k xs => .arr e k xs
def St.frz (st : St) (p : Nat) (ds : List D) : St := ⟨fun d => (st.env d).frz p ds, fun o => if o = p then none else (st.objs o).map (Ob.frz p ds)⟩
theorem dsOf_map : ∀ {cs : List B} {ds : List D}, dsOf cs = some ds → cs = ds.map B.d
  | [], ds, h => by cases h; rfl
  | .d x :: cs, ds, h => by
    simp only [dsOf, Option.map_eq_some_iff] at h
    obtain ⟨ys, h1, rfl⟩ := h
    rw [dsOf_map h1]; rfl
  | .ptr _ _ :: _, _, h => by cases h
  | .own _ :: _, _, h => by cases h
  | .ep _ _ _ _ :: _, _, h => by cases h
  | .dead :: _, _, h => by cases h
theorem F2.unmap_d {w : World} {R : Nat → Prop} {ι : Nat → Value} {dom : Nat → Prop} : ∀ {vs : List Value} {ds : List D}, F2 (RB w R ι dom) vs (ds.map B.d) → F2 (RD w R) vs ds
  | [], [], _ => .nil
  | _ :: _, _ :: _, .cons h1 h2 => .cons h1 (F2.unmap_d h2)
/-- A variable that nobody writes any more: data from here on. -/
theorem Weak.freeze {st : St} (p : Nat) {T : TypeId} {cs : List B} {ds : List D} (hp : st.objs p = some (.box T cs)) (hd : dsOf cs = some ds) : Weak st (st.frz p ds) := fun w0 n R ι a w hs => by
  obtain ⟨g, vs, hg1, hg2, hg3, hg4, hg5⟩ := hs.objs p _ hp
  have hcs := dsOf_map hd
  subst hcs
  have hF : F2 (RD w R) vs ds := F2.unmap_d hg5
  have hlt : g < w.heap.size := by
    rcases Nat.lt_or_ge g w.heap.size with h | h
    · exact h
    · rw [Array.getElem?_eq_none h] at hg4; cases hg4
  let R' : Nat → Prop := fun b => R b ∨ b = g
  have hsub : ∀ b, R b → R' b := fun b h => .inl h
  have hrp : ∀ off, RD w R' (.pointer (some ⟨g, off, none⟩)) (.rp (ds.drop off)) := fun off => by
    refine .rp (fun j => vs.getD (off + j) undef) (.inr rfl) (fun j hj => ?_) fun j d hd => ?_
    · have : off + j < vs.length := by rw [hF.len]; simp at hj; omega
      have hc : w.cell? ⟨g, off + j, none⟩ = vs[off + j]? := by simp [World.cell?, hg4]
      rw [hc, List.getElem?_eq_getElem this]
      simp [List.getD, List.getElem?_eq_getElem this]
    · rw [List.getElem?_drop] at hd
      obtain ⟨v, hv, hr⟩ := hF.get hd
      simp only [List.getD, hv, Option.getD_some]
      exact hr.keep hsub fun _ _ => rfl
  have hdm : ∀ q, q ≠ p → st.dom q → (st.frz p ds).dom q := fun q hq ⟨y, hy⟩ => ⟨y.frz p ds, by simp [St.frz, hq, hy]⟩
  have hB : ∀ {v : Value} {b : B}, RB w R ι st.dom v b → RB w R' ι (st.frz p ds).dom v (b.frz p ds) := fun {v b} h => by
    cases b with
    | d x => exact RD.keep hsub (fun _ _ => rfl) h
    | ptr q off =>
      obtain ⟨h1, g', h2, h3⟩ := h
      by_cases hq : q = p
      · subst hq
        rw [hg1] at h2
        cases h2
        subst h3
        simp only [B.frz, if_true]
        exact hrp off
      · simp only [B.frz, if_neg hq]
        exact ⟨hdm q hq h1, g', h2, h3⟩
    | own q =>
      obtain ⟨h1, h2⟩ := h
      by_cases hq : q = p
      · simp only [B.frz, if_pos hq]; trivial
      · simp only [B.frz, if_neg hq]
        exact ⟨hdm q hq h1, h2⟩
    | ep q k i off =>
      obtain ⟨h1, g', n', c', h2, h3⟩ := h
      by_cases hq : q = p
      · simp only [B.frz, if_pos hq]; trivial
      · simp only [B.frz, if_neg hq]
        exact ⟨hdm q hq h1, g', n', c', h2, h3⟩
    | dead => trivial
  have hV : ∀ {v : Value} {x : V1}, RV1 w R ι st.dom v x → RV1 w R' ι (st.frz p ds).dom v (x.frz p ds) := fun {v x} h => by
    cases x with
    | c b => exact hB h
    | agg bs => obtain ⟨us, h1, h2⟩ := h; exact ⟨us, h1, h2.map_right fun _ _ h => hB h⟩
  have hget : ∀ q y, (st.frz p ds).objs q = some y → q ≠ p ∧ ∃ z, st.objs q = some z ∧ y = z.frz p ds := fun q y hy => by
    simp only [St.frz] at hy
    split at hy
    · cases hy
    · rename_i hq
      rw [Option.map_eq_some_iff] at hy
      obtain ⟨z, h1, rfl⟩ := hy
      exact ⟨hq, z, h1, rfl⟩
  refine ⟨R', ι, hs.below, fun b hb => hb.elim (hs.rlt b) (fun e => e ▸ hlt), hs.size, hs.defers, fun d => ?_, fun q y hy => ?_, fun q r y z g' hq hr => ?_⟩
  · have h := hs.env d
    show RA w R' ι _ _ ((st.env d).frz p ds)
    cases hx : st.env d with
    | v x => rw [hx] at h; exact hV h
    | tup xs => rw [hx] at h; obtain ⟨us, h1, h2⟩ := h; exact ⟨us, h1, h2.map_right fun _ _ h => hV h⟩
  · obtain ⟨hq, z, hz, rfl⟩ := hget q y hy
    have h := hs.objs q z hz
    have hne : ∀ g', blk (ι q) = some g' → g' ≠ g := fun g' h1 e => hq (hs.apart q p z _ g hz hp (e ▸ h1) (by rw [hg1]; rfl))
    cases z with
    | box T' cs' =>
      obtain ⟨g', us, q1, q2, q3, q4, q5⟩ := h
      refine ⟨g', us, q1, q2, fun hr => hr.elim q3 (hne g' (by rw [q1]; rfl)), q4, q5.map_right fun _ _ h => hB h⟩
    | arr e k xs =>
      exact RArr.keep hsub (fun _ _ => rfl) (fun g' hg' => ⟨rfl, fun hr => hr.elim (fun h1 => by
        obtain ⟨_, us, _, _, h4⟩ := h
        exact h4 g' hg' h1) (hne g' (ownBlock_blk hg'))⟩) h
  · obtain ⟨_, z1, h1, _⟩ := hget q y hq
    obtain ⟨_, z2, h2, _⟩ := hget r z hr
    exact hs.apart q r z1 z2 g' h1 h2
def capPtr (e : Nat → AV) : List Operand → Option Nat
  | [] => none
  | .tmp t :: xs => match e t with
    | .v (.c (.ptr p _)) => some p
    | _ => capPtr e xs
  | _ :: xs => capPtr e xs
def mkfPtrL (e : Nat → AV) : List SR → Option Nat
  | [] => none
  | ⟨_, _, .mkf _ caps⟩ :: l => match capPtr e caps with
    | some p => some p
    | none => mkfPtrL e l
  | _ :: l => mkfPtrL e l
def mkfPtr (e : Nat → AV) : SC → Option Nat
  | .reg l => mkfPtrL e l
  | .seq a _ => mkfPtr e a
  | _ => none
/-- A variable that the next function literal captures: data from here on. -/
theorem R.nseqF {b : SC} {p T : Nat} {cs : List B} {ds : List D} (_ : mkfPtr e b = some p) (hp : o p = some (.box T cs)) (hd : dsOf cs = some ds) (h : WC P b ks Q ⟨fun d => (e d).frz p ds, fun q => if q = p then none else (o q).map (Ob.frz p ds)⟩) : WN P (.seq b :: ks) Q ⟨e, o⟩ := R.nseqW (Weak.freeze (st := ⟨e, o⟩) p hp hd) h
/-- A loop: what holds at its head, told by ghosts; a measure of them. -/
theorem R.loop {c : SC} {st : St} {G : Type} (E : G → List (Nat × AV)) (O : G → List (Nat × Ob)) (F : G → Prop) (m : G → Nat) (g0 : G) (h0 : F g0) (hw : Weak st ⟨frE (E g0), frO (O g0)⟩)
    (hb : ∀ g, F g → WC P c (.loop (fun s' => ∃ g', F g' ∧ m g' < m g ∧ Weak s' ⟨frE (E g'), frO (O g')⟩) :: ks) Q ⟨frE (E g), frO (O g)⟩) : WC P (.loop c) ks Q st := by
  unfold WC
  refine ⟨fun k s => ∃ g, k = m g ∧ F g ∧ s = ⟨frE (E g), frO (O g)⟩, ⟨m g0, _, hw, g0, rfl, h0, rfl⟩, fun k s hI => ?_⟩
  obtain ⟨g, rfl, hF, rfl⟩ := hI
  have := hb g hF
  unfold WC at this
  refine VSC_mono (fun e s' h => ?_) this
  cases e with
  | normal =>
    obtain ⟨g', h1, h2, h3⟩ := h
    exact ⟨m g', _, h2, h3, g', rfl, h1, rfl⟩
  | _ => exact h
theorem R.again {G : Type} {E : G → List (Nat × AV)} {O : G → List (Nat × Ob)} {F : G → Prop} {m : G → Nat} {g : G} {st : St} (g' : G) (hF : F g') (hm : m g' < m g) (hE : holdsE st (E g')) (hO : holdsO st (O g')) (iE : (E g').all (fun p => p.2.inK ((O g').map (·.1))) = true) (iO : (O g').all (fun p => p.2.inK ((O g').map (·.1))) = true) : ∃ g', F g' ∧ m g' < m g ∧ Weak st ⟨frE (E g'), frO (O g')⟩ := ⟨g', hF, hm, Weak.frame _ _ hE hO iE iO⟩
-- guards
theorem R.gRun {dst : Option Tmp} {s : SOp} {t : Bool} (h : e d = pvA (.bool t)) (k : WL P (⟨dst, none, s⟩ :: rest) ks Q ⟨e, o⟩) : WL P (⟨dst, some (d, t), s⟩ :: rest) ks Q ⟨e, o⟩ := by
  unfold WL at k ⊢
  exact .inr ⟨t, h, fun _ => k, fun h => by cases t <;> cases h⟩
theorem R.gSkip {q : Nat} {s : SOp} {t : Bool} (h : e d = pvA (.bool !t)) (k : WL P rest ks Q ⟨upd e q undefA, o⟩) : WL P (⟨some q, some (d, t), s⟩ :: rest) ks Q ⟨e, o⟩ := by
  unfold WL at k ⊢
  exact .inr ⟨!t, h, fun h => (by cases t <;> cases h), fun _ => k⟩
theorem R.gSkip0 {s : SOp} {t : Bool} (h : e d = pvA (.bool !t)) (k : WL P rest ks Q ⟨e, o⟩) : WL P (⟨none, some (d, t), s⟩ :: rest) ks Q ⟨e, o⟩ := by
  unfold WL at k ⊢
  exact .inr ⟨!t, h, fun h => (by cases t <;> cases h), fun _ => k⟩
theorem R.gUndef {q : Nat} {s : SOp} {t : Bool} (h : e d = undefA) (k : WL P rest ks Q ⟨upd e q undefA, o⟩) : WL P (⟨some q, some (d, t), s⟩ :: rest) ks Q ⟨e, o⟩ := by
  unfold WL at k ⊢
  exact .inl ⟨h, k⟩
theorem R.gUndef0 {s : SOp} {t : Bool} (h : e d = undefA) (k : WL P rest ks Q ⟨e, o⟩) : WL P (⟨none, some (d, t), s⟩ :: rest) ks Q ⟨e, o⟩ := by
  unfold WL at k ⊢
  exact .inl ⟨h, k⟩
theorem upd_eta {e : Nat → AV} {d : Nat} {v : AV} (h : e d = v) : upd e d v = e := by
  funext i
  by_cases hi : i = d
  · subst hi; rw [upd_same, h]
  · rw [upd_ne _ _ hi]
/-- A Bool that is not told: both ways. -/
theorem R.gB {dst : Option Tmp} {s : SOp} {t w : Bool} (h : e d = pvA (.bool t)) (k1 : t = true → WL P (⟨dst, some (d, w), s⟩ :: rest) ks Q ⟨upd e d (pvA (.bool true)), o⟩) (k2 : t = false → WL P (⟨dst, some (d, w), s⟩ :: rest) ks Q ⟨upd e d (pvA (.bool false)), o⟩) : WL P (⟨dst, some (d, w), s⟩ :: rest) ks Q ⟨e, o⟩ := by
  cases t with
  | true => have := k1 rfl; rwa [upd_eta h] at this
  | false => have := k2 rfl; rwa [upd_eta h] at this
theorem R.gP {dst : Option Tmp} {s : SOp} {p : Prop} [Decidable p] {w : Bool} (h : e d = pvA (.bool (decide p))) (k1 : p → WL P (⟨dst, some (d, w), s⟩ :: rest) ks Q ⟨upd e d (pvA (.bool true)), o⟩) (k2 : ¬ p → WL P (⟨dst, some (d, w), s⟩ :: rest) ks Q ⟨upd e d (pvA (.bool false)), o⟩) : WL P (⟨dst, some (d, w), s⟩ :: rest) ks Q ⟨e, o⟩ :=
  R.gB h (fun h => k1 (of_decide_eq_true h)) (fun h => k2 (of_decide_eq_false h))
theorem R.gN {dst : Option Tmp} {s : SOp} {p : Prop} [Decidable p] {w : Bool} (h : e d = pvA (.bool !(decide p))) (k1 : p → WL P (⟨dst, some (d, w), s⟩ :: rest) ks Q ⟨upd e d (pvA (.bool false)), o⟩) (k2 : ¬ p → WL P (⟨dst, some (d, w), s⟩ :: rest) ks Q ⟨upd e d (pvA (.bool true)), o⟩) : WL P (⟨dst, some (d, w), s⟩ :: rest) ks Q ⟨e, o⟩ :=
  R.gB h (fun h => k2 (by simpa using h)) (fun h => k1 (by simpa using h))
-- operations
theorem R.mv {v : V1} (h : ev e x = .v v) (k : WL P rest ks Q ⟨upd e d (.v v), o⟩) : WL P (⟨some d, none, .mv x⟩ :: rest) ks Q ⟨e, o⟩ := by
  unfold WL at k ⊢
  show VLs P rest _ ⟨upd e d (ev e x), o⟩
  rw [h]; exact k
theorem R.mvU {xs : List V1} (h : ev e x = .tup xs) (k : WL P rest ks Q ⟨upd e d (.tup xs), o⟩) : WL P (⟨some d, none, .mv x⟩ :: rest) ks Q ⟨e, o⟩ := by
  unfold WL at k ⊢
  show VLs P rest _ ⟨upd e d (ev e x), o⟩
  rw [h]; exact k
theorem R.mvT (k : WL P rest ks Q ⟨upd e d (ev e x), o⟩) : WL P (⟨some d, none, .mv x⟩ :: rest) ks Q ⟨e, o⟩ := by
  unfold WL at k ⊢
  exact k
theorem R.pickT {v : V1} (h : ev e x = pvA (.bool true)) (h1 : ev e y = .v v) (k : WL P rest ks Q ⟨upd e d (.v v), o⟩) : WL P (⟨some d, none, .pick x y z⟩ :: rest) ks Q ⟨e, o⟩ := by
  unfold WL at k ⊢
  exact ⟨true, h, fun _ => by rw [h1]; exact k, fun h => by cases h⟩
theorem R.pickF {v : V1} (h : ev e x = pvA (.bool false)) (h1 : ev e z = .v v) (k : WL P rest ks Q ⟨upd e d (.v v), o⟩) : WL P (⟨some d, none, .pick x y z⟩ :: rest) ks Q ⟨e, o⟩ := by
  unfold WL at k ⊢
  exact ⟨false, h, fun h => (by cases h), fun _ => by rw [h1]; exact k⟩
theorem R.bin {op : BinOp} {a b r : Value} (h1 : ev e x = pvA a) (h2 : ev e y = pvA b) (h3 : binI op a b = some r) (k : WL P rest ks Q ⟨upd e d (pvA r), o⟩) : WL P (⟨some d, none, .bin op x y⟩ :: rest) ks Q ⟨e, o⟩ := by
  unfold WL at k ⊢
  refine ⟨a, b, r, h1, h2, fun u v h => ?_, fun T => ?_, k⟩
  · obtain ⟨rfl, rfl⟩ := h; cases h3
  · cases a <;> cases b <;> first | exact h3 | (cases h3)
theorem R.lss {k' : IntKind} {m n : Int} (h1 : ev e x = pvA (.int k' m)) (h2 : ev e y = pvA (.int k' n)) (k : WL P rest ks Q ⟨upd e d (pvA (.bool (decide (m < n)))), o⟩) : WL P (⟨some d, none, .bin .lss x y⟩ :: rest) ks Q ⟨e, o⟩ := R.bin h1 h2 (by simp [binI, numV, cmpV]) k
theorem R.leq {k' : IntKind} {m n : Int} (h1 : ev e x = pvA (.int k' m)) (h2 : ev e y = pvA (.int k' n)) (k : WL P rest ks Q ⟨upd e d (pvA (.bool (decide (m ≤ n)))), o⟩) : WL P (⟨some d, none, .bin .leq x y⟩ :: rest) ks Q ⟨e, o⟩ := R.bin h1 h2 (by simp [binI, numV, cmpV]) k
theorem R.gtr {k' : IntKind} {m n : Int} (h1 : ev e x = pvA (.int k' m)) (h2 : ev e y = pvA (.int k' n)) (k : WL P rest ks Q ⟨upd e d (pvA (.bool (decide (n < m)))), o⟩) : WL P (⟨some d, none, .bin .gtr x y⟩ :: rest) ks Q ⟨e, o⟩ := R.bin h1 h2 (by simp [binI, numV, cmpV]) k
theorem R.geq {k' : IntKind} {m n : Int} (h1 : ev e x = pvA (.int k' m)) (h2 : ev e y = pvA (.int k' n)) (k : WL P rest ks Q ⟨upd e d (pvA (.bool (decide (n ≤ m)))), o⟩) : WL P (⟨some d, none, .bin .geq x y⟩ :: rest) ks Q ⟨e, o⟩ := R.bin h1 h2 (by simp [binI, numV, cmpV]) k
theorem R.eql {k' : IntKind} {m n : Int} (h1 : ev e x = pvA (.int k' m)) (h2 : ev e y = pvA (.int k' n)) (k : WL P rest ks Q ⟨upd e d (pvA (.bool (decide (m = n)))), o⟩) : WL P (⟨some d, none, .bin .eql x y⟩ :: rest) ks Q ⟨e, o⟩ := R.bin h1 h2 (by simp [binI, numV, cmpV]; rfl) k
theorem R.neq {k' : IntKind} {m n : Int} (h1 : ev e x = pvA (.int k' m)) (h2 : ev e y = pvA (.int k' n)) (k : WL P rest ks Q ⟨upd e d (pvA (.bool !(decide (m = n)))), o⟩) : WL P (⟨some d, none, .bin .neq x y⟩ :: rest) ks Q ⟨e, o⟩ := R.bin h1 h2 (by simp [binI, numV, cmpV]; rfl) k
theorem wrap64 {n : Int} (h : -9223372036854775808 ≤ n ∧ n ≤ 9223372036854775807) : IntKind.wrap .i64 n = n := IntWalk.i64_in n h
theorem R.add {m n : Int} (h1 : ev e x = pvA (.int .i64 m)) (h2 : ev e y = pvA (.int .i64 n)) (hr : -9223372036854775808 ≤ m + n ∧ m + n ≤ 9223372036854775807) (k : WL P rest ks Q ⟨upd e d (pvA (.int .i64 (m + n))), o⟩) : WL P (⟨some d, none, .bin .add x y⟩ :: rest) ks Q ⟨e, o⟩ := R.bin h1 h2 (by simp [binI, numV, wrap64 hr]) k
theorem R.sub {m n : Int} (h1 : ev e x = pvA (.int .i64 m)) (h2 : ev e y = pvA (.int .i64 n)) (hr : -9223372036854775808 ≤ m - n ∧ m - n ≤ 9223372036854775807) (k : WL P rest ks Q ⟨upd e d (pvA (.int .i64 (m - n))), o⟩) : WL P (⟨some d, none, .bin .sub x y⟩ :: rest) ks Q ⟨e, o⟩ := R.bin h1 h2 (by simp [binI, numV, wrap64 hr]) k
theorem R.mul {m n : Int} (h1 : ev e x = pvA (.int .i64 m)) (h2 : ev e y = pvA (.int .i64 n)) (hr : -9223372036854775808 ≤ m * n ∧ m * n ≤ 9223372036854775807) (k : WL P rest ks Q ⟨upd e d (pvA (.int .i64 (m * n))), o⟩) : WL P (⟨some d, none, .bin .mul x y⟩ :: rest) ks Q ⟨e, o⟩ := R.bin h1 h2 (by simp [binI, numV, wrap64 hr]) k
theorem R.beql {u v : Bool} (h1 : ev e x = pvA (.bool u)) (h2 : ev e y = pvA (.bool v)) (k : WL P rest ks Q ⟨upd e d (pvA (.bool (decide (u = v)))), o⟩) : WL P (⟨some d, none, .bbin .eql x y⟩ :: rest) ks Q ⟨e, o⟩ := by
  unfold WL at k ⊢
  exact ⟨u, v, h1, h2, .inl ⟨rfl, by rw [show (u == v) = decide (u = v) from by cases u <;> cases v <;> rfl]; exact k⟩⟩
theorem R.bneq {u v : Bool} (h1 : ev e x = pvA (.bool u)) (h2 : ev e y = pvA (.bool v)) (k : WL P rest ks Q ⟨upd e d (pvA (.bool !(decide (u = v)))), o⟩) : WL P (⟨some d, none, .bbin .neq x y⟩ :: rest) ks Q ⟨e, o⟩ := by
  unfold WL at k ⊢
  exact ⟨u, v, h1, h2, .inr ⟨rfl, by rw [show (u == v) = decide (u = v) from by cases u <;> cases v <;> rfl]; exact k⟩⟩
theorem R.not {t : Bool} (h : ev e x = pvA (.bool t)) (k : WL P rest ks Q ⟨upd e d (pvA (.bool !t)), o⟩) : WL P (⟨some d, none, .not x⟩ :: rest) ks Q ⟨e, o⟩ := by
  unfold WL at k ⊢
  exact ⟨t, h, k⟩
theorem R.neg {m : Int} (h : ev e x = pvA (.int .i64 m)) (hr : -9223372036854775808 ≤ 0 - m ∧ 0 - m ≤ 9223372036854775807) (k : WL P rest ks Q ⟨upd e d (pvA (.int .i64 (0 - m))), o⟩) : WL P (⟨some d, none, .neg x⟩ :: rest) ks Q ⟨e, o⟩ := by
  unfold WL at k ⊢
  exact ⟨.i64, m, h, by rw [wrap64 hr]; exact k⟩
theorem R.cv {k1 k' : IntKind} {m : Int} (h : ev e x = pvA (.int k1 m)) (k : WL P rest ks Q ⟨upd e d (pvA (.int k' (k'.wrap m))), o⟩) : WL P (⟨some d, none, .cv k' x⟩ :: rest) ks Q ⟨e, o⟩ := by
  unfold WL at k ⊢
  exact ⟨k1, m, h, k⟩
theorem R.cv64 {k1 : IntKind} {m : Int} (h : ev e x = pvA (.int k1 m)) (hr : -9223372036854775808 ≤ m ∧ m ≤ 9223372036854775807) (k : WL P rest ks Q ⟨upd e d (pvA (.int .i64 m)), o⟩) : WL P (⟨some d, none, .cv .i64 x⟩ :: rest) ks Q ⟨e, o⟩ := R.cv h (by rw [wrap64 hr]; exact k)
theorem R.ext {xs : List V1} {j : Nat} {v : V1} (h : ev e x = .tup xs) (h1 : xs[j]? = some v) (k : WL P rest ks Q ⟨upd e d (.v v), o⟩) : WL P (⟨some d, none, .ext x j⟩ :: rest) ks Q ⟨e, o⟩ := by
  unfold WL at k ⊢
  exact ⟨xs, v, h, h1, k⟩
theorem R.max {m n : Int} {k' : IntKind} (h1 : ev e x = pvA (.int k' m)) (h2 : ev e y = pvA (.int k' n)) (k : WL P rest ks Q ⟨upd e d (pvA (.int k' (Max.max m n))), o⟩) : WL P (⟨some d, none, .max x y⟩ :: rest) ks Q ⟨e, o⟩ := by
  unfold WL at k ⊢
  exact ⟨k', m, n, h1, h2, by rw [show (if n > m then n else m) = Max.max m n from by split <;> omega]; exact k⟩
theorem R.min {m n : Int} {k' : IntKind} (h1 : ev e x = pvA (.int k' m)) (h2 : ev e y = pvA (.int k' n)) (k : WL P rest ks Q ⟨upd e d (pvA (.int k' (Min.min m n))), o⟩) : WL P (⟨some d, none, .min x y⟩ :: rest) ks Q ⟨e, o⟩ := by
  unfold WL at k ⊢
  exact ⟨k', m, n, h1, h2, by rw [show (if n < m then n else m) = Min.min m n from by split <;> omega]; exact k⟩
theorem R.len {b : B} {n : Nat} (h : ev e x = .v (.c b)) (h1 : lenOf o b = some n) (k : WL P rest ks Q ⟨upd e d (pvA (.int .i64 n)), o⟩) : WL P (⟨some d, none, .len x⟩ :: rest) ks Q ⟨e, o⟩ := by
  unfold WL at k ⊢
  exact ⟨b, n, h, h1, k⟩
theorem R.lenM {α : Type} {f : α → List D} {l : List α} {q : Nat} (h : ev e x = rdA q (l.map f)) (k : WL P rest ks Q ⟨upd e d (pvA (.int .i64 l.length)), o⟩) : WL P (⟨some d, none, .len x⟩ :: rest) ks Q ⟨e, o⟩ := R.len (n := l.length) h (by simp [lenOf]) k
theorem R.lenO {α : Type} {f : α → List D} {l : List α} {p E q : Nat} (h : ev e x = .v (.c (.own p))) (h1 : o p = some (.arr E q (l.map f))) (k : WL P rest ks Q ⟨upd e d (pvA (.int .i64 l.length)), o⟩) : WL P (⟨some d, none, .len x⟩ :: rest) ks Q ⟨e, o⟩ := R.len (n := l.length) h (by simp [lenOf, h1]) k
theorem R.slen {s : ByteArray} (h : ev e x = pvA (.string s)) (k : WL P rest ks Q ⟨upd e d (pvA (.int .i64 s.size)), o⟩) : WL P (⟨some d, none, .slen x⟩ :: rest) ks Q ⟨e, o⟩ := by
  unfold WL at k ⊢
  exact ⟨s, h, k⟩
theorem R.ixM {α : Type} {f : α → List D} {l : List α} {s : Nat} {k' : IntKind} {n : Int} (h : ev e x = rdA s (l.map f)) (h1 : ev e y = pvA (.int k' n)) (h0 : 0 ≤ n ∧ n < l.length) (k : ∀ a, l[n.toNat]? = some a → WL P rest ks Q ⟨upd e d (.v (.c (.d (.rp (f a))))), o⟩) : WL P (⟨some d, none, .ix s x y⟩ :: rest) ks Q ⟨e, o⟩ := by
  unfold WL at k ⊢
  have hi : l[n.toNat]? = some (l[n.toNat]'(by omega)) := List.getElem?_eq_getElem (by omega)
  exact ⟨_, k', n, h, h1, h0.1, .inl ⟨_, f (l[n.toNat]'(by omega)), rfl, by rw [List.getElem?_map, hi]; rfl, k _ hi⟩⟩
theorem R.ixN {α : Type} {f : α → List D} {l : List α} {s : Nat} {k' : IntKind} {i : Nat} (h : ev e x = rdA s (l.map f)) (h1 : ev e y = pvA (.int k' (i : Int))) (h0 : i < l.length) (k : ∀ a, l[i]? = some a → WL P rest ks Q ⟨upd e d (.v (.c (.d (.rp (f a))))), o⟩) : WL P (⟨some d, none, .ix s x y⟩ :: rest) ks Q ⟨e, o⟩ :=
  R.ixM h h1 ⟨by omega, by omega⟩ k
theorem R.ixO {α : Type} {f : α → List D} {l : List α} {s p E : Nat} {k' : IntKind} {n : Int} (h : ev e x = .v (.c (.own p))) (ho : o p = some (.arr E s (l.map f))) (h1 : ev e y = pvA (.int k' n)) (h0 : 0 ≤ n ∧ n < l.length) (k : ∀ a, l[n.toNat]? = some a → WL P rest ks Q ⟨upd e d (.v (.c (.ep p s n.toNat 0))), o⟩) : WL P (⟨some d, none, .ix s x y⟩ :: rest) ks Q ⟨e, o⟩ := by
  unfold WL at k ⊢
  have hi : l[n.toNat]? = some (l[n.toNat]'(by omega)) := List.getElem?_eq_getElem (by omega)
  exact ⟨_, k', n, h, h1, h0.1, .inr ⟨p, E, _, rfl, ho, by simpa using h0.2, k _ hi⟩⟩
theorem R.ixOP {α : Type} {f : α → List D} {l : List α} {s p E : Nat} {k' : IntKind} {n : Int} {q : α → Prop} (hq : ∀ a ∈ l, q a) (h : ev e x = .v (.c (.own p))) (ho : o p = some (.arr E s (l.map f))) (h1 : ev e y = pvA (.int k' n)) (h0 : 0 ≤ n ∧ n < l.length) (k : ∀ a, l[n.toNat]? = some a → q a → WL P rest ks Q ⟨upd e d (.v (.c (.ep p s n.toNat 0))), o⟩) : WL P (⟨some d, none, .ix s x y⟩ :: rest) ks Q ⟨e, o⟩ :=
  R.ixO h ho h1 h0 fun a ha => k a ha (hq a (List.mem_of_getElem? ha))
theorem R.ixON {α : Type} {f : α → List D} {l : List α} {s p E : Nat} {k' : IntKind} {i : Nat} (h : ev e x = .v (.c (.own p))) (ho : o p = some (.arr E s (l.map f))) (h1 : ev e y = pvA (.int k' (i : Int))) (h0 : i < l.length) (k : ∀ a, l[i]? = some a → WL P rest ks Q ⟨upd e d (.v (.c (.ep p s i 0))), o⟩) : WL P (⟨some d, none, .ix s x y⟩ :: rest) ks Q ⟨e, o⟩ :=
  R.ixO h ho h1 ⟨by omega, by omega⟩ k
theorem R.six {s : ByteArray} {k' : IntKind} {n : Int} (h : ev e x = pvA (.string s)) (h1 : ev e y = pvA (.int k' n)) (h0 : 0 ≤ n ∧ n < s.size) (k : ∀ b, s[n.toNat]? = some b → WL P rest ks Q ⟨upd e d (pvA (.int .u8 b.toNat)), o⟩) : WL P (⟨some d, none, .six x y⟩ :: rest) ks Q ⟨e, o⟩ := by
  unfold WL at k ⊢
  have hi : s[n.toNat]? = some (s[n.toNat]'(by omega)) := getElem?_pos s n.toNat (by omega)
  exact ⟨s, k', n, _, h, h1, h0.1, hi, k _ hi⟩
theorem R.ld {b : B} {cs : List B} {c : B} (h : ev e x = .v (.c b)) (h1 : cellsAt o b = some cs) (h2 : cs[0]? = some c) {s : Nat} (k : WL P rest ks Q ⟨upd e d (.v (.c c)), o⟩) : WL P (⟨some d, none, .ld false s x⟩ :: rest) ks Q ⟨e, o⟩ := by
  unfold WL at k ⊢
  exact ⟨b, cs, h, h1, fun h => (by cases h), fun _ => ⟨c, h2, k⟩⟩
theorem R.lda {b : B} {cs cs' : List B} {s : Nat} (h : ev e x = .v (.c b)) (h1 : cellsAt o b = some cs) (h2 : s ≤ cs.length) (h3 : cs.take s = cs') (k : WL P rest ks Q ⟨upd e d (.v (.agg cs')), o⟩) : WL P (⟨some d, none, .ld true s x⟩ :: rest) ks Q ⟨e, o⟩ := by
  unfold WL at k ⊢
  exact ⟨b, cs, h, h1, fun _ => ⟨h2, by rw [h3]; exact k⟩, fun h => by cases h⟩
theorem R.ldEp {α : Type} {f : α → List D} {l : List α} {p s i off E : Nat} {a : α} {c : B} (h : ev e x = .v (.c (.ep p s i off))) (ho : o p = some (.arr E s (l.map f))) (hi : l[i]? = some a) (h2 : (((f a).drop off).map B.d)[0]? = some c) {s' : Nat} (k : WL P rest ks Q ⟨upd e d (.v (.c c)), o⟩) : WL P (⟨some d, none, .ld false s' x⟩ :: rest) ks Q ⟨e, o⟩ := R.ld h (by simp [cellsAt, ho, hi]) h2 k
theorem R.ldaEp {α : Type} {f : α → List D} {l : List α} {p s i off E s' : Nat} {a : α} {cs' : List B} (h : ev e x = .v (.c (.ep p s i off))) (ho : o p = some (.arr E s (l.map f))) (hi : l[i]? = some a) (h2 : s' ≤ (((f a).drop off).map B.d).length) (h3 : (((f a).drop off).map B.d).take s' = cs') (k : WL P rest ks Q ⟨upd e d (.v (.agg cs')), o⟩) : WL P (⟨some d, none, .ld true s' x⟩ :: rest) ks Q ⟨e, o⟩ := R.lda h (by simp [cellsAt, ho, hi]) h2 h3 k
theorem R.nc {b : B} (h : ev e x = .v (.c b)) (h1 : isPtr b = true) (k : WL P rest ks Q ⟨upd e d (.v (.c b)), o⟩) : WL P (⟨some d, none, .nc x⟩ :: rest) ks Q ⟨e, o⟩ := by
  unfold WL at k ⊢
  exact ⟨b, h, h1, k⟩
theorem R.nc0 {b : B} (h : ev e x = .v (.c b)) (h1 : isPtr b = true) (k : WL P rest ks Q ⟨e, o⟩) : WL P (⟨none, none, .nc x⟩ :: rest) ks Q ⟨e, o⟩ := by
  unfold WL at k ⊢
  exact ⟨b, h, h1, k⟩
theorem R.fa {b b' : B} {off : Nat} (h : ev e x = .v (.c b)) (h1 : addOff b off = some b') (k : WL P rest ks Q ⟨upd e d (.v (.c b')), o⟩) : WL P (⟨some d, none, .fa off x⟩ :: rest) ks Q ⟨e, o⟩ := by
  unfold WL at k ⊢
  exact ⟨b, b', h, h1, k⟩
theorem R.fld {cs : List B} {off s : Nat} {c : B} (h : ev e x = .v (.agg cs)) (h1 : cs[off]? = some c) (k : WL P rest ks Q ⟨upd e d (.v (.c c)), o⟩) : WL P (⟨some d, none, .fld off false s x⟩ :: rest) ks Q ⟨e, o⟩ := by
  unfold WL at k ⊢
  exact ⟨cs, h, fun h => (by cases h), fun _ => ⟨c, h1, k⟩⟩
theorem R.flda {cs cs' : List B} {off s : Nat} (h : ev e x = .v (.agg cs)) (h1 : (cs.drop off).take s = cs') (k : WL P rest ks Q ⟨upd e d (.v (.agg cs')), o⟩) : WL P (⟨some d, none, .fld off true s x⟩ :: rest) ks Q ⟨e, o⟩ := by
  unfold WL at k ⊢
  exact ⟨cs, h, fun _ => by rw [h1]; exact k, fun h => by cases h⟩
/-- A call: what it gives back is data. -/
theorem R.call {g : FuncId} {f : Operand} {xs : List Operand} {caps : List D} {ds : List VD} {r : RT} (h1 : ev e f = .v (.c (.d (.fn g caps)))) (h2 : vArgs ⟨e, o⟩ xs = some ds) (hc : Spec P g (ds ++ caps.map .c) r) (h3 : (r.nws.length == 1) = false) (k : WL P rest ks Q ⟨upd e d r.fr, o⟩) : WL P (⟨some d, none, .call f xs⟩ :: rest) ks Q ⟨e, o⟩ := by
  unfold WL at k ⊢
  refine ⟨g, caps, ds, r, h1, h2, hc, ?_⟩
  split
  · rename_i hw _; rw [hw] at h3; cases h3
  · exact k
theorem R.call0 {g : FuncId} {f : Operand} {xs : List Operand} {caps : List D} {ds : List VD} {r : RT} (h1 : ev e f = .v (.c (.d (.fn g caps)))) (h2 : vArgs ⟨e, o⟩ xs = some ds) (hc : Spec P g (ds ++ caps.map .c) r) (h3 : (r.nws.length == 1) = false) (k : WL P rest ks Q ⟨e, o⟩) : WL P (⟨none, none, .call f xs⟩ :: rest) ks Q ⟨e, o⟩ := by
  unfold WL at k ⊢
  refine ⟨g, caps, ds, r, h1, h2, hc, ?_⟩
  split
  · rename_i hw _; rw [hw] at h3; cases h3
  · exact k
/-- .. is a slice of one's own. -/
theorem R.callN {g : FuncId} {f : Operand} {xs : List Operand} {caps : List D} {ds : List VD} {r : RT} {E K : Nat} {ys : List (List D)} (h1 : ev e f = .v (.c (.d (.fn g caps)))) (h2 : vArgs ⟨e, o⟩ xs = some ds) (hc : Spec P g (ds ++ caps.map .c) r) (h3 : r.nws = [(E, K, ys)]) (h4 : o (callId d) = none) (k : WL P rest ks Q ⟨upd e d (r.ab (callId d)), upd o (callId d) (some (.arr E K ys))⟩) : WL P (⟨some d, none, .call f xs⟩ :: rest) ks Q ⟨e, o⟩ := by
  unfold WL at k ⊢
  refine ⟨g, caps, ds, r, h1, h2, hc, ?_⟩
  rw [h3]
  exact ⟨h4, k⟩
theorem R.fcal {g : FuncId} {f : Operand} {xs : List Operand} {caps : List D} {ds : List VD} {r : RT} (h1 : ev e f = .v (.c (.d (.fn g caps)))) (h2 : vArgs ⟨e, o⟩ xs = some ds) (hc : Spec P g (ds ++ caps.map .c) r) (k : WL P rest ks Q ⟨upd e d r.fr, o⟩) : WL P (⟨some d, none, .fcal f xs⟩ :: rest) ks Q ⟨e, o⟩ := by
  unfold WL at k ⊢
  exact ⟨g, caps, ds, r, h1, h2, hc, k⟩
theorem R.mkf {g : FuncId} {caps : List Operand} {ds : List D} (h : capsD ⟨e, o⟩ caps = some ds) (k : WL P rest ks Q ⟨upd e d (.v (.c (.d (.fn g ds)))), o⟩) : WL P (⟨some d, none, .mkf g caps⟩ :: rest) ks Q ⟨e, o⟩ := by
  unfold WL at k ⊢
  exact ⟨ds, h, k⟩
theorem R.al {T : TypeId} {zs : List Value} (h : o d = none) (k : WL P rest ks Q ⟨upd e d (.v (.c (.ptr d 0))), upd o d (some (.box T (zs.map fun v => .d (.pv v))))⟩) : WL P (⟨some d, none, .al T zs⟩ :: rest) ks Q ⟨e, o⟩ := by
  unfold WL at k ⊢
  exact ⟨d, rfl, h, k⟩
theorem R.box {T : TypeId} {v : V1} {cs : List B} (h : ev e x = .v v) (h0 : o d = none) (h1 : cellsV v = some cs) (k : WL P rest ks Q ⟨upd e d (.v (.c (.ptr d 0))), upd o d (some (.box T cs))⟩) : WL P (⟨some d, none, .box T x⟩ :: rest) ks Q ⟨e, o⟩ := by
  unfold WL at k ⊢
  exact ⟨d, v, cs, rfl, h0, h, h1, k⟩
/-- Into a variable. -/
theorem R.stoB {s p off T : Nat} {v : V1} {cs old new : List B} (h : ev e x = .v (.c (.ptr p off))) (h1 : ev e y = .v v) (h2 : o p = some (.box T old)) (h3 : cellsV v = some cs) (h4 : cs.all B.live = true ∧ cs.length = s ∧ off + cs.length ≤ old.length) (h5 : splice old off cs = new) (k : WL P rest ks Q ⟨e, upd o p (some (.box T new))⟩) : WL P (⟨none, none, .sto s x y⟩ :: rest) ks Q ⟨e, o⟩ := by
  unfold WL at k ⊢
  exact ⟨_, v, cs, h, h1, h3, h4.1, h4.2.1, .inl ⟨p, off, T, old, rfl, h2, h4.2.2, by rw [h5]; exact k⟩⟩
/-- Into an array of one's own. -/
theorem R.stoE {α : Type} {f : α → List D} {l : List α} {a : α} (b : α) {s p i off K E : Nat} {v : V1} {cs : List B} {ds : List D} (h : ev e x = .v (.c (.ep p K i off))) (h1 : ev e y = .v v) (h2 : o p = some (.arr E K (l.map f))) (h3 : cellsV v = some cs) (h4 : dsOf cs = some ds) (h5 : l[i]? = some a) (h6 : splice (f a) off ds = f b) (h7 : cs.all B.live = true ∧ cs.length = s ∧ off + cs.length ≤ K) (k : WL P rest ks Q ⟨e, upd o p (some (.arr E K ((l.set i b).map f)))⟩) : WL P (⟨none, none, .sto s x y⟩ :: rest) ks Q ⟨e, o⟩ := by
  unfold WL at k ⊢
  refine ⟨_, v, cs, h, h1, h3, h7.1, h7.2.1, .inr ⟨p, K, i, off, E, _, f a, ds, rfl, h2, by rw [List.getElem?_map, h5]; rfl, h7.2.2, h4, ?_⟩⟩
  rw [h6, ← List.map_set]
  exact k
theorem R.bld {zs : List Value} {pl : List (Nat × Nat)} {parts : List (Nat × Operand)} {ps : List (Nat × List B)} {bs : List B} (h : partsB ⟨e, o⟩ parts = some ps) (h1 : fillB (fun i => pl[i]?) (zs.map fun v => .d (.pv v)) ps = some bs) (k : WL P rest ks Q ⟨upd e d (.v (.agg bs)), o⟩) : WL P (⟨some d, none, .bld zs pl parts⟩ :: rest) ks Q ⟨e, o⟩ := by
  unfold WL at k ⊢
  exact ⟨ps, bs, h, h1, k⟩
theorem R.bsl {α : Type} {f : α → List D} (l : List α) {E s len : Nat} {parts : List (Nat × Operand)} {ps : List (Nat × List B)} {bs : List B} {ds : List D} (h0 : o d = none) (h : partsB ⟨e, o⟩ parts = some ps) (h1 : fillB (fun i => some (i * s, s)) (List.replicate (len * s) .dead) ps = some bs) (h2 : dsOf bs = some ds) (h3 : chunks s len ds = l.map f) (k : WL P rest ks Q ⟨upd e d (.v (.c (.own d))), upd o d (some (.arr E s (l.map f)))⟩) : WL P (⟨some d, none, .bsl E s len parts⟩ :: rest) ks Q ⟨e, o⟩ := by
  unfold WL at k ⊢
  exact ⟨d, ps, bs, ds, rfl, h0, h, h1, h2, by rw [h3]; exact k⟩
theorem R.mks {α : Type} {f : α → List D} (a : α) {E s : Nat} {zs : List Value} {n : Int} (h : ev e x = pvA (.int .i64 n)) (h' : ev e y = pvA (.int .i64 n)) (h0 : o d = none) (h1 : 0 ≤ n ∧ n ≤ 16777216) (h2 : zs.map D.pv = f a) (k : WL P rest ks Q ⟨upd e d (.v (.c (.own d))), upd o d (some (.arr E s ((List.replicate n.toNat a).map f)))⟩) : WL P (⟨some d, none, .mks E s zs x y⟩ :: rest) ks Q ⟨e, o⟩ := by
  unfold WL at k ⊢
  refine ⟨d, n, rfl, h0, h, h', h1.1, h1.2, ?_⟩
  rw [h2]
  rw [List.map_replicate] at k
  exact k
theorem R.app {α : Type} {f : α → List D} {l l' : List α} {E s by' p : Nat} {b : B} (h : ev e x = .v (.c (.own p))) (h0 : o p = some (.arr E s (l.map f))) (h1 : ev e y = .v (.c b)) (h2 : elemsOf o b = some (s, l'.map f)) (h3 : (l.length + l'.length) * by' ≤ 140737488355328 ∧ l.length + l'.length ≤ 140737488355328) (k : WL P rest ks Q ⟨upd (St.kill ⟨e, o⟩ p).env d (.v (.c (.own p))), upd (St.kill ⟨e, o⟩ p).objs p (some (.arr E s ((l ++ l').map f)))⟩) : WL P (⟨some d, none, .app E s by' x y⟩ :: rest) ks Q ⟨e, o⟩ := by
  unfold WL at k ⊢
  rw [List.map_append] at k
  exact ⟨d, _, _, _, rfl, h, h1, h2, .inl ⟨p, _, rfl, h0, by unfold maxLen; simp; omega, by simpa using h3.1, k⟩⟩
theorem R.app0 {α : Type} {f : α → List D} {l' : List α} {E s by' : Nat} {b : B} (h : ev e x = .v (.c (.d (.pv (.slice none 0 0))))) (h0 : o d = none) (h1 : ev e y = .v (.c b)) (h2 : elemsOf o b = some (s, l'.map f)) (h3 : l'.length * by' ≤ 140737488355328) (k : WL P rest ks Q ⟨upd e d (.v (.c (.own d))), upd o d (some (.arr E s (l'.map f)))⟩) : WL P (⟨some d, none, .app E s by' x y⟩ :: rest) ks Q ⟨e, o⟩ := by
  unfold WL at k ⊢
  exact ⟨d, _, _, _, rfl, h, h1, h2, .inr ⟨rfl, h0, by simpa using h3, k⟩⟩
-- the end
theorem R.out {fn : Func} {r : RT} {rs : List ResultVar} (hrs : fn.results.toList = rs) (h : RetOk P rs r ⟨e, o⟩) : RetOk P fn.results.toList r ⟨e, o⟩ := by rw [hrs]; exact h
theorem R.outP {t : Nat} {u : Value} (h : e t = pvA u) : RetOk P [.tmp t] (.v (.c (.fz (.pv u)))) ⟨e, o⟩ := ⟨_, .cons (show resV P ⟨e, o⟩ (.tmp t) _ from h) .nil, by simp [ownIds, V1.bs], _, rfl, rfl⟩
theorem R.outB {t : Nat} {u u' : Bool} (h : e t = pvA (.bool u')) (hu : u' = u) : RetOk P [.tmp t] (.v (.c (.fz (.pv (.bool u))))) ⟨e, o⟩ := R.outP (h.trans (by rw [hu]))
theorem R.outI {t : Nat} {k' : IntKind} {u u' : Int} (h : e t = pvA (.int k' u')) (hu : u' = u) : RetOk P [.tmp t] (.v (.c (.fz (.pv (.int k' u))))) ⟨e, o⟩ := R.outP (h.trans (by rw [hu]))
def nodupB : List Nat → Bool
  | [] => true
  | x :: xs => !(xs.contains x) && nodupB xs
theorem nodupB_ok : ∀ {l : List Nat}, nodupB l = true → l.Nodup
  | [], _ => .nil
  | x :: xs, h => by
    simp only [nodupB, Bool.and_eq_true, Bool.not_eq_true'] at h
    exact List.nodup_cons.2 ⟨by simpa using h.1, nodupB_ok h.2⟩
/-- A struct, out of a variable. -/
theorem R.outC {t T T' p s : Nat} {cs bs : List B} {xs : List RC} (h : e t = .v (.c (.ptr p 0))) (ho : o p = some (.box T' cs)) (hT : tyInfo P T = some (true, s)) (hs : s ≤ cs.length) (hb : cs.take s = bs) (hn : nodupB (ownIds bs) = true) (hx : F2 (OutC ⟨e, o⟩) bs xs) : RetOk P [.cell t T] (.v (.agg xs)) ⟨e, o⟩ :=
  ⟨_, .cons ⟨_, cs, true, s, h, by show cellsAt o (.ptr p 0) = _; simp [cellsAt, ho], hT, fun _ => ⟨hs, rfl⟩, fun h => by cases h⟩ .nil, nodupB_ok (by simpa [V1.bs, hb] using hn), _, rfl, by rw [hb]; exact hx⟩
theorem pureM {α : Type} {f : α → List D} {l : List α} (h : ∀ a, (f a).all pureD = true) : ∀ es ∈ l.map f, ∀ d ∈ es, pureD d = true := fun es he d hd => by
  obtain ⟨a, _, rfl⟩ := List.mem_map.1 he
  exact List.all_eq_true.1 (h a) d hd
theorem arr_eq {α : Type} {f : α → List D} {E k : Nat} {X Y : List α} (h : X = Y) : (some (.arr E k (X.map f)) : Option Ob) = some (.arr E k (Y.map f)) := by rw [h]
theorem R.outN {t p E K : Nat} {xs : List (List D)} (h : e t = .v (.c (.own p))) (h1 : o p = some (.arr E K xs)) (h2 : ∀ es ∈ xs, ∀ d ∈ es, pureD d = true) : RetOk P [.tmp t] (.v (.c (.nw E K xs))) ⟨e, o⟩ := ⟨_, .cons (show resV P ⟨e, o⟩ (.tmp t) _ from h) .nil, by simp [ownIds, V1.bs], _, rfl, h1, h2⟩
theorem R.outT2 {t1 t2 : Nat} {y1 y2 : V1} {x1 x2 : R1} (h1 : e t1 = .v y1) (h2 : e t2 = .v y2) (hn : nodupB (ownIds (y1.bs ++ y2.bs)) = true) (o1 : Out1 ⟨e, o⟩ y1 x1) (o2 : Out1 ⟨e, o⟩ y2 x2) : RetOk P [.tmp t1, .tmp t2] (.tup [x1, x2]) ⟨e, o⟩ :=
  ⟨[y1, y2], .cons (show resV P ⟨e, o⟩ (.tmp t1) _ from h1) (.cons (show resV P ⟨e, o⟩ (.tmp t2) _ from h2) .nil), nodupB_ok (by simpa using hn), by simp, .cons o1 (.cons o2 .nil)⟩
theorem R.outT3 {t1 t2 t3 : Nat} {y1 y2 y3 : V1} {x1 x2 x3 : R1} (h1 : e t1 = .v y1) (h2 : e t2 = .v y2) (h3 : e t3 = .v y3) (hn : nodupB (ownIds (y1.bs ++ (y2.bs ++ y3.bs))) = true) (o1 : Out1 ⟨e, o⟩ y1 x1) (o2 : Out1 ⟨e, o⟩ y2 x2) (o3 : Out1 ⟨e, o⟩ y3 x3) : RetOk P [.tmp t1, .tmp t2, .tmp t3] (.tup [x1, x2, x3]) ⟨e, o⟩ :=
  ⟨[y1, y2, y3], .cons (show resV P ⟨e, o⟩ (.tmp t1) _ from h1) (.cons (show resV P ⟨e, o⟩ (.tmp t2) _ from h2) (.cons (show resV P ⟨e, o⟩ (.tmp t3) _ from h3) .nil)), nodupB_ok (by simpa using hn), by simp, .cons o1 (.cons o2 (.cons o3 .nil))⟩
theorem out_int {st : St} {k' : IntKind} {a b : Int} (h : a = b) : Out1 st (.c (.d (.pv (.int k' a)))) (.c (.fz (.pv (.int k' b)))) := by subst h; rfl
theorem R.outE {t E K : Nat} (h : e t = .v (.c nilB)) : RetOk P [.tmp t] (.v (.c (.nw E K []))) ⟨e, o⟩ := ⟨_, .cons (show resV P ⟨e, o⟩ (.tmp t) _ from h) .nil, by simp [ownIds, V1.bs], _, rfl, rfl, rfl⟩
end
theorem K.c {args : List VD} (hk : ∀ x ∈ args, ∀ d ∈ x.ds, Known d) (i : Nat) {d : D} (h : args[i]? = some (.c d)) : Known d := hk _ (List.mem_of_getElem? h) d (by simp [VD.ds])
theorem K.a {args : List VD} (hk : ∀ x ∈ args, ∀ d ∈ x.ds, Known d) (i j : Nat) {xs : List D} {d : D} (h : args[i]? = some (.agg xs)) (hj : xs[j]? = some d) : Known d := hk _ (List.mem_of_getElem? h) d (List.mem_of_getElem? hj)
theorem Known.lenM {α : Type} {f : α → List D} {l : List α} {k : Nat} (h : Known (.rd k (l.map f))) : l.length ≤ 9223372036854775807 := by simpa using h.len'
/-- Whether it is so. -/
noncomputable def bP (p : Prop) : Bool := @decide p (Classical.propDecidable p)
theorem bP_iff {p : Prop} : bP p = true ↔ p := by unfold bP; exact @decide_eq_true_iff p (Classical.propDecidable p)
theorem bP_true {p : Prop} (h : p) : true = bP p := (bP_iff.2 h).symm
theorem bP_false {p : Prop} (h : ¬ p) : false = bP p := by
  cases hb : bP p with
  | true => exact absurd (bP_iff.1 hb) h
  | false => rfl
theorem bP_not {p : Prop} : bP p = false ↔ ¬ p := ⟨fun h hp => (by rw [← bP_true hp] at h; cases h), fun h => (bP_false h).symm⟩
/-- THE FUNCTION, to walk. -/
theorem Spec.walk {P : Program} (hm : P.follows .mixedOrders = true) {f : FuncId} {fn : Func} (hf : P.funcs[f]? = some fn) {s : SC} (hs : stripF P fn = some s) {args : List VD} {r : RT} (ha : args.length ≤ fn.ntmps)
    (h : (∀ x ∈ args, ∀ d ∈ x.ds, Known d) → WC P s [] (fun e st => (e = .normal ∨ e = .ret) ∧ RetOk P fn.results.toList r st) ⟨argsEnv args, fun _ => none⟩) : Spec P f args r :=
  Spec.of_s hm hf hs ha fun hk => WC.intro (h hk)
end Go.Proofs.Ythgdccokpgaicaa
