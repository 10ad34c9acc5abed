/- Rules to walk with: one step each. No program is named here. -/
import Derived.Test.YtlblmofimjhbbaaDoorY17
namespace Go.Proofs.YtlblmofimjhbbaaDoor
open Go.RowKit
/-- What is still to be done behind the code: more code, the end of a block, the next round of a loop. -/
inductive Fr where
  | seq (b : SC)
  | blk (id : Nat)
  | loop (I : St → Prop)
  | al (al : List (Nat × TypeId × List Value)) (r : List SR)
def kQ (P : Program) : List Fr → (Exit → St → Prop) → Exit → St → Prop
  | [], Q, e, s => Q e s
  | .seq b :: ks, Q, e, s => match e with
    | .normal => Wk s (fun s' => VSC P b (kQ P ks Q) s')
    | e => kQ P ks Q e s
  | .blk id :: ks, Q, e, s => match e with
    | .exit id' => if id' = id then kQ P ks Q .normal s else kQ P ks Q (.exit id') s
    | e => kQ P ks Q e s
  | .loop I :: ks, Q, e, s => match e with
    | .normal => I s
    | e => kQ P ks Q e s
  | .al al r :: ks, Q, e, s => match e with
    | .normal => VAl al (VLs P r (kQ P ks Q .normal)) s
    | e => kQ P ks Q e s
@[irreducible] def WC (P : Program) (c : SC) (ks : List Fr) (Q : Exit → St → Prop) (st : St) : Prop := VSC P c (kQ P ks Q) st
@[irreducible] def WL (P : Program) (l : List SR) (ks : List Fr) (Q : Exit → St → Prop) (st : St) : Prop := VLs P l (kQ P ks Q .normal) st
@[irreducible] def WN (P : Program) (ks : List Fr) (Q : Exit → St → Prop) (st : St) : Prop := kQ P ks Q .normal st
/-- What an exit leaves to be done. -/
def popTo (id : Nat) : List Fr → Option (List Fr)
  | [] => none
  | .blk id' :: ks => if id = id' then some ks else popTo id ks
  | _ :: ks => popTo id ks
def frE : List (Nat × AV) → Nat → AV
  | [] => fun _ => deadA
  | (d, v) :: l => upd (frE l) d v
def holdsE (st : St) : List (Nat × AV) → Prop
  | [] => True
  | (d, v) :: l => st.env d = v ∧ holdsE st l
def holdsO (st : St) : List (Nat × Ob) → Prop
  | [] => True
  | (d, v) :: l => st.objs d = some v ∧ holdsO st l
def binI (op : BinOp) (a b : Value) : Option Value :=
  match a, b with
  | .int k x, .int k' y => match op with
    | .shl => shV .shl k x y
    | .shr => shV .shr k x y
    | op => if k = k' then numV op k x y else none
  | .string x, .string y => strV op x y
  | _, _ => none
section
variable {P : Program} {Q : Exit → St → Prop} {ks : List Fr} {e : Nat → AV} {o : Nat → Option Ob} {d : Nat} {fr : Bool} {x y z : Operand} {rest : List SR}
theorem WC.intro {c : SC} {st : St} (h : WC P c [] Q st) : VSC P c Q st := by
  unfold WC at h
  exact strip_ok_id h
where
  strip_ok_id {c : SC} {st : St} (h : VSC P c (kQ P [] Q) st) : VSC P c Q st := VSC_mono (fun _ _ h => h) h
theorem R.seq {a b : SC} {st : St} (h : WC P a (.seq b :: ks) Q st) : WC P (.seq a b) ks Q st := by
  unfold WC at h ⊢
  exact VSC_mono (fun e s h => by cases e <;> exact h) h
theorem R.reg {l : List SR} {st : St} (h : WL P l ks Q st) : WC P (.reg l) ks Q st := by
  unfold WL at h; unfold WC; exact h
theorem R.regA {l r : List SR} {al : List (Nat × TypeId × List Value)} {st : St} (h : WL P l (.al al r :: ks) Q st) : WC P (.regA l al r) ks Q st := by
  unfold WL at h; unfold WC; exact h
@[irreducible] def WT (P : Program) (t : OT SR) (K : St → Prop) (st : St) : Prop := VT P t K st
/-- A region told order by order: each order leads to the same. -/
theorem R.regO {t : OT SR} {b : SC} {st : St} (mid : St) (h : WT P t (fun s => Weak s mid) st) (k : WC P b ks Q mid) : WC P (.regO t) (.seq b :: ks) Q st := by
  unfold WT at h
  unfold WC at k ⊢
  show VT P t (kQ P (.seq b :: ks) Q .normal) st
  exact VT_mono (fun s hs => Wk.of hs k) h
/-- .. each order is followed on by itself. -/
theorem R.regOn {t : OT SR} {st : St} (h : WT P t (fun s => WN P ks Q s) st) : WC P (.regO t) ks Q st := by
  unfold WT at h
  unfold WC
  show VT P t (kQ P ks Q .normal) st
  exact VT_mono (fun s hs => by unfold WN at hs; exact hs) h
/-- A region told for each set of operations carried out. -/
theorem R.regZ {l : List (SR × List Nat)} {st : St} (S : (Nat → Bool) → St) (h0 : ∀ L : Nat → Bool, (∀ i, i < l.length → L i = false) → Weak st (S L))
    (h1 : ∀ (L : Nat → Bool) k s dp, l[k]? = some (s, dp) → L k = false → (∀ j ∈ dp, L j = true) → (∀ i j s dp, l[i]? = some (s, dp) → L i = true → j ∈ dp → L j = true) → WL P [s] [] (fun _ s' => Weak s' (S (setB L k))) (S L))
    (h2 : ∀ L : Nat → Bool, (∀ i, i < l.length → L i = true) → WN P ks Q (S L)) : WC P (.regZ l) ks Q st := by
  unfold WC
  refine ⟨S, h0, fun L k s dp q1 q2 q3 q4 => ?_, fun L hL => ?_⟩
  · have := h1 L k s dp q1 q2 q3 q4
    unfold WL at this
    exact this
  · have := h2 L hL
    unfold WN at this
    exact this
theorem R.tk {s : SR} {t : OT SR} {K : St → Prop} {st : St} (h : WL P [s] [] (fun _ s' => WT P t K s') st) : WT P (.take s t) K st := by
  unfold WL at h
  unfold WT at h ⊢
  exact h
theorem R.tkN {t : OT SR} {K : St → Prop} {st : St} (h : WT P t K st) : WN P [] (fun _ s' => WT P t K s') st := by unfold WN; exact h
theorem R.both {t u : OT SR} {K : St → Prop} {st : St} (h1 : WT P t K st) (h2 : WT P u K st) : WT P (.both t u) K st := by
  unfold WT at h1 h2 ⊢
  exact ⟨h1, h2⟩
theorem R.done {K : St → Prop} {st : St} (h : K st) : WT P .done K st := by unfold WT; exact h
theorem R.vac {K : St → Prop} {st : St} : WT P .vac K st := by unfold WT; trivial
/-- A new variable. -/
theorem R.nal {r : List SR} {T : TypeId} {zs : List Value} {al : List (Nat × TypeId × List Value)} (hd : freeO o d) (h : WN P (.al al r :: ks) Q ⟨upd e d (.v (.c (.ptr d 0))), upd o d (some (.box T (zs.map fun v => .d (.pv v))))⟩) : WN P (.al ((d, T, zs) :: al) r :: ks) Q ⟨e, o⟩ := by
  unfold WN at h ⊢
  exact ⟨hd, h⟩
theorem R.nal0 {r : List SR} {st : St} (h : WL P r ks Q st) : WN P (.al [] r :: ks) Q st := by
  unfold WL at h; unfold WN; exact h
theorem R.nil {st : St} (h : WN P ks Q st) : WL P [] ks Q st := by unfold WN at h; unfold WL; exact h
theorem R.skip {st : St} (h : WN P ks Q st) : WC P .skip ks Q st := by unfold WN at h; unfold WC; exact h
theorem R.nseq {b : SC} {st : St} (h : WC P b ks Q st) : WN P (.seq b :: ks) Q st := by unfold WC at h; unfold WN; exact Wk.of (Weak.refl _) h
/-- .. and what is known is told in other words. -/
theorem R.nseqW {b : SC} {st st' : St} (hw : Weak st st') (h : WC P b ks Q st') : WN P (.seq b :: ks) Q st := by unfold WC at h; unfold WN; exact Wk.of hw h
theorem R.nblk {id : Nat} {st : St} (h : WN P ks Q st) : WN P (.blk id :: ks) Q st := by unfold WN at h ⊢; exact h
theorem R.nloop {I : St → Prop} {st : St} (h : I st) : WN P (.loop I :: ks) Q st := by unfold WN; exact h
theorem R.nend {st : St} (h : Q .normal st) : WN P [] Q st := by unfold WN; exact h
theorem R.blk {id : Nat} {c : SC} {st : St} (h : WC P c (.blk id :: ks) Q st) : WC P (.block id c) ks Q st := by
  unfold WC at h ⊢
  exact VSC_mono (fun e s h => by cases e <;> exact h) h
theorem R.ret {st : St} (h : Q .ret st) : WC P .ret ks Q st := by
  unfold WC
  show kQ P ks Q .ret st
  induction ks with
  | nil => exact h
  | cons f ks ih => cases f <;> exact ih
/-- The code ends in a panic. -/
theorem kQ_pan {ch : List PanicEntry} {st : St} (h : Q (.panic ch) st) : kQ P ks Q (.panic ch) st := by
  induction ks with
  | nil => exact h
  | cons f ks ih => cases f <;> exact ih
theorem R.pan {n : Nat} {c : Code} {ch : List PanicEntry} {st : St} (hk : RegK P n c (fun e s => e = .panic ch ∧ Q (.panic ch) s) st) : WC P (.code n c) ks Q st := by
  unfold WC
  refine RegK.mono ?_ hk
  rintro e s ⟨rfl, h⟩
  exact kQ_pan h
theorem R.panA {n : Nat} {c : Code} {sc : SC} {ch : List PanicEntry} {st : St} (hk : RegK P n c (fun e s => e = .panic ch ∧ Q (.panic ch) s) st) : WC P (.alt n c sc) ks Q st := by
  unfold WC
  refine .inl (RegK.mono ?_ hk)
  rintro e s ⟨rfl, h⟩
  exact kQ_pan h
theorem R.altN {n : Nat} {c : Code} {sc : SC} {st : St} (h : WC P sc ks Q st) : WC P (.alt n c sc) ks Q st := by
  unfold WC at h ⊢
  exact .inr h
theorem R.exit {id : Nat} {st : St} {ks' : List Fr} (hp : popTo id ks = some ks') (h : WN P ks' Q st) : WC P (.exit id) ks Q st := by
  unfold WC
  unfold WN at h
  show kQ P ks Q (.exit id) st
  induction ks with
  | nil => cases hp
  | cons f ks ih =>
    cases f with
    | seq b => exact ih hp
    | loop I => exact ih hp
    | al _ _ => exact ih hp
    | blk id' =>
      simp only [popTo] at hp
      show (if id = id' then kQ P ks Q .normal st else kQ P ks Q (.exit id) st)
      split at hp
      · rename_i hi
        cases hp
        rw [if_pos hi]
        exact h
      · rename_i hi
        rw [if_neg hi]
        exact ih hp
theorem R.condT {a b : SC} (h : ev e x = pvA (.bool true)) (k : WC P a ks Q ⟨e, o⟩) : WC P (.cond x a b) ks Q ⟨e, o⟩ := by
  unfold WC at k ⊢
  exact ⟨true, h, fun _ => k, fun h => by cases h⟩
theorem R.condF {a b : SC} (h : ev e x = pvA (.bool false)) (k : WC P b ks Q ⟨e, o⟩) : WC P (.cond x a b) ks Q ⟨e, o⟩ := by
  unfold WC at k ⊢
  exact ⟨false, h, fun h => (by cases h), fun _ => k⟩
theorem R.cond {a b : SC} {p : Prop} [Decidable p] (h : ev e x = pvA (.bool (decide p))) (k1 : p → WC P a ks Q ⟨e, o⟩) (k2 : ¬ p → WC P b ks Q ⟨e, o⟩) : WC P (.cond x a b) ks Q ⟨e, o⟩ := by
  unfold WC at k1 k2 ⊢
  exact ⟨decide p, h, fun h => k1 (of_decide_eq_true h), fun h => k2 (of_decide_eq_false h)⟩
theorem R.condN {a b : SC} {p : Prop} [Decidable p] (h : ev e x = pvA (.bool !(decide p))) (k1 : p → WC P b ks Q ⟨e, o⟩) (k2 : ¬ p → WC P a ks Q ⟨e, o⟩) : WC P (.cond x a b) ks Q ⟨e, o⟩ := by
  unfold WC at k1 k2 ⊢
  exact ⟨!(decide p), h, fun h => k2 (by simpa using h), fun h => k1 (by simpa using h)⟩
theorem R.condB {a b : SC} {t : Bool} (h : ev e x = pvA (.bool t)) (k1 : t = true → WC P a ks Q ⟨e, o⟩) (k2 : t = false → WC P b ks Q ⟨e, o⟩) : WC P (.cond x a b) ks Q ⟨e, o⟩ := by
  unfold WC at k1 k2 ⊢
  exact ⟨t, h, k1, k2⟩
theorem frame_env {st : St} : ∀ {L : List (Nat × AV)}, holdsE st L → ∀ d, frE L d = st.env d ∨ frE L d = deadA
  | [], _, d => .inr rfl
  | (d', v) :: L, h, d => by
    show upd (frE L) d' v d = _ ∨ upd (frE L) d' v d = deadA
    by_cases hd : d = d'
    · subst hd; rw [upd_same]; exact .inl h.1.symm
    · rw [upd_ne _ _ hd]; exact frame_env h.2 d
theorem frame_obj {st : St} : ∀ {L : List (Nat × Ob)}, holdsO st L → ∀ d x, frO L d = some x → st.objs d = some x ∧ (L.map (·.1)).contains d = true
  | [], _, d, x, hx => by cases hx
  | (d', v) :: L, h, d, x, hx => by
    have hx : upd (frO L) d' (some v) d = some x := hx
    by_cases hd : d = d'
    · subst hd; rw [upd_same] at hx; cases hx; exact ⟨h.1, by simp⟩
    · rw [upd_ne _ _ hd] at hx
      obtain ⟨h1, h2⟩ := frame_obj h.2 d x hx
      exact ⟨h1, by simp at h2 ⊢; exact .inr h2⟩
theorem frO_dom : ∀ {L : List (Nat × Ob)} {o : Nat}, (L.map (·.1)).contains o = true → ∃ x, frO L o = some x
  | [], _, h => by simp at h
  | (d, v) :: L, o, h => by
    by_cases ho : o = d
    · subst ho; exact ⟨v, upd_same _ _ _⟩
    · obtain ⟨x, hx⟩ := frO_dom (L := L) (o := o) (by simp [ho] at h ⊢; exact h)
      exact ⟨x, (upd_ne _ _ ho).trans hx⟩
/-- Only so much is kept. -/
theorem Weak.frame {st : St} (L : List (Nat × AV)) (K : List (Nat × Ob)) (hE : holdsE st L) (hO : holdsO st K) (iE : L.all (fun p => p.2.inK (K.map (·.1))) = true) (iO : K.all (fun p => p.2.inK (K.map (·.1))) = true) : Weak st ⟨frE L, frO K⟩ := fun F R ι φ a w hs => by
  have hd : ∀ q, (K.map (·.1)).contains q = true → st.dom q → St.dom ⟨frE L, frO K⟩ q := fun q hq _ => frO_dom hq
  refine ⟨R, ι, φ, hs.below, hs.rlt, hs.rsub, hs.rnew, hs.size, hs.defers, fun d => ?_, fun q x hq => ?_, fun q x hq => hs.mine q x (frame_obj hO q x hq).1, fun q p x y g hq hp => hs.apart q p x y g (frame_obj hO q x hq).1 (frame_obj hO p y hp).1, hs.pin⟩
  · show RA w R ι (St.dom ⟨frE L, frO K⟩) _ (frE L d)
    rcases frE_cases L d with h | ⟨v, hv, h⟩
    · rw [h]; trivial
    · rcases frame_env hE d with h1 | h1
      · have h2 := hs.env d
        rw [← h1, h] at h2
        rw [h]
        exact RA.inK hd (List.all_eq_true.1 iE _ hv) h2
      · rw [h1]; trivial
  · obtain ⟨hob, hk⟩ := frame_obj hO q x hq
    have h1 := hs.objs q x hob
    obtain ⟨y, hy, hxy⟩ := frO_mem hq
    have h2 := List.all_eq_true.1 iO _ hy
    rw [hxy] at h2
    exact RO.inK hd h2 h1
where
  frE_cases : ∀ (L : List (Nat × AV)) (d : Nat), frE L d = deadA ∨ ∃ v, (d, v) ∈ L ∧ frE L d = v
    | [], d => .inl rfl
    | (d', v) :: L, d => by
      show upd (frE L) d' v d = _ ∨ ∃ u, _ ∧ upd (frE L) d' v d = u
      by_cases hd : d = d'
      · subst hd; exact .inr ⟨v, by simp, upd_same _ _ _⟩
      · rw [upd_ne _ _ hd]
        rcases frE_cases L d with h | ⟨u, h1, h2⟩
        · exact .inl h
        · exact .inr ⟨u, by simp [h1], h2⟩
  frO_mem {L : List (Nat × Ob)} {d : Nat} {x : Ob} (h : frO L d = some x) : ∃ y, y ∈ L ∧ y.2 = x := by
    induction L with
    | nil => cases h
    | cons p L ih =>
      obtain ⟨d', v⟩ := p
      have h : upd (frO L) d' (some v) d = some x := h
      by_cases hd : d = d'
      · subst hd; rw [upd_same] at h; cases h; exact ⟨(d, x), by simp, rfl⟩
      · rw [upd_ne _ _ hd] at h
        obtain ⟨y, h1, h2⟩ := ih h
        exact ⟨y, by simp [h1], h2⟩
def dsOf : List B → Option (List D)
  | [] => some []
  | .d x :: bs => (dsOf bs).map (x :: ·)
  | _ :: _ => none
theorem dsOf_map : ∀ {cs : List B} {ds : List D}, dsOf cs = some ds → cs = ds.map B.d
  | [], ds, h => by cases h; rfl
  | .d x :: cs, ds, h => by
    simp only [dsOf, Option.map_eq_some_iff] at h
    obtain ⟨ys, h1, rfl⟩ := h
    rw [dsOf_map h1]; rfl
  | .ptr _ _ :: _, _, h => by cases h
  | .own _ :: _, _, h => by cases h
  | .ep _ _ _ _ :: _, _, h => by cases h
  | .rel _ _ :: _, _, h => by cases h
  | .dead :: _, _, h => by cases h
theorem F2.unmap_d {w : World} {R : Nat → Prop} {ι : Nat → Value} {dom : Nat → Prop} : ∀ {vs : List Value} {ds : List D}, F2 (RB w R ι dom) vs (ds.map B.d) → F2 (RD w R) vs ds
  | [], [], _ => .nil
  | _ :: _, _ :: _, .cons h1 h2 => .cons h1 (F2.unmap_d h2)
/-- What an object is, taken for data. -/
def frD : Ob → Option D
  | .box _ cs => (dsOf cs).map .rp
  | .arr κ xs [] => some (.rd κ xs)
  | .mp es => some (.mp es)
  | _ => none
def B.frz (p : Nat) (d : D) : B → B
  | .ptr o off => if o = p then (match d with | .rp ds => .d (.rp (ds.drop off)) | _ => .dead) else .ptr o off
  | .own o => if o = p then (match d with | .rd κ xs => .d (.rd κ xs) | .mp es => .d (.mp es) | _ => .dead) else .own o
  | .ep o k i off => if o = p then .dead else .ep o k i off
  | .rel o q => if o = p then .dead else .rel o q
  | b => b
def V1.frz (p : Nat) (d : D) : V1 → V1
  | .c b => .c (b.frz p d)
  | .agg bs => .agg (bs.map (B.frz p d))
def AV.frz (p : Nat) (d : D) : AV → AV
  | .v x => .v (x.frz p d)
  | .tup xs => .tup (xs.map (V1.frz p d))
def Ob.frz (p : Nat) (d : D) : Ob → Ob
  | .box T cs => .box T (cs.map (B.frz p d))
  | .arr κ xs hs => .arr κ xs (hs.map (Ho.kill [p]))
  | .mp es => .mp es
  | .val l => .val l
def St.frz (st : St) (p : Nat) (d : D) : St := ⟨fun t => (st.env t).frz p d, fun o => if o = p then none else (st.objs o).map (Ob.frz p d)⟩
/-- An object that nobody writes any more: data from here on. -/
theorem Weak.freeze {st : St} (p : Nat) {x : Ob} {d : D} (hp : st.objs p = some x) (hd : frD x = some d) : Weak st (st.frz p d) := fun F R ι φ a w hs => by
  have hx := hs.objs p x hp
  have hmp := hs.mine p x hp
  let R' : Nat → Prop := fun b => R b ∨ b ∈ φ p
  have hsub : ∀ b, R b → R' b := fun b h => .inl h
  have hdm : ∀ q, q ≠ p → st.dom q → (st.frz p d).dom q := fun q hq ⟨y, hy⟩ => ⟨y.frz p d, by simp [St.frz, hq, hy]⟩
  have hptr : ∀ {ds : List D} {g off : Nat}, d = .rp ds → ι p = .pointer (some ⟨g, 0, none⟩) → RD w R' (.pointer (some ⟨g, off, none⟩)) (.rp (ds.drop off)) := fun {ds g off} hdd hι => by
    subst hdd
    cases x with
    | arr κ xs hs => cases hs <;> simp [frD] at hd
    | mp es => simp [frD] at hd
    | val b => simp [frD] at hd
    | box T cs =>
      simp only [frD, Option.map_eq_some_iff, D.rp.injEq] at hd
      obtain ⟨ds', h1, rfl⟩ := hd
      obtain ⟨g', vs, q1, q2, q3, q4⟩ := hx
      rw [hι] at q1
      obtain rfl : g = g' := by simpa using q1
      have hcs := dsOf_map h1
      subst hcs
      have hF := F2.unmap_d q4
      refine rp_of (us := vs.drop off) (.inr (by rw [q2]; simp)) (fun j u hu => ?_) ((hF.drop off).mono fun _ _ h => RD.keep hsub (fun _ _ => rfl) h)
      rw [List.getElem?_drop] at hu
      simp [World.cell?, q3, hu]
  have hown : ∀ {κ : Ky} {xs : List (List D)}, d = .rd κ xs → RD w R' (ι p) (.rd κ xs) := fun {κ xs} hdd => by
    subst hdd
    cases x with
    | box T cs => simp [frD] at hd
    | mp es => simp [frD] at hd
    | val b => simp [frD] at hd
    | arr κ' xs' hs =>
      cases hs with
      | nil =>
        simp [frD] at hd
        obtain ⟨rfl, rfl⟩ := hd
        exact RArr.data hx fun b hb => .inr hb
      | cons _ _ => simp [frD] at hd
  have hmap : ∀ {es : List (Value × Value)}, d = .mp es → RD w R' (ι p) (.mp es) := fun {es} hdd => by
    subst hdd
    cases x with
    | box T cs => simp [frD] at hd
    | arr κ' xs' hs => cases hs <;> simp [frD] at hd
    | val b => simp [frD] at hd
    | mp es' =>
      simp only [frD, Option.some.injEq, D.mp.injEq] at hd
      subst hd
      obtain ⟨g, c, ms, h1, h2, h3, h4⟩ := hx
      rw [h1]
      exact RD.mp (.inr (by rw [h2]; simp)) h3 h4
  have hB : ∀ {v : Value} {b : B}, RB w R ι st.dom v b → RB w R' ι (st.frz p d).dom v (b.frz p d) := fun {v b} h => by
    cases b with
    | d x => exact RD.keep hsub (fun _ _ => rfl) h
    | ptr q off =>
      obtain ⟨h1, g', h2, h3⟩ := h
      by_cases hq : q = p
      · subst hq
        subst h3
        simp only [B.frz, if_true]
        split
        · exact hptr rfl h2
        · trivial
      · simp only [B.frz, if_neg hq]
        exact ⟨hdm q hq h1, g', h2, h3⟩
    | own q =>
      obtain ⟨h1, h2⟩ := h
      by_cases hq : q = p
      · subst hq
        simp only [B.frz, if_true]
        split
        · rw [h2]; exact hown rfl
        · rw [h2]; exact hmap rfl
        · trivial
      · simp only [B.frz, if_neg hq]
        exact ⟨hdm q hq h1, h2⟩
    | ep q k i off =>
      obtain ⟨h1, g', n', c', h2, h3⟩ := h
      by_cases hq : q = p
      · simp only [B.frz, if_pos hq]; trivial
      · simp only [B.frz, if_neg hq]
        exact ⟨hdm q hq h1, g', n', c', h2, h3⟩
    | rel q f =>
      obtain ⟨h1, h2⟩ := h
      by_cases hq : q = p
      · simp only [B.frz, if_pos hq]; trivial
      · simp only [B.frz, if_neg hq]
        exact ⟨hdm q hq h1, h2⟩
    | dead => trivial
  have hV : ∀ {v : Value} {x : V1}, RV1 w R ι st.dom v x → RV1 w R' ι (st.frz p d).dom v (x.frz p d) := fun {v x} h => by
    cases x with
    | c b => exact hB h
    | agg bs => obtain ⟨us, h1, h2⟩ := h; exact ⟨us, h1, h2.map_right fun _ _ h => hB h⟩
  have hget : ∀ q y, (st.frz p d).objs q = some y → q ≠ p ∧ ∃ z, st.objs q = some z ∧ y = z.frz p d := fun q y hy => by
    simp only [St.frz] at hy
    split at hy
    · cases hy
    · rename_i hq
      rw [Option.map_eq_some_iff] at hy
      obtain ⟨z, h1, rfl⟩ := hy
      exact ⟨hq, z, h1, rfl⟩
  refine ⟨R', ι, φ, hs.below, fun b hb => hb.elim (hs.rlt b) (fun e => (hmp b e).2.2), fun b hb => .inl (hs.rsub b hb), fun b hb => hb.elim (hs.rnew b) (fun e => (hmp b e).1.elim (fun h => .inr (.inl h)) (fun h => .inr (.inr h))), hs.size, hs.defers, fun t => ?_, fun q y hy => ?_, fun q y hy g hg => ?_, fun q r y z g' hq hr => ?_, hs.pin⟩
  · have h := hs.env t
    show RA w R' ι _ _ ((st.env t).frz p d)
    cases hx : st.env t with
    | v x => rw [hx] at h; exact hV h
    | tup xs => rw [hx] at h; obtain ⟨us, h1, h2⟩ := h; exact ⟨us, h1, h2.map_right fun _ _ h => hV h⟩
  · obtain ⟨hq, z, hz, rfl⟩ := hget q y hy
    have h := hs.objs q z hz
    cases z with
    | box T' cs' =>
      obtain ⟨g', us, q1, q2, q4, q5⟩ := h
      exact ⟨g', us, q1, q2, q4, q5.map_right fun _ _ h => hB h⟩
    | mp es => exact h
    | val b => exact ⟨h.1, h.2.1, fun p hp => RD.keep hsub (fun _ _ => rfl) (h.2.2 p hp)⟩
    | arr κ xs hs' => exact RArr.kill (fun o ho hc => hdm o (fun e => by subst e; simp at hc) ho) h
  · obtain ⟨hq, z, hz, rfl⟩ := hget q y hy
    have hm := hs.mine q z hz g hg
    exact ⟨hm.1, fun hr => hr.elim hm.2.1 (fun e => hq (hs.apart q p z x g hz hp hg e)), hm.2.2⟩
  · obtain ⟨_, z1, h1, _⟩ := hget q y hq
    obtain ⟨_, z2, h2, _⟩ := hget r z hr
    exact hs.apart q r z1 z2 g' h1 h2
def capPtr (e : Nat → AV) : List Operand → Option Nat
  | [] => none
  | .tmp t :: xs => match e t with
    | .v (.c (.ptr p _)) => some p
    | _ => capPtr e xs
  | _ :: xs => capPtr e xs
def mkfPtrL (e : Nat → AV) : List SR → Option Nat
  | [] => none
  | ⟨_, _, _, .mkf _ caps⟩ :: l => match capPtr e caps with
    | some p => some p
    | none => mkfPtrL e l
  | _ :: l => mkfPtrL e l
def mkfPtr (e : Nat → AV) : SC → Option Nat
  | .reg l => mkfPtrL e l
  | .seq a _ => mkfPtr e a
  | _ => none
/-- A variable that the next function literal captures: data from here on. -/
theorem R.nseqF {b : SC} {p : Nat} {x : Ob} {d : D} (_ : mkfPtr e b = some p) (hp : o p = some x) (hd : frD x = some d) (h : WC P b ks Q ⟨fun t => (e t).frz p d, fun q => if q = p then none else (o q).map (Ob.frz p d)⟩) : WN P (.seq b :: ks) Q ⟨e, o⟩ := R.nseqW (Weak.freeze (st := ⟨e, o⟩) p hp hd) h
/-- A loop: what holds at its head, told by ghosts; a measure of them. -/
theorem R.loop {c : SC} {st : St} {G : Type} (E : G → List (Nat × AV)) (O : G → List (Nat × Ob)) (F : G → Prop) (m : G → Nat) (g0 : G) (h0 : F g0) (hw : Weak st ⟨frE (E g0), frO (O g0)⟩)
    (hb : ∀ g, F g → WC P c (.loop (fun s' => ∃ g', F g' ∧ m g' < m g ∧ Weak s' ⟨frE (E g'), frO (O g')⟩) :: ks) Q ⟨frE (E g), frO (O g)⟩) : WC P (.loop c) ks Q st := by
  unfold WC
  refine ⟨fun k s => ∃ g, k = m g ∧ F g ∧ s = ⟨frE (E g), frO (O g)⟩, ⟨m g0, _, hw, g0, rfl, h0, rfl⟩, fun k s hI => ?_⟩
  obtain ⟨g, rfl, hF, rfl⟩ := hI
  have := hb g hF
  unfold WC at this
  refine VSC_mono (fun e s' h => ?_) this
  cases e with
  | normal =>
    obtain ⟨g', h1, h2, h3⟩ := h
    exact ⟨m g', _, h2, h3, g', rfl, h1, rfl⟩
  | _ => exact h
theorem R.again {G : Type} {E : G → List (Nat × AV)} {O : G → List (Nat × Ob)} {F : G → Prop} {m : G → Nat} {g : G} {st : St} (g' : G) (hF : F g') (hm : m g' < m g) (hE : holdsE st (E g')) (hO : holdsO st (O g')) (iE : (E g').all (fun p => p.2.inK ((O g').map (·.1))) = true) (iO : (O g').all (fun p => p.2.inK ((O g').map (·.1))) = true) : ∃ g', F g' ∧ m g' < m g ∧ Weak st ⟨frE (E g'), frO (O g')⟩ := ⟨g', hF, hm, Weak.frame _ _ hE hO iE iO⟩
-- operations: how they come in
theorem WL.un {l : List SR} {st : St} (k : WL P l ks Q st) : VLs P l (kQ P ks Q .normal) st := by unfold WL at k; exact k
theorem VS_of_VR {st : St} {d : Option Tmp} {s : SOp} {K : AV → St → Prop} (hs : isRd s = true) (h : VR P st s fun x => K x st) : VS P st d s K := by
  cases s <;> first | exact h | (cases hs)
theorem WL.rd {dst : Option Tmp} {fr : Bool} {s : SOp} {st : St} (hs : isRd s = true) (h : VR P st s fun x => VLs P rest (kQ P ks Q .normal) (putD st dst x)) : WL P (⟨dst, none, fr, s⟩ :: rest) ks Q st := by
  unfold WL
  cases fr with
  | true => exact h
  | false => exact Wk.of (Weak.refl _) (VS_of_VR hs h)
theorem WL.wr {dst : Option Tmp} {s : SOp} {st : St} (h : VS P st dst s fun x st' => VLs P rest (kQ P ks Q .normal) (putD st' dst x)) : WL P (⟨dst, none, false, s⟩ :: rest) ks Q st := by
  unfold WL
  exact Wk.of (Weak.refl _) h
/-- What is known is told in other words. -/
theorem R.weak {dst : Option Tmp} {s : SOp} {st st' : St} (hw : Weak st st') (k : WL P (⟨dst, none, false, s⟩ :: rest) ks Q st') : WL P (⟨dst, none, false, s⟩ :: rest) ks Q st := by
  unfold WL at k ⊢
  exact Wk.before hw k
-- guards
theorem R.gRun {dst : Option Tmp} {fr : Bool} {s : SOp} {t : Bool} (h : e d = pvA (.bool t)) (k : WL P (⟨dst, none, fr, s⟩ :: rest) ks Q ⟨e, o⟩) : WL P (⟨dst, some (d, t), fr, s⟩ :: rest) ks Q ⟨e, o⟩ := by
  unfold WL at k ⊢
  cases fr with
  | true => exact .inr ⟨t, h, fun _ => k, fun h => by cases t <;> cases h⟩
  | false => exact .inr ⟨t, h, fun _ => k, fun h => by cases t <;> cases h⟩
theorem R.gSkip {q : Nat} {fr : Bool} {s : SOp} {t : Bool} (h : e d = pvA (.bool !t)) (k : WL P rest ks Q ⟨upd e q undefA, o⟩) : WL P (⟨some q, some (d, t), fr, s⟩ :: rest) ks Q ⟨e, o⟩ := by
  unfold WL at k ⊢
  cases fr with
  | true => exact .inr ⟨!t, h, fun h => (by cases t <;> cases h), fun _ => k⟩
  | false => exact .inr ⟨!t, h, fun h => (by cases t <;> cases h), fun _ => k⟩
theorem R.gSkip0 {fr : Bool} {s : SOp} {t : Bool} (h : e d = pvA (.bool !t)) (k : WL P rest ks Q ⟨e, o⟩) : WL P (⟨none, some (d, t), fr, s⟩ :: rest) ks Q ⟨e, o⟩ := by
  unfold WL at k ⊢
  cases fr with
  | true => exact .inr ⟨!t, h, fun h => (by cases t <;> cases h), fun _ => k⟩
  | false => exact .inr ⟨!t, h, fun h => (by cases t <;> cases h), fun _ => k⟩
theorem R.gUndef {q : Nat} {fr : Bool} {s : SOp} {t : Bool} (h : e d = undefA) (k : WL P rest ks Q ⟨upd e q undefA, o⟩) : WL P (⟨some q, some (d, t), fr, s⟩ :: rest) ks Q ⟨e, o⟩ := by
  unfold WL at k ⊢
  cases fr with
  | true => exact .inl ⟨h, k⟩
  | false => exact .inl ⟨h, k⟩
theorem R.gUndef0 {fr : Bool} {s : SOp} {t : Bool} (h : e d = undefA) (k : WL P rest ks Q ⟨e, o⟩) : WL P (⟨none, some (d, t), fr, s⟩ :: rest) ks Q ⟨e, o⟩ := by
  unfold WL at k ⊢
  cases fr with
  | true => exact .inl ⟨h, k⟩
  | false => exact .inl ⟨h, k⟩
theorem upd_eta {e : Nat → AV} {d : Nat} {v : AV} (h : e d = v) : upd e d v = e := by
  funext i
  by_cases hi : i = d
  · subst hi; rw [upd_same, h]
  · rw [upd_ne _ _ hi]
/-- A Bool that is not told: both ways. -/
theorem R.gB {dst : Option Tmp} {fr : Bool} {s : SOp} {t w : Bool} (h : e d = pvA (.bool t)) (k1 : t = true → WL P (⟨dst, some (d, w), fr, s⟩ :: rest) ks Q ⟨upd e d (pvA (.bool true)), o⟩) (k2 : t = false → WL P (⟨dst, some (d, w), fr, s⟩ :: rest) ks Q ⟨upd e d (pvA (.bool false)), o⟩) : WL P (⟨dst, some (d, w), fr, s⟩ :: rest) ks Q ⟨e, o⟩ := by
  cases t with
  | true => have := k1 rfl; rwa [upd_eta h] at this
  | false => have := k2 rfl; rwa [upd_eta h] at this
theorem R.gP {dst : Option Tmp} {fr : Bool} {s : SOp} {p : Prop} [Decidable p] {w : Bool} (h : e d = pvA (.bool (decide p))) (k1 : p → WL P (⟨dst, some (d, w), fr, s⟩ :: rest) ks Q ⟨upd e d (pvA (.bool true)), o⟩) (k2 : ¬ p → WL P (⟨dst, some (d, w), fr, s⟩ :: rest) ks Q ⟨upd e d (pvA (.bool false)), o⟩) : WL P (⟨dst, some (d, w), fr, s⟩ :: rest) ks Q ⟨e, o⟩ :=
  R.gB h (fun h => k1 (of_decide_eq_true h)) (fun h => k2 (of_decide_eq_false h))
theorem R.gN {dst : Option Tmp} {fr : Bool} {s : SOp} {p : Prop} [Decidable p] {w : Bool} (h : e d = pvA (.bool !(decide p))) (k1 : p → WL P (⟨dst, some (d, w), fr, s⟩ :: rest) ks Q ⟨upd e d (pvA (.bool false)), o⟩) (k2 : ¬ p → WL P (⟨dst, some (d, w), fr, s⟩ :: rest) ks Q ⟨upd e d (pvA (.bool true)), o⟩) : WL P (⟨dst, some (d, w), fr, s⟩ :: rest) ks Q ⟨e, o⟩ :=
  R.gB h (fun h => k2 (by simpa using h)) (fun h => k1 (by simpa using h))
-- operations
theorem R.mv {v : V1} (h : ev e x = .v v) (k : WL P rest ks Q ⟨upd e d (.v v), o⟩) : WL P (⟨some d, none, fr, .mv x⟩ :: rest) ks Q ⟨e, o⟩ := by
  unfold WL at k
  refine WL.rd rfl ?_
  show VLs P rest _ ⟨upd e d (ev e x), o⟩
  rw [h]; exact k
theorem R.mvU {xs : List V1} (h : ev e x = .tup xs) (k : WL P rest ks Q ⟨upd e d (.tup xs), o⟩) : WL P (⟨some d, none, fr, .mv x⟩ :: rest) ks Q ⟨e, o⟩ := by
  unfold WL at k
  refine WL.rd rfl ?_
  show VLs P rest _ ⟨upd e d (ev e x), o⟩
  rw [h]; exact k
theorem R.mvT (k : WL P rest ks Q ⟨upd e d (ev e x), o⟩) : WL P (⟨some d, none, fr, .mv x⟩ :: rest) ks Q ⟨e, o⟩ := by
  unfold WL at k
  exact WL.rd rfl k
theorem R.pickT {v : V1} (h : ev e x = pvA (.bool true)) (h1 : ev e y = .v v) (k : WL P rest ks Q ⟨upd e d (.v v), o⟩) : WL P (⟨some d, none, fr, .pick x y z⟩ :: rest) ks Q ⟨e, o⟩ := by
  unfold WL at k
  exact WL.rd rfl ⟨true, h, fun _ => by rw [h1]; exact k, fun h => by cases h⟩
theorem R.pickF {v : V1} (h : ev e x = pvA (.bool false)) (h1 : ev e z = .v v) (k : WL P rest ks Q ⟨upd e d (.v v), o⟩) : WL P (⟨some d, none, fr, .pick x y z⟩ :: rest) ks Q ⟨e, o⟩ := by
  unfold WL at k
  exact WL.rd rfl ⟨false, h, fun h => (by cases h), fun _ => by rw [h1]; exact k⟩
theorem R.bin {op : BinOp} {a b r : Value} (h1 : ev e x = pvA a) (h2 : ev e y = pvA b) (h3 : binI op a b = some r) (k : WL P rest ks Q ⟨upd e d (pvA r), o⟩) : WL P (⟨some d, none, fr, .bin op x y⟩ :: rest) ks Q ⟨e, o⟩ := by
  unfold WL at k
  refine WL.rd rfl ⟨a, b, r, h1, h2, fun u v h => ?_, fun T => ?_, k⟩
  · obtain ⟨rfl, rfl⟩ := h; cases h3
  · cases a <;> cases b <;> first | exact h3 | (cases h3)
theorem R.lss {k' : IntKind} {m n : Int} (h1 : ev e x = pvA (.int k' m)) (h2 : ev e y = pvA (.int k' n)) (k : WL P rest ks Q ⟨upd e d (pvA (.bool (decide (m < n)))), o⟩) : WL P (⟨some d, none, fr, .bin .lss x y⟩ :: rest) ks Q ⟨e, o⟩ := R.bin h1 h2 (by simp [binI, numV, cmpV]) k
theorem R.leq {k' : IntKind} {m n : Int} (h1 : ev e x = pvA (.int k' m)) (h2 : ev e y = pvA (.int k' n)) (k : WL P rest ks Q ⟨upd e d (pvA (.bool (decide (m ≤ n)))), o⟩) : WL P (⟨some d, none, fr, .bin .leq x y⟩ :: rest) ks Q ⟨e, o⟩ := R.bin h1 h2 (by simp [binI, numV, cmpV]) k
theorem R.gtr {k' : IntKind} {m n : Int} (h1 : ev e x = pvA (.int k' m)) (h2 : ev e y = pvA (.int k' n)) (k : WL P rest ks Q ⟨upd e d (pvA (.bool (decide (n < m)))), o⟩) : WL P (⟨some d, none, fr, .bin .gtr x y⟩ :: rest) ks Q ⟨e, o⟩ := R.bin h1 h2 (by simp [binI, numV, cmpV]) k
theorem R.geq {k' : IntKind} {m n : Int} (h1 : ev e x = pvA (.int k' m)) (h2 : ev e y = pvA (.int k' n)) (k : WL P rest ks Q ⟨upd e d (pvA (.bool (decide (n ≤ m)))), o⟩) : WL P (⟨some d, none, fr, .bin .geq x y⟩ :: rest) ks Q ⟨e, o⟩ := R.bin h1 h2 (by simp [binI, numV, cmpV]) k
theorem R.eql {k' : IntKind} {m n : Int} (h1 : ev e x = pvA (.int k' m)) (h2 : ev e y = pvA (.int k' n)) (k : WL P rest ks Q ⟨upd e d (pvA (.bool (decide (m = n)))), o⟩) : WL P (⟨some d, none, fr, .bin .eql x y⟩ :: rest) ks Q ⟨e, o⟩ := R.bin h1 h2 (by simp [binI, numV, cmpV]; rfl) k
theorem R.neq {k' : IntKind} {m n : Int} (h1 : ev e x = pvA (.int k' m)) (h2 : ev e y = pvA (.int k' n)) (k : WL P rest ks Q ⟨upd e d (pvA (.bool !(decide (m = n)))), o⟩) : WL P (⟨some d, none, fr, .bin .neq x y⟩ :: rest) ks Q ⟨e, o⟩ := R.bin h1 h2 (by simp [binI, numV, cmpV]; rfl) k
theorem wrap64 {n : Int} (h : -9223372036854775808 ≤ n ∧ n ≤ 9223372036854775807) : IntKind.wrap .i64 n = n := IntWalk.i64_in n h
theorem R.add {m n : Int} (h1 : ev e x = pvA (.int .i64 m)) (h2 : ev e y = pvA (.int .i64 n)) (hr : -9223372036854775808 ≤ m + n ∧ m + n ≤ 9223372036854775807) (k : WL P rest ks Q ⟨upd e d (pvA (.int .i64 (m + n))), o⟩) : WL P (⟨some d, none, fr, .bin .add x y⟩ :: rest) ks Q ⟨e, o⟩ := R.bin h1 h2 (by simp [binI, numV, wrap64 hr]) k
theorem R.sub {m n : Int} (h1 : ev e x = pvA (.int .i64 m)) (h2 : ev e y = pvA (.int .i64 n)) (hr : -9223372036854775808 ≤ m - n ∧ m - n ≤ 9223372036854775807) (k : WL P rest ks Q ⟨upd e d (pvA (.int .i64 (m - n))), o⟩) : WL P (⟨some d, none, fr, .bin .sub x y⟩ :: rest) ks Q ⟨e, o⟩ := R.bin h1 h2 (by simp [binI, numV, wrap64 hr]) k
theorem R.mul {m n : Int} (h1 : ev e x = pvA (.int .i64 m)) (h2 : ev e y = pvA (.int .i64 n)) (hr : -9223372036854775808 ≤ m * n ∧ m * n ≤ 9223372036854775807) (k : WL P rest ks Q ⟨upd e d (pvA (.int .i64 (m * n))), o⟩) : WL P (⟨some d, none, fr, .bin .mul x y⟩ :: rest) ks Q ⟨e, o⟩ := R.bin h1 h2 (by simp [binI, numV, wrap64 hr]) k
theorem R.beql {u v : Bool} (h1 : ev e x = pvA (.bool u)) (h2 : ev e y = pvA (.bool v)) (k : WL P rest ks Q ⟨upd e d (pvA (.bool (decide (u = v)))), o⟩) : WL P (⟨some d, none, fr, .bbin .eql x y⟩ :: rest) ks Q ⟨e, o⟩ := by
  unfold WL at k
  exact WL.rd rfl ⟨u, v, h1, h2, .inl ⟨rfl, by rw [show (u == v) = decide (u = v) from by cases u <;> cases v <;> rfl]; exact k⟩⟩
theorem R.bneq {u v : Bool} (h1 : ev e x = pvA (.bool u)) (h2 : ev e y = pvA (.bool v)) (k : WL P rest ks Q ⟨upd e d (pvA (.bool !(decide (u = v)))), o⟩) : WL P (⟨some d, none, fr, .bbin .neq x y⟩ :: rest) ks Q ⟨e, o⟩ := by
  unfold WL at k
  exact WL.rd rfl ⟨u, v, h1, h2, .inr ⟨rfl, by rw [show (u == v) = decide (u = v) from by cases u <;> cases v <;> rfl]; exact k⟩⟩
theorem R.not {t : Bool} (h : ev e x = pvA (.bool t)) (k : WL P rest ks Q ⟨upd e d (pvA (.bool !t)), o⟩) : WL P (⟨some d, none, fr, .not x⟩ :: rest) ks Q ⟨e, o⟩ := by
  unfold WL at k
  exact WL.rd rfl ⟨t, h, k⟩
theorem R.neg {m : Int} (h : ev e x = pvA (.int .i64 m)) (hr : -9223372036854775808 ≤ 0 - m ∧ 0 - m ≤ 9223372036854775807) (k : WL P rest ks Q ⟨upd e d (pvA (.int .i64 (0 - m))), o⟩) : WL P (⟨some d, none, fr, .neg x⟩ :: rest) ks Q ⟨e, o⟩ := by
  unfold WL at k
  exact WL.rd rfl ⟨.i64, m, h, by rw [wrap64 hr]; exact k⟩
theorem R.cv {k1 k' : IntKind} {m : Int} (h : ev e x = pvA (.int k1 m)) (k : WL P rest ks Q ⟨upd e d (pvA (.int k' (k'.wrap m))), o⟩) : WL P (⟨some d, none, fr, .cv k' x⟩ :: rest) ks Q ⟨e, o⟩ := by
  unfold WL at k
  exact WL.rd rfl ⟨k1, m, h, k⟩
theorem R.cv64 {k1 : IntKind} {m : Int} (h : ev e x = pvA (.int k1 m)) (hr : -9223372036854775808 ≤ m ∧ m ≤ 9223372036854775807) (k : WL P rest ks Q ⟨upd e d (pvA (.int .i64 m)), o⟩) : WL P (⟨some d, none, fr, .cv .i64 x⟩ :: rest) ks Q ⟨e, o⟩ := R.cv h (by rw [wrap64 hr]; exact k)
theorem R.ext {xs : List V1} {j : Nat} {v : V1} (h : ev e x = .tup xs) (h1 : xs[j]? = some v) (k : WL P rest ks Q ⟨upd e d (.v v), o⟩) : WL P (⟨some d, none, fr, .ext x j⟩ :: rest) ks Q ⟨e, o⟩ := by
  unfold WL at k
  exact WL.rd rfl ⟨xs, v, h, h1, k⟩
theorem R.max {m n : Int} {k' : IntKind} (h1 : ev e x = pvA (.int k' m)) (h2 : ev e y = pvA (.int k' n)) (k : WL P rest ks Q ⟨upd e d (pvA (.int k' (Max.max m n))), o⟩) : WL P (⟨some d, none, fr, .max x y⟩ :: rest) ks Q ⟨e, o⟩ := by
  unfold WL at k
  exact WL.rd rfl ⟨k', m, n, h1, h2, by rw [show (if n > m then n else m) = Max.max m n from by split <;> omega]; exact k⟩
theorem R.min {m n : Int} {k' : IntKind} (h1 : ev e x = pvA (.int k' m)) (h2 : ev e y = pvA (.int k' n)) (k : WL P rest ks Q ⟨upd e d (pvA (.int k' (Min.min m n))), o⟩) : WL P (⟨some d, none, fr, .min x y⟩ :: rest) ks Q ⟨e, o⟩ := by
  unfold WL at k
  exact WL.rd rfl ⟨k', m, n, h1, h2, by rw [show (if n < m then n else m) = Min.min m n from by split <;> omega]; exact k⟩
theorem R.len {b : B} {n : Nat} (h : ev e x = .v (.c b)) (h1 : lenOf o b = some n) (k : WL P rest ks Q ⟨upd e d (pvA (.int .i64 n)), o⟩) : WL P (⟨some d, none, fr, .len x⟩ :: rest) ks Q ⟨e, o⟩ := by
  unfold WL at k
  exact WL.rd rfl ⟨b, n, h, h1, k⟩
theorem R.lenM {α : Type} {f : α → List D} {l : List α} {κ : Ky} (h : ev e x = rdA κ (l.map f)) (k : WL P rest ks Q ⟨upd e d (pvA (.int .i64 l.length)), o⟩) : WL P (⟨some d, none, fr, .len x⟩ :: rest) ks Q ⟨e, o⟩ := R.len (n := l.length) h (by simp [lenOf]) k
theorem R.lenO {α : Type} {f : α → List D} {l : List α} {p : Nat} {κ : Ky} {hs : List Ho} (h : ev e x = .v (.c (.own p))) (h1 : o p = some (.arr κ (l.map f) hs)) (k : WL P rest ks Q ⟨upd e d (pvA (.int .i64 l.length)), o⟩) : WL P (⟨some d, none, fr, .len x⟩ :: rest) ks Q ⟨e, o⟩ := R.len (n := l.length) h (by simp [lenOf, h1]) k
theorem R.slen {s : ByteArray} (h : ev e x = pvA (.string s)) (k : WL P rest ks Q ⟨upd e d (pvA (.int .i64 s.size)), o⟩) : WL P (⟨some d, none, fr, .slen x⟩ :: rest) ks Q ⟨e, o⟩ := by
  unfold WL at k
  exact WL.rd rfl ⟨s, h, k⟩
theorem R.ixM {α : Type} {f : α → List D} {l : List α} {κ κ' : Ky} {k' : IntKind} {n : Int} (h : ev e x = rdA κ' (l.map f)) (hk : κ'.k = κ.k) (h1 : ev e y = pvA (.int k' n)) (h0 : 0 ≤ n ∧ n < l.length) (k : ∀ a, l[n.toNat]? = some a → WL P rest ks Q ⟨upd e d (.v (.c (.d (.rp (f a))))), o⟩) : WL P (⟨some d, none, fr, .ix κ x y⟩ :: rest) ks Q ⟨e, o⟩ := by
  unfold WL at k
  have hi : l[n.toNat]? = some (l[n.toNat]'(by omega)) := List.getElem?_eq_getElem (by omega)
  exact WL.rd rfl ⟨_, k', n, h, h1, h0.1, .inl ⟨κ', _, f (l[n.toNat]'(by omega)), hk, rfl, by rw [List.getElem?_map, hi]; rfl, k _ hi⟩⟩
theorem R.ixN {α : Type} {f : α → List D} {l : List α} {κ κ' : Ky} {k' : IntKind} {i : Nat} (h : ev e x = rdA κ' (l.map f)) (hk : κ'.k = κ.k) (h1 : ev e y = pvA (.int k' (i : Int))) (h0 : i < l.length) (k : ∀ a, l[i]? = some a → WL P rest ks Q ⟨upd e d (.v (.c (.d (.rp (f a))))), o⟩) : WL P (⟨some d, none, fr, .ix κ x y⟩ :: rest) ks Q ⟨e, o⟩ :=
  R.ixM h hk h1 ⟨by omega, by omega⟩ k
theorem R.ixO {α : Type} {f : α → List D} {l : List α} {κ : Ky} {p : Nat} {hs : List Ho} {k' : IntKind} {n : Int} (h : ev e x = .v (.c (.own p))) (ho : o p = some (.arr κ (l.map f) hs)) (h1 : ev e y = pvA (.int k' n)) (h0 : 0 ≤ n ∧ n < l.length) (k : ∀ a, l[n.toNat]? = some a → WL P rest ks Q ⟨upd e d (.v (.c (.ep p κ.k n.toNat 0))), o⟩) : WL P (⟨some d, none, fr, .ix κ x y⟩ :: rest) ks Q ⟨e, o⟩ := by
  unfold WL at k
  have hi : l[n.toNat]? = some (l[n.toNat]'(by omega)) := List.getElem?_eq_getElem (by omega)
  exact WL.rd rfl ⟨_, k', n, h, h1, h0.1, .inr ⟨p, _, hs, rfl, ho, by simpa using h0.2, k _ hi⟩⟩
theorem R.ixOP {α : Type} {f : α → List D} {l : List α} {κ : Ky} {p : Nat} {hs : List Ho} {k' : IntKind} {n : Int} {q : α → Prop} (hq : ∀ a ∈ l, q a) (h : ev e x = .v (.c (.own p))) (ho : o p = some (.arr κ (l.map f) hs)) (h1 : ev e y = pvA (.int k' n)) (h0 : 0 ≤ n ∧ n < l.length) (k : ∀ a, l[n.toNat]? = some a → q a → WL P rest ks Q ⟨upd e d (.v (.c (.ep p κ.k n.toNat 0))), o⟩) : WL P (⟨some d, none, fr, .ix κ x y⟩ :: rest) ks Q ⟨e, o⟩ :=
  R.ixO h ho h1 h0 fun a ha => k a ha (hq a (List.mem_of_getElem? ha))
theorem R.ixON {α : Type} {f : α → List D} {l : List α} {κ : Ky} {p : Nat} {hs : List Ho} {k' : IntKind} {i : Nat} (h : ev e x = .v (.c (.own p))) (ho : o p = some (.arr κ (l.map f) hs)) (h1 : ev e y = pvA (.int k' (i : Int))) (h0 : i < l.length) (k : ∀ a, l[i]? = some a → WL P rest ks Q ⟨upd e d (.v (.c (.ep p κ.k i 0))), o⟩) : WL P (⟨some d, none, fr, .ix κ x y⟩ :: rest) ks Q ⟨e, o⟩ :=
  R.ixO h ho h1 ⟨by omega, by omega⟩ k
/-- A pointer's array. -/
theorem R.ixa {b b' : B} {len s : Nat} {k' : IntKind} {n : Int} (h : ev e x = .v (.c b)) (h1 : ev e y = pvA (.int k' n)) (h0 : 0 ≤ n ∧ n < len) (h2 : isPtr b = true) (h3 : addOff b (n.toNat * s) = some b') (k : WL P rest ks Q ⟨upd e d (.v (.c b')), o⟩) : WL P (⟨some d, none, fr, .ixa len s x y⟩ :: rest) ks Q ⟨e, o⟩ := by
  unfold WL at k
  exact WL.rd rfl ⟨b, k', n, b', h, h1, h0.1, h2, h0.2, h3, k⟩
theorem R.slc {xs : List (List D)} {κ κ' : Ky} {lo hi : Option Operand} (l h' : Nat) (h : ev e x = rdA κ' xs) (hk : κ'.k = κ.k) (h1 : l ≤ h' ∧ h' ≤ xs.length) (h2 : bndV ⟨e, o⟩ 0 lo l) (h3 : bndV ⟨e, o⟩ xs.length hi h') (k : WL P rest ks Q ⟨upd e d (rdA κ' (sliceOf xs l h')), o⟩) : WL P (⟨some d, none, fr, .slc κ x lo hi⟩ :: rest) ks Q ⟨e, o⟩ := by
  unfold WL at k
  exact WL.rd rfl ⟨κ', xs, l, h', hk, h, h1.1, h1.2, h2, h3, k⟩
theorem R.sslc {s : ByteArray} {lo hi : Option Operand} (l h' : Nat) (h : ev e x = pvA (.string s)) (h1 : l ≤ h' ∧ h' ≤ s.size) (h2 : bndV ⟨e, o⟩ 0 lo l) (h3 : bndV ⟨e, o⟩ s.size hi h') (k : WL P rest ks Q ⟨upd e d (pvA (.string (s.extract l h'))), o⟩) : WL P (⟨some d, none, fr, .sslc x lo hi⟩ :: rest) ks Q ⟨e, o⟩ := by
  unfold WL at k
  exact WL.rd rfl ⟨s, l, h', h, h1.1, h1.2, h2, h3, k⟩
theorem R.six {s : ByteArray} {k' : IntKind} {n : Int} (h : ev e x = pvA (.string s)) (h1 : ev e y = pvA (.int k' n)) (h0 : 0 ≤ n ∧ n < s.size) (k : ∀ b, s[n.toNat]? = some b → WL P rest ks Q ⟨upd e d (pvA (.int .u8 b.toNat)), o⟩) : WL P (⟨some d, none, fr, .six x y⟩ :: rest) ks Q ⟨e, o⟩ := by
  unfold WL at k
  have hi : s[n.toNat]? = some (s[n.toNat]'(by omega)) := getElem?_pos s n.toNat (by omega)
  exact WL.rd rfl ⟨s, k', n, _, h, h1, h0.1, hi, k _ hi⟩
theorem R.ld {b : B} {cs : List B} {c : B} (h : ev e x = .v (.c b)) (h1 : cellsAt o b = some cs) (h2 : cs[0]? = some c) {s : Nat} (k : WL P rest ks Q ⟨upd e d (.v (.c c)), o⟩) : WL P (⟨some d, none, fr, .ld false s x⟩ :: rest) ks Q ⟨e, o⟩ := by
  unfold WL at k
  exact WL.rd rfl ⟨b, cs, h, h1, fun h => (by cases h), fun _ => ⟨c, h2, k⟩⟩
theorem R.lda {b : B} {cs cs' : List B} {s : Nat} (h : ev e x = .v (.c b)) (h1 : cellsAt o b = some cs) (h2 : s ≤ cs.length) (h3 : cs.take s = cs') (k : WL P rest ks Q ⟨upd e d (.v (.agg cs')), o⟩) : WL P (⟨some d, none, fr, .ld true s x⟩ :: rest) ks Q ⟨e, o⟩ := by
  unfold WL at k
  exact WL.rd rfl ⟨b, cs, h, h1, fun _ => ⟨h2, by rw [h3]; exact k⟩, fun h => by cases h⟩
theorem cells_ep {κ : Ky} {xs : List (List D)} {p i off : Nat} {es : List D} {o : Nat → Option Ob} (ho : o p = some (.arr κ xs [])) (hi : xs[i]? = some es) : cellsAt o (.ep p κ.k i off) = some (((es.drop off).map Cl.d).map clB) := by
  simp only [cellsAt, ho, if_true, hi, Option.map_some, elemC, List.map_drop]
theorem R.ldEp {α : Type} {f : α → List D} {l : List α} {p i off : Nat} {κ : Ky} {a : α} {c : B} (h : ev e x = .v (.c (.ep p κ.k i off))) (ho : o p = some (.arr κ (l.map f) [])) (hi : l[i]? = some a) (h2 : ((((f a).drop off).map Cl.d).map clB)[0]? = some c) (_ : c.live = true) {s' : Nat} (k : WL P rest ks Q ⟨upd e d (.v (.c c)), o⟩) : WL P (⟨some d, none, fr, .ld false s' x⟩ :: rest) ks Q ⟨e, o⟩ := R.ld h (cells_ep ho (by rw [List.getElem?_map, hi]; rfl)) h2 k
theorem R.ldaEp {α : Type} {f : α → List D} {l : List α} {p i off s' : Nat} {κ : Ky} {a : α} {cs' : List B} (h : ev e x = .v (.c (.ep p κ.k i off))) (ho : o p = some (.arr κ (l.map f) [])) (hi : l[i]? = some a) (h2 : s' ≤ ((((f a).drop off).map Cl.d).map clB).length) (h3 : ((((f a).drop off).map Cl.d).map clB).take s' = cs') (_ : cs'.all B.live = true) (k : WL P rest ks Q ⟨upd e d (.v (.agg cs')), o⟩) : WL P (⟨some d, none, fr, .ld true s' x⟩ :: rest) ks Q ⟨e, o⟩ := R.lda h (cells_ep ho (by rw [List.getElem?_map, hi]; rfl)) h2 h3 k
theorem R.nc {b : B} (h : ev e x = .v (.c b)) (h1 : isPtr b = true) (k : WL P rest ks Q ⟨upd e d (.v (.c b)), o⟩) : WL P (⟨some d, none, fr, .nc x⟩ :: rest) ks Q ⟨e, o⟩ := by
  unfold WL at k
  exact WL.rd rfl ⟨b, h, h1, k⟩
theorem R.nc0 {b : B} (h : ev e x = .v (.c b)) (h1 : isPtr b = true) (k : WL P rest ks Q ⟨e, o⟩) : WL P (⟨none, none, fr, .nc x⟩ :: rest) ks Q ⟨e, o⟩ := by
  unfold WL at k
  exact WL.rd rfl ⟨b, h, h1, k⟩
theorem R.fa {b b' : B} {off : Nat} (h : ev e x = .v (.c b)) (h1 : addOff b off = some b') (k : WL P rest ks Q ⟨upd e d (.v (.c b')), o⟩) : WL P (⟨some d, none, fr, .fa off x⟩ :: rest) ks Q ⟨e, o⟩ := by
  unfold WL at k
  exact WL.rd rfl ⟨b, b', h, h1, k⟩
theorem R.fld {cs : List B} {off s : Nat} {c : B} (h : ev e x = .v (.agg cs)) (h1 : cs[off]? = some c) (k : WL P rest ks Q ⟨upd e d (.v (.c c)), o⟩) : WL P (⟨some d, none, fr, .fld off false s x⟩ :: rest) ks Q ⟨e, o⟩ := by
  unfold WL at k
  exact WL.rd rfl ⟨cs, h, fun h => (by cases h), fun _ => ⟨c, h1, k⟩⟩
theorem R.flda {cs cs' : List B} {off s : Nat} (h : ev e x = .v (.agg cs)) (h1 : (cs.drop off).take s = cs') (k : WL P rest ks Q ⟨upd e d (.v (.agg cs')), o⟩) : WL P (⟨some d, none, fr, .fld off true s x⟩ :: rest) ks Q ⟨e, o⟩ := by
  unfold WL at k
  exact WL.rd rfl ⟨cs, h, fun _ => by rw [h1]; exact k, fun h => by cases h⟩
/-- A call: what it gives back is data. -/
theorem R.call {bor : Bool} {g : FuncId} {f : Operand} {xs : List Operand} {caps : List D} {args : List V1} {ds : List VD} {r : RT} {r' : AV} (h1 : ev e f = .v (.c (.d (.fn g caps)))) (h2 : argsC (hobOf bor [] o) [] e xs = some args) (hc : Spec P g ds r) (h3 : (args ++ caps.map fun d => .c (.d d)) = ds.map VD.v1) (hb : (!bor || (r.av.pu && r.outs.all fun x => x.2.pu)) = true) (h4 : fAV (frO r.outs) r.av = some r') (k : WL P rest ks Q ⟨upd e d r', o⟩) : WL P (⟨some d, none, false, .call f xs⟩ :: rest) ks Q ⟨e, o⟩ := by
  unfold WL at k
  refine WL.wr (.inr ⟨g, caps, bor, args, r.av, r.outs, r', h1, h2, by rw [h3]; exact hc, fun hbt => ?_, h4, k⟩)
  subst hbt
  simp only [Bool.not_true, Bool.false_or, Bool.and_eq_true] at hb
  exact ⟨hb.1, allPu hb.2⟩
where
  allPu : ∀ {l : List (Nat × Ob)}, l.all (fun x => x.2.pu) = true → ∀ j Y, frO l j = some Y → Y.pu = true
    | [], _, _, _, h => by cases h
    | (i, X) :: l, hl, j, Y, h => by
      simp only [List.all_cons, Bool.and_eq_true] at hl
      have h : upd (frO l) i (some X) j = some Y := h
      by_cases hj : j = i
      · subst hj; rw [upd_same] at h; cases h; exact hl.1
      · rw [upd_ne _ _ hj] at h; exact allPu hl.2 j Y h
theorem R.fcal {bor : Bool} {g : FuncId} {f : Operand} {xs : List Operand} {caps : List D} {args : List V1} {ds : List VD} {r : RT} {r' : AV} (h1 : ev e f = .v (.c (.d (.fn g caps)))) (h2 : argsC (hobOf bor [] o) [] e xs = some args) (hc : Spec P g ds r) (h3 : (args ++ caps.map fun d => .c (.d d)) = ds.map VD.v1) (hb : (!bor || (r.av.pu && r.outs.all fun x => x.2.pu)) = true) (h4 : fAV (frO r.outs) r.av = some r') (k : WL P rest ks Q ⟨upd e d r', o⟩) : WL P (⟨some d, none, true, .fcal f xs⟩ :: rest) ks Q ⟨e, o⟩ := by
  unfold WL at k ⊢
  refine ⟨g, caps, bor, args, r.av, r.outs, r', h1, h2, by rw [h3]; exact hc, fun hbt => ?_, h4, k⟩
  subst hbt
  simp only [Bool.not_true, Bool.false_or, Bool.and_eq_true] at hb
  exact ⟨hb.1, R.call.allPu hb.2⟩
/-- A call: what it makes is the caller's own; what is handed to it may be others now. -/
theorem R.callM {bor : Bool} {ρ : List (Nat × Nat)} {dst : Option Nat} {g : FuncId} {f : Operand} {xs : List Operand} {caps : List D} {args as' : List V1} {ins outs : List (Nat × Ob)} {r : AV} (h1 : ev e f = .v (.c (.d (.fn g caps)))) (hc : SpecM P g as' ins r outs) (_ : rhoOf ⟨e, o⟩ xs as' ins = ρ) (h2 : argsC (hobOf bor ρ o) ρ e xs = some args) (h3 : (args ++ caps.map fun d => .c (.d d)) = as') (h4 : insC o (hobOf bor ρ o) ρ ρ = some ins)
    (h5 : (nodupB (ρ.map (·.1)) && nodupB (ρ.map (·.2)) && outsOk o ρ (callId (dst.getD 0)) outs) = true) (hb : (!bor || (r.pu && outs.all fun x => x.2.pu)) = true) (k : WL P rest ks Q (putD (stAfter ⟨e, o⟩ ρ (callId (dst.getD 0)) outs) dst (r.ren (sg ρ (callId (dst.getD 0)))))) : WL P (⟨dst, none, false, .call f xs⟩ :: rest) ks Q ⟨e, o⟩ := by
  unfold WL at k
  refine WL.wr (.inl ⟨g, caps, bor, ρ, args, ins, r, outs, h1, h2, h4, by rw [h3]; exact hc, h5, fun hbt => ?_, k⟩)
  subst hbt
  simp only [Bool.not_true, Bool.false_or, Bool.and_eq_true] at hb
  exact ⟨hb.1, R.call.allPu hb.2⟩
/-- .. with arguments that are data. -/
theorem R.callN {bor : Bool} {dst : Option Nat} {g : FuncId} {f : Operand} {xs : List Operand} {caps : List D} {args : List V1} {ds : List VD} {r : RT} {r' : AV} {o' : Nat → Option Ob} (h1 : ev e f = .v (.c (.d (.fn g caps)))) (h2 : argsC (hobOf bor [] o) [] e xs = some args) (hc : Spec P g ds r) (h3 : (args ++ caps.map fun d => .c (.d d)) = ds.map VD.v1)
    (h5 : outsOk o [] (callId (dst.getD 0)) r.outs = true) (hb : (!bor || (r.av.pu && r.outs.all fun x => x.2.pu)) = true) (h6 : r.av.ren (sg [] (callId (dst.getD 0))) = r') (h7 : putOuts (sg [] (callId (dst.getD 0))) r.outs o = o') (k : WL P rest ks Q (putD ⟨e, o'⟩ dst r')) : WL P (⟨dst, none, false, .call f xs⟩ :: rest) ks Q ⟨e, o⟩ := by
  unfold WL at k
  subst h6; subst h7
  refine WL.wr (.inl ⟨g, caps, bor, [], args, [], r.av, r.outs, h1, h2, rfl, by rw [h3]; exact hc, by simpa [nodupB] using h5, fun hbt => ?_, k⟩)
  subst hbt
  simp only [Bool.not_true, Bool.false_or, Bool.and_eq_true] at hb
  exact ⟨hb.1, R.call.allPu hb.2⟩
theorem R.mkf {g : FuncId} {caps : List Operand} {ds : List D} (h : capsD ⟨e, o⟩ caps = some ds) (k : WL P rest ks Q ⟨upd e d (.v (.c (.d (.fn g ds)))), o⟩) : WL P (⟨some d, none, fr, .mkf g caps⟩ :: rest) ks Q ⟨e, o⟩ := by
  unfold WL at k
  exact WL.rd rfl ⟨ds, h, k⟩
theorem R.al {T : TypeId} {zs : List Value} (h : freeO o d) (k : WL P rest ks Q ⟨upd e d (.v (.c (.ptr d 0))), upd o d (some (.box T (zs.map fun v => .d (.pv v))))⟩) : WL P (⟨some d, none, false, .al T zs⟩ :: rest) ks Q ⟨e, o⟩ := by
  unfold WL at k
  exact WL.wr ⟨d, rfl, h, k⟩
theorem R.box {T : TypeId} {v : V1} {cs : List B} (h : ev e x = .v v) (h0 : freeO o d) (h1 : cellsV v = some cs) (k : WL P rest ks Q ⟨upd e d (.v (.c (.ptr d 0))), upd o d (some (.box T cs))⟩) : WL P (⟨some d, none, false, .box T x⟩ :: rest) ks Q ⟨e, o⟩ := by
  unfold WL at k
  exact WL.wr ⟨d, v, cs, rfl, h0, h, h1, k⟩
theorem R.kil (k : WL P rest ks Q ⟨upd e d deadA, o⟩) : WL P (⟨some d, none, true, .kil⟩ :: rest) ks Q ⟨e, o⟩ := by
  unfold WL at k ⊢
  exact k
/-- Whether two structs are alike. -/
theorem R.eqs {kds : List Kd} {cs cs' : List B} {as bs : List Value} (h : ev e x = .v (.agg cs)) (h' : ev e y = .v (.agg cs')) (h1 : pvs cs = some as) (h2 : pvs cs' = some bs) (h3 : (fitK kds as && fitK kds bs) = true) (k : WL P rest ks Q ⟨upd e d (pvA (.bool (eqVs as bs))), o⟩) : WL P (⟨some d, none, fr, .eqs false kds x y⟩ :: rest) ks Q ⟨e, o⟩ := by
  unfold WL at k
  simp only [Bool.and_eq_true] at h3
  exact WL.rd rfl ⟨cs, cs', as, bs, h, h', h1, h2, h3.1, h3.2, k⟩
theorem R.neqs {kds : List Kd} {cs cs' : List B} {as bs : List Value} (h : ev e x = .v (.agg cs)) (h' : ev e y = .v (.agg cs')) (h1 : pvs cs = some as) (h2 : pvs cs' = some bs) (h3 : (fitK kds as && fitK kds bs) = true) (k : WL P rest ks Q ⟨upd e d (pvA (.bool (!(eqVs as bs)))), o⟩) : WL P (⟨some d, none, fr, .eqs true kds x y⟩ :: rest) ks Q ⟨e, o⟩ := by
  unfold WL at k
  simp only [Bool.and_eq_true] at h3
  exact WL.rd rfl ⟨cs, cs', as, bs, h, h', h1, h2, h3.1, h3.2, k⟩
/-- Bytes as a string. -/
theorem R.b2s {b : B} {κ : Ky} (l : List Int) (h : ev e x = .v (.c b)) (h1 : elemsOf o κ b = some (l.map enB8)) (hk : κ.k = 1) (k : WL P rest ks Q ⟨upd e d (pvA (.string (bsOf l))), o⟩) : WL P (⟨some d, none, fr, .b2s x⟩ :: rest) ks Q ⟨e, o⟩ := by
  unfold WL at k
  exact WL.rd rfl ⟨b, κ, l, h, hk, h1, k⟩
/-- Whether a slice is nil. -/
theorem R.isn {b : B} {t : Bool} (h : ev e x = .v (.c b)) (h1 : nilK o b = some t) (k : WL P rest ks Q ⟨upd e d (pvA (.bool t)), o⟩) : WL P (⟨some d, none, fr, .isn false x⟩ :: rest) ks Q ⟨e, o⟩ := by
  unfold WL at k ⊢
  cases fr with
  | true => exact ⟨b, t, h, h1, k⟩
  | false => exact Wk.of (Weak.refl _) (.inl ⟨b, t, h, h1, k⟩)
theorem R.isnn {b : B} {t : Bool} (h : ev e x = .v (.c b)) (h1 : nilK o b = some t) (k : WL P rest ks Q ⟨upd e d (pvA (.bool (!t))), o⟩) : WL P (⟨some d, none, fr, .isn true x⟩ :: rest) ks Q ⟨e, o⟩ := by
  unfold WL at k ⊢
  cases fr with
  | true => exact ⟨b, t, h, h1, k⟩
  | false => exact Wk.of (Weak.refl _) (.inl ⟨b, t, h, h1, k⟩)
/-- .. where it is not known. -/
theorem R.isn2 {α : Type} {f : α → List D} {l : List α} {κ : Ky} {neg : Bool} (h : ev e x = rdA κ (l.map f)) (k1 : l = [] → WL P rest ks Q ⟨upd e d (pvA (.bool (!neg))), o⟩) (k2 : WL P rest ks Q ⟨upd e d (pvA (.bool neg)), o⟩) : WL P (⟨some d, none, false, .isn neg x⟩ :: rest) ks Q ⟨e, o⟩ := by
  unfold WL at k1 k2
  exact WL.wr (.inr ⟨_, κ, l.map f, h, .inl rfl, fun h => k1 (by simpa using h), k2⟩)
theorem R.isn2O {α : Type} {f : α → List D} {l : List α} {κ : Ky} {neg : Bool} {p : Nat} {hs : List Ho} (h : ev e x = .v (.c (.own p))) (h1 : o p = some (.arr κ (l.map f) hs)) (k1 : l = [] → WL P rest ks Q ⟨upd e d (pvA (.bool (!neg))), o⟩) (k2 : WL P rest ks Q ⟨upd e d (pvA (.bool neg)), o⟩) : WL P (⟨some d, none, false, .isn neg x⟩ :: rest) ks Q ⟨e, o⟩ := by
  unfold WL at k1 k2
  exact WL.wr (.inr ⟨_, κ, l.map f, h, .inr ⟨p, hs, rfl, h1⟩, fun h => k1 (by simpa using h), k2⟩)
/-- Whatever has been shown of an operation. -/
theorem R.raw {op : Op} {ty : TypeId} {x' : AV} (hx : ∀ q : Oper, q.op = op → q.type = ty → OpS P ⟨e, o⟩ q x') (k : WL P rest ks Q ⟨upd e d x', o⟩) : WL P (⟨some d, none, fr, .raw op ty⟩ :: rest) ks Q ⟨e, o⟩ := by
  unfold WL at k ⊢
  cases fr with
  | true => exact ⟨x', hx, k⟩
  | false => exact Wk.of (Weak.refl _) fun F q h1 h2 _ => OpK.of_W (OpW.of_read (hx q h1 h2)) k
/-- Into a variable. -/
theorem R.stoB {s p off T : Nat} {v : V1} {cs old new : List B} (h : ev e x = .v (.c (.ptr p off))) (h1 : ev e y = .v v) (h2 : o p = some (.box T old)) (h3 : cellsV v = some cs) (h4 : cs.all B.live = true ∧ cs.length = s ∧ off + cs.length ≤ old.length) (h5 : splice old off cs = new) (k : WL P rest ks Q ⟨e, upd o p (some (.box T new))⟩) : WL P (⟨none, none, false, .sto s x y⟩ :: rest) ks Q ⟨e, o⟩ := by
  unfold WL at k
  exact WL.wr ⟨_, v, cs, h, h1, h3, h4.1, h4.2.1, .inl ⟨p, off, T, old, rfl, h2, h4.2.2, by rw [h5]; exact k⟩⟩
/-- Into an array of one's own: plain data. -/
theorem R.stoE {α : Type} {f : α → List D} {l : List α} {a : α} (b : α) {s p i off : Nat} {κ : Ky} {v : V1} {cs : List B} {ds : List D} (h : ev e x = .v (.c (.ep p κ.k i off))) (h1 : ev e y = .v v) (h2 : o p = some (.arr κ (l.map f) [])) (h3 : cellsV v = some cs) (h4 : absL o cs = some (ds, [])) (h5 : l[i]? = some a) (h6 : splice (f a) off ds = f b) (h7 : cs.all B.live = true ∧ cs.length = s ∧ off + cs.length ≤ κ.k) (k : WL P rest ks Q ⟨e, upd o p (some (.arr κ ((l.set i b).map f) []))⟩) : WL P (⟨none, none, false, .sto s x y⟩ :: rest) ks Q ⟨e, o⟩ := by
  unfold WL at k
  refine WL.wr ⟨_, v, cs, h, h1, h3, h7.1, h7.2.1, .inr ⟨p, i, off, κ, _, [], f a, ds, [], rfl, h4, rfl, h2, by rw [List.getElem?_map, h5]; rfl, h7.2.2, ?_⟩⟩
  rw [h6, ← List.map_set]
  exact k
/-- The slots, the objects, where some objects are forgotten. -/
def eK (ps : List Nat) (e : Nat → AV) : Nat → AV := match ps with
  | [] => e
  | p :: l => fun d => (e d).kill (p :: l)
def oK (ps : List Nat) (o : Nat → Option Ob) : Nat → Option Ob := match ps with
  | [] => o
  | p :: l => fun q => if (p :: l).contains q then none else (o q).map (Ob.kill (p :: l))
theorem kill_eq {e : Nat → AV} {o : Nat → Option Ob} (ps : List Nat) : St.kill ⟨e, o⟩ ps = ⟨eK ps e, oK ps o⟩ := by cases ps <;> rfl
/-- Into an array of one's own: a slice that is an object ends by it; the hole where it came from is closed. -/
theorem R.stoA {α : Type} {f : α → List D} {l : List α} {a : α} (b : α) {s p i off : Nat} {κ : Ky} {v : V1} {cs : List B} {ds : List D} {ps : List Nat} {hs : List Ho} (h : ev e x = .v (.c (.ep p κ.k i off))) (h1 : ev e y = .v v) (h3 : cellsV v = some cs) (h4 : absL o cs = some (ds, ps)) (hn : nodupB ps = true) (h2 : (oK ps o) p = some (.arr κ (l.map f) hs)) (hh : clearHo i off cs.length hs = []) (h5 : l[i]? = some a) (h6 : splice (f a) off ds = f b) (h7 : cs.all B.live = true ∧ cs.length = s ∧ off + cs.length ≤ κ.k)
    (k : WL P rest ks Q ⟨(eK ps e), upd (oK ps o) p (some (.arr κ ((l.set i b).map f) []))⟩) : WL P (⟨none, none, false, .sto s x y⟩ :: rest) ks Q ⟨e, o⟩ := by
  unfold WL at k
  refine WL.wr ⟨_, v, cs, h, h1, h3, h7.1, h7.2.1, .inr ⟨p, i, off, κ, _, hs, f a, ds, ps, rfl, h4, hn, by rw [kill_eq]; exact h2, by rw [List.getElem?_map, h5]; rfl, h7.2.2, ?_⟩⟩
  rw [h6, ← List.map_set, hh, kill_eq]
  exact k
theorem R.bld {zs : List Value} {pl : List (Nat × Nat)} {parts : List (Nat × Operand)} {ps : List (Nat × List B)} {bs : List B} (h : partsB ⟨e, o⟩ parts = some ps) (h1 : fillB (fun i => pl[i]?) (zs.map fun v => .d (.pv v)) ps = some bs) (k : WL P rest ks Q ⟨upd e d (.v (.agg bs)), o⟩) : WL P (⟨some d, none, fr, .bld zs pl parts⟩ :: rest) ks Q ⟨e, o⟩ := by
  unfold WL at k ⊢
  cases fr with
  | true => exact ⟨ps, bs, h, h1, k⟩
  | false => exact Wk.of (Weak.refl _) ⟨ps, bs, h, h1, k⟩
/-- A slice of what is known, told as data. -/
theorem R.bslF {α : Type} {f : α → List D} (l : List α) {κ : Ky} {len : Nat} {parts : List (Nat × Operand)} {pl : List (Nat × List B)} {bs : List B} {ds : List D} (h : partsB ⟨e, o⟩ parts = some pl) (h1 : fillB (fun i => some (i * κ.k, κ.k)) (List.replicate (len * κ.k) .dead) pl = some bs) (h2 : dsB bs = some ds) (h3 : chunks κ.k len ds = l.map f) (k : WL P rest ks Q ⟨upd e d (rdA κ (l.map f)), o⟩) : WL P (⟨some d, none, true, .bsl κ len parts⟩ :: rest) ks Q ⟨e, o⟩ := by
  unfold WL at k ⊢
  exact ⟨pl, bs, ds, h, h1, h2, by rw [h3]; exact k⟩
theorem R.bsl {α : Type} {f : α → List D} (l : List α) {κ : Ky} {len : Nat} {parts : List (Nat × Operand)} {pl : List (Nat × List B)} {bs : List B} {ds : List D} (h0 : freeO o d) (h : partsB ⟨e, o⟩ parts = some pl) (h1 : fillB (fun i => some (i * κ.k, κ.k)) (List.replicate (len * κ.k) .dead) pl = some bs) (h2 : absL o bs = some (ds, [])) (h3 : chunks κ.k len ds = l.map f) (k : WL P rest ks Q ⟨upd e d (.v (.c (.own d))), upd o d (some (.arr κ (l.map f) []))⟩) : WL P (⟨some d, none, false, .bsl κ len parts⟩ :: rest) ks Q ⟨e, o⟩ := by
  unfold WL at k
  exact WL.wr ⟨d, pl, bs, ds, [], rfl, h, h1, h2, rfl, h0, by rw [h3]; exact k⟩
/-- .. whose elements take in objects. -/
theorem R.bslA {α : Type} {f : α → List D} (l : List α) {κ : Ky} {len : Nat} {parts : List (Nat × Operand)} {pl : List (Nat × List B)} {bs : List B} {ds : List D} {ps : List Nat} (h : partsB ⟨e, o⟩ parts = some pl) (h1 : fillB (fun i => some (i * κ.k, κ.k)) (List.replicate (len * κ.k) .dead) pl = some bs) (h2 : absL o bs = some (ds, ps)) (hn : nodupB ps = true) (h0 : freeO (oK ps o) d) (h3 : chunks κ.k len ds = l.map f)
    (k : WL P rest ks Q ⟨upd (eK ps e) d (.v (.c (.own d))), upd (oK ps o) d (some (.arr κ (l.map f) []))⟩) : WL P (⟨some d, none, false, .bsl κ len parts⟩ :: rest) ks Q ⟨e, o⟩ := by
  unfold WL at k
  exact WL.wr ⟨d, pl, bs, ds, ps, rfl, h, h1, h2, hn, by rw [kill_eq]; exact h0, by rw [h3, kill_eq]; exact k⟩
theorem R.mks {α : Type} {f : α → List D} (a : α) {κ : Ky} {zs : List Value} {n : Int} (h : ev e x = pvA (.int .i64 n)) (h' : ev e y = pvA (.int .i64 n)) (h0 : freeO o d) (h1 : 0 ≤ n ∧ n ≤ 16777216) (h2 : F2 zD zs (f a)) (k : WL P rest ks Q ⟨upd e d (.v (.c (.own d))), upd o d (some (.arr κ ((List.replicate n.toNat a).map f) []))⟩) : WL P (⟨some d, none, false, .mks κ zs x y⟩ :: rest) ks Q ⟨e, o⟩ := by
  unfold WL at k
  refine WL.wr ⟨d, n, f a, rfl, h0, h, h', h1.1, h1.2, h2, ?_⟩
  rw [List.map_replicate] at k
  exact k
theorem pureM {α : Type} {f : α → List D} {l : List α} (h : ∀ a, (f a).all pureD = true) : pureL (l.map f) := fun es he d hd => by
  obtain ⟨a, _, rfl⟩ := List.mem_map.1 he
  exact List.all_eq_true.1 (h a) d hd
/-- Plain data behind an array of one's own. -/
theorem R.app {α : Type} {f : α → List D} {l l' : List α} {κ : Ky} {by' p : Nat} {b : B} (hp : ∀ a, (f a).all pureD = true) (h : ev e x = .v (.c (.own p))) (h0 : o p = some (.arr κ (l.map f) [])) (hpin : Nat.blt p pinN = true) (h1 : ev e y = .v (.c b)) (h2 : elemsOf o κ b = some (l'.map f)) (h3 : (l.length + l'.length) * by' ≤ 140737488355328 ∧ l.length + l'.length ≤ 140737488355328) (k : WL P rest ks Q ⟨upd (eK [p] e) d (.v (.c (.own p))), upd (oK [p] o) p (some (.arr κ ((l ++ l').map f) []))⟩) : WL P (⟨some d, none, false, .app κ by' x y⟩ :: rest) ks Q ⟨e, o⟩ := by
  unfold WL at k
  rw [List.map_append] at k
  exact WL.wr ⟨d, _, _, _, rfl, h, h1, h2, [], .inl ⟨pureM hp, rfl⟩, .inl ⟨p, _, rfl, h0, by rw [Nat.blt] at hpin; exact Nat.le_of_ble_eq_true hpin, by unfold maxLen; simp; omega, by simpa using h3.1, k⟩⟩
theorem R.app0 {α : Type} {f : α → List D} {l' : List α} {κ : Ky} {by' : Nat} {b : B} (hp : ∀ a, (f a).all pureD = true) (h : ev e x = .v (.c (.d (.pv (.slice none 0 0))))) (h0 : freeO o d) (h1 : ev e y = .v (.c b)) (h2 : elemsOf o κ b = some (l'.map f)) (h3 : l'.length * by' ≤ 140737488355328) (k : WL P rest ks Q ⟨upd e d (.v (.c (.own d))), upd o d (some (.arr κ (l'.map f) []))⟩) : WL P (⟨some d, none, false, .app κ by' x y⟩ :: rest) ks Q ⟨e, o⟩ := by
  unfold WL at k
  exact WL.wr ⟨d, _, _, _, rfl, h, h1, h2, [], .inl ⟨pureM hp, rfl⟩, .inr ⟨rfl, h0, by simpa using h3, k⟩⟩
/-- What an array owns goes behind another. -/
theorem R.appM {α : Type} {f : α → List D} {l l' : List α} {κ : Ky} {by' p q : Nat} (h : ev e x = .v (.c (.own p))) (h1 : ev e y = .v (.c (.own q))) (h0 : (oK [q] o) p = some (.arr κ (l.map f) [])) (hpin : Nat.blt p pinN = true) (h2 : elemsOf o κ (.own q) = some (l'.map f)) (h3 : (l.length + l'.length) * by' ≤ 140737488355328 ∧ l.length + l'.length ≤ 140737488355328)
    (k : WL P rest ks Q ⟨upd (eK [p] (eK [q] e)) d (.v (.c (.own p))), upd (oK [p] (oK [q] o)) p (some (.arr κ ((l ++ l').map f) []))⟩) : WL P (⟨some d, none, false, .app κ by' x y⟩ :: rest) ks Q ⟨e, o⟩ := by
  unfold WL at k
  rw [List.map_append] at k
  exact WL.wr ⟨d, _, _, _, rfl, h, h1, h2, [q], .inr ⟨q, rfl, rfl⟩, .inl ⟨p, _, rfl, h0, by rw [Nat.blt] at hpin; exact Nat.le_of_ble_eq_true hpin, by unfold maxLen; simp; omega, by simpa using h3.1, k⟩⟩
theorem R.appM0 {α : Type} {f : α → List D} {l' : List α} {κ : Ky} {by' q : Nat} (h : ev e x = .v (.c (.d (.pv (.slice none 0 0))))) (h1 : ev e y = .v (.c (.own q))) (h2 : elemsOf o κ (.own q) = some (l'.map f)) (h0 : freeO (oK [q] o) d) (h3 : l'.length * by' ≤ 140737488355328)
    (k : WL P rest ks Q ⟨upd (eK [q] e) d (.v (.c (.own d))), upd (oK [q] o) d (some (.arr κ (l'.map f) []))⟩) : WL P (⟨some d, none, false, .app κ by' x y⟩ :: rest) ks Q ⟨e, o⟩ := by
  unfold WL at k
  exact WL.wr ⟨d, _, _, _, rfl, h, h1, h2, [q], .inr ⟨q, rfl, rfl⟩, .inr ⟨rfl, h0, by simpa using h3, k⟩⟩
-- the end
theorem arr_eq {α : Type} {f : α → List D} {κ : Ky} {X Y : List α} (h : X = Y) : (some (.arr κ (X.map f) []) : Option Ob) = some (.arr κ (Y.map f) []) := by rw [h]
/-- What is handed back, told by its results: slots or variables. -/
theorem R.out {fn : Func} {rs : List ResultVar} {r : AV} {outs : List (Nat × Ob)} {st : St} {ys ys' : List V1} (hrs : fn.results.toList = rs) (h1 : F2 (resV P st) rs ys) (ρ : List (Nat × Nat)) (h2 : vAll (cV1 (fun _ => none) ρ) ys = some ys') (h3 : insC st.objs (fun _ => none) ρ ρ = some outs) (h4 : okρ ρ = true) (h5 : match r with | .v y => ys' = [y] | .tup l => l.length ≠ 1 ∧ ys' = l) : RetOk P fn.results.toList r outs st := by
  rw [hrs]
  exact ⟨st, ys, ys', ρ, Weak.refl _, h1, h2, h3, h4, h5⟩
/-- .. what is known is told in other words first. -/
theorem R.outW {fn : Func} {r : AV} {outs : List (Nat × Ob)} {st st' : St} (hw : Weak st st') (h : RetOk P fn.results.toList r outs st') : RetOk P fn.results.toList r outs st := by
  obtain ⟨st2, ys, ys', ρ, h0, h1⟩ := h
  exact ⟨st2, ys, ys', ρ, hw.trans h0, h1⟩
theorem R.tmp {t : Nat} {y : V1} {st : St} (h : st.env t = .v y) : resV P st (.tmp t) y := h
theorem R.cell {t T T' p s : Nat} {cs bs : List B} {st : St} (h : st.env t = .v (.c (.ptr p 0))) (ho : st.objs p = some (.box T' cs)) (hT : tyInfo P T = some (true, s)) (hs : s ≤ cs.length) (hb : cs.take s = bs) : resV P st (.cell t T) (.agg bs) :=
  ⟨_, cs, true, s, h, by simp [cellsAt, ho], hT, fun _ => ⟨hs, by rw [hb]⟩, fun h => by cases h⟩
theorem R.cell1 {t T T' p s : Nat} {cs : List B} {c : B} {st : St} (h : st.env t = .v (.c (.ptr p 0))) (ho : st.objs p = some (.box T' cs)) (hT : tyInfo P T = some (false, s)) (hb : cs[0]? = some c) : resV P st (.cell t T) (.c c) :=
  ⟨_, cs, false, s, h, by simp [cellsAt, ho], hT, fun h => (by cases h), fun _ => ⟨c, hb, rfl⟩⟩
/-- A Bool, a number, a string. -/
theorem R.outP {fn : Func} {t : Nat} {u : Value} {st : St} (hrs : fn.results.toList = [.tmp t]) (h : st.env t = pvA u) : RetOk P fn.results.toList (RT.v (.c (.fz (.pv u)))).av [] st := R.out hrs (.cons (R.tmp h) .nil) [] rfl rfl rfl rfl
theorem R.outB {fn : Func} {t : Nat} {u u' : Bool} {st : St} (hrs : fn.results.toList = [.tmp t]) (h : st.env t = pvA (.bool u')) (hu : u' = u) : RetOk P fn.results.toList (oB u).av (oB u).outs st := R.outP hrs (h.trans (by rw [hu]))
theorem R.outI {fn : Func} {t : Nat} {u u' : Int} {st : St} (hrs : fn.results.toList = [.tmp t]) (h : st.env t = pvA (.int .i64 u')) (hu : u' = u) : RetOk P fn.results.toList (oI u).av (oI u).outs st := R.outP hrs (h.trans (by rw [hu]))
theorem R.outS {fn : Func} {t : Nat} {u u' : ByteArray} {st : St} (hrs : fn.results.toList = [.tmp t]) (h : st.env t = pvA (.string u')) (hu : u' = u) : RetOk P fn.results.toList (oS u).av (oS u).outs st := R.outP hrs (h.trans (by rw [hu]))
/-- A new slice. -/
theorem R.outN {fn : Func} {t p : Nat} {κ : Ky} {xs : List (List D)} {st : St} (hrs : fn.results.toList = [.tmp t]) (h : st.env t = .v (.c (.own p))) (h1 : st.objs p = some (.arr κ xs [])) : RetOk P fn.results.toList (oN κ xs).av (oN κ xs).outs st := R.out hrs (.cons (R.tmp h) .nil) [(p, 0)] (by simp [vAll, cV1, cB, look1]; rfl) (by simp [insC, h1, cOb, vAll]; rfl) (by simp [okρ, nodupB, Nat.blt, pinN]) rfl
theorem R.outE {fn : Func} {t : Nat} {κ : Ky} {e : Nat → AV} {o : Nat → Option Ob} (hrs : fn.results.toList = [.tmp t]) (h : e t = .v (.c nilB)) (h0 : freeO o 900000) : RetOk P fn.results.toList (oN κ []).av (oN κ []).outs ⟨e, o⟩ := R.outW (Weak.reify (st := ⟨e, o⟩) t 900000 κ h h0) (R.outN (p := 900000) hrs (upd_same _ _ _) (upd_same o 900000 _))
end
theorem K.c {args : List V1} {ins : List (Nat × Ob)} (hk : KnownAll args ins) (i : Nat) {d : D} (h : args[i]? = some (.c (.d d))) : Known d := hk.1 _ (List.mem_of_getElem? h) d (by simp [V1.ds, B.ds])
theorem K.a {args : List V1} {ins : List (Nat × Ob)} (hk : KnownAll args ins) (i j : Nat) {xs : List B} {d : D} (h : args[i]? = some (.agg xs)) (hj : xs[j]? = some (.d d)) : Known d := hk.1 _ (List.mem_of_getElem? h) d (List.mem_flatMap.2 ⟨_, List.mem_of_getElem? hj, by simp [B.ds]⟩)
theorem K.o {args : List V1} {ins : List (Nat × Ob)} (hk : KnownAll args ins) (i : Nat) {κ : Ky} {xs : List (List D)} (h : frO ins i = some (.arr κ xs [])) : Known (.rd κ xs) := hk.2 i _ h _ (by simp [Ob.ds])
theorem K.b {args : List V1} {ins : List (Nat × Ob)} (hk : KnownAll args ins) (i j : Nat) {T : TypeId} {cs : List B} {d : D} (h : frO ins i = some (.box T cs)) (hj : cs[j]? = some (.d d)) : Known d := hk.2 i _ h _ (List.mem_flatMap.2 ⟨_, List.mem_of_getElem? hj, by simp [B.ds]⟩)
theorem Known.lenM {α : Type} {f : α → List D} {l : List α} {κ : Ky} (h : Known (.rd κ (l.map f))) : l.length ≤ 9223372036854775807 := by simpa using h.len'
/-- Whether it is so. -/
noncomputable def bP (p : Prop) : Bool := @decide p (Classical.propDecidable p)
theorem bP_iff {p : Prop} : bP p = true ↔ p := by unfold bP; exact @decide_eq_true_iff p (Classical.propDecidable p)
theorem bP_true {p : Prop} (h : p) : true = bP p := (bP_iff.2 h).symm
theorem bP_false {p : Prop} (h : ¬ p) : false = bP p := by
  cases hb : bP p with
  | true => exact absurd (bP_iff.1 hb) h
  | false => rfl
theorem bP_not {p : Prop} : bP p = false ↔ ¬ p := ⟨fun h hp => (by rw [← bP_true hp] at h; cases h), fun h => (bP_false h).symm⟩
/-- THE FUNCTION, to walk. -/
theorem SpecM.walk {P : Program} (hm : P.follows .mixedOrders = true) {f : FuncId} {fn : Func} (hf : P.funcs[f]? = some fn) {s : SC} (hs : stripF P fn = some s) {args : List V1} {ins : List (Nat × Ob)} {r : AV} {outs : List (Nat × Ob)} (ha : args.length ≤ fn.ntmps)
    (h : KnownAll args ins → WC P s [] (fun e st => (e = .normal ∨ e = .ret) ∧ RetOk P fn.results.toList r outs st) ⟨argsEnv args, frO ins⟩) : SpecM P f args ins r outs :=
  SpecM.of_s hm hf hs ha fun hk => WC.intro (h hk)
theorem Spec.walk {P : Program} (hm : P.follows .mixedOrders = true) {f : FuncId} {fn : Func} (hf : P.funcs[f]? = some fn) {s : SC} (hs : stripF P fn = some s) {args : List VD} {r : RT} (ha : args.length ≤ fn.ntmps)
    (h : KnownAll (args.map VD.v1) [] → WC P s [] (fun e st => (e = .normal ∨ e = .ret) ∧ RetOk P fn.results.toList r.av r.outs st) ⟨argsEnv (args.map VD.v1), fun _ => none⟩) : Spec P f args r :=
  SpecM.of_s hm hf hs (by simpa using ha) fun hk => WC.intro (h hk)
end Go.Proofs.YtlblmofimjhbbaaDoor
