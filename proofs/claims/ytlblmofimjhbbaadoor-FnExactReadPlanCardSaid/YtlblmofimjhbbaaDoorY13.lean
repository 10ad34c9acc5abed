/- Code in words about what is known; what may be told in other words. No program is named here. -/
import Derived.Test.YtlblmofimjhbbaaDoorYS
import Derived.Deep.LoopGhost
namespace Go.Proofs.YtlblmofimjhbbaaDoor
open Go.RowKit
theorem Weak.kill (st : St) (ps : List Nat) : Weak st (st.kill ps) := fun _ R ι φ _ _ h => ⟨R, ι, φ, h.kill ps⟩
def B.inK (K : List Nat) : B → Bool
  | .ptr o _ => K.contains o
  | .own o => K.contains o
  | .ep o _ _ _ => K.contains o
  | .rel o _ => K.contains o
  | _ => true
def V1.inK (K : List Nat) : V1 → Bool
  | .c b => b.inK K
  | .agg bs => bs.all (B.inK K)
def AV.inK (K : List Nat) : AV → Bool
  | .v x => x.inK K
  | .tup xs => xs.all (V1.inK K)
def Ho.inK (K : List Nat) (h : Ho) : Bool := match h.l with
  | some o => K.contains o
  | none => true
def Ob.inK (K : List Nat) : Ob → Bool
  | .box _ cs => cs.all (B.inK K)
  | .arr _ _ hs => hs.all (Ho.inK K)
  | .mp _ => true
  | .val _ => true
section
variable {w : World} {R : Nat → Prop} {ι : Nat → Value} {dom dom' : Nat → Prop} {K : List Nat}
theorem RB.inK (hd : ∀ o, K.contains o = true → dom o → dom' o) {v : Value} : ∀ {b : B}, b.inK K = true → RB w R ι dom v b → RB w R ι dom' v b
  | .d _, _, h => h
  | .ptr o _, hk, ⟨h1, h2⟩ => ⟨hd o hk h1, h2⟩
  | .own o, hk, ⟨h1, h2⟩ => ⟨hd o hk h1, h2⟩
  | .ep o _ _ _, hk, ⟨h1, h2⟩ => ⟨hd o hk h1, h2⟩
  | .rel o _, hk, ⟨h1, h2⟩ => ⟨hd o hk h1, h2⟩
  | .dead, _, _ => trivial
theorem F2.all {α β : Type} {r r' : α → β → Prop} {p : β → Bool} (h : ∀ a b, p b = true → r a b → r' a b) : ∀ {as : List α} {bs : List β}, bs.all p = true → F2 r as bs → F2 r' as bs
  | _, _, _, .nil => .nil
  | _, _, hp, .cons h1 h2 => by
    simp only [List.all_cons, Bool.and_eq_true] at hp
    exact .cons (h _ _ hp.1 h1) (F2.all h hp.2 h2)
theorem RV1.inK (hd : ∀ o, K.contains o = true → dom o → dom' o) {v : Value} : ∀ {x : V1}, x.inK K = true → RV1 w R ι dom v x → RV1 w R ι dom' v x
  | .c _, hk, h => RB.inK hd hk h
  | .agg _, hk, ⟨vs, h1, h2⟩ => ⟨vs, h1, F2.all (p := B.inK K) (fun _ _ hk h => RB.inK hd hk h) hk h2⟩
theorem RA.inK (hd : ∀ o, K.contains o = true → dom o → dom' o) {v : Value} : ∀ {x : AV}, x.inK K = true → RA w R ι dom v x → RA w R ι dom' v x
  | .v _, hk, h => RV1.inK hd hk h
  | .tup _, hk, ⟨vs, h1, h2⟩ => ⟨vs, h1, F2.all (p := V1.inK K) (fun _ _ hk h => RV1.inK hd hk h) hk h2⟩
end
theorem RArr.inK {w : World} {ι : Nat → Value} {dom dom' : Nat → Prop} {K : List Nat} (hd : ∀ o, K.contains o = true → dom o → dom' o) {κ : Ky} {xs : List (List D)} {hs : List Ho} {v : Value} {S : List Nat} (hk : hs.all (Ho.inK K) = true) (h : RArr w ι dom v κ xs hs S) : RArr w ι dom' v κ xs hs S := by
  obtain ⟨h1, vs, S1, h2, h3, h4⟩ := h
  have hF : F2 (HoRel fun o => if K.contains o then some o else none) hs hs := by
    clear h3 h1 h2 h4
    induction hs with
    | nil => exact .nil
    | cons h hs ih =>
      simp only [List.all_cons, Bool.and_eq_true] at hk
      refine .cons ⟨rfl, rfl, ?_⟩ (ih hk.2)
      have := hk.1
      unfold Ho.inK at this
      cases hl : h.l with
      | none => rfl
      | some o => rw [hl] at this; exact ⟨o, by simp only [this, if_true], rfl⟩
  refine ⟨h1, vs, S1, h2, EH.ren (f := fun o => if K.contains o then some o else none) (fun p i hp hdp => ?_) h3 (punch_ren _ hF _), h4⟩
  split at hp
  · rename_i hc; cases hp; exact ⟨hd p hc hdp, rfl⟩
  · cases hp
theorem RO.inK {w : World} {R : Nat → Prop} {ι : Nat → Value} {dom dom' : Nat → Prop} {K : List Nat} (hd : ∀ o, K.contains o = true → dom o → dom' o) {v : Value} {S : List Nat} : ∀ {x : Ob}, x.inK K = true → RO w R ι dom v S x → RO w R ι dom' v S x
  | .box _ _, hk, ⟨g, vs, h1, h2, h3, h4⟩ => ⟨g, vs, h1, h2, h3, F2.all (p := B.inK K) (fun _ _ hk h => RB.inK hd hk h) hk h4⟩
  | .arr _ _ _, hk, h => RArr.inK hd hk h
  | .mp _, _, h => h
  | .val _, _, h => h
abbrev nilB : B := .d (.pv (.slice none 0 0))
theorem RArr.nil (w : World) (ι : Nat → Value) (dom : Nat → Prop) (κ : Ky) : RArr w ι dom (.slice none 0 0) κ [] [] [] := ⟨by simp, [], [], World.ownsRow_nil w _ _ _, .nil, rfl, .nil⟩
/-- A nil slice, taken for an array of the call's own. -/
theorem Weak.reify {st : St} (d p : Nat) (κ : Ky) (hd : st.env d = .v (.c nilB)) (hp : freeO st.objs p) : Weak st ⟨upd st.env d (.v (.c (.own p))), upd st.objs p (some (.arr κ [] []))⟩ := fun F R ι φ a w hs => by
  obtain ⟨hp1, hp2⟩ := hp.none
  have h1 := hs.new (d := p) (u := .slice none 0 0) (S := []) (x := .arr κ [] []) (w' := w) hp1 hp2 (Below.refl _ _) (RArr.nil w _ _ κ) (fun g hg => by cases hg)
  refine ⟨R, _, _, h1.below, h1.rlt, h1.rsub, h1.rnew, h1.size, h1.defers, fun t => ?_, h1.objs, h1.mine, h1.apart, h1.pin⟩
  by_cases ht : t = d
  · subst ht
    have := hs.env t
    rw [hd] at this
    obtain ⟨e1, _⟩ := RA.pv this
    simp only [upd_same]
    exact ⟨⟨.arr κ [] [], by simp [upd_same]⟩, by rw [upd_same]; exact e1⟩
  · simp only [upd_ne _ _ ht]
    exact h1.env t
theorem set_same {α : Type} {l : List α} {i : Nat} {u : α} (h : l[i]? = some u) : l.set i u = l := by
  apply List.ext_getElem?
  intro j
  by_cases hj : i = j
  · subst hj
    rw [List.getElem?_set_self (List.getElem?_eq_some_iff.1 h).1, h]
  · rw [List.getElem?_set_ne hj]
/-- A nil slice in a variable of the call, taken for an array of its own. -/
theorem Weak.reifyBox {st : St} (o i p : Nat) (κ : Ky) {T : TypeId} {cs : List B} (ho : st.objs o = some (.box T cs)) (hi : cs[i]? = some nilB) (hp : freeO st.objs p) : Weak st ⟨st.env, upd (upd st.objs p (some (.arr κ [] []))) o (some (.box T (cs.set i (.own p))))⟩ := fun F R ι φ a w hs => by
  obtain ⟨hp1, hp2⟩ := hp.none
  have hop : o ≠ p := fun h => by subst h; rw [ho] at hp1; cases hp1
  have h1 := hs.new (d := p) (u := .slice none 0 0) (S := []) (x := .arr κ [] []) (w' := w) hp1 hp2 (Below.refl _ _) (RArr.nil w _ _ κ) (fun g hg => by cases hg)
  have ho1 : (upd st.objs p (some (.arr κ [] []))) o = some (.box T cs) := by rw [upd_ne _ _ hop]; exact ho
  obtain ⟨g, vs, q1, q2, q4, q5⟩ := h1.objs o _ ho1
  refine ⟨R, _, _, h1.write (x' := .box T (cs.set i (.own p))) (S := [g]) ho1 h1.below (Nat.le_refl _) (fun _ _ _ => rfl) ?_ (fun g' hg' => by rw [q2]; exact hg')⟩
  obtain ⟨u, hu, hr⟩ := q5.get hi
  have hr : RD w R u (.pv (.slice none 0 0)) := hr
  have hu' : u = .slice none 0 0 := by cases hr; rfl
  refine ⟨g, vs, q1, rfl, q4, ?_⟩
  have h2 : RB w R (upd ι p (.slice none 0 0)) (St.dom ⟨st.env, upd st.objs p (some (.arr κ [] []))⟩) (.slice none 0 0) (.own p) := ⟨⟨.arr κ [] [], by simp [upd_same]⟩, by rw [upd_same]⟩
  have := q5.set i h2
  rwa [set_same (hu' ▸ hu)] at this
section
variable {w : World} {R : Nat → Prop} {ι : Nat → Value} {dom : Nat → Prop}
/-- One owning cell is taken out. -/
theorem EH.takeOut {vs : List Value} {cs : List Cl} {S : List Nat} (h : EH w ι dom vs cs S) : ∀ {n : Nat} {x : D}, cs[n]? = some (.d x) → ∃ v A Sx A', vs[n]? = some v ∧ ET w [v] [x] Sx ∧ S = A ++ (Sx ++ A') ∧
    ∀ (ι' : Nat → Value) (dom' : Nat → Prop) (l : Option Nat), (∀ o, dom o → dom' o ∧ ι' o = ι o) → (∀ o, l = some o → dom' o ∧ v = ι' o) → EH w ι' dom' vs (cs.set n (.h l)) (A ++ A') := by
  induction h with
  | nil => intro n x h; simp at h
  | d h1 h2 ih =>
    intro n x hx
    cases n with
    | zero =>
      simp at hx; subst hx
      exact ⟨_, [], _, _, rfl, h1, rfl, fun ι' dom' l hι hl => .h (h1.one _ (by simp)) hl (h2.keep (fun o ho => (hι o ho).1) (fun o ho => (hι o ho).2) fun _ _ => rfl)⟩
    | succ n =>
      obtain ⟨v, A, Sx, A', e1, e2, e3, e4⟩ := ih (n := n) (x := x) (by simpa using hx)
      refine ⟨v, _ ++ A, Sx, A', by simpa using e1, e2, by rw [e3, List.append_assoc], fun ι' dom' l hι hl => ?_⟩
      rw [List.append_assoc]
      exact .d h1 (e4 ι' dom' l hι hl)
  | h h1 hl h2 ih =>
    intro n x hx
    cases n with
    | zero => simp at hx
    | succ n =>
      obtain ⟨v, A, Sx, A', e1, e2, e3, e4⟩ := ih (n := n) (x := x) (by simpa using hx)
      exact ⟨v, A, Sx, A', by simpa using e1, e2, e3, fun ι' dom' l hι hl' => .h h1 (fun o ho => ⟨(hι o (hl o ho).1).1, by rw [(hι o (hl o ho).1).2]; exact (hl o ho).2⟩) (e4 ι' dom' l hι hl')⟩
theorem elemC_free {k i j : Nat} {es : List D} : ∀ {hs : List Ho}, (∀ h ∈ hs, ¬ (h.i = i ∧ h.j = j)) → (elemC k i es hs)[j]? = (es.map Cl.d)[j]?
  | [], _ => rfl
  | h :: hs, hn => by
    have ih := elemC_free (k := k) (i := i) (j := j) (es := es) (hs := hs) fun x hx => hn x (by simp [hx])
    simp only [elemC]
    split
    · rename_i h1
      rw [List.getElem?_set_ne fun e => hn h (by simp) ⟨h1.1, e⟩]
      exact ih
    · exact ih
end
/-- No hole there. -/
def noHo (i j : Nat) (hs : List Ho) : Prop := ∀ h ∈ hs, ¬ (h.i = i ∧ h.j = j)
/-- A slice within an array, taken out for an object of its own. -/
theorem Weak.open {st : St} (p i j q : Nat) {κ κ' : Ky} {xs ys : List (List D)} {hs : List Ho} {es : List D} (hob : st.objs p = some (.arr κ xs hs)) (hi : xs[i]? = some es) (hj : es[j]? = some (.rd κ' ys)) (hno : noHo i j hs) (hq : freeO st.objs q) :
    Weak st ⟨st.env, upd (upd st.objs p (some (.arr κ xs (⟨i, j, some q⟩ :: hs)))) q (some (.arr κ' ys []))⟩ := fun F R ι φ a w hsat => by
  obtain ⟨hq1, hq2⟩ := hq.none
  have hpq : p ≠ q := fun e => by subst e; rw [hob] at hq1; cases hq1
  obtain ⟨hk, vs, S1, hown, hf, hφ, hn⟩ := hsat.objs p _ hob
  have hesk := hk es (List.mem_of_getElem? hi)
  have hjk : j < κ.k := by rw [← hesk]; exact (List.getElem?_eq_some_iff.1 hj).1
  have hcell : (cellsH κ.k xs hs)[i * κ.k + j]? = some (.d (.rd κ' ys)) := by
    rw [cellsH_get hk hi hjk, elemC_free hno, List.getElem?_map, hj]; rfl
  obtain ⟨v, A, Sx, A', e1, e2, e3, e4⟩ := hf.takeOut hcell
  have hmi := hsat.mine p _ hob
  have hm : ∀ g, g ∈ (ι p).ownBlock.toList ++ (A ++ A') ∨ g ∈ Sx ↔ g ∈ φ p := fun g => by
    rw [hφ, e3]
    simp only [List.mem_append]
    constructor
    · rintro ((h | h | h) | h) <;> simp [h]
    · rintro (h | h | h | h) <;> simp [h]
  have hnS : ((ι p).ownBlock.toList ++ (A ++ A')).Nodup ∧ Sx.Nodup ∧ ∀ g ∈ Sx, g ∉ (ι p).ownBlock.toList ++ (A ++ A') := by
    rw [hφ, e3] at hn
    simp only [List.nodup_append, List.mem_append] at hn ⊢
    obtain ⟨n1, ⟨n2, ⟨n3, n4, n5⟩, n6⟩, n7⟩ := hn
    refine ⟨⟨n1, ⟨n2, n4, fun b hb b' hb' => n6 b hb b' (.inr hb')⟩, fun b hb b' hb' => n7 b hb b' (hb'.elim .inl fun h => .inr (.inr h))⟩, n3, ?_⟩
    rintro g hg (h | h | h)
    · exact n7 g h g (.inr (.inl hg)) rfl
    · exact n6 g h g (.inl hg) rfl
    · exact n5 g hg g h rfl
  have hne : ∀ o, st.dom o → o ≠ q := fun o ⟨y, hy⟩ e => by subst e; rw [hq1] at hy; cases hy
  let ι' := upd ι q v
  let φ' := upd (upd φ p ((ι p).ownBlock.toList ++ (A ++ A'))) q Sx
  let objs' := upd (upd st.objs p (some (.arr κ xs (⟨i, j, some q⟩ :: hs)))) q (some (.arr κ' ys []))
  have hdm : ∀ o, st.dom o → domO objs' o ∧ ι' o = ι o := fun o ho => by
    refine ⟨?_, upd_ne _ _ (hne o ho)⟩
    by_cases hop : o = p
    · subst hop; exact ⟨_, (upd_ne _ _ hpq).trans (upd_same _ _ _)⟩
    · obtain ⟨y, hy⟩ := ho
      exact ⟨y, (upd_ne _ _ (hne o ⟨y, hy⟩)).trans ((upd_ne _ _ hop).trans hy)⟩
  have hφp : φ' p = (ι p).ownBlock.toList ++ (A ++ A') := (upd_ne _ _ hpq).trans (upd_same _ _ _)
  have hφq : φ' q = Sx := upd_same _ _ _
  have hip : ι' p = ι p := upd_ne _ _ hpq
  have hsub : ∀ o, o = p ∨ o = q → ∀ g ∈ φ' o, g ∈ φ p := fun o ho g hg => by
    rcases ho with rfl | rfl
    · rw [hφp] at hg; exact (hm g).1 (.inl hg)
    · rw [hφq] at hg; exact (hm g).1 (.inr hg)
  refine ⟨R, ι', φ', hsat.step (fun o => o = p ∨ o = q) hsat.below (fun b hb => ⟨hb, rfl⟩) hsat.rlt hsat.rnew hdm (fun o x ho hch => ?_) (fun o x ho hch => ?_) (fun o r x y g ho hch hr h1 h2 => ?_) (fun o ho => upd_ne _ _ (by omega))⟩
  · have h1 : o ≠ p := fun e => hch (.inl e)
    have h2 : o ≠ q := fun e => hch (.inr e)
    rw [upd_ne _ _ h2, upd_ne _ _ h1] at ho
    exact ⟨ho, (upd_ne _ _ h2).trans (upd_ne _ _ h1), fun g hg => ⟨rfl, (hsat.mine o x ho g hg).2⟩⟩
  · refine ⟨?_, fun g hg => hmi g (hsub o hch g hg)⟩
    rcases hch with rfl | rfl
    · rw [upd_ne _ _ hpq, upd_same] at ho
      cases ho
      rw [hφp, hip]
      refine ⟨hk, vs, A ++ A', hown, ?_, rfl, hnS.1⟩
      have : cellsH κ.k xs (⟨i, j, some q⟩ :: hs) = (cellsH κ.k xs hs).set (i * κ.k + j) (.h (some q)) := by
        simp only [cellsH, punch, hjk, if_true]
      rw [this]
      exact e4 ι' _ (some q) hdm fun o ho => by cases ho; exact ⟨⟨_, upd_same _ _ _⟩, (upd_same _ _ _).symm⟩
    · rw [upd_same] at ho
      cases ho
      rw [hφq]
      show RArr w ι' _ (ι' o) κ' ys [] Sx
      rw [show ι' o = v from upd_same _ _ _]
      exact RArr.of_ET e2 hnS.2.1
  · by_cases hro : r = o
    · exact hro.symm
    · have hgp := hsub o hch g h1
      by_cases hr1 : r = p ∨ r = q
      · exfalso
        rcases hch with rfl | rfl <;> rcases hr1 with rfl | rfl
        · exact hro rfl
        · rw [hφp] at h1; rw [hφq] at h2; exact hnS.2.2 g h2 h1
        · rw [hφq] at h1; rw [hφp] at h2; exact hnS.2.2 g h1 h2
        · exact hro rfl
      · have hr1' : r ≠ p ∧ r ≠ q := ⟨fun e => hr1 (.inl e), fun e => hr1 (.inr e)⟩
        rw [upd_ne _ _ hr1'.2, upd_ne _ _ hr1'.1] at hr
        have e : φ' r = φ r := (upd_ne _ _ hr1'.2).trans (upd_ne _ _ hr1'.1)
        rw [e] at h2
        exact absurd (hsat.apart r p y _ g hr hob h2 hgp) hr1'.1
theorem splice_one {α : Type} {l : List α} {n : Nat} {x : α} (h : n < l.length) : splice l n [x] = l.set n x := by
  apply List.ext_getElem?
  intro j
  rw [splice_get (by simp; omega)]
  by_cases hj : n = j
  · subst hj
    rw [if_neg (by omega), if_pos (by simp), List.getElem?_set_self h]
    simp
  · rw [List.getElem?_set_ne hj]
    split
    · rfl
    · rw [if_neg (by simp; omega)]
/-- An object that lies in a hole of an array goes back into it. -/
theorem Weak.fold {st : St} (p i j q : Nat) {κ κ' : Ky} {xs ys : List (List D)} {hs hs' : List Ho} {es : List D} (hob : st.objs p = some (.arr κ xs (⟨i, j, some q⟩ :: hs))) (hqo : st.objs q = some (.arr κ' ys [])) (hk' : (st.kill [q]).objs p = some (.arr κ xs (⟨i, j, none⟩ :: hs'))) (hi : xs[i]? = some es) (hj : j < κ.k) :
    Weak st ⟨(st.kill [q]).env, upd (st.kill [q]).objs p (some (.arr κ (xs.set i (splice es j [.rd κ' ys])) (clearHo i j 1 hs')))⟩ := fun F R ι φ a w hsat => by
  have hs1 := hsat.kill [q]
  have hpq : p ≠ q := fun e => by subst e; rw [hob] at hqo; cases hqo
  obtain ⟨hk, vs, S1, hown, hf, hφ, hn⟩ := hs1.objs p _ hk'
  obtain ⟨_, vs0, _, hown0, hf0, _⟩ := hsat.objs p _ hob
  have hesk := hk es (List.mem_of_getElem? hi)
  have hlt := (List.getElem?_eq_some_iff.1 hi).1
  have hil : i * κ.k + κ.k ≤ xs.length * κ.k := by rw [← Nat.succ_mul]; exact Nat.mul_le_mul_right _ hlt
  -- the two readings of the array's cells are one
  have hvs : vs0 = vs := by
    rcases hown.2 with ⟨e, h0⟩ | ⟨g, cap, cur, e, _, hh, _, _, _, ht⟩
    · omega
    · rcases hown0.2 with ⟨e', h0⟩ | ⟨g', cap', cur', e', _, hh', _, _, _, ht'⟩
      · omega
      · rw [e] at e'
        simp only [Value.slice.injEq, Option.some.injEq, Addr.mk.injEq, and_true, true_and] at e'
        obtain ⟨rfl, rfl⟩ := e'
        rw [hh] at hh'
        simp only [Option.some.injEq, Obj.cells.injEq] at hh'
        rw [← ht, ← ht', hh'.1]
  subst hvs
  have hl0 := cellsH_length hk hs
  have hcell : (cellsH κ.k xs (⟨i, j, some q⟩ :: hs))[i * κ.k + j]? = some (.h (some q)) := by
    simp only [cellsH, punch, hj, if_true]
    exact List.getElem?_set_self (by have := cellsH_length hk hs; unfold cellsH at this; omega)
  have hv : vs0[i * κ.k + j]? = some (ι q) := by
    obtain ⟨v, e1, _, e3, _⟩ := hf0.get (R := R) hcell
    rw [e1, e3.2]
  obtain ⟨hET, hnq⟩ := RArr.toET (hsat.objs q _ hqo)
  have hlk : (cellsH κ.k xs hs').length = xs.length * κ.k := cellsH_length hk hs'
  obtain ⟨T1, T2, T3, hT, hEs⟩ := hf.splice (EH.of_ET (ι := ι) (dom := (st.kill [q]).dom) hET) (i * κ.k + j)
  have hvl : (i * κ.k + j) < vs0.length := (List.getElem?_eq_some_iff.1 hv).1
  rw [splice_one hvl, set_same hv] at hEs
  have hcs : splice (cellsH κ.k xs (⟨i, j, none⟩ :: hs')) (i * κ.k + j) ([D.rd κ' ys].map Cl.d) = cellsH κ.k (xs.set i (splice es j [.rd κ' ys])) (clearHo i j 1 hs') := by
    have := cellsH_splice (off := j) (ds := [.rd κ' ys]) hk hi (by simp; omega) hs'
    rw [show [D.rd κ' ys].length = 1 from rfl] at this
    rw [this]
    simp only [List.map_cons, List.map_nil]
    rw [splice_one (by rw [cellsH_length hk]; omega), splice_one (by omega)]
    simp only [cellsH, punch, hj, if_true, List.set_set]
  rw [hcs] at hEs
  have hmp := hs1.mine p _ hk'
  have hmq := hsat.mine q _ hqo
  have hap : ∀ g ∈ φ q, g ∉ φ p := fun g h1 h2 => hpq (hsat.apart p q _ _ g hob hqo h2 h1)
  have hspl : (splice es j [D.rd κ' ys]).length = κ.k := by rw [splice_length (by simp; omega), hesk]
  have hnS : ((ι p).ownBlock.toList ++ (T1 ++ φ q ++ T3)).Nodup := by
    have hsub : ∀ b, b ∈ (ι p).ownBlock.toList ++ (T1 ++ (T2 ++ T3)) → b ∉ φ q := fun b hb hbq => hap b hbq (by rw [hφ, hT]; exact hb)
    rw [hφ, hT] at hn
    simp only [List.nodup_append, List.mem_append] at hn ⊢
    obtain ⟨n1, ⟨n2, ⟨n3, n4, n5⟩, n6⟩, n7⟩ := hn
    refine ⟨n1, ⟨⟨n2, hnq, fun b hb b' hb' e => hsub b (by simp [hb]) (e ▸ hb')⟩, n4, ?_⟩, ?_⟩
    · rintro b (hb | hb) b' hb' rfl
      · exact n6 b hb b (.inr hb') rfl
      · exact hsub b (by simp [hb']) hb
    · rintro b hb b' ((hb' | hb') | hb') rfl
      · exact n7 b hb b (.inl hb') rfl
      · exact hsub b (by simp [hb]) hb'
      · exact n7 b hb b (.inr (.inr hb')) rfl
  have hmem : ∀ g ∈ (ι p).ownBlock.toList ++ (T1 ++ φ q ++ T3), g ∈ φ p ∨ g ∈ φ q := fun g hg => by
    simp only [List.mem_append] at hg
    rcases hg with h | (h | h) | h
    · exact .inl (by rw [hφ]; simp [h])
    · exact .inl (by rw [hφ, hT]; simp [h])
    · exact .inr h
    · exact .inl (by rw [hφ, hT]; simp [h])
  refine ⟨R, ι, upd φ p ((ι p).ownBlock.toList ++ (T1 ++ φ q ++ T3)), hs1.step (fun o => o = p) hs1.below (fun b hb => ⟨hb, rfl⟩) hs1.rlt hs1.rnew (fun o ⟨z, hz⟩ => ⟨?_, rfl⟩) (fun o x ho hch => ?_) (fun o x ho hch => ?_) (fun o r x y g ho hch hr h1 h2 => ?_) (fun _ _ => rfl)⟩
  · by_cases hop : o = p
    · subst hop; exact ⟨_, upd_same _ _ _⟩
    · exact ⟨z, (upd_ne _ _ hop).trans hz⟩
  · rw [upd_ne _ _ hch] at ho
    exact ⟨ho, upd_ne _ _ hch, fun g hg => ⟨rfl, (hs1.mine o x ho g hg).2⟩⟩
  · subst hch
    rw [upd_same] at ho
    cases ho
    rw [upd_same]
    refine ⟨⟨set_len hk hspl, vs0, T1 ++ φ q ++ T3, by rw [List.length_set]; exact hown, hEs.keep (fun r ⟨z, hz⟩ => ?_) (fun _ _ => rfl) (fun _ _ => rfl), rfl, hnS⟩, fun g hg => ?_⟩
    · by_cases hro : r = o
      · subst hro; exact ⟨_, upd_same _ _ _⟩
      · exact ⟨z, (upd_ne _ _ hro).trans hz⟩
    · rcases hmem g hg with h | h
      · exact hmp g h
      · exact hmq g h
  · subst hch
    rw [upd_same] at h1
    by_cases hro : r = o
    · exact hro.symm
    · rw [upd_ne _ _ hro] at hr h2
      rcases hmem g h1 with h | h
      · exact (hs1.apart r o y _ g hr hk' h2 h).symm
      · obtain ⟨hc, y', hy', _⟩ := St.kill_get hr
        have := hsat.apart r q y' _ g hy' hqo h2 h
        subst this
        simp at hc
/-- What the code leaves. -/
def PostR (F : Fx) (Qs : Exit → St → Prop) : Exit → Act → World → Prop
  | .outgrown, _, _ => False
  | e, a, w => ∃ st R ι φ, Qs e st ∧ Sat F R ι φ st a w
theorem PostR.mono {F : Fx} {Q Q' : Exit → St → Prop} (h : ∀ e s, Q e s → Q' e s) {e : Exit} {a : Act} {w : World} (hp : PostR F Q e a w) : PostR F Q' e a w := by
  cases e <;> first | exact hp.elim | (obtain ⟨st, R, ι, φ, hq, hs⟩ := hp; exact ⟨st, R, ι, φ, h _ _ hq, hs⟩)
/-- .. without a panic. -/
def PostN (F : Fx) (Qs : Exit → St → Prop) : Exit → Act → World → Prop
  | .panic _, _, _ => False
  | .outgrown, _, _ => False
  | e, a, w => ∃ st R ι φ, Qs e st ∧ Sat F R ι φ st a w
theorem PostN.to {F : Fx} {Q : Exit → St → Prop} {e : Exit} {a : Act} {w : World} (hp : PostN F Q e a w) : PostR F Q e a w := by
  cases e <;> first | exact hp.elim | exact hp
/-- A region, whatever has been shown of it (one that ends in a panic). -/
def RegK (P : Program) (n : Nat) (c : Code) (Q : Exit → St → Prop) (st : St) : Prop :=
  ∀ (F : Fx), F.n = n → ∀ (R : Nat → Prop) (ι : Nat → Value) (φ : Nat → List Nat) (a : Act) (w : World), Sat F R ι φ st a w → c.wp P (PostR F Q) a w
theorem RegK.mono {P : Program} {n : Nat} {c : Code} {Q Q' : Exit → St → Prop} {st : St} (h : ∀ e s, Q e s → Q' e s) (k : RegK P n c Q st) : RegK P n c Q' st :=
  fun F hn R ι φ a w hs => Code.wp_mono (fun _ _ _ hp => hp.mono h) (k F hn R ι φ a w hs)
def VC (P : Program) (n : Nat) : Code → (Exit → St → Prop) → St → Prop
  | .skip, Q, st => Q .normal st
  | .region id ops draw, Q, st => RegK P n (.region id ops draw) Q st ∨ match draw with
    | false => VCL P n ops.toList ops.toList (Q .normal) st
    | true => (∃ m, rgOk ops.toList m n = true ∧ ops.toList.all (fldOk P) = true ∧ VCP P n ops.toList m ops.toList (VCA P ops.toList (alIdx ops.toList m) (VCL P n ops.toList (rgTl ops.toList m) (Q .normal))) st) ∨
      (Region.noSelect ops.toList.toArray = true ∧ ∃ t, ordX P ops.toList = some t ∧ VCT P n ops.toList t (Q .normal) st) ∨
      (hltB ops.toList = true ∧ VCZ P n ops.toList (Q .normal) st)
  | .seq a b, Q, st => VC P n a (fun e s => match e with | .normal => Wk s (fun s' => VC P n b Q s') | e => Q e s) st
  | .cond c x y, Q, st => ∃ t, ev st.env c = pvA (.bool t) ∧ (t = true → VC P n x Q st) ∧ (t = false → VC P n y Q st)
  | .block id c, Q, st => VC P n c (fun e s => match e with | .exit id' => if id' = id then Q .normal s else Q (.exit id') s | e => Q e s) st
  | .loop c, Q, st => ∃ I : Nat → St → Prop, (∃ k st', Weak st st' ∧ I k st') ∧ ∀ k s, I k s → VC P n c (fun e s' => match e with | .normal => ∃ k' s'', k' < k ∧ Weak s' s'' ∧ I k' s'' | e => Q e s') s
  | .exit id, Q, st => Q (.exit id) st
  | .ret, Q, st => Q .ret st
  | _, _, _ => False
section
variable {P : Program} {F : Fx}
theorem PostR.mk {Qs : Exit → St → Prop} {e : Exit} {a : Act} {w : World} (h : PostR F Qs e a w) : ∃ st R ι φ, Qs e st ∧ Sat F R ι φ st a w := by
  cases e <;> first | exact h | exact h.elim
theorem wp_toList {id : Nat} {ops : Array Oper} {draw : Bool} {Q : Exit → Act → World → Prop} {a : Act} {w : World} (h : (Code.region id ops.toList.toArray draw).wp P Q a w) : (Code.region id ops draw).wp P Q a w := by simpa using h
theorem VC_sound (hm : P.follows .mixedOrders = true) : ∀ (c : Code) {Qs : Exit → St → Prop} {st : St} {a : Act} {w : World} {R : Nat → Prop} {ι : Nat → Value} {φ : Nat → List Nat}, VC P F.n c Qs st → Sat F R ι φ st a w → c.wp P (PostR F Qs) a w
  | .skip, Qs, st, a, w, R, ι, φ, h, hs => wp_skip ⟨st, R, ι, φ, h, hs⟩
  | .region id ops draw, Qs, st, a, w, R, ι, φ, h, hs => by
    unfold VC at h
    rcases h with h | h
    · exact h F rfl R ι φ a w hs
    refine wp_toList ?_
    cases draw with
    | false => exact wp_region_lit (VCL_sound (Qs := Qs .normal) (fun st a w R ι φ h hs => ⟨st, R, ι, φ, h, hs⟩) h hs)
    | true =>
      refine Code.wp_mono (fun _ _ _ (hp : PostN F Qs _ _ _) => hp.to) ?_
      rcases h with ⟨m, hok, hfl, h⟩ | ⟨hnos, t, ht, h⟩ | ⟨hlt, h⟩
      · exact VCP_sound (Qs := Qs .normal) hm hfl (fun ⟨_, _, h⟩ => h) hok (fun _ _ _ _ _ h => h) (fun st a w R ι φ h hs => ⟨st, R, ι, φ, h, hs⟩) h hs
      · exact wp_region_ordX (Qs := Qs .normal) hm hnos ht (fun _ _ _ _ _ h => h) (fun st a w R ι φ h hs => ⟨st, R, ι, φ, h, hs⟩) h hs
      · exact VCZ_sound (Qs := Qs .normal) hm (hltB_ok hlt) (fun st a w R ι φ h hs => ⟨st, R, ι, φ, h, hs⟩) h hs
  | .seq x y, Qs, st, a, w, R, ι, φ, h, hs => by
    unfold VC at h
    refine wp_seq (wp_mono (VC_sound hm x h hs) fun e a' w' hp => ?_)
    cases e with
    | normal =>
      obtain ⟨st', R', ι', φ', hk, hs'⟩ := hp
      obtain ⟨s2, hq, R2, ι2, φ2, hs2⟩ := hk _ _ _ _ _ _ hs'
      exact VC_sound hm y hq hs2
    | panic _ => exact hp
    | outgrown => exact hp
    | _ => exact hp
  | .cond c x y, Qs, st, a, w, R, ι, φ, h, hs => by
    unfold VC at h
    obtain ⟨t, ht, h1, h2⟩ := h
    have hv := ev_ok (a := a) hs.env c
    rw [ht] at hv
    obtain ⟨e, _⟩ := RA.pv hv
    cases t with
    | false => exact wp_cond_false e (VC_sound hm y (h2 rfl) hs)
    | true => exact wp_cond_true e (VC_sound hm x (h1 rfl) hs)
  | .block id c, Qs, st, a, w, R, ι, φ, h, hs => by
    unfold VC at h
    refine wp_block (wp_mono (VC_sound hm c h hs) fun e a' w' hp => ?_)
    cases e with
    | exit id' =>
      obtain ⟨st', R', ι', φ', hq, hs'⟩ := hp
      simp only at hq
      simp only [Exit.inBlock]
      by_cases hid : id' = id
      · rw [if_pos hid] at hq ⊢
        exact ⟨st', R', ι', φ', hq, hs'⟩
      · rw [if_neg hid] at hq ⊢
        exact ⟨st', R', ι', φ', hq, hs'⟩
    | panic _ => exact hp
    | outgrown => exact hp
    | _ => exact hp
  | .loop c, Qs, st, a, w, R, ι, φ, h, hs => by
    unfold VC at h
    obtain ⟨I, ⟨k0, st0, hw0, h0⟩, hround⟩ := h
    obtain ⟨R0, ι0, φ0, hs0⟩ := hw0 _ _ _ _ _ _ hs
    refine wp_loop_ghost (fun k a w => ∃ st R ι φ, I k st ∧ Sat F R ι φ st a w) k0 ⟨st0, R0, ι0, φ0, h0, hs0⟩ fun k a' w' hI => ?_
    obtain ⟨st', R', ι', φ', hI, hs'⟩ := hI
    refine wp_mono (VC_sound hm c (hround k st' hI) hs') fun e a'' w'' hp => ?_
    cases e with
    | normal =>
      obtain ⟨s2, R2, ι2, φ2, ⟨k', s3, hlt, hwk, hI'⟩, hs2⟩ := hp
      obtain ⟨R3, ι3, φ3, hs3⟩ := hwk _ _ _ _ _ _ hs2
      exact ⟨k', hlt, s3, R3, ι3, φ3, hI', hs3⟩
    | panic _ => exact hp
    | outgrown => exact hp
    | _ => exact hp
  | .exit id, Qs, st, a, w, R, ι, φ, h, hs => wp_exit ⟨st, R, ι, φ, h, hs⟩
  | .ret, Qs, st, a, w, R, ι, φ, h, hs => wp_ret ⟨st, R, ι, φ, h, hs⟩
  | .rangeFunc _ _ _ _, _, _, _, _, _, _, _, h, _ => h.elim
  | .scope _, _, _, _, _, _, _, _, h, _ => h.elim
  | .label _, _, _, _, _, _, _, _, h, _ => h.elim
  | .goto _, _, _, _, _, _, _, _, h, _ => h.elim
  | .refuse _, _, _, _, _, _, _, _, h, _ => h.elim
end
end Go.Proofs.YtlblmofimjhbbaaDoor
