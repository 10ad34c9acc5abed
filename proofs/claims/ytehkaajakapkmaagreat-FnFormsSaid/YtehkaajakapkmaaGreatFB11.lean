/- Texts of one proof, one behind the other. -/
import Derived.Deep.LoopGhost
import Derived.Test.YtehkaajakapkmaaGreatFB10
namespace Go.Proofs.YtehkaajakapkmaaGreat
section
open Go.RowKit
theorem Weak.kill (st : St) (ps : List Nat) : Weak st (st.kill ps) := fun _ R ι φ _ _ h => ⟨R, ι, φ, h.kill ps⟩
def B.inK (K : List Nat) : B → Bool
  | .ptr o _ => K.contains o
  | .own o => K.contains o
  | .ep o _ _ _ => K.contains o
  | .rel o _ => K.contains o
  | _ => true
def V1.inK (K : List Nat) : V1 → Bool
  | .c b => b.inK K
  | .agg bs => bs.all (B.inK K)
def AV.inK (K : List Nat) : AV → Bool
  | .v x => x.inK K
  | .tup xs => xs.all (V1.inK K)
def Ho.inK (K : List Nat) (h : Ho) : Bool := match h.l with
  | some o => K.contains o
  | none => true
def Ob.inK (K : List Nat) : Ob → Bool
  | .box _ cs => cs.all (B.inK K)
  | .arr _ _ hs => hs.all (Ho.inK K)
  | .mp _ => true
  | .val _ => true
section
variable {w : World} {R : Nat → Prop} {ι : Nat → Value} {dom dom' : Nat → Prop} {K : List Nat}
theorem RB.inK (hd : ∀ o, K.contains o = true → dom o → dom' o) {v : Value} : ∀ {b : B}, b.inK K = true → RB w R ι dom v b → RB w R ι dom' v b
  | .d _, _, h => h
  | .ptr o _, hk, ⟨h1, h2⟩ => ⟨hd o hk h1, h2⟩
  | .own o, hk, ⟨h1, h2⟩ => ⟨hd o hk h1, h2⟩
  | .ep o _ _ _, hk, ⟨h1, h2⟩ => ⟨hd o hk h1, h2⟩
  | .rel o _, hk, ⟨h1, h2⟩ => ⟨hd o hk h1, h2⟩
  | .dead, _, _ => trivial
theorem F2.all {α β : Type} {r r' : α → β → Prop} {p : β → Bool} (h : ∀ a b, p b = true → r a b → r' a b) : ∀ {as : List α} {bs : List β}, bs.all p = true → F2 r as bs → F2 r' as bs
  | _, _, _, .nil => .nil
  | _, _, hp, .cons h1 h2 => by
    simp only [List.all_cons, Bool.and_eq_true] at hp
    exact .cons (h _ _ hp.1 h1) (F2.all h hp.2 h2)
theorem RV1.inK (hd : ∀ o, K.contains o = true → dom o → dom' o) {v : Value} : ∀ {x : V1}, x.inK K = true → RV1 w R ι dom v x → RV1 w R ι dom' v x
  | .c _, hk, h => RB.inK hd hk h
  | .agg _, hk, ⟨vs, h1, h2⟩ => ⟨vs, h1, F2.all (p := B.inK K) (fun _ _ hk h => RB.inK hd hk h) hk h2⟩
theorem RA.inK (hd : ∀ o, K.contains o = true → dom o → dom' o) {v : Value} : ∀ {x : AV}, x.inK K = true → RA w R ι dom v x → RA w R ι dom' v x
  | .v _, hk, h => RV1.inK hd hk h
  | .tup _, hk, ⟨vs, h1, h2⟩ => ⟨vs, h1, F2.all (p := V1.inK K) (fun _ _ hk h => RV1.inK hd hk h) hk h2⟩
end
theorem RArr.inK {w : World} {ι : Nat → Value} {dom dom' : Nat → Prop} {K : List Nat} (hd : ∀ o, K.contains o = true → dom o → dom' o) {κ : Ky} {xs : List (List D)} {hs : List Ho} {v : Value} {S : List Nat} (hk : hs.all (Ho.inK K) = true) (h : RArr w ι dom v κ xs hs S) : RArr w ι dom' v κ xs hs S := by
  obtain ⟨h1, vs, S1, h2, h3, h4⟩ := h
  have hF : F2 (HoRel fun o => if K.contains o then some o else none) hs hs := by
    clear h3 h1 h2 h4
    induction hs with
    | nil => exact .nil
    | cons h hs ih =>
      simp only [List.all_cons, Bool.and_eq_true] at hk
      refine .cons ⟨rfl, rfl, ?_⟩ (ih hk.2)
      have := hk.1
      unfold Ho.inK at this
      cases hl : h.l with
      | none => rfl
      | some o => rw [hl] at this; exact ⟨o, by simp only [this, if_true], rfl⟩
  refine ⟨h1, vs, S1, h2, EH.ren (f := fun o => if K.contains o then some o else none) (fun p i hp hdp => ?_) h3 (punch_ren _ hF _), h4⟩
  split at hp
  · rename_i hc; cases hp; exact ⟨hd p hc hdp, rfl⟩
  · cases hp
theorem RO.inK {w : World} {R : Nat → Prop} {ι : Nat → Value} {dom dom' : Nat → Prop} {K : List Nat} (hd : ∀ o, K.contains o = true → dom o → dom' o) {v : Value} {S : List Nat} : ∀ {x : Ob}, x.inK K = true → RO w R ι dom v S x → RO w R ι dom' v S x
  | .box _ _, hk, ⟨g, vs, h1, h2, h3, h4⟩ => ⟨g, vs, h1, h2, h3, F2.all (p := B.inK K) (fun _ _ hk h => RB.inK hd hk h) hk h4⟩
  | .arr _ _ _, hk, h => RArr.inK hd hk h
  | .mp _, _, h => h
  | .val _, _, h => h
abbrev nilB : B := .d (.pv (.slice none 0 0))
theorem RArr.nil (w : World) (ι : Nat → Value) (dom : Nat → Prop) (κ : Ky) : RArr w ι dom (.slice none 0 0) κ [] [] [] := ⟨by simp, [], [], World.ownsRow_nil w _ _ _, .nil, rfl, .nil⟩
theorem Weak.reify {st : St} (d p : Nat) (κ : Ky) (hd : st.env d = .v (.c nilB)) (hp : freeO st.objs p) : Weak st ⟨upd st.env d (.v (.c (.own p))), upd st.objs p (some (.arr κ [] []))⟩ := fun F R ι φ a w hs => by
  obtain ⟨hp1, hp2⟩ := hp.none
  have h1 := hs.new (d := p) (u := .slice none 0 0) (S := []) (x := .arr κ [] []) (w' := w) hp1 hp2 (Below.refl _ _) (RArr.nil w _ _ κ) (fun g hg => by cases hg)
  refine ⟨R, _, _, h1.below, h1.rlt, h1.rsub, h1.rnew, h1.size, h1.defers, fun t => ?_, h1.objs, h1.mine, h1.apart, h1.pin⟩
  by_cases ht : t = d
  · subst ht
    have := hs.env t
    rw [hd] at this
    obtain ⟨e1, _⟩ := RA.pv this
    simp only [upd_same]
    exact ⟨⟨.arr κ [] [], by simp [upd_same]⟩, by rw [upd_same]; exact e1⟩
  · simp only [upd_ne _ _ ht]
    exact h1.env t
theorem set_same {α : Type} {l : List α} {i : Nat} {u : α} (h : l[i]? = some u) : l.set i u = l := by
  apply List.ext_getElem?
  intro j
  by_cases hj : i = j
  · subst hj
    rw [List.getElem?_set_self (List.getElem?_eq_some_iff.1 h).1, h]
  · rw [List.getElem?_set_ne hj]
theorem Weak.reifyBox {st : St} (o i p : Nat) (κ : Ky) {T : TypeId} {cs : List B} (ho : st.objs o = some (.box T cs)) (hi : cs[i]? = some nilB) (hp : freeO st.objs p) : Weak st ⟨st.env, upd (upd st.objs p (some (.arr κ [] []))) o (some (.box T (cs.set i (.own p))))⟩ := fun F R ι φ a w hs => by
  obtain ⟨hp1, hp2⟩ := hp.none
  have hop : o ≠ p := fun h => by subst h; rw [ho] at hp1; cases hp1
  have h1 := hs.new (d := p) (u := .slice none 0 0) (S := []) (x := .arr κ [] []) (w' := w) hp1 hp2 (Below.refl _ _) (RArr.nil w _ _ κ) (fun g hg => by cases hg)
  have ho1 : (upd st.objs p (some (.arr κ [] []))) o = some (.box T cs) := by rw [upd_ne _ _ hop]; exact ho
  obtain ⟨g, vs, q1, q2, q4, q5⟩ := h1.objs o _ ho1
  refine ⟨R, _, _, h1.write (x' := .box T (cs.set i (.own p))) (S := [g]) ho1 h1.below (Nat.le_refl _) (fun _ _ _ => rfl) ?_ (fun g' hg' => by rw [q2]; exact hg')⟩
  obtain ⟨u, hu, hr⟩ := q5.get hi
  have hr : RD w R u (.pv (.slice none 0 0)) := hr
  have hu' : u = .slice none 0 0 := by cases hr; rfl
  refine ⟨g, vs, q1, rfl, q4, ?_⟩
  have h2 : RB w R (upd ι p (.slice none 0 0)) (St.dom ⟨st.env, upd st.objs p (some (.arr κ [] []))⟩) (.slice none 0 0) (.own p) := ⟨⟨.arr κ [] [], by simp [upd_same]⟩, by rw [upd_same]⟩
  have := q5.set i h2
  rwa [set_same (hu' ▸ hu)] at this
section
variable {w : World} {R : Nat → Prop} {ι : Nat → Value} {dom : Nat → Prop}
theorem EH.takeOut {vs : List Value} {cs : List Cl} {S : List Nat} (h : EH w ι dom vs cs S) : ∀ {n : Nat} {x : D}, cs[n]? = some (.d x) → ∃ v A Sx A', vs[n]? = some v ∧ ET w [v] [x] Sx ∧ S = A ++ (Sx ++ A') ∧
    ∀ (ι' : Nat → Value) (dom' : Nat → Prop) (l : Option Nat), (∀ o, dom o → dom' o ∧ ι' o = ι o) → (∀ o, l = some o → dom' o ∧ v = ι' o) → EH w ι' dom' vs (cs.set n (.h l)) (A ++ A') := by
  induction h with
  | nil => intro n x h; simp at h
  | d h1 h2 ih =>
    intro n x hx
    cases n with
    | zero =>
      simp at hx; subst hx
      exact ⟨_, [], _, _, rfl, h1, rfl, fun ι' dom' l hι hl => .h (h1.one _ (by simp)) hl (h2.keep (fun o ho => (hι o ho).1) (fun o ho => (hι o ho).2) fun _ _ => rfl)⟩
    | succ n =>
      obtain ⟨v, A, Sx, A', e1, e2, e3, e4⟩ := ih (n := n) (x := x) (by simpa using hx)
      refine ⟨v, _ ++ A, Sx, A', by simpa using e1, e2, by rw [e3, List.append_assoc], fun ι' dom' l hι hl => ?_⟩
      rw [List.append_assoc]
      exact .d h1 (e4 ι' dom' l hι hl)
  | h h1 hl h2 ih =>
    intro n x hx
    cases n with
    | zero => simp at hx
    | succ n =>
      obtain ⟨v, A, Sx, A', e1, e2, e3, e4⟩ := ih (n := n) (x := x) (by simpa using hx)
      exact ⟨v, A, Sx, A', by simpa using e1, e2, e3, fun ι' dom' l hι hl' => .h h1 (fun o ho => ⟨(hι o (hl o ho).1).1, by rw [(hι o (hl o ho).1).2]; exact (hl o ho).2⟩) (e4 ι' dom' l hι hl')⟩
theorem elemC_free {k i j : Nat} {es : List D} : ∀ {hs : List Ho}, (∀ h ∈ hs, ¬ (h.i = i ∧ h.j = j)) → (elemC k i es hs)[j]? = (es.map Cl.d)[j]?
  | [], _ => rfl
  | h :: hs, hn => by
    have ih := elemC_free (k := k) (i := i) (j := j) (es := es) (hs := hs) fun x hx => hn x (by simp [hx])
    simp only [elemC]
    split
    · rename_i h1
      rw [List.getElem?_set_ne fun e => hn h (by simp) ⟨h1.1, e⟩]
      exact ih
    · exact ih
end
def noHo (i j : Nat) (hs : List Ho) : Prop := ∀ h ∈ hs, ¬ (h.i = i ∧ h.j = j)
theorem Weak.open {st : St} (p i j q : Nat) {κ κ' : Ky} {xs ys : List (List D)} {hs : List Ho} {es : List D} (hob : st.objs p = some (.arr κ xs hs)) (hi : xs[i]? = some es) (hj : es[j]? = some (.rd κ' ys)) (hno : noHo i j hs) (hq : freeO st.objs q) :
    Weak st ⟨st.env, upd (upd st.objs p (some (.arr κ xs (⟨i, j, some q⟩ :: hs)))) q (some (.arr κ' ys []))⟩ := fun F R ι φ a w hsat => by
  obtain ⟨hq1, hq2⟩ := hq.none
  have hpq : p ≠ q := fun e => by subst e; rw [hob] at hq1; cases hq1
  obtain ⟨hk, vs, S1, hown, hf, hφ, hn⟩ := hsat.objs p _ hob
  have hesk := hk es (List.mem_of_getElem? hi)
  have hjk : j < κ.k := by rw [← hesk]; exact (List.getElem?_eq_some_iff.1 hj).1
  have hcell : (cellsH κ.k xs hs)[i * κ.k + j]? = some (.d (.rd κ' ys)) := by
    rw [cellsH_get hk hi hjk, elemC_free hno, List.getElem?_map, hj]; rfl
  obtain ⟨v, A, Sx, A', e1, e2, e3, e4⟩ := hf.takeOut hcell
  have hmi := hsat.mine p _ hob
  have hm : ∀ g, g ∈ (ι p).ownBlock.toList ++ (A ++ A') ∨ g ∈ Sx ↔ g ∈ φ p := fun g => by
    rw [hφ, e3]
    simp only [List.mem_append]
    constructor
    · rintro ((h | h | h) | h) <;> simp [h]
    · rintro (h | h | h | h) <;> simp [h]
  have hnS : ((ι p).ownBlock.toList ++ (A ++ A')).Nodup ∧ Sx.Nodup ∧ ∀ g ∈ Sx, g ∉ (ι p).ownBlock.toList ++ (A ++ A') := by
    rw [hφ, e3] at hn
    simp only [List.nodup_append, List.mem_append] at hn ⊢
    obtain ⟨n1, ⟨n2, ⟨n3, n4, n5⟩, n6⟩, n7⟩ := hn
    refine ⟨⟨n1, ⟨n2, n4, fun b hb b' hb' => n6 b hb b' (.inr hb')⟩, fun b hb b' hb' => n7 b hb b' (hb'.elim .inl fun h => .inr (.inr h))⟩, n3, ?_⟩
    rintro g hg (h | h | h)
    · exact n7 g h g (.inr (.inl hg)) rfl
    · exact n6 g h g (.inl hg) rfl
    · exact n5 g hg g h rfl
  have hne : ∀ o, st.dom o → o ≠ q := fun o ⟨y, hy⟩ e => by subst e; rw [hq1] at hy; cases hy
  let ι' := upd ι q v
  let φ' := upd (upd φ p ((ι p).ownBlock.toList ++ (A ++ A'))) q Sx
  let objs' := upd (upd st.objs p (some (.arr κ xs (⟨i, j, some q⟩ :: hs)))) q (some (.arr κ' ys []))
  have hdm : ∀ o, st.dom o → domO objs' o ∧ ι' o = ι o := fun o ho => by
    refine ⟨?_, upd_ne _ _ (hne o ho)⟩
    by_cases hop : o = p
    · subst hop; exact ⟨_, (upd_ne _ _ hpq).trans (upd_same _ _ _)⟩
    · obtain ⟨y, hy⟩ := ho
      exact ⟨y, (upd_ne _ _ (hne o ⟨y, hy⟩)).trans ((upd_ne _ _ hop).trans hy)⟩
  have hφp : φ' p = (ι p).ownBlock.toList ++ (A ++ A') := (upd_ne _ _ hpq).trans (upd_same _ _ _)
  have hφq : φ' q = Sx := upd_same _ _ _
  have hip : ι' p = ι p := upd_ne _ _ hpq
  have hsub : ∀ o, o = p ∨ o = q → ∀ g ∈ φ' o, g ∈ φ p := fun o ho g hg => by
    rcases ho with rfl | rfl
    · rw [hφp] at hg; exact (hm g).1 (.inl hg)
    · rw [hφq] at hg; exact (hm g).1 (.inr hg)
  refine ⟨R, ι', φ', hsat.step (fun o => o = p ∨ o = q) hsat.below (fun b hb => ⟨hb, rfl⟩) hsat.rlt hsat.rnew hdm (fun o x ho hch => ?_) (fun o x ho hch => ?_) (fun o r x y g ho hch hr h1 h2 => ?_) (fun o ho => upd_ne _ _ (by omega))⟩
  · have h1 : o ≠ p := fun e => hch (.inl e)
    have h2 : o ≠ q := fun e => hch (.inr e)
    rw [upd_ne _ _ h2, upd_ne _ _ h1] at ho
    exact ⟨ho, (upd_ne _ _ h2).trans (upd_ne _ _ h1), fun g hg => ⟨rfl, (hsat.mine o x ho g hg).2⟩⟩
  · refine ⟨?_, fun g hg => hmi g (hsub o hch g hg)⟩
    rcases hch with rfl | rfl
    · rw [upd_ne _ _ hpq, upd_same] at ho
      cases ho
      rw [hφp, hip]
      refine ⟨hk, vs, A ++ A', hown, ?_, rfl, hnS.1⟩
      have : cellsH κ.k xs (⟨i, j, some q⟩ :: hs) = (cellsH κ.k xs hs).set (i * κ.k + j) (.h (some q)) := by
        simp only [cellsH, punch, hjk, if_true]
      rw [this]
      exact e4 ι' _ (some q) hdm fun o ho => by cases ho; exact ⟨⟨_, upd_same _ _ _⟩, (upd_same _ _ _).symm⟩
    · rw [upd_same] at ho
      cases ho
      rw [hφq]
      show RArr w ι' _ (ι' o) κ' ys [] Sx
      rw [show ι' o = v from upd_same _ _ _]
      exact RArr.of_ET e2 hnS.2.1
  · by_cases hro : r = o
    · exact hro.symm
    · have hgp := hsub o hch g h1
      by_cases hr1 : r = p ∨ r = q
      · exfalso
        rcases hch with rfl | rfl <;> rcases hr1 with rfl | rfl
        · exact hro rfl
        · rw [hφp] at h1; rw [hφq] at h2; exact hnS.2.2 g h2 h1
        · rw [hφq] at h1; rw [hφp] at h2; exact hnS.2.2 g h1 h2
        · exact hro rfl
      · have hr1' : r ≠ p ∧ r ≠ q := ⟨fun e => hr1 (.inl e), fun e => hr1 (.inr e)⟩
        rw [upd_ne _ _ hr1'.2, upd_ne _ _ hr1'.1] at hr
        have e : φ' r = φ r := (upd_ne _ _ hr1'.2).trans (upd_ne _ _ hr1'.1)
        rw [e] at h2
        exact absurd (hsat.apart r p y _ g hr hob h2 hgp) hr1'.1
def VC (P : Program) (n : Nat) : Code → (Exit → St → Prop) → St → Prop
  | .skip, Q, st => Q .normal st
  | .region _ ops draw, Q, st => match draw with
    | false => VCL P n ops.toList ops.toList (Q .normal) st
    | true => (∃ m, rgOk ops.toList m n = true ∧ ops.toList.all (fldOk P) = true ∧ VCP P n ops.toList m ops.toList (VCA P ops.toList (alIdx ops.toList m) (VCL P n ops.toList (rgTl ops.toList m) (Q .normal))) st) ∨
      (Region.noSelect ops.toList.toArray = true ∧ ∃ t, ordX P ops.toList = some t ∧ VCT P n ops.toList t (Q .normal) st)
  | .seq a b, Q, st => VC P n a (fun e s => match e with | .normal => Wk s (fun s' => VC P n b Q s') | e => Q e s) st
  | .cond c x y, Q, st => ∃ t, ev st.env c = pvA (.bool t) ∧ (t = true → VC P n x Q st) ∧ (t = false → VC P n y Q st)
  | .block id c, Q, st => VC P n c (fun e s => match e with | .exit id' => if id' = id then Q .normal s else Q (.exit id') s | e => Q e s) st
  | .loop c, Q, st => ∃ I : Nat → St → Prop, (∃ k st', Weak st st' ∧ I k st') ∧ ∀ k s, I k s → VC P n c (fun e s' => match e with | .normal => ∃ k' s'', k' < k ∧ Weak s' s'' ∧ I k' s'' | e => Q e s') s
  | .exit id, Q, st => Q (.exit id) st
  | .ret, Q, st => Q .ret st
  | _, _, _ => False
def PostR (F : Fx) (Qs : Exit → St → Prop) : Exit → Act → World → Prop
  | .panic _, _, _ => False
  | .outgrown, _, _ => False
  | e, a, w => ∃ st R ι φ, Qs e st ∧ Sat F R ι φ st a w
section
variable {P : Program} {F : Fx}
theorem PostR.mk {Qs : Exit → St → Prop} {e : Exit} {a : Act} {w : World} (h : PostR F Qs e a w) : ∃ st R ι φ, Qs e st ∧ Sat F R ι φ st a w := by
  cases e <;> first | exact h | exact h.elim
theorem wp_toList {id : Nat} {ops : Array Oper} {draw : Bool} {Q : Exit → Act → World → Prop} {a : Act} {w : World} (h : (Code.region id ops.toList.toArray draw).wp P Q a w) : (Code.region id ops draw).wp P Q a w := by simpa using h
theorem VC_sound (hm : P.follows .mixedOrders = true) : ∀ (c : Code) {Qs : Exit → St → Prop} {st : St} {a : Act} {w : World} {R : Nat → Prop} {ι : Nat → Value} {φ : Nat → List Nat}, VC P F.n c Qs st → Sat F R ι φ st a w → c.wp P (PostR F Qs) a w
  | .skip, Qs, st, a, w, R, ι, φ, h, hs => wp_skip ⟨st, R, ι, φ, h, hs⟩
  | .region id ops draw, Qs, st, a, w, R, ι, φ, h, hs => by
    refine wp_toList ?_
    unfold VC at h
    cases draw with
    | false => exact wp_region_lit (VCL_sound (Qs := Qs .normal) (fun st a w R ι φ h hs => ⟨st, R, ι, φ, h, hs⟩) h hs)
    | true =>
      rcases h with ⟨m, hok, hfl, h⟩ | ⟨hnos, t, ht, h⟩
      · exact VCP_sound (Qs := Qs .normal) hm hfl (fun ⟨_, _, h⟩ => h) hok (fun _ _ _ _ _ h => h) (fun st a w R ι φ h hs => ⟨st, R, ι, φ, h, hs⟩) h hs
      · exact wp_region_ordX (Qs := Qs .normal) hm hnos ht (fun _ _ _ _ _ h => h) (fun st a w R ι φ h hs => ⟨st, R, ι, φ, h, hs⟩) h hs
  | .seq x y, Qs, st, a, w, R, ι, φ, h, hs => by
    unfold VC at h
    refine wp_seq (wp_mono (VC_sound hm x h hs) fun e a' w' hp => ?_)
    cases e with
    | normal =>
      obtain ⟨st', R', ι', φ', hk, hs'⟩ := hp
      obtain ⟨s2, hq, R2, ι2, φ2, hs2⟩ := hk _ _ _ _ _ _ hs'
      exact VC_sound hm y hq hs2
    | panic _ => exact hp
    | outgrown => exact hp
    | _ => exact hp
  | .cond c x y, Qs, st, a, w, R, ι, φ, h, hs => by
    unfold VC at h
    obtain ⟨t, ht, h1, h2⟩ := h
    have hv := ev_ok (a := a) hs.env c
    rw [ht] at hv
    obtain ⟨e, _⟩ := RA.pv hv
    cases t with
    | false => exact wp_cond_false e (VC_sound hm y (h2 rfl) hs)
    | true => exact wp_cond_true e (VC_sound hm x (h1 rfl) hs)
  | .block id c, Qs, st, a, w, R, ι, φ, h, hs => by
    unfold VC at h
    refine wp_block (wp_mono (VC_sound hm c h hs) fun e a' w' hp => ?_)
    cases e with
    | exit id' =>
      obtain ⟨st', R', ι', φ', hq, hs'⟩ := hp
      simp only at hq
      simp only [Exit.inBlock]
      by_cases hid : id' = id
      · rw [if_pos hid] at hq ⊢
        exact ⟨st', R', ι', φ', hq, hs'⟩
      · rw [if_neg hid] at hq ⊢
        exact ⟨st', R', ι', φ', hq, hs'⟩
    | panic _ => exact hp
    | outgrown => exact hp
    | _ => exact hp
  | .loop c, Qs, st, a, w, R, ι, φ, h, hs => by
    unfold VC at h
    obtain ⟨I, ⟨k0, st0, hw0, h0⟩, hround⟩ := h
    obtain ⟨R0, ι0, φ0, hs0⟩ := hw0 _ _ _ _ _ _ hs
    refine wp_loop_ghost (fun k a w => ∃ st R ι φ, I k st ∧ Sat F R ι φ st a w) k0 ⟨st0, R0, ι0, φ0, h0, hs0⟩ fun k a' w' hI => ?_
    obtain ⟨st', R', ι', φ', hI, hs'⟩ := hI
    refine wp_mono (VC_sound hm c (hround k st' hI) hs') fun e a'' w'' hp => ?_
    cases e with
    | normal =>
      obtain ⟨s2, R2, ι2, φ2, ⟨k', s3, hlt, hwk, hI'⟩, hs2⟩ := hp
      obtain ⟨R3, ι3, φ3, hs3⟩ := hwk _ _ _ _ _ _ hs2
      exact ⟨k', hlt, s3, R3, ι3, φ3, hI', hs3⟩
    | panic _ => exact hp
    | outgrown => exact hp
    | _ => exact hp
  | .exit id, Qs, st, a, w, R, ι, φ, h, hs => wp_exit ⟨st, R, ι, φ, h, hs⟩
  | .ret, Qs, st, a, w, R, ι, φ, h, hs => wp_ret ⟨st, R, ι, φ, h, hs⟩
  | .rangeFunc _ _ _ _, _, _, _, _, _, _, _, h, _ => h.elim
  | .scope _, _, _, _, _, _, _, _, h, _ => h.elim
  | .label _, _, _, _, _, _, _, _, h, _ => h.elim
  | .goto _, _, _, _, _, _, _, _, h, _ => h.elim
  | .refuse _, _, _, _, _, _, _, _, h, _ => h.elim
end
end
section
open Go.RowKit
def Known (d : D) : Prop := ∃ (w : World) (R : Nat → Prop) (v : Value), RD w R v d
theorem Known.wf {k : IntKind} {n : Int} (h : Known (.pv (.int k n))) : k.min ≤ n ∧ n ≤ k.max := by
  obtain ⟨w, R, v, h⟩ := h
  cases h with
  | pv _ hi => exact (wf_iff k n).1 hi
theorem Known.i64 {n : Int} (h : Known (.pv (.int .i64 n))) : -9223372036854775808 ≤ n ∧ n ≤ 9223372036854775807 := by
  have := h.wf
  simpa [IntKind.min, IntKind.max, IntKind.signed, IntKind.bits] using this
theorem Known.len {κ : Ky} {xs : List (List D)} (h : Known (.rd κ xs)) : xs.length ≤ maxLen := by
  obtain ⟨w, R, v, h⟩ := h
  cases h with
  | nil => simp
  | rd c h0 h1 h2 => omega
theorem Known.len' {κ : Ky} {xs : List (List D)} (h : Known (.rd κ xs)) : xs.length ≤ 9223372036854775807 := by
  have := h.len; unfold maxLen at this; omega
theorem Known.elem {κ : Ky} {xs : List (List D)} (h : Known (.rd κ xs)) : ∀ es ∈ xs, ∀ d ∈ es, Known d := by
  obtain ⟨w, R, v, h⟩ := h
  cases h with
  | nil => simp
  | rd c h0 h1 h2 hR hk hc hr =>
    intro es hes d hd
    obtain ⟨i, hi⟩ := List.getElem?_of_mem hes
    obtain ⟨j, hj⟩ := List.getElem?_of_mem hd
    exact ⟨w, R, _, hr i es j d hi hj⟩
theorem Known.cells {cs : List D} (h : Known (.rp cs)) : ∀ d ∈ cs, Known d := by
  obtain ⟨w, R, v, h⟩ := h
  cases h with
  | rp c hR hc hr =>
    intro d hd
    obtain ⟨j, hj⟩ := List.getElem?_of_mem hd
    exact ⟨w, R, _, hr j d hj⟩
def B.ds : B → List D
  | .d x => [x]
  | _ => []
def V1.ds : V1 → List D
  | .c b => b.ds
  | .agg bs => bs.flatMap B.ds
def Ob.ds : Ob → List D
  | .box _ cs => cs.flatMap B.ds
  | .arr κ xs [] => [.rd κ xs]
  | .arr _ _ _ => []
  | .mp _ => []
  | .val _ => []
def KnownAll (args : List V1) (ins : List (Nat × Ob)) : Prop := (∀ x ∈ args, ∀ d ∈ x.ds, Known d) ∧ ∀ i X, frO ins i = some X → ∀ d ∈ X.ds, Known d
def argsEnv (args : List V1) (d : Nat) : AV :=
  match args[d]? with
  | some x => .v x
  | none => undefA
def st0 (args : List V1) (ins : List (Nat × Ob)) : St := ⟨argsEnv args, frO ins⟩
def resV (P : Program) (st : St) : ResultVar → V1 → Prop
  | .tmp t, y => st.env t = .v y
  | .cell t T, y => ∃ b cs ag s, st.env t = .v (.c b) ∧ cellsAt st.objs b = some cs ∧ tyInfo P T = some (ag, s) ∧ (ag = true → s ≤ cs.length ∧ y = .agg (cs.take s)) ∧ (ag = false → ∃ c, cs[0]? = some c ∧ y = .c c)
def okρ (ρ : List (Nat × Nat)) : Bool := nodupB (ρ.map (·.1)) && nodupB (ρ.map (·.2)) && ρ.all fun x => Nat.blt x.2 pinN || x.1 == x.2
def RetOk (P : Program) (rs : List ResultVar) (r : AV) (outs : List (Nat × Ob)) (st : St) : Prop :=
  ∃ st' ys ys' ρ, Weak st st' ∧ F2 (resV P st') rs ys ∧ vAll (cV1 (fun _ => none) ρ) ys = some ys' ∧ insC st'.objs (fun _ => none) ρ ρ = some outs ∧ okρ ρ = true ∧ match r with
    | .v y => ys' = [y]
    | .tup l => l.length ≠ 1 ∧ ys' = l
section
variable {P : Program} {F : Fx} {w : World} {R : Nat → Prop} {ι : Nat → Value} {φ : Nat → List Nat} {st : St} {a : Act}
theorem run_resV {r : ResultVar} {y : V1} (hs : Sat F R ι φ st a w) (h : resV P st r y) : ∃ v, ((match r with | .tmp t => pure (a.tmps.getD t undef) | .cell t T => do loadVar T (← asAddr (a.tmps.getD t undef))) : Sem Value).run P w = .ok v w ∧ RV1 w R ι st.dom v y := by
  cases r with
  | tmp t =>
    have := hs.env t
    rw [show st.env t = .v y from h] at this
    exact ⟨_, rfl, this⟩
  | cell t T =>
    obtain ⟨b, cs, ag, s, he, hc, hT, h1, h2⟩ := h
    have hv := hs.env t
    rw [he] at hv
    obtain ⟨g, off, us, e1, e2, e3⟩ := cellsAt_ok hs.objs hv hc
    have hl := run_loadAt (P := P) hT e3
    have hrun : ∀ u, (Instr.loadAt T (.pointer (some ⟨g, off, none⟩))).run P w = .ok u w → ((do loadVar T (← asAddr (a.tmps.getD t undef))) : Sem Value).run P w = .ok u w := fun u hu => by
      rw [e1]
      simpa [Instr.loadAt, Instr.sureAddr, asAddr] using hu
    cases ag with
    | true =>
      obtain ⟨hs', rfl⟩ := h1 rfl
      exact ⟨_, hrun _ (hl.1 rfl (by rw [e2.len]; exact hs')), us.take s, rfl, e2.take s⟩
    | false =>
      obtain ⟨c, hc0, rfl⟩ := h2 rfl
      obtain ⟨u, hu, hr⟩ := e2.get hc0
      exact ⟨u, hrun _ (hl.2 rfl u hu), hr⟩
theorem run_resVs (hs : Sat F R ι φ st a w) : ∀ {rs : List ResultVar} {ys : List V1}, F2 (resV P st) rs ys → ∃ vs, (rs.mapM fun r => ((match r with | .tmp t => pure (a.tmps.getD t undef) | .cell t T => do loadVar T (← asAddr (a.tmps.getD t undef))) : Sem Value)).run P w = .ok vs w ∧ F2 (RV1 w R ι st.dom) vs ys
  | _, _, .nil => ⟨[], rfl, .nil⟩
  | _, _, .cons (a := r) h1 h2 => by
    obtain ⟨v, e1, h3⟩ := run_resV hs h1
    obtain ⟨vs, e2, h4⟩ := run_resVs hs h2
    refine ⟨v :: vs, ?_, .cons h3 h4⟩
    rw [List.mapM_cons]
    simp only [Sem.run_bind, e1, Result.andThen_ok, e2, Sem.run_pure]
theorem run_results {fn : Func} {r : AV} {outs : List (Nat × Ob)} (hs : Sat F R ι φ st a w) (h : RetOk P fn.results.toList r outs st) : ∃ v, (results fn a.tmps).run P w = .ok v w ∧ ∃ (R' : Nat → Prop) (ι' : Nat → Value) (φ' : Nat → List Nat), (∀ b, F.R b → R' b) ∧ (∀ b, R' b → b < w.heap.size) ∧ (∀ b, R' b → F.R b ∨ F.M b ∨ F.w.heap.size ≤ b) ∧
    RA w R' ι' (domO (frO outs)) v r ∧ ObjsOk w R' ι' φ' (frO outs) ∧ (∀ g, fpO φ' (frO outs) g → F.M g ∨ F.w.heap.size ≤ g) ∧ ∀ o, pinN ≤ o → ι' o = F.ι o := by
  obtain ⟨st', ys, ys', ρ, hw, h1, h2, h3, hρ, h4⟩ := h
  obtain ⟨R2, ι2, φ2, hs2⟩ := hw _ _ _ _ _ _ hs
  unfold okρ at hρ
  simp only [Bool.and_eq_true] at hρ
  have hn1 := nodupB_ok hρ.1.1
  have hn2 := nodupB_ok hρ.1.2
  obtain ⟨pre1, pre2, pre3, pre4⟩ := call_pre (bor := false) hs2.ok hs2.rlt hn1 hn2 h3
  obtain ⟨vs, e1, hF⟩ := run_resVs (P := P) hs2 h1
  have hF' : F2 (RV1 w (Seen R2 φ2 fun _ => none) (ιC ρ ι2) (domO (frO outs))) vs ys' := vAll_ok (f := cV1 (fun _ => none) ρ) (r' := RV1 w R2 ι2 st'.dom) (fun _ _ _ h e => cV1_ok hn2 pre3 pre2 h e) hF h2
  have hm : (fn.results.mapM fun r => ((match r with | .tmp t => pure (a.tmps.getD t undef) | .cell t T => do loadVar T (← asAddr (a.tmps.getD t undef))) : Sem Value)).run P w = .ok vs.toArray w := by
    rw [Array.mapM_eq_mapM_toList]
    show Sem.run P (fn.results.toList.mapM _ >>= fun l => pure l.toArray) w = _
    rw [Sem.run_bind, e1]
    rfl
  have hr : (results fn a.tmps).run P w = .ok (if h : vs.toArray.size = 1 then vs.toArray[0] else .tuple vs.toArray) w := by
    unfold results
    rw [Sem.run_bind]
    refine (congrArg (fun x => Result.andThen x _) hm).trans ?_
    rfl
  have hval : ∃ v, (results fn a.tmps).run P w = .ok v w ∧ RA w (Seen R2 φ2 fun _ => none) (ιC ρ ι2) (domO (frO outs)) v r := by
    cases r with
    | v y =>
      have h4 : ys' = [y] := h4
      subst h4
      cases hF' with
      | cons hv hF'' =>
        cases hF''
        rename_i v
        exact ⟨v, by rw [hr]; simp, hv⟩
    | tup l =>
      obtain ⟨hl, rfl⟩ : l.length ≠ 1 ∧ ys' = l := h4
      exact ⟨.tuple vs.toArray, by rw [hr, dif_neg (by have := hF'.len; simp; omega)], vs, rfl, hF'⟩
  obtain ⟨v, hv1, hv2⟩ := hval
  have hsn : ∀ b, Seen R2 φ2 (fun _ => none) b → R2 b := fun b h => h.elim id fun ⟨o, x, h, _⟩ => by cases h
  refine ⟨v, hv1, _, _, _, fun b hb => .inl (hs2.rsub b hb), pre1, fun b hb => hs2.rnew b (hsn b hb), hv2, pre4, fun g ⟨i, X, hX, hg⟩ => ?_, fun o ho => ?_⟩
  · obtain ⟨p, x, q1, q2, _⟩ := insC_get h3 hX
    exact (hs2.mine p x q2 g (by simpa [φC, q1] using hg)).1
  · unfold ιC
    cases hl : look2 ρ o with
    | none => exact hs2.pin o ho
    | some p =>
      have := List.all_eq_true.1 hρ.2 _ (look2_mem hl)
      simp only [Bool.or_eq_true, beq_iff_eq] at this
      rcases this with h | h
      · rw [Nat.blt] at h
        have := Nat.le_of_ble_eq_true h
        omega
      · subst h; exact hs2.pin _ ho
theorem callFunc_enter {f : FuncId} {fn : Func} (hf : P.funcs[f]? = some fn) (hb : fn.body.isNone = false) (hname : (fn.name == "runtime.NumGoroutine") = false) (vs : Array Value) (w : World) : (callFunc f vs).run P w = .ok (.enter f vs) w := by
  unfold callFunc
  simp only [Sem.run_bind, run_program, Result.andThen_ok, hf, hname, hb, Bool.false_eq_true, if_false, Sem.run_pure]
theorem RD.known {v : Value} {d : D} (h : RD w R v d) : Known d := ⟨w, R, v, h⟩
theorem RB.known {dom : Nat → Prop} {v : Value} {b : B} (h : RB w R ι dom v b) : ∀ d ∈ b.ds, Known d := by
  cases b with
  | d x => intro d hd; simp [B.ds] at hd; subst hd; exact RD.known h
  | _ => intro d hd; simp [B.ds] at hd
theorem F2.mem_right {α β : Type} {r : α → β → Prop} : ∀ {as : List α} {bs : List β} {b : β}, F2 r as bs → b ∈ bs → ∃ a, r a b
  | _, _, _, .cons h1 h2, h => by
    rcases List.mem_cons.1 h with rfl | h
    · exact ⟨_, h1⟩
    · exact h2.mem_right h
theorem knows {args : List V1} {ins : List (Nat × Ob)} {vs : List Value} {dom : Nat → Prop} (hF : F2 (RV1 w R ι dom) vs args) (ho : ObjsOk w R ι φ (frO ins)) : KnownAll args ins := by
  refine ⟨fun x hx d hd => ?_, fun i X hX d hd => ?_⟩
  · obtain ⟨v, hv⟩ := hF.mem_right hx
    cases x with
    | c b => exact RB.known hv d hd
    | agg bs =>
      obtain ⟨us, _, h2⟩ := hv
      obtain ⟨b, hb, hdb⟩ := List.mem_flatMap.1 hd
      obtain ⟨u, hu⟩ := h2.mem_right hb
      exact RB.known hu d hdb
  · have h := ho.1 i X hX
    cases X with
    | box T cs =>
      obtain ⟨g, us, _, _, _, h2⟩ := h
      obtain ⟨b, hb, hdb⟩ := List.mem_flatMap.1 hd
      obtain ⟨u, hu⟩ := h2.mem_right hb
      exact RB.known hu d hdb
    | arr κ xs hs =>
      cases hs with
      | nil =>
        simp [Ob.ds] at hd
        subst hd
        exact RD.known (RArr.data (R' := fun _ => True) h fun _ _ => trivial)
      | cons _ _ => simp [Ob.ds] at hd
    | mp es => simp [Ob.ds] at hd
    | val b => simp [Ob.ds] at hd
theorem SpecM.of_vc (hm : P.follows .mixedOrders = true) {f : FuncId} {fn : Func} {c : Code} {args : List V1} {ins : List (Nat × Ob)} {r : AV} {outs : List (Nat × Ob)} (hf : P.funcs[f]? = some fn) (hb : fn.body = some c) (hname : (fn.name == "runtime.NumGoroutine") = false) (ha : args.length ≤ fn.ntmps)
    (h : KnownAll args ins → VC P fn.ntmps c (fun e st => (e = .normal ∨ e = .ret) ∧ RetOk P fn.results.toList r outs st) (st0 args ins)) : SpecM P f args ins r outs := by
  refine ⟨callFunc_enter hf (by rw [hb]; rfl) hname, fun w R ι φ vs hR hF ho => ?_⟩
  have hlen := hF.len
  let F : Fx := ⟨w, fpO φ (frO ins), ι, R, fn.ntmps, ho.2.2.2, fun g ⟨o, x, h1, h2⟩ => (ho.2.1 o x h1 g h2).1⟩
  refine calls_of_wp hf hb (Code.wp_mono (fun e a' w' hp => ?_) (VC_sound (F := F) (ι := ι) (R := R) (φ := φ) hm c (h (knows hF ho)) ?_))
  · obtain ⟨st, R', ι', φ', ⟨he, hret⟩, hs⟩ := hp.mk
    obtain ⟨v, h1, R1, ι1, φ1, q1, q2, q3, q4, q5, q6, q7⟩ := run_results hs hret
    have goal : a'.defers = [] ∧ ∃ v, (results fn a'.tmps).run P w' = .ok v w' ∧ ∃ u, Ending.returned v = .returned u ∧ After w R ι φ (frO ins) r (frO outs) u w' :=
      ⟨hs.defers, v, h1, v, rfl, R1, ι1, φ1, hs.below, q1, q2, fun b hb hlt => by
        rcases q3 b hb with h | h | h
        · exact .inl h
        · exact .inr h
        · have h : w.heap.size ≤ b := h
          omega, q4, q5, q6, q7⟩
    rcases he with rfl | rfl
    · exact goal
    · exact goal
  · refine ⟨BelowM.refl _ _, hR, fun _ h => h, fun b h => .inl h, by simp [F]; omega, rfl, fun d => ?_, ho.1, fun o x hx g hg => ⟨.inl ⟨o, x, hx, hg⟩, ho.2.1 o x hx g hg⟩, ho.2.2.1, fun _ _ => rfl⟩
    have hget : (vs.toArray ++ Array.replicate (fn.ntmps - vs.toArray.size) undef).getD d undef = vs.getD d undef := by
      rw [Array.getD_eq_getD_getElem?, Array.getElem?_append]
      by_cases hd : d < vs.length
      · simp [hd, List.getD]
      · simp [hd, List.getD, Array.getElem?_replicate]
        split <;> rfl
    show RA w R _ _ ((vs.toArray ++ Array.replicate (fn.ntmps - vs.toArray.size) undef).getD d undef) (argsEnv args d)
    rw [hget]
    unfold argsEnv
    split
    · rename_i x hx
      obtain ⟨v, hv, hr⟩ := hF.get hx
      rw [show vs.getD d undef = v by simp [List.getD, hv]]
      exact hr
    · rename_i hx
      have : args.length ≤ d := by
        rcases Nat.lt_or_ge d args.length with h | h
        · rw [List.getElem?_eq_getElem h] at hx; cases hx
        · exact h
      rw [show vs.getD d undef = undef by simp [List.getD, List.getElem?_eq_none (show vs.length ≤ d by omega)]]
      exact RA.undef
end
end
section
open Go.RowKit
abbrev iD (n : Int) : D := .pv (.int .i64 n)
abbrev bD (b : Bool) : D := .pv (.bool b)
abbrev sD (s : ByteArray) : D := .pv (.string s)
abbrev vI (n : Int) : VD := .c (iD n)
abbrev vL (κ : Ky) (xs : List (List D)) : VD := .c (.rd κ xs)
abbrev vP (cs : List D) : VD := .c (.rp cs)
abbrev cI (n : Int) : R1 := .c (.fz (iD n))
abbrev cB1 (b : Bool) : R1 := .c (.fz (bD b))
abbrev cS (s : ByteArray) : R1 := .c (.fz (sD s))
abbrev cN (κ : Ky) (xs : List (List D)) : R1 := .c (.nw κ xs)
abbrev oI (n : Int) : RT := .v (cI n)
abbrev oB (b : Bool) : RT := .v (cB1 b)
abbrev oS (s : ByteArray) : RT := .v (cS s)
abbrev oN (κ : Ky) (xs : List (List D)) : RT := .v (cN κ xs)
end
end Go.Proofs.YtehkaajakapkmaaGreat
