/- Code in words about what is known; what a function does, out of them. No program is named here. -/
import Derived.Test.YthgdccokpgaicaaSx12
import Derived.Deep.LoopGhost
namespace Go.Proofs.Ythgdccokpgaicaa
open Go.RowKit
/-- Less is known, or the same is told in other words. -/
def Weak (st st' : St) : Prop := ∀ (w0 : World) (n : Nat) (R : Nat → Prop) (ι : Nat → Value) (a : Act) (w : World), Sat w0 n R ι st a w → ∃ R' ι', Sat w0 n R' ι' st' a w
theorem Weak.refl (st : St) : Weak st st := fun _ _ R ι _ _ h => ⟨R, ι, h⟩
theorem Weak.trans {a b c : St} (h : Weak a b) (k : Weak b c) : Weak a c := fun w0 n R ι ac w hs => by
  obtain ⟨R', ι', h'⟩ := h w0 n R ι ac w hs
  exact k w0 n R' ι' ac w h'
def B.inK (K : List Nat) : B → Bool
  | .ptr o _ => K.contains o
  | .own o => K.contains o
  | .ep o _ _ _ => K.contains o
  | _ => true
def V1.inK (K : List Nat) : V1 → Bool
  | .c b => b.inK K
  | .agg bs => bs.all (B.inK K)
def AV.inK (K : List Nat) : AV → Bool
  | .v x => x.inK K
  | .tup xs => xs.all (V1.inK K)
def Ob.inK (K : List Nat) : Ob → Bool
  | .box _ cs => cs.all (B.inK K)
  | .arr _ _ _ => true
/-- What is kept at the head of a loop: these slots, these objects. -/
def clean (L K : List Nat) (st : St) : St := ⟨fun d => if L.contains d then st.env d else deadA, fun o => if K.contains o then st.objs o else none⟩
section
variable {w : World} {R : Nat → Prop} {ι : Nat → Value} {dom dom' : Nat → Prop} {K : List Nat}
theorem RB.inK (hd : ∀ o, K.contains o = true → dom o → dom' o) {v : Value} : ∀ {b : B}, b.inK K = true → RB w R ι dom v b → RB w R ι dom' v b
  | .d _, _, h => h
  | .ptr o _, hk, ⟨h1, h2⟩ => ⟨hd o hk h1, h2⟩
  | .own o, hk, ⟨h1, h2⟩ => ⟨hd o hk h1, h2⟩
  | .ep o _ _ _, hk, ⟨h1, h2⟩ => ⟨hd o hk h1, h2⟩
  | .dead, _, _ => trivial
theorem F2.all {α β : Type} {r r' : α → β → Prop} {p : β → Bool} (h : ∀ a b, p b = true → r a b → r' a b) : ∀ {as : List α} {bs : List β}, bs.all p = true → F2 r as bs → F2 r' as bs
  | _, _, _, .nil => .nil
  | _, _, hp, .cons h1 h2 => by
    simp only [List.all_cons, Bool.and_eq_true] at hp
    exact .cons (h _ _ hp.1 h1) (F2.all h hp.2 h2)
theorem RV1.inK (hd : ∀ o, K.contains o = true → dom o → dom' o) {v : Value} : ∀ {x : V1}, x.inK K = true → RV1 w R ι dom v x → RV1 w R ι dom' v x
  | .c _, hk, h => RB.inK hd hk h
  | .agg _, hk, ⟨vs, h1, h2⟩ => ⟨vs, h1, F2.all (p := B.inK K) (fun _ _ hk h => RB.inK hd hk h) hk h2⟩
theorem RA.inK (hd : ∀ o, K.contains o = true → dom o → dom' o) {v : Value} : ∀ {x : AV}, x.inK K = true → RA w R ι dom v x → RA w R ι dom' v x
  | .v _, hk, h => RV1.inK hd hk h
  | .tup _, hk, ⟨vs, h1, h2⟩ => ⟨vs, h1, F2.all (p := V1.inK K) (fun _ _ hk h => RV1.inK hd hk h) hk h2⟩
end
theorem Weak.clean {st : St} (L K : List Nat) (hL : L.all (fun d => (st.env d).inK K) = true) (hK : K.all (fun o => match st.objs o with | some x => x.inK K | none => true) = true) : Weak st (clean L K st) := fun w0 n R ι a w hs => by
  have hd : ∀ o, K.contains o = true → st.dom o → (Go.Proofs.Ythgdccokpgaicaa.clean L K st).dom o := fun o hk ⟨x, hx⟩ => ⟨x, by simp only [Go.Proofs.Ythgdccokpgaicaa.clean, hk, if_true]; exact hx⟩
  have get : ∀ o x, (Go.Proofs.Ythgdccokpgaicaa.clean L K st).objs o = some x → K.contains o = true ∧ st.objs o = some x := fun o x h => by
    simp only [Go.Proofs.Ythgdccokpgaicaa.clean] at h
    split at h
    · rename_i hk; exact ⟨hk, h⟩
    · cases h
  refine ⟨R, ι, hs.below, hs.rlt, hs.size, hs.defers, fun d => ?_, fun o x ho => ?_, fun o p x y g ho hp => hs.apart o p x y g (get o x ho).2 (get p y hp).2⟩
  · simp only [Go.Proofs.Ythgdccokpgaicaa.clean]
    split
    · rename_i h
      exact RA.inK hd (List.all_eq_true.1 hL d (by simpa using h)) (hs.env d)
    · trivial
  · obtain ⟨hk, hob⟩ := get o x ho
    have h1 := hs.objs o x hob
    have h2 := List.all_eq_true.1 hK o (by simpa using hk)
    rw [hob] at h2
    cases x with
    | box T cs =>
      obtain ⟨g, vs, q1, q2, q3, q4, q5⟩ := h1
      exact ⟨g, vs, q1, q2, q3, q4, F2.all (p := B.inK K) (fun _ _ hk h => RB.inK hd hk h) h2 q5⟩
    | arr e k xs => exact h1
abbrev nilB : B := .d (.pv (.slice none 0 0))
/-- A nil slice, taken for an array of the call's own. -/
theorem Weak.reify {st : St} (d p e k : Nat) (hd : st.env d = .v (.c nilB)) (hp : st.objs p = none) : Weak st ⟨upd st.env d (.v (.c (.own p))), upd st.objs p (some (.arr e k []))⟩ := fun w0 n R ι a w hs => by
  have h1 := hs.new (d := p) (u := .slice none 0 0) (x := .arr e k []) (w' := w) hp (Below.refl _ _) ⟨by simp, [], World.ownsRow_nil w _ e k, .nil, fun g hg => by simp [Value.ownBlock] at hg⟩ (fun g hg => by simp [blk] at hg)
  refine ⟨R, _, h1.below, h1.rlt, h1.size, h1.defers, fun t => ?_, h1.objs, h1.apart⟩
  by_cases ht : t = d
  · subst ht
    have := hs.env t
    rw [hd] at this
    obtain ⟨e1, _⟩ := RA.pv this
    simp only [upd_same]
    exact ⟨⟨.arr e k [], by simp [upd_same]⟩, by rw [upd_same]; exact e1⟩
  · simp only [upd_ne _ _ ht]
    exact h1.env t
theorem set_same {α : Type} {l : List α} {i : Nat} {u : α} (h : l[i]? = some u) : l.set i u = l := by
  apply List.ext_getElem?
  intro j
  by_cases hj : i = j
  · subst hj
    rw [List.getElem?_set_self (List.getElem?_eq_some_iff.1 h).1, h]
  · rw [List.getElem?_set_ne hj]
/-- A nil slice in a variable of the call, taken for an array of its own. -/
theorem Weak.reifyBox {st : St} (o i p e k : Nat) {T : TypeId} {cs : List B} (ho : st.objs o = some (.box T cs)) (hi : cs[i]? = some nilB) (hp : st.objs p = none) : Weak st ⟨st.env, upd (upd st.objs p (some (.arr e k []))) o (some (.box T (cs.set i (.own p))))⟩ := fun w0 n R ι a w hs => by
  have hop : o ≠ p := fun h => by subst h; rw [ho] at hp; cases hp
  have h1 := hs.new (d := p) (u := .slice none 0 0) (x := .arr e k []) (w' := w) hp (Below.refl _ _) ⟨by simp, [], World.ownsRow_nil w _ e k, .nil, fun g hg => by simp [Value.ownBlock] at hg⟩ (fun g hg => by simp [blk] at hg)
  have ho1 : (upd st.objs p (some (.arr e k []))) o = some (.box T cs) := by rw [upd_ne _ _ hop]; exact ho
  refine ⟨R, _, h1.write (x' := .box T (cs.set i (.own p))) ho1 h1.below (Nat.le_refl _) (fun _ _ _ => rfl) ?_⟩
  obtain ⟨g, vs, q1, q2, q3, q4, q5⟩ := h1.objs o _ ho1
  obtain ⟨u, hu, hr⟩ := q5.get hi
  have hr : RD w R u (.pv (.slice none 0 0)) := hr
  have hu' : u = .slice none 0 0 := by cases hr; rfl
  refine ⟨g, vs, q1, q2, q3, q4, ?_⟩
  have h2 : RB w R (upd ι p (.slice none 0 0)) (St.dom ⟨st.env, upd st.objs p (some (.arr e k []))⟩) (.slice none 0 0) (.own p) := ⟨⟨.arr e k [], by simp [upd_same]⟩, by rw [upd_same]⟩
  have := q5.set i h2
  rwa [set_same (hu' ▸ hu)] at this
def VC (P : Program) (n : Nat) : Code → (Exit → St → Prop) → St → Prop
  | .skip, Q, st => Q .normal st
  | .region _ ops draw, Q, st => match draw with
    | false => VCL P n ops.toList ops.toList (Q .normal) st
    | true => ∃ m, rgOk ops.toList m n = true ∧ VCP P n ops.toList m ops.toList (Q .normal) st
  | .seq a b, Q, st => VC P n a (fun e s => match e with | .normal => ∃ s', Weak s s' ∧ VC P n b Q s' | e => Q e s) st
  | .cond c x y, Q, st => ∃ t, ev st.env c = pvA (.bool t) ∧ (t = true → VC P n x Q st) ∧ (t = false → VC P n y Q st)
  | .block id c, Q, st => VC P n c (fun e s => match e with | .exit id' => if id' = id then Q .normal s else Q (.exit id') s | e => Q e s) st
  | .loop c, Q, st => ∃ I : Nat → St → Prop, (∃ k st', Weak st st' ∧ I k st') ∧ ∀ k s, I k s → VC P n c (fun e s' => match e with | .normal => ∃ k' s'', k' < k ∧ Weak s' s'' ∧ I k' s'' | e => Q e s') s
  | .exit id, Q, st => Q (.exit id) st
  | .ret, Q, st => Q .ret st
  | _, _, _ => False
/-- What the code leaves. -/
def PostR (w0 : World) (n : Nat) (Qs : Exit → St → Prop) : Exit → Act → World → Prop
  | .panic _, _, _ => False
  | .outgrown, _, _ => False
  | e, a, w => ∃ st R ι, Qs e st ∧ Sat w0 n R ι st a w
section
variable {P : Program} {w0 : World} {n : Nat}
theorem PostR.mk {Qs : Exit → St → Prop} {e : Exit} {a : Act} {w : World} (h : PostR w0 n Qs e a w) : ∃ st R ι, Qs e st ∧ Sat w0 n R ι st a w := by
  cases e <;> first | exact h | exact h.elim
theorem wp_toList {id : Nat} {ops : Array Oper} {draw : Bool} {Q : Exit → Act → World → Prop} {a : Act} {w : World} (h : (Code.region id ops.toList.toArray draw).wp P Q a w) : (Code.region id ops draw).wp P Q a w := by simpa using h
theorem VC_sound (hm : P.follows .mixedOrders = true) : ∀ (c : Code) {Qs : Exit → St → Prop} {st : St} {a : Act} {w : World} {R : Nat → Prop} {ι : Nat → Value}, VC P n c Qs st → Sat w0 n R ι st a w → c.wp P (PostR w0 n Qs) a w
  | .skip, Qs, st, a, w, R, ι, h, hs => wp_skip ⟨st, R, ι, h, hs⟩
  | .region id ops draw, Qs, st, a, w, R, ι, h, hs => by
    refine wp_toList ?_
    unfold VC at h
    cases draw with
    | false => exact wp_region_lit (VCL_sound (Qs := Qs .normal) (fun st a w R ι h hs => ⟨st, R, ι, h, hs⟩) h hs)
    | true =>
      obtain ⟨m, hok, h⟩ := h
      exact VCP_sound (Qs := Qs .normal) hm hok (fun _ _ _ _ _ h => h) (fun st a w R ι h hs => ⟨st, R, ι, h, hs⟩) h hs
  | .seq x y, Qs, st, a, w, R, ι, h, hs => by
    unfold VC at h
    refine wp_seq (wp_mono (VC_sound hm x h hs) fun e a' w' hp => ?_)
    cases e with
    | normal =>
      obtain ⟨st', R', ι', ⟨s2, hw, hq⟩, hs'⟩ := hp
      obtain ⟨R2, ι2, hs2⟩ := hw _ _ _ _ _ _ hs'
      exact VC_sound hm y hq hs2
    | panic _ => exact hp
    | outgrown => exact hp
    | _ => exact hp
  | .cond c x y, Qs, st, a, w, R, ι, h, hs => by
    unfold VC at h
    obtain ⟨t, ht, h1, h2⟩ := h
    have hv := ev_ok (a := a) hs.env c
    rw [ht] at hv
    obtain ⟨e, _⟩ := RA.pv hv
    cases t with
    | false => exact wp_cond_false e (VC_sound hm y (h2 rfl) hs)
    | true => exact wp_cond_true e (VC_sound hm x (h1 rfl) hs)
  | .block id c, Qs, st, a, w, R, ι, h, hs => by
    unfold VC at h
    refine wp_block (wp_mono (VC_sound hm c h hs) fun e a' w' hp => ?_)
    cases e with
    | exit id' =>
      obtain ⟨st', R', ι', hq, hs'⟩ := hp
      simp only at hq
      simp only [Exit.inBlock]
      by_cases hid : id' = id
      · rw [if_pos hid] at hq ⊢
        exact ⟨st', R', ι', hq, hs'⟩
      · rw [if_neg hid] at hq ⊢
        exact ⟨st', R', ι', hq, hs'⟩
    | panic _ => exact hp
    | outgrown => exact hp
    | _ => exact hp
  | .loop c, Qs, st, a, w, R, ι, h, hs => by
    unfold VC at h
    obtain ⟨I, ⟨k0, st0, hw0, h0⟩, hround⟩ := h
    obtain ⟨R0, ι0, hs0⟩ := hw0 _ _ _ _ _ _ hs
    refine wp_loop_ghost (fun k a w => ∃ st R ι, I k st ∧ Sat w0 n R ι st a w) k0 ⟨st0, R0, ι0, h0, hs0⟩ fun k a' w' hI => ?_
    obtain ⟨st', R', ι', hI, hs'⟩ := hI
    refine wp_mono (VC_sound hm c (hround k st' hI) hs') fun e a'' w'' hp => ?_
    cases e with
    | normal =>
      obtain ⟨s2, R2, ι2, ⟨k', s3, hlt, hwk, hI'⟩, hs2⟩ := hp
      obtain ⟨R3, ι3, hs3⟩ := hwk _ _ _ _ _ _ hs2
      exact ⟨k', hlt, s3, R3, ι3, hI', hs3⟩
    | panic _ => exact hp
    | outgrown => exact hp
    | _ => exact hp
  | .exit id, Qs, st, a, w, R, ι, h, hs => wp_exit ⟨st, R, ι, h, hs⟩
  | .ret, Qs, st, a, w, R, ι, h, hs => wp_ret ⟨st, R, ι, h, hs⟩
  | .rangeFunc _ _ _ _, _, _, _, _, _, _, h, _ => h.elim
  | .scope _, _, _, _, _, _, _, h, _ => h.elim
  | .label _, _, _, _, _, _, _, h, _ => h.elim
  | .goto _, _, _, _, _, _, _, h, _ => h.elim
  | .refuse _, _, _, _, _, _, _, h, _ => h.elim
end
end Go.Proofs.Ythgdccokpgaicaa
