/- What is forgotten, what is handed to a callee; the operations that only read, in words about what is known. No program is named here. -/
import Derived.Test.YtlblmofimjhbbaaDoorY3
namespace Go.Proofs.YtlblmofimjhbbaaDoor
open Go.RowKit
def B.kill (ps : List Nat) : B → B
  | .ptr o off => if ps.contains o then .dead else .ptr o off
  | .own o => if ps.contains o then .dead else .own o
  | .ep o k i off => if ps.contains o then .dead else .ep o k i off
  | .rel o q => if ps.contains o then .dead else .rel o q
  | b => b
def V1.kill (ps : List Nat) : V1 → V1
  | .c b => .c (b.kill ps)
  | .agg bs => .agg (bs.map (B.kill ps))
def AV.kill (ps : List Nat) : AV → AV
  | .v x => .v (x.kill ps)
  | .tup xs => .tup (xs.map (V1.kill ps))
def Ho.kill (ps : List Nat) (h : Ho) : Ho := match h.l with
  | some o => if ps.contains o then ⟨h.i, h.j, none⟩ else h
  | none => h
def Ob.kill (ps : List Nat) : Ob → Ob
  | .box T cs => .box T (cs.map (B.kill ps))
  | .arr κ xs hs => .arr κ xs (hs.map (Ho.kill ps))
  | .mp es => .mp es
  | .val l => .val l
/-- These objects are forgotten. -/
def St.kill (st : St) : List Nat → St
  | [] => st
  | ps => ⟨fun d => (st.env d).kill ps, fun o => if ps.contains o then none else (st.objs o).map (Ob.kill ps)⟩
section
variable {w w' : World} {R R' : Nat → Prop} {ι ι' : Nat → Value} {dom dom' : Nat → Prop} {ps : List Nat}
theorem RB.kill (hd : ∀ o, dom o → ps.contains o = false → dom' o) {v : Value} : ∀ {b : B}, RB w R ι dom v b → RB w R ι dom' v (b.kill ps)
  | .d _, h => h
  | .ptr o off, ⟨h1, h2⟩ => by
    show RB w R ι dom' v (if ps.contains o then .dead else .ptr o off)
    cases hc : ps.contains o with
    | true => trivial
    | false => exact ⟨hd o h1 hc, h2⟩
  | .own o, ⟨h1, h2⟩ => by
    show RB w R ι dom' v (if ps.contains o then .dead else .own o)
    cases hc : ps.contains o with
    | true => trivial
    | false => exact ⟨hd o h1 hc, h2⟩
  | .ep o k i off, ⟨h1, h2⟩ => by
    show RB w R ι dom' v (if ps.contains o then .dead else .ep o k i off)
    cases hc : ps.contains o with
    | true => trivial
    | false => exact ⟨hd o h1 hc, h2⟩
  | .rel o q, ⟨h1, h2⟩ => by
    show RB w R ι dom' v (if ps.contains o then .dead else .rel o q)
    cases hc : ps.contains o with
    | true => trivial
    | false => exact ⟨hd o h1 hc, h2⟩
  | .dead, _ => trivial
theorem F2.map_right {α β γ : Type} {r : α → β → Prop} {r' : α → γ → Prop} {f : β → γ} (h : ∀ a b, r a b → r' a (f b)) : ∀ {as : List α} {bs : List β}, F2 r as bs → F2 r' as (bs.map f)
  | _, _, .nil => .nil
  | _, _, .cons h1 h2 => .cons (h _ _ h1) (h2.map_right h)
theorem RV1.kill (hd : ∀ o, dom o → ps.contains o = false → dom' o) {v : Value} : ∀ {x : V1}, RV1 w R ι dom v x → RV1 w R ι dom' v (x.kill ps)
  | .c _, h => RB.kill hd h
  | .agg _, ⟨vs, h1, h2⟩ => ⟨vs, h1, h2.map_right fun _ _ h => RB.kill hd h⟩
theorem RA.kill (hd : ∀ o, dom o → ps.contains o = false → dom' o) {v : Value} : ∀ {x : AV}, RA w R ι dom v x → RA w R ι dom' v (x.kill ps)
  | .v _, h => RV1.kill hd h
  | .tup _, ⟨vs, h1, h2⟩ => ⟨vs, h1, h2.map_right fun _ _ h => RV1.kill hd h⟩
def Cl.kill (ps : List Nat) : Cl → Cl
  | .h (some o) => if ps.contains o then .h none else .h (some o)
  | c => c
theorem EH.kill (hd : ∀ o, dom o → ps.contains o = false → dom' o) {vs : List Value} {cs : List Cl} {S : List Nat} (h : EH w ι dom vs cs S) : EH w ι dom' vs (cs.map (Cl.kill ps)) S := by
  induction h with
  | nil => exact .nil
  | d h1 _ ih => exact .d h1 ih
  | h h1 hl _ ih =>
    rename_i l _ _ _ _
    cases l with
    | none => exact .h h1 (fun o ho => by cases ho) ih
    | some o =>
      simp only [List.map_cons, Cl.kill]
      cases hc : ps.contains o with
      | true => exact .h h1 (fun o ho => by cases ho) ih
      | false =>
        refine .h h1 (fun o' ho => ?_) ih
        cases ho
        exact ⟨hd o (hl o rfl).1 hc, (hl o rfl).2⟩
theorem punch_kill (k : Nat) : ∀ (hs : List Ho) (ds : List D), punch k (ds.map .d) (hs.map (Ho.kill ps)) = (punch k (ds.map .d) hs).map (Cl.kill ps)
  | [], ds => by simp only [List.map_nil, punch, List.map_map]; rfl
  | h :: hs, ds => by
    have ih := punch_kill k hs ds
    have e1 : (Ho.kill ps h).i = h.i ∧ (Ho.kill ps h).j = h.j ∧ (Cl.h (Ho.kill ps h).l) = (Cl.h h.l).kill ps := by
      unfold Ho.kill
      cases hl : h.l with
      | none => exact ⟨rfl, rfl, by rw [hl]; rfl⟩
      | some o =>
        simp only [Cl.kill]
        split
        · exact ⟨rfl, rfl, rfl⟩
        · exact ⟨rfl, rfl, by rw [hl]⟩
    simp only [List.map_cons, punch, e1.1, e1.2.1, e1.2.2, ih]
    split
    · rw [List.map_set]
    · rfl
theorem RArr.kill (hd : ∀ o, dom o → ps.contains o = false → dom' o) {κ : Ky} {xs : List (List D)} {hs : List Ho} {v : Value} {S : List Nat} (h : RArr w ι dom v κ xs hs S) : RArr w ι dom' v κ xs (hs.map (Ho.kill ps)) S := by
  obtain ⟨h1, vs, S1, h2, h3, h4⟩ := h
  exact ⟨h1, vs, S1, h2, by unfold cellsH; rw [punch_kill]; exact h3.kill hd, h4⟩
theorem RO.kill (hd : ∀ o, dom o → ps.contains o = false → dom' o) {v : Value} {S : List Nat} : ∀ {x : Ob}, RO w R ι dom v S x → RO w R ι dom' v S (x.kill ps)
  | .box _ _, ⟨g, vs, h1, h2, h4, h5⟩ => ⟨g, vs, h1, h2, h4, h5.map_right fun _ _ h => RB.kill hd h⟩
  | .arr _ _ _, h => RArr.kill hd h
  | .mp _, h => h
  | .val _, h => h
end
theorem St.kill_get {st : St} {ps : List Nat} {o : Nat} {y : Ob} (h : (st.kill ps).objs o = some y) : ps.contains o = false ∧ ∃ x, st.objs o = some x ∧ (y = x.kill ps ∨ ps = [] ∧ y = x) := by
  cases ps with
  | nil => exact ⟨rfl, y, h, .inr ⟨rfl, rfl⟩⟩
  | cons p ps =>
    simp only [St.kill] at h
    split at h
    · cases h
    · rename_i hc
      rw [Option.map_eq_some_iff] at h
      obtain ⟨x, h1, rfl⟩ := h
      exact ⟨by simpa using hc, x, h1, .inl rfl⟩
theorem St.kill_dom {st : St} {ps : List Nat} {o : Nat} (h : st.dom o) (hc : ps.contains o = false) : (st.kill ps).dom o := by
  cases ps with
  | nil => exact h
  | cons p ps =>
    obtain ⟨x, hx⟩ := h
    exact ⟨x.kill (p :: ps), by simp only [St.kill, hc, hx]; rfl⟩
section
variable {w w' : World} {R R' : Nat → Prop} {ι ι' : Nat → Value} {st : St} {a : Act} {F : Fx} {φ φ' : Nat → List Nat}
theorem Sat.ok (h : Sat F R ι φ st a w) : ObjsOk w R ι φ st.objs := ⟨h.objs, fun o x ho g hg => (h.mine o x ho g hg).2, h.apart, h.tab⟩
theorem Sat.kill (h : Sat F R ι φ st a w) (ps : List Nat) : Sat F R ι φ (st.kill ps) a w := by
  have hd : ∀ o, st.dom o → ps.contains o = false → (st.kill ps).dom o := fun o ho hc => St.kill_dom ho hc
  refine ⟨h.below, h.rlt, h.rsub, h.rnew, h.size, h.defers, fun d => ?_, fun o y hy => ?_, fun o y hy => ?_, fun o p y z g hy hz => ?_, h.pin⟩
  · cases ps with
    | nil => exact h.env d
    | cons p ps => exact RA.kill hd (h.env d)
  · obtain ⟨hc, x, hx, he | ⟨he, rfl⟩⟩ := St.kill_get hy
    · rw [he]; exact RO.kill hd (h.objs o x hx)
    · subst he; exact h.objs o _ hx
  · obtain ⟨_, x, hx, _⟩ := St.kill_get hy
    exact h.mine o x hx
  · obtain ⟨_, x, hx, _⟩ := St.kill_get hy
    obtain ⟨_, x', hx', _⟩ := St.kill_get hz
    exact h.apart o p x x' g hx hx'
/-- THE STEP: the world turns where the objects of 'ch' lie; these are new or others. -/
theorem Sat.step (h : Sat F R ι φ st a w) (ch : Nat → Prop) {objs' : Nat → Option Ob} (hb : BelowM F.M F.w w') (hRk : ∀ b, R b → R' b ∧ w'.heap[b]? = w.heap[b]?) (hRl : ∀ b, R' b → b < w'.heap.size) (hRn : ∀ b, R' b → F.R b ∨ F.M b ∨ F.w.heap.size ≤ b)
    (hdom : ∀ o, st.dom o → domO objs' o ∧ ι' o = ι o)
    (hold : ∀ o x, objs' o = some x → ¬ ch o → st.objs o = some x ∧ φ' o = φ o ∧ ∀ g ∈ φ o, w'.heap[g]? = w.heap[g]? ∧ ¬ R' g ∧ g < w'.heap.size)
    (hnew : ∀ o x, objs' o = some x → ch o → RO w' R' ι' (domO objs') (ι' o) (φ' o) x ∧ ∀ g ∈ φ' o, (F.M g ∨ F.w.heap.size ≤ g) ∧ ¬ R' g ∧ g < w'.heap.size)
    (hap : ∀ o p x y g, objs' o = some x → ch o → objs' p = some y → g ∈ φ' o → g ∈ φ' p → o = p) (hpin : ∀ o, pinN ≤ o → ι' o = ι o) : Sat F R' ι' φ' ⟨st.env, objs'⟩ a w' := by
  have hR : ∀ b, R b → R' b := fun b hr => (hRk b hr).1
  have hRe : ∀ b, R b → w'.heap[b]? = w.heap[b]? := fun b hr => (hRk b hr).2
  refine ⟨hb, hRl, fun b hr => hR b (h.rsub b hr), hRn, h.size, h.defers, fun d => RA.keep hR hRe (fun o ho => (hdom o ho).1) (fun o ho => (hdom o ho).2) (h.env d), fun o x ho => ?_, fun o x ho g hg => ?_, fun o p x y g ho hp h1 h2 => ?_, fun o ho => (hpin o ho).trans (h.pin o ho)⟩
  · by_cases hc : ch o
    · exact (hnew o x ho hc).1
    · obtain ⟨h1, h2, h3⟩ := hold o x ho hc
      show RO w' R' ι' (domO objs') (ι' o) (φ' o) x
      rw [h2, (hdom o ⟨x, h1⟩).2]
      exact RO.keep hR hRe (fun o ho => (hdom o ho).1) (fun o ho => (hdom o ho).2) (fun g hg => (h3 g hg).1) (h.objs o x h1)
  · by_cases hc : ch o
    · exact (hnew o x ho hc).2 g hg
    · obtain ⟨h1, h2, h3⟩ := hold o x ho hc
      rw [h2] at hg
      exact ⟨(h.mine o x h1 g hg).1, (h3 g hg).2⟩
  · by_cases hc : ch o
    · exact hap o p x y g ho hc hp h1 h2
    · by_cases hc' : ch p
      · exact (hap p o y x g hp hc' ho h2 h1).symm
      · obtain ⟨e1, e2, _⟩ := hold o x ho hc
        obtain ⟨e3, e4, _⟩ := hold p y hp hc'
        rw [e2] at h1; rw [e4] at h2
        exact h.apart o p x y g e1 e3 h1 h2
end
def vAll {α β : Type} (f : α → Option β) : List α → Option (List β)
  | [] => some []
  | b :: bs => match f b, vAll f bs with
    | some x, some xs => some (x :: xs)
    | _, _ => none
/-- What a cell is, taken for data. -/
def vB (objs : Nat → Option Ob) : Nat → B → Option D
  | _, .d x => some x
  | _, .own o => match objs o with
    | some (.arr κ xs []) => some (.rd κ xs)
    | some (.mp es) => some (.mp es)
    | _ => none
  | _, .ep o k i off => match objs o with
    | some (.arr κ xs []) => if k = κ.k then (xs[i]?).map fun es => .rp (es.drop off) else none
    | _ => none
  | n + 1, .ptr o off => match objs o with
    | some (.box _ cs) => (vAll (vB objs n) (cs.drop off)).map .rp
    | _ => none
  | 0, .ptr _ _ => none
  | _, .rel _ _ => none
  | _, .dead => none
/-- The blocks that may be read: what nobody turns, and the objects'. -/
def Seen (R : Nat → Prop) (φ : Nat → List Nat) (objs : Nat → Option Ob) (b : Nat) : Prop := R b ∨ fpO φ objs b
section
variable {w : World} {R : Nat → Prop} {ι : Nat → Value} {dom : Nat → Prop} {objs : Nat → Option Ob} {φ : Nat → List Nat}
theorem vAll_ok {α β γ : Type} {f : α → Option β} {r : γ → β → Prop} {r' : γ → α → Prop} (h : ∀ v b d, r' v b → f b = some d → r v d) : ∀ {vs : List γ} {bs : List α} {ds : List β}, F2 r' vs bs → vAll f bs = some ds → F2 r vs ds
  | _, _, _, .nil, e => by simp [vAll] at e; subst e; exact .nil
  | _, _, _, .cons (b := b) (bs := bs) h1 h2, e => by
    unfold vAll at e
    split at e
    · rename_i x xs e1 e2
      cases e
      exact .cons (h _ _ _ h1 e1) (vAll_ok h h2 e2)
    · cases e
theorem rp_of {us : List Value} {ds : List D} {R' : Nat → Prop} {g off : Nat} (hR : R' g) (hc : ∀ (j : Nat) (u : Value), us[j]? = some u → w.cell? ⟨g, off + j, none⟩ = some u) (h : F2 (RD w R') us ds) : RD w R' (.pointer (some ⟨g, off, none⟩)) (.rp ds) := by
  have hl := h.len
  refine .rp (fun j => us.getD j undef) hR (fun j hj => ?_) (fun j d hd => ?_)
  · rw [hc j (us[j]'(by omega)) (List.getElem?_eq_getElem (by omega))]
    simp [List.getD, show j < us.length by omega]
  · obtain ⟨u, hu, hr⟩ := h.get hd
    simp only [List.getD, hu, Option.getD_some]
    exact hr
/-- The cells of one element, taken for data. -/
theorem elem_data {R' : Nat → Prop} {v : Value} {κ : Ky} {xs : List (List D)} {S : List Nat} {i : Nat} {es : List D} (h : RArr w ι dom v κ xs [] S) (hS : ∀ b ∈ S, R' b) (hi : xs[i]? = some es) {g n cap : Nat} (hv : v = .slice (some ⟨g, 0, none⟩) n cap) (off : Nat) : RD w R' (.pointer (some ⟨g, i * κ.k + off, none⟩)) (.rp (es.drop off)) := by
  have hd := h.data hS
  rw [hv] at hd
  generalize hx : D.rd κ xs = x at hd
  cases hd with
  | nil => cases hx; simp at hi
  | rd c h0 h1 h2 hR hk hc hr =>
    cases hx
    have hes := hk i es hi
    refine .rp (fun j => c i (off + j)) hR (fun j hj => ?_) (fun j d hd => ?_)
    · have := hc i es (off + j) hi (by simp at hj; omega)
      rw [Nat.zero_add] at this
      rwa [Nat.add_assoc]
    · rw [List.getElem?_drop] at hd
      exact hr i es _ d hi hd
  | pv _ _ => cases hx
theorem vB_ok (ho : ∀ p y, objs p = some y → RO w R ι dom (ι p) (φ p) y) : ∀ (n : Nat) {v : Value} {b : B} {d : D}, RB w R ι dom v b → vB objs n b = some d → RD w (Seen R φ objs) v d
  | n, v, .d x, d, hv, h => by
    have : some x = some d := by cases n <;> exact h
    cases this
    exact RD.keep (fun b h => .inl h) (fun _ _ => rfl) hv
  | n, v, .own o, d, hv, h => by
    have h : (match objs o with | some (.arr κ xs []) => some (.rd κ xs) | some (.mp es) => some (D.mp es) | _ => none) = some d := by cases n <;> exact h
    split at h
    · rename_i e k xs hob
      cases h
      rw [hv.2]
      exact RArr.data (ho _ _ hob) fun b hb => .inr ⟨o, _, hob, hb⟩
    · rename_i es hob
      cases h
      obtain ⟨g, c, ms, h1, h2, h3, h4⟩ := ho _ _ hob
      rw [hv.2, h1]
      exact RD.mp (.inr ⟨o, _, hob, by rw [h2]; simp⟩) h3 h4
    · cases h
  | n, v, .ep o k i off, d, hv, h => by
    have h : (match objs o with | some (.arr κ xs []) => if k = κ.k then (xs[i]?).map fun es => D.rp (es.drop off) else none | _ => none) = some d := by cases n <;> exact h
    split at h
    · rename_i κ xs hob
      split at h
      · rename_i hk
        cases hx : xs[i]? with
        | none => simp [hx] at h
        | some es =>
          simp only [hx, Option.map_some, Option.some.injEq] at h
          subst h
          subst hk
          obtain ⟨_, g, n', cap, e1, e2⟩ := hv
          rw [e2]
          exact elem_data (ho _ _ hob) (fun b hb => .inr ⟨o, _, hob, hb⟩) hx e1 off
      · cases h
    · cases h
  | n + 1, v, .ptr o off, d, hv, h => by
    have h : (match objs o with | some (.box _ cs) => (vAll (vB objs n) (cs.drop off)).map .rp | _ => none) = some d := h
    split at h
    · rename_i T cs hob
      cases hva : vAll (vB objs n) (cs.drop off) with
      | none => simp [hva] at h
      | some ds =>
        simp only [hva, Option.map_some, Option.some.injEq] at h
        subst h
        obtain ⟨g, of, us, h1, h2, h3⟩ := cellsAt_ok (b := .ptr o off) ho hv (cs := cs.drop off) (by simp [cellsAt, hob])
        have hg : blk (ι o) = some g := by
          obtain ⟨_, g', e1, e2⟩ := hv
          rw [h1] at e2
          simp only [Value.pointer.injEq, Option.some.injEq, Addr.mk.injEq] at e2
          rw [e1, e2.1]; rfl
        rw [h1]
        exact rp_of (.inr ⟨o, _, hob, RO.blk_mem hg (ho _ _ hob)⟩) h3 (vAll_ok (r := RD w (Seen R φ objs)) (r' := RB w R ι dom) (fun _ _ _ h1 h2 => vB_ok ho n h1 h2) h2 hva)
    · cases h
  | 0, v, .ptr o off, d, hv, h => by simp [vB] at h
  | n, v, .rel _ _, d, hv, h => by cases n <;> simp [vB] at h
  | n, v, .dead, d, hv, h => by cases n <;> simp [vB] at h
end
end Go.Proofs.YtlblmofimjhbbaaDoor
