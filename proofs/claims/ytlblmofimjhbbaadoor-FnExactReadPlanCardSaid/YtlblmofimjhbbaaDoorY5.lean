/- A call: what is handed to the callee, what comes back. No program is named here. -/
import Derived.Test.YtlblmofimjhbbaaDoorY4
namespace Go.Proofs.YtlblmofimjhbbaaDoor
open Go.RowKit
/-- Which objects of the caller are which of the callee's. -/
def look1 : List (Nat × Nat) → Nat → Option Nat
  | [], _ => none
  | (p, i) :: l, q => if q = p then some i else look1 l q
def look2 : List (Nat × Nat) → Nat → Option Nat
  | [], _ => none
  | (p, i) :: l, j => if j = i then some p else look2 l j
def sg (ρ : List (Nat × Nat)) (c j : Nat) : Nat := match look2 ρ j with
  | some p => p
  | none => c + j
def cB (hob : Nat → Option Ob) (ρ : List (Nat × Nat)) : B → Option B
  | .d x => some (.d x)
  | .own p => match look1 ρ p with
    | some i => some (.own i)
    | none => (vB hob 3 (.own p)).map .d
  | .ptr p off => match look1 ρ p with
    | some i => some (.ptr i off)
    | none => (vB hob 3 (.ptr p off)).map .d
  | .ep p k i off => match look1 ρ p with
    | some q => some (.ep q k i off)
    | none => (vB hob 3 (.ep p k i off)).map .d
  | .rel p q => (look1 ρ p).map fun i => .rel i q
  | .dead => none
def cV1 (hob : Nat → Option Ob) (ρ : List (Nat × Nat)) : V1 → Option V1
  | .c b => (cB hob ρ b).map .c
  | .agg bs => (vAll (cB hob ρ) bs).map .agg
def cAV (hob : Nat → Option Ob) (ρ : List (Nat × Nat)) : AV → Option V1
  | .v x => cV1 hob ρ x
  | .tup _ => none
def argsC (hob : Nat → Option Ob) (ρ : List (Nat × Nat)) (env : Nat → AV) (xs : List Operand) : Option (List V1) := vAll (fun x => cAV hob ρ (ev env x)) xs
def cHo (ρ : List (Nat × Nat)) (h : Ho) : Option Ho := match h.l with
  | none => some h
  | some o => (look1 ρ o).map fun i => ⟨h.i, h.j, some i⟩
def cOb (hob : Nat → Option Ob) (ρ : List (Nat × Nat)) : Ob → Option Ob
  | .box T cs => (vAll (cB hob ρ) cs).map (.box T)
  | .arr κ xs hs => (vAll (cHo ρ) hs).map (.arr κ xs)
  | .mp es => some (.mp es)
  | .val _ => none
def insC (objs hob : Nat → Option Ob) (ρ : List (Nat × Nat)) : List (Nat × Nat) → Option (List (Nat × Ob))
  | [] => some []
  | (p, i) :: l => match (objs p).bind (cOb hob ρ), insC objs hob ρ l with
    | some X, some r => some ((i, X) :: r)
    | _, _ => none
def hide (ρ : List (Nat × Nat)) (objs : Nat → Option Ob) (o : Nat) : Option Ob := if (look1 ρ o).isSome then none else objs o
/-- The objects that a callee may read, beside those it may turn. -/
def hobOf (bor : Bool) (ρ : List (Nat × Nat)) (objs : Nat → Option Ob) : Nat → Option Ob := match bor with
  | true => hide ρ objs
  | false => fun _ => none
def nodupB : List Nat → Bool
  | [] => true
  | x :: xs => !(xs.contains x) && nodupB xs
theorem nodupB_ok : ∀ {l : List Nat}, nodupB l = true → l.Nodup
  | [], _ => .nil
  | x :: xs, h => by
    simp only [nodupB, Bool.and_eq_true, Bool.not_eq_true'] at h
    exact List.nodup_cons.2 ⟨by simpa using h.1, nodupB_ok h.2⟩
def ιC (ρ : List (Nat × Nat)) (ι : Nat → Value) (i : Nat) : Value := match look2 ρ i with
  | some p => ι p
  | none => ι i
def φC (ρ : List (Nat × Nat)) (φ : Nat → List Nat) (i : Nat) : List Nat := match look2 ρ i with
  | some p => φ p
  | none => []
section
variable {w w' : World} {R R' : Nat → Prop} {ι ι' : Nat → Value} {objs hob : Nat → Option Ob} {φ φ' : Nat → List Nat} {ρ : List (Nat × Nat)}
theorem look1_mem : ∀ {ρ : List (Nat × Nat)} {p i : Nat}, look1 ρ p = some i → (p, i) ∈ ρ
  | [], p, i, h => by cases h
  | (q, j) :: l, p, i, h => by
    simp only [look1] at h
    split at h
    · rename_i e; cases h; subst e; simp
    · exact List.mem_cons_of_mem _ (look1_mem h)
theorem look2_mem : ∀ {ρ : List (Nat × Nat)} {p i : Nat}, look2 ρ i = some p → (p, i) ∈ ρ
  | [], p, i, h => by cases h
  | (q, j) :: l, p, i, h => by
    simp only [look2] at h
    split at h
    · rename_i e; cases h; subst e; simp
    · exact List.mem_cons_of_mem _ (look2_mem h)
theorem look2_of_mem : ∀ {ρ : List (Nat × Nat)} {p i : Nat}, (ρ.map (·.2)).Nodup → (p, i) ∈ ρ → look2 ρ i = some p
  | (q, j) :: l, p, i, hn, h => by
    simp only [List.map_cons, List.nodup_cons] at hn
    simp only [look2]
    rcases List.mem_cons.1 h with h | h
    · cases h; rw [if_pos rfl]
    · rw [if_neg]
      · exact look2_of_mem hn.2 h
      · intro he
        exact hn.1 (List.mem_map.2 ⟨(p, i), h, he⟩)
theorem look1_of_mem : ∀ {ρ : List (Nat × Nat)} {p i : Nat}, (ρ.map (·.1)).Nodup → (p, i) ∈ ρ → look1 ρ p = some i
  | (q, j) :: l, p, i, hn, h => by
    simp only [List.map_cons, List.nodup_cons] at hn
    simp only [look1]
    rcases List.mem_cons.1 h with h | h
    · cases h; rw [if_pos rfl]
    · rw [if_neg]
      · exact look1_of_mem hn.2 h
      · intro he
        exact hn.1 (List.mem_map.2 ⟨(p, i), h, he⟩)
theorem insC_get : ∀ {l : List (Nat × Nat)} {ins : List (Nat × Ob)}, insC objs hob ρ l = some ins → ∀ {i : Nat} {X : Ob}, frO ins i = some X → ∃ p x, look2 l i = some p ∧ objs p = some x ∧ cOb hob ρ x = some X
  | [], ins, h, i, X, hX => by cases h; cases hX
  | (p, j) :: l, ins, h, i, X, hX => by
    simp only [insC] at h
    split at h
    · rename_i Y r hY hr
      cases h
      have hX : upd (frO r) j (some Y) i = some X := hX
      simp only [look2]
      by_cases hi : i = j
      · subst hi
        rw [upd_same] at hX
        cases hX
        rw [if_pos rfl]
        cases hp : objs p with
        | none => simp [hp] at hY
        | some x => exact ⟨p, x, rfl, hp, by simpa [hp] using hY⟩
      · rw [upd_ne _ _ hi] at hX
        rw [if_neg hi]
        exact insC_get hr hX
    · cases h
theorem insC_dom : ∀ {l : List (Nat × Nat)} {ins : List (Nat × Ob)}, insC objs hob ρ l = some ins → ∀ {i p : Nat}, look2 l i = some p → domO (frO ins) i
  | [], ins, h, i, p, hp => by cases hp
  | (q, j) :: l, ins, h, i, p, hp => by
    simp only [insC] at h
    split at h
    · rename_i Y r hY hr
      cases h
      simp only [look2] at hp
      by_cases hi : i = j
      · subst hi; exact ⟨Y, upd_same _ _ _⟩
      · rw [if_neg hi] at hp
        obtain ⟨X, hX⟩ := insC_dom hr hp
        exact ⟨X, (upd_ne _ _ hi).trans hX⟩
    · cases h
/-- A cell, as the callee sees it. -/
theorem cB_ok {dom domc : Nat → Prop} (hn : (ρ.map (·.2)).Nodup) (hd : ∀ i p, look2 ρ i = some p → domc i) (ho : ∀ p y, hob p = some y → RO w R ι dom (ι p) (φ p) y) {v : Value} {b b' : B} (h : RB w R ι dom v b) (e : cB hob ρ b = some b') : RB w (Seen R φ hob) (ιC ρ ι) domc v b' := by
  have rel : ∀ {p i}, look1 ρ p = some i → domc i ∧ ιC ρ ι i = ι p := fun {p i} h => by
    have := look2_of_mem hn (look1_mem h)
    exact ⟨hd i p this, by simp [ιC, this]⟩
  have data : ∀ {b : B}, RB w R ι dom v b → ((vB hob 3 b).map B.d) = some b' → RB w (Seen R φ hob) (ιC ρ ι) domc v b' := fun {b} h e => by
    rw [Option.map_eq_some_iff] at e
    obtain ⟨d, e1, rfl⟩ := e
    exact vB_ok ho 3 h e1
  cases b with
  | d x => cases e; exact RD.keep (fun b h => .inl h) (fun _ _ => rfl) h
  | own p =>
    simp only [cB] at e
    split at e
    · rename_i i hi
      cases e
      exact ⟨(rel hi).1, by rw [(rel hi).2]; exact h.2⟩
    · exact data h e
  | ptr p off =>
    simp only [cB] at e
    split at e
    · rename_i i hi
      cases e
      obtain ⟨_, g, h2, h3⟩ := h
      exact ⟨(rel hi).1, g, by rw [(rel hi).2]; exact h2, h3⟩
    · exact data h e
  | ep p k j off =>
    simp only [cB] at e
    split at e
    · rename_i i hi
      cases e
      obtain ⟨_, g, n, cap, h2, h3⟩ := h
      exact ⟨(rel hi).1, g, n, cap, by rw [(rel hi).2]; exact h2, h3⟩
    · exact data h e
  | rel p q =>
    simp only [cB, Option.map_eq_some_iff] at e
    obtain ⟨i, hi, rfl⟩ := e
    exact ⟨(rel hi).1, by rw [(rel hi).2]; exact h.2⟩
  | dead => cases e
theorem cV1_ok {dom domc : Nat → Prop} (hn : (ρ.map (·.2)).Nodup) (hd : ∀ i p, look2 ρ i = some p → domc i) (ho : ∀ p y, hob p = some y → RO w R ι dom (ι p) (φ p) y) {v : Value} {x y : V1} (h : RV1 w R ι dom v x) (e : cV1 hob ρ x = some y) : RV1 w (Seen R φ hob) (ιC ρ ι) domc v y := by
  cases x with
  | c b =>
    simp only [cV1, Option.map_eq_some_iff] at e
    obtain ⟨b', e1, rfl⟩ := e
    exact cB_ok hn hd ho h e1
  | agg bs =>
    simp only [cV1, Option.map_eq_some_iff] at e
    obtain ⟨bs', e1, rfl⟩ := e
    obtain ⟨vs, h1, h2⟩ := h
    exact ⟨vs, h1, vAll_ok (f := cB hob ρ) (r' := RB w R ι dom) (r := RB w (Seen R φ hob) (ιC ρ ι) domc) (fun _ _ _ h e => cB_ok hn hd ho h e) h2 e1⟩
theorem argsC_ok {dom domc : Nat → Prop} {env : Nat → AV} {a : Act} (hn : (ρ.map (·.2)).Nodup) (hd : ∀ i p, look2 ρ i = some p → domc i) (ho : ∀ p y, hob p = some y → RO w R ι dom (ι p) (φ p) y) : ∀ {xs : List Operand} {ys : List V1}, (∀ y ∈ xs, RA w R ι dom (a.eval y) (ev env y)) → argsC hob ρ env xs = some ys →
    F2 (RV1 w (Seen R φ hob) (ιC ρ ι) domc) (xs.map a.eval) ys
  | [], ys, _, h => by cases h; exact .nil
  | x :: xs, ys, hx, h => by
    simp only [argsC, vAll] at h
    split at h
    · rename_i y ys' e1 e2
      cases h
      refine .cons ?_ (argsC_ok hn hd ho (fun y hy => hx y (by simp [hy])) e2)
      have hv := hx x (by simp)
      unfold cAV at e1
      split at e1
      · rename_i z hz
        rw [hz] at hv
        exact cV1_ok hn hd ho hv e1
      · cases e1
    · cases h
theorem EH.ren {dom domc : Nat → Prop} {f : Nat → Option Nat} (hf : ∀ p i, f p = some i → dom p → domc i ∧ ι' i = ι p) {vs : List Value} {cs cs' : List Cl} {S : List Nat} (h : EH w ι dom vs cs S) : F2 (fun c c' => match c with | .d x => c' = .d x | .h none => c' = .h none | .h (some o) => ∃ i, f o = some i ∧ c' = .h (some i)) cs cs' → EH w ι' domc vs cs' S := by
  intro hF
  induction h generalizing cs' with
  | nil => cases hF; exact .nil
  | d h1 _ ih =>
    cases hF with
    | cons e hF =>
      cases e
      exact .d h1 (ih hF)
  | h h1 hl _ ih =>
    cases hF with
    | cons e hF =>
      rename_i l _ _ _ _ _ _
      cases l with
      | none => cases e; exact .h h1 (fun o ho => by cases ho) (ih hF)
      | some o =>
        obtain ⟨i, e1, rfl⟩ := e
        obtain ⟨q1, q2⟩ := hl o rfl
        refine .h h1 (fun o' ho => ?_) (ih hF)
        cases ho
        exact ⟨(hf o i e1 q1).1, by rw [(hf o i e1 q1).2]; exact q2⟩
def HoRel (f : Nat → Option Nat) (h h' : Ho) : Prop := h'.i = h.i ∧ h'.j = h.j ∧ match h.l with
  | none => h'.l = none
  | some o => ∃ i, f o = some i ∧ h'.l = some i
theorem F2.self {α : Type} {r : α → α → Prop} (h : ∀ a, r a a) : ∀ l : List α, F2 r l l
  | [] => .nil
  | a :: l => .cons (h a) (F2.self h l)
theorem punch_ren {f : Nat → Option Nat} (k : Nat) : ∀ {hs hs' : List Ho}, F2 (HoRel f) hs hs' → ∀ (ds : List D), F2 (fun c c' => match c with | .d x => c' = .d x | .h none => c' = .h none | .h (some o) => ∃ i, f o = some i ∧ c' = .h (some i)) (punch k (ds.map .d) hs) (punch k (ds.map .d) hs')
  | _, _, .nil, ds => by
    simp only [punch]
    induction ds with
    | nil => exact .nil
    | cons d ds ih => exact .cons rfl ih
  | _, _, .cons (a := h) (b := h') ⟨e1, e2, e3⟩ hF, ds => by
    have ih := punch_ren k hF ds
    simp only [punch, e1, e2]
    split
    · refine ih.set _ ?_
      cases hl : h.l with
      | none => rw [hl] at e3; simp only at e3; rw [e3]
      | some o => rw [hl] at e3; obtain ⟨i, q1, q2⟩ := e3; exact ⟨i, q1, by rw [q2]⟩
    · exact ih
theorem cHo_rel : ∀ {hs hs' : List Ho}, vAll (cHo ρ) hs = some hs' → F2 (HoRel (look1 ρ)) hs hs'
  | [], hs', h => by cases h; exact .nil
  | h :: hs, hs', e => by
    simp only [vAll] at e
    split at e
    · rename_i x xs e1 e2
      cases e
      refine .cons ?_ (cHo_rel e2)
      unfold cHo at e1
      unfold HoRel
      cases hl : h.l with
      | none => rw [hl] at e1; cases e1; exact ⟨rfl, rfl, hl⟩
      | some o =>
        rw [hl] at e1
        simp only [Option.map_eq_some_iff] at e1
        obtain ⟨i, q1, rfl⟩ := e1
        exact ⟨rfl, rfl, i, q1, rfl⟩
    · cases e
theorem cOb_ok {dom domc : Nat → Prop} (hn : (ρ.map (·.2)).Nodup) (hd : ∀ i p, look2 ρ i = some p → domc i) (ho : ∀ p y, hob p = some y → RO w R ι dom (ι p) (φ p) y) {v : Value} {S : List Nat} {x X : Ob} (h : RO w R ι dom v S x) (e : cOb hob ρ x = some X) : RO w (Seen R φ hob) (ιC ρ ι) domc v S X := by
  cases x with
  | box T cs =>
    simp only [cOb, Option.map_eq_some_iff] at e
    obtain ⟨cs', e1, rfl⟩ := e
    obtain ⟨g, vs, h1, h2, h3, h4⟩ := h
    exact ⟨g, vs, h1, h2, h3, vAll_ok (f := cB hob ρ) (r' := RB w R ι dom) (r := RB w (Seen R φ hob) (ιC ρ ι) domc) (fun _ _ _ h e => cB_ok hn hd ho h e) h4 e1⟩
  | arr κ xs hs =>
    simp only [cOb, Option.map_eq_some_iff] at e
    obtain ⟨hs', e1, rfl⟩ := e
    obtain ⟨h1, vs, S1, h2, h3, h4⟩ := h
    refine ⟨h1, vs, S1, h2, EH.ren (f := look1 ρ) (fun p i hi _ => ?_) h3 (punch_ren _ (cHo_rel e1) _), h4⟩
    have := look2_of_mem hn (look1_mem hi)
    exact ⟨hd i p this, by simp [ιC, this]⟩
  | mp es =>
    simp only [cOb, Option.some.injEq] at e
    subst e
    exact h
  | val b => simp [cOb] at e
/-- What the callee finds. -/
theorem call_pre (ho : ObjsOk w R ι φ objs) (hR : ∀ b, R b → b < w.heap.size) {bor : Bool} (hn1 : (ρ.map (·.1)).Nodup) (hn2 : (ρ.map (·.2)).Nodup) {ins : List (Nat × Ob)} (hi : insC objs (hobOf bor ρ objs) ρ ρ = some ins) :
    (∀ b, Seen R φ (hobOf bor ρ objs) b → b < w.heap.size) ∧ (∀ p y, hobOf bor ρ objs p = some y → RO w R ι (domO objs) (ι p) (φ p) y) ∧ (∀ i p, look2 ρ i = some p → domO (frO ins) i) ∧ ObjsOk w (Seen R φ (hobOf bor ρ objs)) (ιC ρ ι) (φC ρ φ) (frO ins) := by
  have hh : ∀ o x, hobOf bor ρ objs o = some x → objs o = some x ∧ look1 ρ o = none := fun o x h => by
    cases bor with
    | false => cases h
    | true =>
      have h : hide ρ objs o = some x := h
      unfold hide at h
      split at h
      · cases h
      · rename_i hc; exact ⟨h, by simpa using hc⟩
  have hro : ∀ p y, hobOf bor ρ objs p = some y → RO w R ι (domO objs) (ι p) (φ p) y := fun p y h => ho.1 p y (hh p y h).1
  have hd : ∀ i p, look2 ρ i = some p → domO (frO ins) i := fun i p h => insC_dom hi h
  refine ⟨?_, hro, hd, fun i X hX => ?_, fun i X hX g hg => ?_, fun i j X Y g hX hY h1 h2 => ?_, ho.2.2.2.keep (fun b h => .inl h) fun _ _ => rfl⟩
  · rintro b (h | ⟨o, x, h1, h2⟩)
    · exact hR b h
    · exact (ho.2.1 o x (hh o x h1).1 b h2).2
  · obtain ⟨p, x, e1, e2, e3⟩ := insC_get hi hX
    have e4 : ιC ρ ι i = ι p := by simp [ιC, e1]
    have e5 : φC ρ φ i = φ p := by simp [φC, e1]
    rw [e4, e5]
    exact cOb_ok hn2 hd hro (ho.1 p x e2) e3
  · obtain ⟨p, x, e1, e2, e3⟩ := insC_get hi hX
    have e5 : φC ρ φ i = φ p := by simp [φC, e1]
    rw [e5] at hg
    refine ⟨?_, (ho.2.1 p x e2 g hg).2⟩
    rintro (h | ⟨o, y, q1, q2⟩)
    · exact (ho.2.1 p x e2 g hg).1 h
    · obtain ⟨q3, q4⟩ := hh o y q1
      have := ho.2.2.1 p o x y g e2 q3 hg q2
      subst this
      have := look1_of_mem hn1 (look2_mem e1)
      rw [q4] at this; cases this
  · obtain ⟨p, x, e1, e2, e3⟩ := insC_get hi hX
    obtain ⟨q, y, f1, f2, f3⟩ := insC_get hi hY
    have e5 : φC ρ φ i = φ p := by simp [φC, e1]
    have f5 : φC ρ φ j = φ q := by simp [φC, f1]
    rw [e5] at h1; rw [f5] at h2
    have := ho.2.2.1 p q x y g e2 f2 h1 h2
    subst this
    have a1 := look1_of_mem hn1 (look2_mem e1)
    have a2 := look1_of_mem hn1 (look2_mem f1)
    rw [a1] at a2; cases a2; rfl
end
end Go.Proofs.YtlblmofimjhbbaaDoor
