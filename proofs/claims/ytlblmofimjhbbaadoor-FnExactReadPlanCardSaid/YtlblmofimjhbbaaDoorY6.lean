/- A call: what the caller has behind it. No program is named here. -/
import Derived.Test.YtlblmofimjhbbaaDoorY5
namespace Go.Proofs.YtlblmofimjhbbaaDoor
open Go.RowKit
def B.ren (σ : Nat → Nat) : B → B
  | .ptr o off => .ptr (σ o) off
  | .own o => .own (σ o)
  | .ep o k i off => .ep (σ o) k i off
  | .rel o q => .rel (σ o) q
  | b => b
def V1.ren (σ : Nat → Nat) : V1 → V1
  | .c b => .c (b.ren σ)
  | .agg bs => .agg (bs.map (B.ren σ))
def AV.ren (σ : Nat → Nat) : AV → AV
  | .v x => .v (x.ren σ)
  | .tup xs => .tup (xs.map (V1.ren σ))
def Ho.ren (σ : Nat → Nat) (h : Ho) : Ho := ⟨h.i, h.j, h.l.map σ⟩
def Ob.ren (σ : Nat → Nat) : Ob → Ob
  | .box T cs => .box T (cs.map (B.ren σ))
  | .arr κ xs hs => .arr κ xs (hs.map (Ho.ren σ))
  | .mp es => .mp es
  | .val l => .val l
def B.pu : B → Bool
  | .d x => pureD x
  | _ => true
def V1.pu : V1 → Bool
  | .c b => b.pu
  | .agg bs => bs.all B.pu
def AV.pu : AV → Bool
  | .v x => x.pu
  | .tup xs => xs.all V1.pu
def Ob.pu : Ob → Bool
  | .box _ cs => cs.all B.pu
  | .arr _ _ _ => true
  | .mp _ => true
  | .val l => l.all fun p => pureD p.2
def hasKey : List (Nat × Ob) → Nat → Bool
  | [], _ => false
  | (j, _) :: l, i => if i = j then true else hasKey l i
def deadL (outs : List (Nat × Ob)) : List (Nat × Nat) → List Nat
  | [] => []
  | (p, i) :: l => if hasKey outs i then deadL outs l else p :: deadL outs l
def putOuts (σ : Nat → Nat) : List (Nat × Ob) → (Nat → Option Ob) → Nat → Option Ob
  | [], f => f
  | (j, Y) :: l, f => upd (putOuts σ l f) (σ j) (some (Y.ren σ))
def putF {α : Type} (σ : Nat → Nat) : List (Nat × Ob) → (Nat → α) → (Nat → α) → Nat → α
  | [], _, f => f
  | (j, _) :: l, g, f => upd (putF σ l g f) (σ j) (g j)
def stAfter (st : St) (ρ : List (Nat × Nat)) (c : Nat) (outs : List (Nat × Ob)) : St := ⟨(st.kill (deadL outs ρ)).env, putOuts (sg ρ c) outs (st.kill (deadL outs ρ)).objs⟩
def outsOk (objs : Nat → Option Ob) (ρ : List (Nat × Nat)) (c : Nat) : List (Nat × Ob) → Bool
  | [] => true
  | (j, _) :: l => (match look2 ρ j with
    | some _ => Nat.ble pinN j
    | none => (objs (c + j)).isNone && Nat.blt (c + j) pinN) && outsOk objs ρ c l
section
variable {w w' : World} {R R' : Nat → Prop} {ι ι' : Nat → Value} {φ φ' : Nat → List Nat} {σ : Nat → Nat} {dom dom' : Nat → Prop}
theorem RB.ren (hσ : ∀ j, dom j → dom' (σ j) ∧ ι' (σ j) = ι j) {v : Value} {b : B} (hR : (∀ b, R b → R' b) ∨ b.pu = true) (h : RB w R ι dom v b) : RB w R' ι' dom' v (b.ren σ) := by
  cases b with
  | d x =>
    rcases hR with hR | hp
    · exact RD.keep hR (fun _ _ => rfl) h
    · exact pure_RD h hp
  | ptr o off => obtain ⟨h1, g, h2, h3⟩ := h; exact ⟨(hσ o h1).1, g, (hσ o h1).2.trans h2, h3⟩
  | own o => obtain ⟨h1, h2⟩ := h; exact ⟨(hσ o h1).1, h2.trans (hσ o h1).2.symm⟩
  | ep o k i off => obtain ⟨h1, g, n, cap, h2, h3⟩ := h; exact ⟨(hσ o h1).1, g, n, cap, (hσ o h1).2.trans h2, h3⟩
  | rel o q => obtain ⟨h1, h2⟩ := h; exact ⟨(hσ o h1).1, h2.trans (by rw [(hσ o h1).2])⟩
  | dead => trivial
theorem F2.ren {α β : Type} {r r' : α → β → Prop} {f : β → β} {p : β → Bool} {Q : Prop} (h : ∀ a b, Q ∨ p b = true → r a b → r' a (f b)) : ∀ {as : List α} {bs : List β}, Q ∨ bs.all p = true → F2 r as bs → F2 r' as (bs.map f)
  | _, _, _, .nil => .nil
  | _, _, hq, .cons h1 h2 => .cons (h _ _ (hq.imp id fun h => by simp only [List.all_cons, Bool.and_eq_true] at h; exact h.1) h1) (F2.ren h (hq.imp id fun h => by simp only [List.all_cons, Bool.and_eq_true] at h; exact h.2) h2)
theorem RV1.ren (hσ : ∀ j, dom j → dom' (σ j) ∧ ι' (σ j) = ι j) {v : Value} {x : V1} (hR : (∀ b, R b → R' b) ∨ x.pu = true) (h : RV1 w R ι dom v x) : RV1 w R' ι' dom' v (x.ren σ) := by
  cases x with
  | c b => exact RB.ren hσ hR h
  | agg bs => obtain ⟨vs, h1, h2⟩ := h; exact ⟨vs, h1, F2.ren (p := B.pu) (fun _ _ hq h => RB.ren hσ hq h) hR h2⟩
theorem RA.ren (hσ : ∀ j, dom j → dom' (σ j) ∧ ι' (σ j) = ι j) {v : Value} {x : AV} (hR : (∀ b, R b → R' b) ∨ x.pu = true) (h : RA w R ι dom v x) : RA w R' ι' dom' v (x.ren σ) := by
  cases x with
  | v x => exact RV1.ren hσ hR h
  | tup xs => obtain ⟨vs, h1, h2⟩ := h; exact ⟨vs, h1, F2.ren (p := V1.pu) (fun _ _ hq h => RV1.ren hσ hq h) hR h2⟩
theorem RO.ren (hσ : ∀ j, dom j → dom' (σ j) ∧ ι' (σ j) = ι j) {v : Value} {S : List Nat} {x : Ob} (hR : (∀ b, R b → R' b) ∨ x.pu = true) (h : RO w R ι dom v S x) : RO w R' ι' dom' v S (x.ren σ) := by
  cases x with
  | box T cs => obtain ⟨g, vs, h1, h2, h3, h4⟩ := h; exact ⟨g, vs, h1, h2, h3, F2.ren (p := B.pu) (fun _ _ hq h => RB.ren hσ hq h) hR h4⟩
  | mp es => exact h
  | val l =>
    refine ⟨h.1, h.2.1, fun p hp => ?_⟩
    rcases hR with hR | hR
    · exact RD.keep hR (fun _ _ => rfl) (h.2.2 p hp)
    · exact pure_RD (h.2.2 p hp) (List.all_eq_true.1 hR p hp)
  | arr κ xs hs =>
    obtain ⟨h1, vs, S1, h2, h3, h4⟩ := h
    refine ⟨h1, vs, S1, h2, EH.ren (f := fun o => some (σ o)) (fun p i hi hp => ?_) h3 (punch_ren _ (F2.map_right (r := Eq) (fun a b e => ?_) (F2.self (fun _ => rfl) hs)) _), h4⟩
    · cases hi; exact hσ p hp
    · subst e
      refine ⟨rfl, rfl, ?_⟩
      cases hl : a.l with
      | none => simp [Ho.ren, hl]
      | some o => exact ⟨_, rfl, by simp [Ho.ren, hl]⟩
theorem hasKey_iff : ∀ {l : List (Nat × Ob)} {j : Nat}, hasKey l j = true ↔ ∃ Y, frO l j = some Y
  | [], j => by simp [hasKey, frO]
  | (i, Y) :: l, j => by
    simp only [hasKey, frO]
    by_cases h : j = i
    · subst h; simp [upd_same]
    · rw [if_neg h, upd_ne _ _ h]; exact hasKey_iff
theorem deadL_mem {outs : List (Nat × Ob)} : ∀ {ρ : List (Nat × Nat)} {p : Nat}, p ∈ deadL outs ρ ↔ ∃ i, (p, i) ∈ ρ ∧ hasKey outs i = false
  | [], p => by simp [deadL]
  | (q, i) :: l, p => by
    simp only [deadL]
    cases hk : hasKey outs i with
    | true =>
      simp only [if_true]
      rw [deadL_mem]
      constructor
      · rintro ⟨j, h1, h2⟩; exact ⟨j, by simp [h1], h2⟩
      · rintro ⟨j, h1, h2⟩
        rcases List.mem_cons.1 h1 with h | h
        · cases h; rw [hk] at h2; cases h2
        · exact ⟨j, h, h2⟩
    | false =>
      simp only [Bool.false_eq_true, if_false, List.mem_cons]
      rw [deadL_mem]
      constructor
      · rintro (rfl | ⟨j, h1, h2⟩)
        · exact ⟨i, .inl rfl, hk⟩
        · exact ⟨j, .inr h1, h2⟩
      · rintro ⟨j, h1, h2⟩
        rcases h1 with h | h
        · cases h; exact .inl rfl
        · exact .inr ⟨j, h, h2⟩
theorem putOuts_key {f : Nat → Option Ob} : ∀ {l : List (Nat × Ob)} {j : Nat} {Y : Ob}, (∀ i j X Y, frO l i = some X → frO l j = some Y → σ i = σ j → i = j) → frO l j = some Y → putOuts σ l f (σ j) = some (Y.ren σ)
  | [], j, Y, _, h => by cases h
  | (i, X) :: l, j, Y, hin, h => by
    have h' : upd (frO l) i (some X) j = some Y := h
    simp only [putOuts]
    by_cases hj : j = i
    · subst hj
      rw [upd_same] at h' ⊢
      cases h'; rfl
    · rw [upd_ne _ _ hj] at h'
      rw [upd_ne]
      · refine putOuts_key (fun a b A B ha hb he => ?_) h'
        have key : ∀ {a A}, frO l a = some A → ∃ A', frO ((i, X) :: l) a = some A' := fun {a A} h => by
          by_cases hai : a = i
          · subst hai; exact ⟨X, upd_same _ _ _⟩
          · exact ⟨A, (upd_ne _ _ hai).trans h⟩
        obtain ⟨A', h1⟩ := key ha
        obtain ⟨B', h2⟩ := key hb
        exact hin a b A' B' h1 h2 he
      · intro he
        exact hj (hin j i Y X h (upd_same _ _ _) he)
theorem putOuts_old {f : Nat → Option Ob} {o : Nat} : ∀ {l : List (Nat × Ob)}, (∀ j Y, frO l j = some Y → σ j ≠ o) → putOuts σ l f o = f o
  | [], _ => rfl
  | (i, X) :: l, h => by
    simp only [putOuts]
    rw [upd_ne _ _ (fun e => h i X (upd_same _ _ _) e.symm)]
    refine putOuts_old fun j Y hj => ?_
    by_cases hji : j = i
    · subst hji; exact h j X (upd_same _ _ _)
    · exact h j Y ((upd_ne _ _ hji).trans hj)
theorem putF_key {α : Type} {g f : Nat → α} : ∀ {l : List (Nat × Ob)} {j : Nat} {Y : Ob}, (∀ i j X Y, frO l i = some X → frO l j = some Y → σ i = σ j → i = j) → frO l j = some Y → putF σ l g f (σ j) = g j
  | [], j, Y, _, h => by cases h
  | (i, X) :: l, j, Y, hin, h => by
    have h' : upd (frO l) i (some X) j = some Y := h
    simp only [putF]
    by_cases hj : j = i
    · subst hj
      rw [upd_same]
    · rw [upd_ne _ _ hj] at h'
      rw [upd_ne]
      · refine putF_key (fun a b A B ha hb he => ?_) h'
        have key : ∀ {a A}, frO l a = some A → ∃ A', frO ((i, X) :: l) a = some A' := fun {a A} h => by
          by_cases hai : a = i
          · subst hai; exact ⟨X, upd_same _ _ _⟩
          · exact ⟨A, (upd_ne _ _ hai).trans h⟩
        obtain ⟨A', h1⟩ := key ha
        obtain ⟨B', h2⟩ := key hb
        exact hin a b A' B' h1 h2 he
      · intro he
        exact hj (hin j i Y X h (upd_same _ _ _) he)
theorem putF_old {α : Type} {g f : Nat → α} {o : Nat} : ∀ {l : List (Nat × Ob)}, (∀ j Y, frO l j = some Y → σ j ≠ o) → putF σ l g f o = f o
  | [], _ => rfl
  | (i, X) :: l, h => by
    simp only [putF]
    rw [upd_ne _ _ (fun e => h i X (upd_same _ _ _) e.symm)]
    refine putF_old fun j Y hj => ?_
    by_cases hji : j = i
    · subst hji; exact h j X (upd_same _ _ _)
    · exact h j Y ((upd_ne _ _ hji).trans hj)
theorem outsOk_get {objs : Nat → Option Ob} {ρ : List (Nat × Nat)} {c : Nat} : ∀ {l : List (Nat × Ob)}, outsOk objs ρ c l = true → ∀ {j Y}, frO l j = some Y → (∃ p, look2 ρ j = some p ∧ pinN ≤ j) ∨ (look2 ρ j = none ∧ objs (c + j) = none ∧ c + j < pinN)
  | [], _, j, Y, h => by cases h
  | (i, X) :: l, hk, j, Y, h => by
    simp only [outsOk, Bool.and_eq_true] at hk
    have h' : upd (frO l) i (some X) j = some Y := h
    by_cases hj : j = i
    · subst hj
      have h1 := hk.1
      cases hl : look2 ρ j with
      | some p => rw [hl] at h1; exact .inl ⟨p, rfl, Nat.le_of_ble_eq_true h1⟩
      | none =>
        rw [hl] at h1
        simp only [Bool.and_eq_true, Option.isNone_iff_eq_none] at h1
        exact .inr ⟨rfl, h1.1, by have := h1.2; rw [Nat.blt] at this; exact Nat.le_of_ble_eq_true this⟩
    · rw [upd_ne _ _ hj] at h'
      exact outsOk_get hk.2 h'
end
section
variable {w w' : World} {R : Nat → Prop} {ι : Nat → Value} {φ : Nat → List Nat} {st : St} {a : Act} {F : Fx} {ρ : List (Nat × Nat)}
/-- BEHIND THE CALL. -/
theorem call_post (hs : Sat F R ι φ st a w) {bor : Bool} (hn1 : (ρ.map (·.1)).Nodup) (hn2 : (ρ.map (·.2)).Nodup) {ins outs : List (Nat × Ob)} (hi : insC st.objs (hobOf bor ρ st.objs) ρ ρ = some ins) {c : Nat} (hk : outsOk st.objs ρ c outs = true) {r : AV} (hp : bor = true → r.pu = true ∧ ∀ j Y, frO outs j = some Y → Y.pu = true) {v : Value}
    (h : After w (Seen R φ (hobOf bor ρ st.objs)) (ιC ρ ι) (φC ρ φ) (frO ins) r (frO outs) v w') : ∃ R' ι' φ', Sat F R' ι' φ' (stAfter st ρ c outs) a w' ∧ RA w' R' ι' (stAfter st ρ c outs).dom v (r.ren (sg ρ c)) := by
  obtain ⟨pre1, pre2, pre3, pre4, pre5, pre6⟩ := call_pre hs.ok hs.rlt hn1 hn2 hi
  obtain ⟨R1, ι1, φ1, hbel, hsub, hlt, hold, hra, hok, hfp, hpin⟩ := h
  have key := @outsOk_get _ _ _ outs hk
  -- the names
  have hsg : ∀ {j p}, look2 ρ j = some p → sg ρ c j = p := fun h => by simp [sg, h]
  have hsg0 : ∀ {j}, look2 ρ j = none → sg ρ c j = c + j := fun h => by simp [sg, h]
  have hmem : ∀ {p i}, (p, i) ∈ ρ → ∃ x, st.objs p = some x := fun {p i} h => by
    have h2 := look2_of_mem hn2 h
    obtain ⟨X, hX⟩ := pre3 i p h2
    obtain ⟨p', x, e1, e2, _⟩ := insC_get hi hX
    rw [h2] at e1; cases e1
    exact ⟨x, e2⟩
  have hinj : ∀ i j X Y, frO outs i = some X → frO outs j = some Y → sg ρ c i = sg ρ c j → i = j := fun i j X Y hi' hj' he => by
    rcases key hi' with ⟨p, e1, _⟩ | ⟨e1, e2, _⟩
    · rcases key hj' with ⟨q, f1, _⟩ | ⟨f1, f2, _⟩
      · rw [hsg e1, hsg f1] at he
        subst he
        have a1 := look1_of_mem hn1 (look2_mem e1)
        have a2 := look1_of_mem hn1 (look2_mem f1)
        rw [a1] at a2; cases a2; rfl
      · rw [hsg e1, hsg0 f1] at he
        obtain ⟨x, hx⟩ := hmem (look2_mem e1)
        rw [he, f2] at hx; cases hx
    · rcases key hj' with ⟨q, f1, _⟩ | ⟨f1, f2, _⟩
      · rw [hsg0 e1, hsg f1] at he
        obtain ⟨x, hx⟩ := hmem (look2_mem f1)
        rw [← he, e2] at hx; cases hx
      · rw [hsg0 e1, hsg0 f1] at he; omega
  -- the callee's blocks
  have hfpi : ∀ {g}, fpO (φC ρ φ) (frO ins) g → ∃ p i x, (p, i) ∈ ρ ∧ st.objs p = some x ∧ g ∈ φ p := fun {g} ⟨i, X, hX, hg⟩ => by
    obtain ⟨p, x, e1, e2, _⟩ := insC_get hi hX
    refine ⟨p, i, x, look2_mem e1, e2, ?_⟩
    simpa [φC, e1] using hg
  have hmine : ∀ {g}, fpO (φC ρ φ) (frO ins) g → F.M g ∨ F.w.heap.size ≤ g := fun {g} hg => by
    obtain ⟨p, i, x, _, h2, h3⟩ := hfpi hg
    exact (hs.mine p x h2 g h3).1
  have hnS : ∀ {g}, fpO (φC ρ φ) (frO ins) g → ¬ Seen R φ (hobOf bor ρ st.objs) g ∧ g < w.heap.size := fun {g} ⟨i, X, hX, hg⟩ => pre5 i X hX g hg
  have hRk : ∀ b, R b → ¬ fpO (φC ρ φ) (frO ins) b := fun b hr hf => (hnS hf).1 (.inl hr)
  have hRR : ((∀ b, R1 b → (R b ∨ (R1 b ∧ (w.heap.size ≤ b ∨ fpO (φC ρ φ) (frO ins) b)))) ∨ bor = true) := by
    cases bor with
    | true => exact .inr rfl
    | false =>
      refine .inl fun b hb => ?_
      rcases Nat.lt_or_ge b w.heap.size with hl | hge
      · rcases hold b hb hl with (h | ⟨o, x, h, _⟩) | h
        · exact .inl h
        · cases h
        · exact .inr ⟨hb, .inr h⟩
      · exact .inr ⟨hb, .inl hge⟩
  have hs1 := hs.kill (deadL outs ρ)
  -- an object that stays as it was
  have hstay : ∀ o x, (st.kill (deadL outs ρ)).objs o = some x → (∀ j Y, frO outs j = some Y → sg ρ c j ≠ o) → ∀ i, (o, i) ∉ ρ := fun o x ho hne i hm => by
    obtain ⟨hc, _⟩ := St.kill_get ho
    cases hk' : hasKey outs i with
    | false =>
      have : o ∈ deadL outs ρ := deadL_mem.2 ⟨i, hm, hk'⟩
      simp [List.contains_eq_mem, this] at hc
    | true =>
      obtain ⟨Y, hY⟩ := hasKey_iff.1 hk'
      exact hne i Y hY (hsg (look2_of_mem hn2 hm))
  let ι' := putF (sg ρ c) outs ι1 ι
  let φ' := putF (sg ρ c) outs φ1 φ
  let R' : Nat → Prop := fun b => R b ∨ (R1 b ∧ (w.heap.size ≤ b ∨ fpO (φC ρ φ) (frO ins) b))
  have hι : ∀ {j Y}, frO outs j = some Y → ι' (sg ρ c j) = ι1 j := fun h => putF_key hinj h
  have hφ : ∀ {j Y}, frO outs j = some Y → φ' (sg ρ c j) = φ1 j := fun h => putF_key hinj h
  have hpinned : ∀ {j Y p}, frO outs j = some Y → look2 ρ j = some p → ι1 j = ι p := fun {j Y p} h1 h2 => by
    rcases key h1 with ⟨q, e1, e2⟩ | ⟨e1, _⟩
    · rw [hpin j e2]
      simp [ιC, h2]
    · rw [h2] at e1; cases e1
  have hren : ∀ j, domO (frO outs) j → domO (putOuts (sg ρ c) outs (st.kill (deadL outs ρ)).objs) (sg ρ c j) ∧ ι' (sg ρ c j) = ι1 j := fun j ⟨Y, hY⟩ => ⟨⟨_, putOuts_key hinj hY⟩, hι hY⟩
  refine ⟨R', ι', φ', hs1.step (fun o => ∃ j Y, frO outs j = some Y ∧ sg ρ c j = o) (hs.below.trans hbel fun g hg => hmine hg) (fun b hr => ⟨.inl hr, hbel.block b (hs.rlt b hr) (hRk b hr)⟩) ?_ ?_ ?_ ?_ ?_ ?_ ?_, ?_⟩
  · rintro b (h | h)
    · exact Nat.lt_of_lt_of_le (hs.rlt b h) hbel.size
    · exact hlt b h.1
  · rintro b (h | ⟨_, h | h⟩)
    · exact hs.rnew b h
    · exact .inr (.inr (Nat.le_trans hs.below.size h))
    · exact .inr (hmine h)
  · intro o ho
    by_cases hch : ∃ j Y, frO outs j = some Y ∧ sg ρ c j = o
    · obtain ⟨j, Y, hY, rfl⟩ := hch
      refine ⟨⟨_, putOuts_key hinj hY⟩, ?_⟩
      rw [hι hY]
      rcases key hY with ⟨p, e1, _⟩ | ⟨e1, e2, _⟩
      · rw [hpinned hY e1, hsg e1]
      · obtain ⟨x, hx⟩ := ho
        obtain ⟨_, y, hy, _⟩ := St.kill_get hx
        rw [hsg0 e1, e2] at hy; cases hy
    · have hne : ∀ j Y, frO outs j = some Y → sg ρ c j ≠ o := fun j Y h e => hch ⟨j, Y, h, e⟩
      refine ⟨?_, putF_old hne⟩
      obtain ⟨x, hx⟩ := ho
      exact ⟨x, (putOuts_old hne).trans hx⟩
  · intro o x ho hch
    have hne : ∀ j Y, frO outs j = some Y → sg ρ c j ≠ o := fun j Y h e => hch ⟨j, Y, h, e⟩
    rw [putOuts_old hne] at ho
    refine ⟨ho, putF_old hne, fun g hg => ?_⟩
    have hm := hs1.mine o x ho g hg
    have hnf : ¬ fpO (φC ρ φ) (frO ins) g := fun hf => by
      obtain ⟨p, i, y, h1, h2, h3⟩ := hfpi hf
      obtain ⟨_, x', hx', _⟩ := St.kill_get ho
      have := hs.apart o p x' y g hx' h2 hg h3
      subst this
      exact hstay o x ho hne i h1
    refine ⟨hbel.block g hm.2.2 hnf, ?_, Nat.lt_of_lt_of_le hm.2.2 hbel.size⟩
    rintro (h | ⟨_, h | h⟩)
    · exact hm.2.1 h
    · have := hm.2.2; omega
    · exact hnf h
  · rintro o x ho ⟨j, Y, hY, rfl⟩
    rw [putOuts_key hinj hY] at ho
    cases ho
    rw [hι hY, hφ hY]
    refine ⟨RO.ren (fun j hj => hren j hj) ?_ (hok.1 j Y hY), fun g hg => ⟨?_, ?_, (hok.2.1 j Y hY g hg).2⟩⟩
    · exact hRR.imp id fun hb => (hp hb).2 j Y hY
    · rcases hfp g ⟨j, Y, hY, hg⟩ with h | h
      · exact hmine h
      · exact .inr (Nat.le_trans hs.below.size h)
    · rintro (h | h)
      · rcases hfp g ⟨j, Y, hY, hg⟩ with h' | h'
        · exact hRk g h h'
        · have := hs.rlt g h; omega
      · exact (hok.2.1 j Y hY g hg).1 h.1
  · rintro o p x y g ho ⟨j, Y, hY, rfl⟩ hpo h1 h2
    rw [hφ hY] at h1
    by_cases hch : ∃ j Y, frO outs j = some Y ∧ sg ρ c j = p
    · obtain ⟨j', Y', hY', rfl⟩ := hch
      rw [hφ hY'] at h2
      rw [hok.2.2.1 j j' Y Y' g hY hY' h1 h2]
    · have hne : ∀ j Y, frO outs j = some Y → sg ρ c j ≠ p := fun j Y h e => hch ⟨j, Y, h, e⟩
      rw [putOuts_old hne] at hpo
      have e : φ' p = φ p := putF_old hne
      rw [e] at h2
      exfalso
      rcases hfp g ⟨j, Y, hY, h1⟩ with hf | hge
      · obtain ⟨q, i, z, e1, e2, e3⟩ := hfpi hf
        obtain ⟨_, y', hy', _⟩ := St.kill_get hpo
        have := hs.apart p q y' z g hy' e2 h2 e3
        subst this
        exact hstay p y hpo hne i e1
      · have := (hs1.mine p y hpo g h2).2.2
        omega
  · intro o ho
    by_cases hch : ∃ j Y, frO outs j = some Y ∧ sg ρ c j = o
    · obtain ⟨j, Y, hY, rfl⟩ := hch
      rw [hι hY]
      rcases key hY with ⟨p, e1, _⟩ | ⟨e1, _, e3⟩
      · rw [hpinned hY e1, hsg e1]
      · rw [hsg0 e1] at ho; omega
    · exact putF_old fun j Y h e => hch ⟨j, Y, h, e⟩
  · exact RA.ren (fun j hj => hren j hj) (hRR.imp id fun hb => (hp hb).1) hra
end
end Go.Proofs.YtlblmofimjhbbaaDoor
