/- Regions in words about what is known: in order, and in whatever order. No program is named here. -/
import Derived.Test.YthgdccokpgaicaaSx10
import Derived.Test.YthgdccokpgaicaaRg
namespace Go.Proofs.Ythgdccokpgaicaa
open Go.RowKit
def undefA : AV := .tup []
def putD (st : St) (d : Option Tmp) (x : AV) : St :=
  match d with
  | some d => ⟨upd st.env d x, st.objs⟩
  | none => st
def okDst (n : Nat) : Option Tmp → Bool
  | some d => decide (d < n)
  | none => true
def gslot (ops : List Oper) (j : Nat) : Option Tmp := (ops[j]?).bind (·.dst)
/-- Operations in their order. -/
def VCL (P : Program) (n : Nat) (ops : List Oper) : List Oper → (St → Prop) → St → Prop
  | [], Q, st => Q st
  | o :: rest, Q, st => okDst n o.dst = true ∧ match o.guard with
    | none => VCW P st o fun x st' => VCL P n ops rest Q (putD st' o.dst x)
    | some (j, want) => ∃ d, gslot ops j = some d ∧ ((st.env d = undefA ∧ VCL P n ops rest Q (putD st o.dst undefA)) ∨
        ∃ t, st.env d = pvA (.bool t) ∧ (t = want → VCW P st o fun x st' => VCL P n ops rest Q (putD st' o.dst x)) ∧ (t = !want → VCL P n ops rest Q (putD st o.dst undefA)))
/-- m operations that only read, then the others in their order. -/
def VCP (P : Program) (n : Nat) (ops : List Oper) : Nat → List Oper → (St → Prop) → St → Prop
  | 0, l, Q, st => VCL P n ops l Q st
  | _ + 1, [], _, _ => False
  | m + 1, o :: rest, Q, st => match o.guard with
    | none => VCR P st o.op fun x => VCP P n ops m rest Q (putD st o.dst x)
    | some (j, want) => ∃ d, gslot ops j = some d ∧ ((st.env d = undefA ∧ VCP P n ops m rest Q (putD st o.dst undefA)) ∨
        ∃ t, st.env d = pvA (.bool t) ∧ (t = want → VCR P st o.op fun x => VCP P n ops m rest Q (putD st o.dst x)) ∧ (t = !want → VCP P n ops m rest Q (putD st o.dst undefA)))
section
variable {P : Program} {w0 w : World} {n : Nat} {R : Nat → Prop} {ι : Nat → Value} {st : St} {a : Act}
theorem Sat.putD (h : Sat w0 n R ι st a w) {d : Option Tmp} {v : Value} {x : AV} (hd : okDst n d = true) (hx : RA w R ι st.dom v x) : Sat w0 n R ι (putD st d x) (a.put d v) w := by
  cases d with
  | none => exact h
  | some d => exact h.put (by simpa [okDst] using hd) hx
theorem RA.undef {dom : Nat → Prop} : RA w R ι dom undef undefA := ⟨[], rfl, .nil⟩
theorem yielded_env {ops : List Oper} {j d : Nat} (he : RA w R ι st.dom (a.tmps.getD d undef) (st.env d)) (hg : gslot ops j = some d) :
    (∀ t, st.env d = pvA (.bool t) → yielded ops.toArray a.tmps j = some t) ∧ (st.env d = undefA → yielded ops.toArray a.tmps j = none) := by
  have e1 : ((ops.toArray[j]?).bind (·.dst)) = some d := by simpa [gslot] using hg
  constructor
  · intro t ht
    rw [ht] at he
    obtain ⟨hv, _⟩ := RA.pv he
    unfold yielded
    rw [e1]
    simp only [Option.bind_some]
    rw [Array.getD_eq_getD_getElem?] at hv
    cases ho : a.tmps[d]? with
    | none => rw [ho] at hv; simp [undef] at hv
    | some u => rw [ho] at hv; simp only [Option.getD_some] at hv; rw [hv]
  · intro ht
    rw [ht] at he
    obtain ⟨vs, hv, h2⟩ := he
    unfold yielded
    rw [e1]
    simp only [Option.bind_some]
    rw [Array.getD_eq_getD_getElem?] at hv
    cases ho : a.tmps[d]? with
    | none => rfl
    | some u => rw [ho] at hv; simp only [Option.getD_some] at hv; rw [hv]
theorem VCL_sound {ops : List Oper} {Q : Exit → Act → World → Prop} {Qs : St → Prop} (hQ : ∀ st a w R ι, Qs st → Sat w0 n R ι st a w → Q .normal a w) : ∀ {l : List Oper} {st : St} {a : Act} {w : World} {R : Nat → Prop} {ι : Nat → Value}, VCL P n ops l Qs st → Sat w0 n R ι st a w → wpList P ops.toArray Q l a w
  | [], st, a, w, R, ι, h, hs => hQ st a w R ι h hs
  | o :: rest, st, a, w, R, ι, h, hs => by
    unfold VCL at h
    obtain ⟨hd, h⟩ := h
    have run : VCW P st o (fun x st' => VCL P n ops rest Qs (Go.Proofs.Ythgdccokpgaicaa.putD st' o.dst x)) → ∀ K : Act → World → Prop, (∀ a w, wpList P ops.toArray Q rest a w → K a w) → o.wp P a w K Q := fun h K hK => by
      obtain ⟨x, st', h1, h2⟩ := VCW_sound (w0 := w0) (n := n) h
      exact h1 a w R ι hs K Q fun v w' R' ι' hs' hv => hK _ _ (VCL_sound hQ h2 (hs'.putD hd hv))
    have skip : VCL P n ops rest Qs (Go.Proofs.Ythgdccokpgaicaa.putD st o.dst undefA) → wpList P ops.toArray Q rest (a.put o.dst undef) w := fun h => VCL_sound hQ h (hs.putD hd RA.undef)
    refine wpList_step fun K hK => ?_
    split at h
    · rename_i hg
      rw [if_pos (by simp [Region.wanted, hg])]
      exact run h K hK
    · rename_i j want hg
      obtain ⟨d, hgs, h | ⟨t, ht, h1, h2⟩⟩ := h
      · have hy := (yielded_env (hs.env d) hgs).2 h.1
        rw [if_neg (by simp [Region.wanted, hg, hy])]
        exact hK _ _ (skip h.2)
      · have hy := (yielded_env (hs.env d) hgs).1 t ht
        by_cases he : t = want
        · rw [if_pos (by simp [Region.wanted, hg, hy, he])]
          exact run (h1 he) K hK
        · rw [if_neg (by simp [Region.wanted, hg, hy, he])]
          exact hK _ _ (skip (h2 (by cases t <;> cases want <;> simp_all)))
/-- One operation of those that only read: carried out or passed over. -/
def StepP (P : Program) (N0 : Nat) (ops : List Oper) (st : St) (o : Oper) (x : AV) : Prop :=
  ((o.guard = none ∨ ∃ j want d, o.guard = some (j, want) ∧ gslot ops j = some d ∧ st.env d = pvA (.bool want)) ∧ OpS P N0 st o x) ∨
  ((∃ j want d, o.guard = some (j, want) ∧ gslot ops j = some d ∧ (st.env d = undefA ∨ st.env d = pvA (.bool !want))) ∧ x = undefA)
inductive RunP (P : Program) (N0 : Nat) (ops : List Oper) : St → List Oper → List AV → St → Prop
  | nil {st : St} : RunP P N0 ops st [] [] st
  | cons {st st' : St} {o : Oper} {rest : List Oper} {x : AV} {xs : List AV} : StepP P N0 ops st o x → RunP P N0 ops (Go.Proofs.Ythgdccokpgaicaa.putD st o.dst x) rest xs st' → RunP P N0 ops st (o :: rest) (x :: xs) st'
theorem VCP_run {N0 : Nat} {ops : List Oper} {Qs : St → Prop} : ∀ {m : Nat} {l : List Oper} {st : St}, VCP P n ops m l Qs st → ∃ xs st', RunP P N0 ops st (l.take m) xs st' ∧ VCL P n ops (l.drop m) Qs st'
  | 0, l, st, h => ⟨[], st, .nil, h⟩
  | m + 1, [], st, h => h.elim
  | m + 1, o :: rest, st, h => by
    unfold VCP at h
    have run : VCR P st o.op (fun x => VCP P n ops m rest Qs (Go.Proofs.Ythgdccokpgaicaa.putD st o.dst x)) → (o.guard = none ∨ ∃ j want d, o.guard = some (j, want) ∧ gslot ops j = some d ∧ st.env d = pvA (.bool want)) → ∃ xs st', RunP P N0 ops st ((o :: rest).take (m + 1)) xs st' ∧ VCL P n ops ((o :: rest).drop (m + 1)) Qs st' := fun h hw => by
      obtain ⟨x, h1, h2⟩ := VCR_sound (N0 := N0) h
      obtain ⟨xs, st', h3, h4⟩ := VCP_run h2
      exact ⟨x :: xs, st', .cons (.inl ⟨hw, h1⟩) h3, h4⟩
    have skip : VCP P n ops m rest Qs (Go.Proofs.Ythgdccokpgaicaa.putD st o.dst undefA) → (∃ j want d, o.guard = some (j, want) ∧ gslot ops j = some d ∧ (st.env d = undefA ∨ st.env d = pvA (.bool !want))) → ∃ xs st', RunP P N0 ops st ((o :: rest).take (m + 1)) xs st' ∧ VCL P n ops ((o :: rest).drop (m + 1)) Qs st' := fun h hw => by
      obtain ⟨xs, st', h3, h4⟩ := VCP_run h
      exact ⟨undefA :: xs, st', .cons (.inr ⟨hw, rfl⟩) h3, h4⟩
    split at h
    · rename_i hg
      exact run h (.inl hg)
    · rename_i j want hg
      obtain ⟨d, hgs, h | ⟨t, ht, h1, h2⟩⟩ := h
      · exact skip h.2 ⟨j, want, d, hg, hgs, .inl h.1⟩
      · by_cases he : t = want
        · exact run (h1 he) (.inr ⟨j, want, d, hg, hgs, by rw [ht, he]⟩)
        · have : t = !want := by cases t <;> cases want <;> simp_all
          exact skip (h2 this) ⟨j, want, d, hg, hgs, .inr (by rw [ht, this])⟩
theorem RunP.objs {N0 : Nat} {ops : List Oper} : ∀ {l : List Oper} {st st' : St} {xs : List AV}, RunP P N0 ops st l xs st' → st'.objs = st.objs ∧ xs.length = l.length
  | _, _, _, _, .nil => ⟨rfl, rfl⟩
  | _, st, _, _, .cons (o := o) h1 h2 => by
    obtain ⟨h3, h4⟩ := h2.objs
    refine ⟨h3.trans ?_, by simp [h4]⟩
    unfold Go.Proofs.Ythgdccokpgaicaa.putD
    split <;> rfl
/-- What is known when the k-th of them comes up, in the order of the text. -/
theorem RunP.get {N0 : Nat} {ops : List Oper} : ∀ {l : List Oper} {st st' : St} {xs : List AV} {k : Nat} {o : Oper}, RunP P N0 ops st l xs st' → (∀ i j, i < l.length → j < l.length → i ≠ j → rgDst l i ≠ rgDst l j) → l[k]? = some o →
    ∃ sk x, xs[k]? = some x ∧ StepP P N0 ops sk o x ∧ sk.objs = st.objs ∧ (∀ j t, j < k → rgDst l j = some t → ∃ y, xs[j]? = some y ∧ sk.env t = y) ∧ (∀ t, (∀ j, j < k → rgDst l j ≠ some t) → sk.env t = st.env t)
  | _, st, _, _, k, o, .nil, _, h => by simp at h
  | _, st, _, _, 0, o, .cons (x := x) h1 h2, _, h => by
    simp at h; subst h
    exact ⟨st, x, rfl, h1, rfl, fun j t hj => absurd hj (Nat.not_lt_zero _), fun t _ => rfl⟩
  | _, st, _, _, k + 1, o, .cons (o := o') (rest := rest) (x := x') h1 h2, hne, h => by
    obtain ⟨sk, x, hx, hs, ho, he, hold⟩ := h2.get (k := k) (o := o) (fun i j hi hj hij he => hne (i + 1) (j + 1) (by simpa using hi) (by simpa using hj) (by omega) (by simpa [rgDst] using he)) (by simpa using h)
    have hdst : rgDst (o' :: rest) 0 = o'.dst := by simp [rgDst]
    have hrest : ∀ j, rgDst (o' :: rest) (j + 1) = rgDst rest j := fun j => by simp [rgDst]
    have hk : k < rest.length := by
      have : rest[k]? = some o := by simpa using h
      exact (List.getElem?_eq_some_iff.1 this).1
    refine ⟨sk, x, by simpa using hx, hs, ho.trans (by unfold Go.Proofs.Ythgdccokpgaicaa.putD; split <;> rfl), fun j t hj hd => ?_, fun t ht => ?_⟩
    · cases j with
      | zero =>
        refine ⟨x', rfl, ?_⟩
        rw [hdst] at hd
        rw [hold t fun j hj hd' => hne (j + 1) 0 (by simp; omega) (by simp) (by omega) (by rw [hrest, hdst, hd', hd])]
        simp [Go.Proofs.Ythgdccokpgaicaa.putD, hd, upd_same]
      | succ j =>
        rw [hrest] at hd
        obtain ⟨y, hy, e⟩ := he j t (by omega) hd
        exact ⟨y, by simpa using hy, e⟩
    · rw [hold t fun j hj => by have := ht (j + 1) (by omega); rwa [hrest] at this]
      have := ht 0 (by omega)
      rw [hdst] at this
      unfold Go.Proofs.Ythgdccokpgaicaa.putD
      split
      · rename_i d hd
        exact upd_ne _ _ fun e => this (by rw [hd, e])
      · rfl
theorem RunP.final {N0 : Nat} {ops : List Oper} : ∀ {l : List Oper} {st st' : St} {xs : List AV}, RunP P N0 ops st l xs st' → (∀ i j, i < l.length → j < l.length → i ≠ j → rgDst l i ≠ rgDst l j) →
    (∀ j t, rgDst l j = some t → ∃ y, xs[j]? = some y ∧ st'.env t = y) ∧ (∀ t, (∀ j, j < l.length → rgDst l j ≠ some t) → st'.env t = st.env t)
  | _, st, _, _, .nil, _ => ⟨fun j t h => by simp [rgDst] at h, fun t _ => rfl⟩
  | _, st, _, _, .cons (o := o') (rest := rest) (x := x') h1 h2, hne => by
    obtain ⟨he, hold⟩ := h2.final (fun i j hi hj hij he => hne (i + 1) (j + 1) (by simpa using hi) (by simpa using hj) (by omega) (by simpa [rgDst] using he))
    have hdst : rgDst (o' :: rest) 0 = o'.dst := by simp [rgDst]
    have hrest : ∀ j, rgDst (o' :: rest) (j + 1) = rgDst rest j := fun j => by simp [rgDst]
    refine ⟨fun j t hd => ?_, fun t ht => ?_⟩
    · cases j with
      | zero =>
        refine ⟨x', rfl, ?_⟩
        rw [hdst] at hd
        rw [hold t fun j hj hd' => hne (j + 1) 0 (by simp; omega) (by simp) (by omega) (by rw [hrest, hdst, hd', hd])]
        simp [Go.Proofs.Ythgdccokpgaicaa.putD, hd, upd_same]
      | succ j =>
        rw [hrest] at hd
        obtain ⟨y, hy, e⟩ := he j t hd
        exact ⟨y, by simpa using hy, e⟩
    · rw [hold t fun j hj => by have := ht (j + 1) (by simp; omega); rwa [hrest] at this]
      have := ht 0 (by simp)
      rw [hdst] at this
      unfold Go.Proofs.Ythgdccokpgaicaa.putD
      split
      · rename_i d hd
        exact upd_ne _ _ fun e => this (by rw [hd, e])
      · rfl
end
end Go.Proofs.Ythgdccokpgaicaa
