/- Regions in words about what is known: in order, and in whatever order. No program is named here. -/
import Derived.Test.YtlblmofimjhbbaaDoorY11
import Derived.Test.YtlblmofimjhbbaaDoorRg
namespace Go.Proofs.YtlblmofimjhbbaaDoor
open Go.RowKit
/-- Less is known, or the same is told in other words. -/
def Weak (st st' : St) : Prop := ∀ (F : Fx) (R : Nat → Prop) (ι : Nat → Value) (φ : Nat → List Nat) (a : Act) (w : World), Sat F R ι φ st a w → ∃ R' ι' φ', Sat F R' ι' φ' st' a w
theorem Weak.refl (st : St) : Weak st st := fun _ R ι φ _ _ h => ⟨R, ι, φ, h⟩
theorem Weak.trans {a b c : St} (h : Weak a b) (k : Weak b c) : Weak a c := fun F R ι φ ac w hs => by
  obtain ⟨R', ι', φ', h'⟩ := h F R ι φ ac w hs
  exact k F R' ι' φ' ac w h'
/-- What is known is told in other words, of which one fits. -/
def Wk (st : St) (X : St → Prop) : Prop := ∀ (F : Fx) (R : Nat → Prop) (ι : Nat → Value) (φ : Nat → List Nat) (a : Act) (w : World), Sat F R ι φ st a w → ∃ st', X st' ∧ ∃ R' ι' φ', Sat F R' ι' φ' st' a w
theorem Wk.of {st st' : St} {X : St → Prop} (h : Weak st st') (k : X st') : Wk st X := fun F R ι φ a w hs => ⟨st', k, h F R ι φ a w hs⟩
theorem Wk.before {st st' : St} {X : St → Prop} (h : Weak st st') (k : Wk st' X) : Wk st X := fun F R ι φ a w hs => by
  obtain ⟨R', ι', φ', h'⟩ := h F R ι φ a w hs
  exact k F R' ι' φ' a w h'
theorem Wk.mono {st : St} {X Y : St → Prop} (h : ∀ s, X s → Y s) (k : Wk st X) : Wk st Y := fun F R ι φ a w hs => by
  obtain ⟨s, h1, h2⟩ := k F R ι φ a w hs
  exact ⟨s, h s h1, h2⟩
def undefA : AV := .tup []
def putD (st : St) (d : Option Tmp) (x : AV) : St :=
  match d with
  | some d => ⟨upd st.env d x, st.objs⟩
  | none => st
def okDst (n : Nat) : Option Tmp → Bool
  | some d => decide (d < n)
  | none => true
def gslot (ops : List Oper) (j : Nat) : Option Tmp := (ops[j]?).bind (·.dst)
/-- .. or whatever else has been shown of an operation. -/
def VCRx (P : Program) (st : St) (o : Oper) (K : AV → Prop) : Prop := VCR P st o.op K ∨ ∃ x, OpS P st o x ∧ K x
/-- An operation gives some x and leaves some st' of which K is true. -/
def OpK (P : Program) (F : Fx) (st : St) (o : Oper) (K : AV → St → Prop) : Prop :=
  ∀ (a : Act) (w : World) (R : Nat → Prop) (ι : Nat → Value) (φ : Nat → List Nat), Sat F R ι φ st a w → ∀ (K' : Act → World → Prop) (Q : Exit → Act → World → Prop),
    (∀ x st' v w' R' ι' φ', K x st' → Sat F R' ι' φ' st' a w' → RA w' R' ι' st'.dom v x → K' (a.put o.dst v) w') → o.wp P a w K' Q
def VCWx (P : Program) (st : St) (o : Oper) (K : AV → St → Prop) : Prop := VCW P st o K ∨ ∀ F, OpK P F st o K
theorem OpK.of_W {P : Program} {F : Fx} {st st' : St} {o : Oper} {x : AV} {K : AV → St → Prop} (h : OpW P F st o x st') (hk : K x st') : OpK P F st o K := fun a w R ι φ hs K' Q hK => h a w R ι φ hs K' Q fun v w' R' ι' φ' hs' hv => hK x st' v w' R' ι' φ' hk hs' hv
theorem OpK.mono {P : Program} {F : Fx} {st : St} {o : Oper} {K K' : AV → St → Prop} (h : OpK P F st o K) (hK : ∀ x st', K x st' → K' x st') : OpK P F st o K' := fun a w R ι φ hs K2 Q h2 => h a w R ι φ hs K2 Q fun x st' v w' R' ι' φ' hk hs' hv => h2 x st' v w' R' ι' φ' (hK x st' hk) hs' hv
theorem VCRx_sound {P : Program} {st : St} {o : Oper} {K : AV → Prop} (h : VCRx P st o K) : ∃ x, OpS P st o x ∧ K x := h.elim VCR_sound id
theorem VCWx_sound {P : Program} {F : Fx} {st : St} {o : Oper} {K : AV → St → Prop} (h : VCWx P st o K) : OpK P F st o K :=
  h.elim (fun h => by obtain ⟨x, st', h1, h2⟩ := VCW_sound (F := F) h; exact OpK.of_W h1 h2) fun h => h F
/-- Operations in their order. -/
def VCL (P : Program) (n : Nat) (ops : List Oper) : List Oper → (St → Prop) → St → Prop
  | [], Q, st => Q st
  | o :: rest, Q, st => okDst n o.dst = true ∧ match o.guard with
    | none => Wk st fun st1 => VCWx P st1 o fun x st' => VCL P n ops rest Q (putD st' o.dst x)
    | some (j, want) => ∃ d, gslot ops j = some d ∧ ((st.env d = undefA ∧ VCL P n ops rest Q (putD st o.dst undefA)) ∨
        ∃ t, st.env d = pvA (.bool t) ∧ (t = want → Wk st fun st1 => VCWx P st1 o fun x st' => VCL P n ops rest Q (putD st' o.dst x)) ∧ (t = !want → VCL P n ops rest Q (putD st o.dst undefA)))
/-- A new variable, made ahead of all that looks at it. -/
def isAl (o : Oper) : Bool := match o.op, o.guard with
  | .alloc _, none => true
  | _, _ => false
def alAt (l : List Oper) (i : Nat) : Bool := match l[i]? with
  | some o => isAl o
  | none => false
def alIdx (l : List Oper) (m : Nat) : List Nat := (List.range m).filter fun i => alAt l i
/-- The new variables are taken up. -/
def VCA (P : Program) (l : List Oper) : List Nat → (St → Prop) → St → Prop
  | [], K, st => K st
  | i :: I, K, st => ∃ o T d zs, l[i]? = some o ∧ o.op = .alloc T ∧ o.dst = some d ∧ freeO st.objs d ∧ zeroCells P T = some zs ∧ VCA P l I K ⟨upd st.env d (.v (.c (.ptr d 0))), upd st.objs d (some (.box T (zs.map fun v => .d (.pv v))))⟩
/-- m operations that only read. -/
def VCP (P : Program) (n : Nat) (ops : List Oper) : Nat → List Oper → (St → Prop) → St → Prop
  | 0, _, Q, st => Q st
  | _ + 1, [], _, _ => False
  | m + 1, o :: rest, Q, st => if isAl o = true then VCP P n ops m rest Q (putD st o.dst deadA) else match o.guard with
    | none => VCRx P st o fun x => VCP P n ops m rest Q (putD st o.dst x)
    | some (j, want) => ∃ d, gslot ops j = some d ∧ ((st.env d = undefA ∧ VCP P n ops m rest Q (putD st o.dst undefA)) ∨
        ∃ t, st.env d = pvA (.bool t) ∧ (t = want → VCRx P st o fun x => VCP P n ops m rest Q (putD st o.dst x)) ∧ (t = !want → VCP P n ops m rest Q (putD st o.dst undefA)))
section
variable {P : Program} {F : Fx} {w : World} {n : Nat} {R : Nat → Prop} {ι : Nat → Value} {φ : Nat → List Nat} {st : St} {a : Act}
theorem Sat.putD (h : Sat F R ι φ st a w) {d : Option Tmp} {v : Value} {x : AV} (hd : okDst F.n d = true) (hx : RA w R ι st.dom v x) : Sat F R ι φ (putD st d x) (a.put d v) w := by
  cases d with
  | none => exact h
  | some d => exact h.put (by simpa [okDst] using hd) hx
theorem RA.undef {dom : Nat → Prop} : RA w R ι dom undef undefA := ⟨[], rfl, .nil⟩
theorem yielded_env {ops : List Oper} {j d : Nat} (he : RA w R ι st.dom (a.tmps.getD d undef) (st.env d)) (hg : gslot ops j = some d) :
    (∀ t, st.env d = pvA (.bool t) → yielded ops.toArray a.tmps j = some t) ∧ (st.env d = undefA → yielded ops.toArray a.tmps j = none) := by
  have e1 : ((ops.toArray[j]?).bind (·.dst)) = some d := by simpa [gslot] using hg
  constructor
  · intro t ht
    rw [ht] at he
    obtain ⟨hv, _⟩ := RA.pv he
    unfold yielded
    rw [e1]
    simp only [Option.bind_some]
    rw [Array.getD_eq_getD_getElem?] at hv
    cases ho : a.tmps[d]? with
    | none => rw [ho] at hv; simp [undef] at hv
    | some u => rw [ho] at hv; simp only [Option.getD_some] at hv; rw [hv]
  · intro ht
    rw [ht] at he
    obtain ⟨vs, hv, h2⟩ := he
    unfold yielded
    rw [e1]
    simp only [Option.bind_some]
    rw [Array.getD_eq_getD_getElem?] at hv
    cases ho : a.tmps[d]? with
    | none => rfl
    | some u => rw [ho] at hv; simp only [Option.getD_some] at hv; rw [hv]
theorem VCL_sound {ops : List Oper} {Q : Exit → Act → World → Prop} {Qs : St → Prop} (hQ : ∀ st a w R ι φ, Qs st → Sat F R ι φ st a w → Q .normal a w) : ∀ {l : List Oper} {st : St} {a : Act} {w : World} {R : Nat → Prop} {ι : Nat → Value} {φ : Nat → List Nat}, VCL P F.n ops l Qs st → Sat F R ι φ st a w → wpList P ops.toArray Q l a w
  | [], st, a, w, R, ι, φ, h, hs => hQ st a w R ι φ h hs
  | o :: rest, st, a, w, R, ι, φ, h, hs => by
    unfold VCL at h
    obtain ⟨hd, h⟩ := h
    have run : (Wk st fun st1 => VCWx P st1 o (fun x st' => VCL P F.n ops rest Qs (Go.Proofs.YtlblmofimjhbbaaDoor.putD st' o.dst x))) → ∀ K : Act → World → Prop, (∀ a w, wpList P ops.toArray Q rest a w → K a w) → o.wp P a w K Q := fun h K hK => by
      obtain ⟨st1, h, R1, ι1, φ1, hs1⟩ := h F R ι φ a w hs
      exact VCWx_sound (F := F) h a w R1 ι1 φ1 hs1 K Q fun x st' v w' R' ι' φ' h2 hs' hv => hK _ _ (VCL_sound hQ h2 (hs'.putD hd hv))
    have skip : VCL P F.n ops rest Qs (Go.Proofs.YtlblmofimjhbbaaDoor.putD st o.dst undefA) → wpList P ops.toArray Q rest (a.put o.dst undef) w := fun h => VCL_sound hQ h (hs.putD hd RA.undef)
    refine wpList_step fun K hK => ?_
    split at h
    · rename_i hg
      rw [if_pos (by simp [Region.wanted, hg])]
      exact run h K hK
    · rename_i j want hg
      obtain ⟨d, hgs, h | ⟨t, ht, h1, h2⟩⟩ := h
      · have hy := (yielded_env (hs.env d) hgs).2 h.1
        rw [if_neg (by simp [Region.wanted, hg, hy])]
        exact hK _ _ (skip h.2)
      · have hy := (yielded_env (hs.env d) hgs).1 t ht
        by_cases he : t = want
        · rw [if_pos (by simp [Region.wanted, hg, hy, he])]
          exact run (h1 he) K hK
        · rw [if_neg (by simp [Region.wanted, hg, hy, he])]
          exact hK _ _ (skip (h2 (by cases t <;> cases want <;> simp_all)))
/-- One operation of those that only read: carried out or passed over. -/
def StepP (P : Program) (ops : List Oper) (st : St) (o : Oper) (x : AV) : Prop :=
  (isAl o = true ∧ x = deadA) ∨ (isAl o = false ∧
  (((o.guard = none ∨ ∃ j want d, o.guard = some (j, want) ∧ gslot ops j = some d ∧ st.env d = pvA (.bool want)) ∧ OpS P st o x) ∨
  ((∃ j want d, o.guard = some (j, want) ∧ gslot ops j = some d ∧ (st.env d = undefA ∨ st.env d = pvA (.bool !want))) ∧ x = undefA)))
inductive RunP (P : Program) (ops : List Oper) : St → List Oper → List AV → St → Prop
  | nil {st : St} : RunP P ops st [] [] st
  | cons {st st' : St} {o : Oper} {rest : List Oper} {x : AV} {xs : List AV} : StepP P ops st o x → RunP P ops (Go.Proofs.YtlblmofimjhbbaaDoor.putD st o.dst x) rest xs st' → RunP P ops st (o :: rest) (x :: xs) st'
theorem VCP_run {ops : List Oper} {Qs : St → Prop} : ∀ {m : Nat} {l : List Oper} {st : St}, VCP P n ops m l Qs st → ∃ xs st', RunP P ops st (l.take m) xs st' ∧ Qs st'
  | 0, l, st, h => ⟨[], st, .nil, h⟩
  | m + 1, [], st, h => h.elim
  | m + 1, o :: rest, st, h => by
    unfold VCP at h
    by_cases hal : isAl o = true
    · rw [if_pos hal] at h
      obtain ⟨xs, st', h3, h4⟩ := VCP_run h
      exact ⟨deadA :: xs, st', .cons (.inl ⟨hal, rfl⟩) h3, h4⟩
    rw [if_neg hal] at h
    have hal' : isAl o = false := by simpa using hal
    have run : VCRx P st o (fun x => VCP P n ops m rest Qs (Go.Proofs.YtlblmofimjhbbaaDoor.putD st o.dst x)) → (o.guard = none ∨ ∃ j want d, o.guard = some (j, want) ∧ gslot ops j = some d ∧ st.env d = pvA (.bool want)) → ∃ xs st', RunP P ops st ((o :: rest).take (m + 1)) xs st' ∧ Qs st' := fun h hw => by
      obtain ⟨x, h1, h2⟩ := VCRx_sound h
      obtain ⟨xs, st', h3, h4⟩ := VCP_run h2
      exact ⟨x :: xs, st', .cons (.inr ⟨hal', .inl ⟨hw, h1⟩⟩) h3, h4⟩
    have skip : VCP P n ops m rest Qs (Go.Proofs.YtlblmofimjhbbaaDoor.putD st o.dst undefA) → (∃ j want d, o.guard = some (j, want) ∧ gslot ops j = some d ∧ (st.env d = undefA ∨ st.env d = pvA (.bool !want))) → ∃ xs st', RunP P ops st ((o :: rest).take (m + 1)) xs st' ∧ Qs st' := fun h hw => by
      obtain ⟨xs, st', h3, h4⟩ := VCP_run h
      exact ⟨undefA :: xs, st', .cons (.inr ⟨hal', .inr ⟨hw, rfl⟩⟩) h3, h4⟩
    split at h
    · rename_i hg
      exact run h (.inl hg)
    · rename_i j want hg
      obtain ⟨d, hgs, h | ⟨t, ht, h1, h2⟩⟩ := h
      · exact skip h.2 ⟨j, want, d, hg, hgs, .inl h.1⟩
      · by_cases he : t = want
        · exact run (h1 he) (.inr ⟨j, want, d, hg, hgs, by rw [ht, he]⟩)
        · have : t = !want := by cases t <;> cases want <;> simp_all
          exact skip (h2 this) ⟨j, want, d, hg, hgs, .inr (by rw [ht, this])⟩
theorem RunP.objs {ops : List Oper} : ∀ {l : List Oper} {st st' : St} {xs : List AV}, RunP P ops st l xs st' → st'.objs = st.objs ∧ xs.length = l.length
  | _, _, _, _, .nil => ⟨rfl, rfl⟩
  | _, st, _, _, .cons (o := o) h1 h2 => by
    obtain ⟨h3, h4⟩ := h2.objs
    refine ⟨h3.trans ?_, by simp [h4]⟩
    unfold Go.Proofs.YtlblmofimjhbbaaDoor.putD
    split <;> rfl
/-- What is known when the k-th of them comes up, in the order of the text. -/
theorem RunP.get {ops : List Oper} : ∀ {l : List Oper} {st st' : St} {xs : List AV} {k : Nat} {o : Oper}, RunP P ops st l xs st' → (∀ i j, i < l.length → j < l.length → i ≠ j → rgDst l i ≠ rgDst l j) → l[k]? = some o →
    ∃ sk x, xs[k]? = some x ∧ StepP P ops sk o x ∧ sk.objs = st.objs ∧ (∀ j t, j < k → rgDst l j = some t → ∃ y, xs[j]? = some y ∧ sk.env t = y) ∧ (∀ t, (∀ j, j < k → rgDst l j ≠ some t) → sk.env t = st.env t)
  | _, st, _, _, k, o, .nil, _, h => by simp at h
  | _, st, _, _, 0, o, .cons (x := x) h1 h2, _, h => by
    simp at h; subst h
    exact ⟨st, x, rfl, h1, rfl, fun j t hj => absurd hj (Nat.not_lt_zero _), fun t _ => rfl⟩
  | _, st, _, _, k + 1, o, .cons (o := o') (rest := rest) (x := x') h1 h2, hne, h => by
    obtain ⟨sk, x, hx, hs, ho, he, hold⟩ := h2.get (k := k) (o := o) (fun i j hi hj hij he => hne (i + 1) (j + 1) (by simpa using hi) (by simpa using hj) (by omega) (by simpa [rgDst] using he)) (by simpa using h)
    have hdst : rgDst (o' :: rest) 0 = o'.dst := by simp [rgDst]
    have hrest : ∀ j, rgDst (o' :: rest) (j + 1) = rgDst rest j := fun j => by simp [rgDst]
    have hk : k < rest.length := by
      have : rest[k]? = some o := by simpa using h
      exact (List.getElem?_eq_some_iff.1 this).1
    refine ⟨sk, x, by simpa using hx, hs, ho.trans (by unfold Go.Proofs.YtlblmofimjhbbaaDoor.putD; split <;> rfl), fun j t hj hd => ?_, fun t ht => ?_⟩
    · cases j with
      | zero =>
        refine ⟨x', rfl, ?_⟩
        rw [hdst] at hd
        rw [hold t fun j hj hd' => hne (j + 1) 0 (by simp; omega) (by simp) (by omega) (by rw [hrest, hdst, hd', hd])]
        simp [Go.Proofs.YtlblmofimjhbbaaDoor.putD, hd, upd_same]
      | succ j =>
        rw [hrest] at hd
        obtain ⟨y, hy, e⟩ := he j t (by omega) hd
        exact ⟨y, by simpa using hy, e⟩
    · rw [hold t fun j hj => by have := ht (j + 1) (by omega); rwa [hrest] at this]
      have := ht 0 (by omega)
      rw [hdst] at this
      unfold Go.Proofs.YtlblmofimjhbbaaDoor.putD
      split
      · rename_i d hd
        exact upd_ne _ _ fun e => this (by rw [hd, e])
      · rfl
theorem RunP.final {ops : List Oper} : ∀ {l : List Oper} {st st' : St} {xs : List AV}, RunP P ops st l xs st' → (∀ i j, i < l.length → j < l.length → i ≠ j → rgDst l i ≠ rgDst l j) →
    (∀ j t, rgDst l j = some t → ∃ y, xs[j]? = some y ∧ st'.env t = y) ∧ (∀ t, (∀ j, j < l.length → rgDst l j ≠ some t) → st'.env t = st.env t)
  | _, st, _, _, .nil, _ => ⟨fun j t h => by simp [rgDst] at h, fun t _ => rfl⟩
  | _, st, _, _, .cons (o := o') (rest := rest) (x := x') h1 h2, hne => by
    obtain ⟨he, hold⟩ := h2.final (fun i j hi hj hij he => hne (i + 1) (j + 1) (by simpa using hi) (by simpa using hj) (by omega) (by simpa [rgDst] using he))
    have hdst : rgDst (o' :: rest) 0 = o'.dst := by simp [rgDst]
    have hrest : ∀ j, rgDst (o' :: rest) (j + 1) = rgDst rest j := fun j => by simp [rgDst]
    refine ⟨fun j t hd => ?_, fun t ht => ?_⟩
    · cases j with
      | zero =>
        refine ⟨x', rfl, ?_⟩
        rw [hdst] at hd
        rw [hold t fun j hj hd' => hne (j + 1) 0 (by simp; omega) (by simp) (by omega) (by rw [hrest, hdst, hd', hd])]
        simp [Go.Proofs.YtlblmofimjhbbaaDoor.putD, hd, upd_same]
      | succ j =>
        rw [hrest] at hd
        obtain ⟨y, hy, e⟩ := he j t hd
        exact ⟨y, by simpa using hy, e⟩
    · rw [hold t fun j hj => by have := ht (j + 1) (by simp; omega); rwa [hrest] at this]
      have := ht 0 (by simp)
      rw [hdst] at this
      unfold Go.Proofs.YtlblmofimjhbbaaDoor.putD
      split
      · rename_i d hd
        exact upd_ne _ _ fun e => this (by rw [hd, e])
      · rfl
end
section
variable {P : Program} {F : Fx} {w : World} {R : Nat → Prop} {ι : Nat → Value} {φ : Nat → List Nat} {st : St} {a : Act}
/-- All that has been made since w may be read, but for the blocks G. -/
def Rmax (R : Nat → Prop) (w : World) (G : Nat → Prop) (w' : World) (b : Nat) : Prop := b < w'.heap.size ∧ (b < w.heap.size → R b) ∧ ¬ G b
theorem rgSteps_of {l : List Oper} {m : Nat} {a0 : Act} {w0 : World} {A : Nat → (Nat → Prop) → Value → World → Prop} {own : Nat → Value → List Nat} : ∀ (l' : List Oper) (k : Nat), (∀ i o, l'[i]? = some o → k + i < m → ∀ (v : Nat → Value) (w : World) (G : Nat → Prop), Below w0.heap.size w0 w → (∀ b, G b → w0.heap.size ≤ b ∧ b < w.heap.size) → (∀ j, (rgDeps l m (k + i)).contains j = true → A j G (v j) w) →
      wpList P l.toArray (rgPost o.dst a0.defers w (rgB A own (k + i) G w)) [o] (rgPut l a0 v m) w) → rgSteps P l m a0 w0 A own k l'
  | [], _, _ => trivial
  | o :: rest, k, h => ⟨fun hk => h 0 o rfl hk, rgSteps_of rest (k + 1) fun i o' hi hk => by
      have := h (i + 1) o' (by simpa using hi) (by omega)
      rwa [show k + (i + 1) = k + 1 + i by omega] at this⟩
theorem rgDeps_lt {l : List Oper} (hlt : ∀ i, i < l.length → ∀ j ∈ rgDirect l i, j < i) : ∀ f i, i < l.length → ∀ j ∈ rgDeps l f i, j < i := by
  intro f i
  induction i using Nat.strongRecOn with
  | _ i ih =>
    intro hi j hj
    rcases mem_rgDeps hj with hj | ⟨m, hm, hmi, hj⟩
    · exact hlt i hi j hj
    · have := ih m hmi (by omega) j hj
      omega
theorem Rmax.keep {w1 w2 : World} {dom : Nat → Prop} {v : Value} {x : AV} {G : Nat → Prop} {X : List Nat} (hb : Below w1.heap.size w1 w2) (hX : ∀ g ∈ X, w1.heap.size ≤ g) (h : RA w1 (Rmax R w G w1) ι dom v x) : RA w2 (Rmax R w (gAdd G X) w2) ι dom v x :=
  RA.keep (fun b h => ⟨Nat.lt_of_lt_of_le h.1 hb.size, h.2.1, fun hg => hg.elim h.2.2 fun hx => by have := hX b hx; have := h.1; omega⟩) (fun b h => hb.block b h.1) (fun _ h => h) (fun _ _ => rfl) h
theorem run_alloc {o : Oper} {T : TypeId} {zs : List Value} (hop : o.op = .alloc T) (hz : zeroCells P T = some zs) : (execOp a.eval o).run P w = .ok (.value (.pointer (some ⟨w.heap.size, 0, none⟩))) (w.alloc (.cells zs.toArray T)) := by
  obtain ⟨z, h1, h2, h3⟩ := run_zeroCells (w := w) hz
  unfold execOp
  rw [hop]
  simp only [Instr.alloc, Sem.run_bind, h1, Result.andThen_ok, newVar, newRow, run_newObj, Sem.run_pure, ← h2, Array.toArray_toList]
  rfl
/-- A block that nobody knows is taken up as a new variable. -/
theorem Sat.claim (h : Sat F R ι φ st a w) {d T g : Nat} {zs : List Value} (hn : freeO st.objs d) (hv : a.tmps.getD d undef = .pointer (some ⟨g, 0, none⟩)) (hg : w.heap[g]? = some (.cells zs.toArray T (0, 0))) (hz : zs.all goodV = true) (hnew : F.w.heap.size ≤ g) (hR : ¬ R g) (hφ : ∀ o x, st.objs o = some x → g ∉ φ o) :
    Sat F R (upd ι d (.pointer (some ⟨g, 0, none⟩))) (upd φ d [g]) ⟨upd st.env d (.v (.c (.ptr d 0))), upd st.objs d (some (.box T (zs.map fun v => .d (.pv v))))⟩ a w := by
  obtain ⟨hn1, hn2⟩ := hn.none
  have hlt : g < w.heap.size := (Array.getElem?_eq_some_iff.1 hg).1
  have hne : ∀ p, st.dom p → p ≠ d := fun p ⟨y, hy⟩ e => by subst e; rw [hn1] at hy; cases hy
  have hst := h.step (fun q => q = d) (objs' := upd st.objs d (some (.box T (zs.map fun v => .d (.pv v))))) (ι' := upd ι d (.pointer (some ⟨g, 0, none⟩))) (φ' := upd φ d [g]) h.below (fun b hb => ⟨hb, rfl⟩) h.rlt h.rnew (fun q hq => ⟨by obtain ⟨y, hy⟩ := hq; exact ⟨y, (upd_ne _ _ (hne q ⟨y, hy⟩)).trans hy⟩, upd_ne _ _ (hne q hq)⟩) (fun q x hq hqd => by
      rw [upd_ne _ _ hqd] at hq
      exact ⟨hq, upd_ne _ _ hqd, fun b hb => ⟨rfl, (h.mine q x hq b hb).2⟩⟩) (fun q x hq hqd => by
      subst hqd
      rw [upd_same] at hq
      cases hq
      rw [upd_same, upd_same]
      exact ⟨⟨g, zs, rfl, rfl, hg, good_F2 hz⟩, fun b hb => by simp only [List.mem_singleton] at hb; subst hb; exact ⟨.inr hnew, hR, hlt⟩⟩) (fun q r x y b hq hqd hr h1 h2 => by
      subst hqd
      rw [upd_same] at h1
      simp only [List.mem_singleton] at h1
      subst h1
      by_cases hrq : r = q
      · exact hrq.symm
      · rw [upd_ne _ _ hrq] at hr h2
        exact absurd h2 (hφ r y hr)) (fun q hq => upd_ne _ _ (by omega))
  refine ⟨hst.below, hst.rlt, hst.rsub, hst.rnew, hst.size, hst.defers, fun t => ?_, hst.objs, hst.mine, hst.apart, hst.pin⟩
  by_cases ht : t = d
  · subst ht
    simp only [upd_same]
    rw [hv]
    exact ⟨⟨_, upd_same _ _ _⟩, g, upd_same _ _ _, rfl⟩
  · simp only [upd_ne _ _ ht]
    exact hst.env t
theorem VCA_sound {l : List Oper} {K : St → Prop} {C : Prop} (hK : ∀ st R ι φ, K st → Sat F R ι φ st a w → C) (g : Nat → Nat) : ∀ (I : List Nat) {st : St} {ι : Nat → Value} {φ : Nat → List Nat}, VCA P l I K st → Sat F R ι φ st a w → (∀ i ∈ I, ∀ o T d zs, l[i]? = some o → o.op = .alloc T → o.dst = some d → zeroCells P T = some zs → a.tmps.getD d undef = .pointer (some ⟨g i, 0, none⟩) ∧ w.heap[g i]? = some (.cells zs.toArray T (0, 0))) →
    (∀ i ∈ I, F.w.heap.size ≤ g i ∧ ¬ R (g i) ∧ ∀ o x, st.objs o = some x → g i ∉ φ o) → I.Nodup → (∀ i ∈ I, ∀ j ∈ I, i ≠ j → g i ≠ g j) → C
  | [], st, ι, φ, h, hs, _, _, _, _ => hK st R ι φ h hs
  | i :: I, st, ι, φ, h, hs, h1, h2, hn, h3 => by
    obtain ⟨o, T, d, zs, ho, hop, hd, hf, hz, h⟩ := h
    obtain ⟨q1, q2⟩ := h1 i (by simp) o T d zs ho hop hd hz
    obtain ⟨q3, q4, q5⟩ := h2 i (by simp)
    obtain ⟨z, _, _, hgood⟩ := run_zeroCells (w := w) hz
    have hn' := List.nodup_cons.1 hn
    refine VCA_sound hK g I h (hs.claim hf q1 q2 hgood q3 q4 q5) (fun j hj => h1 j (by simp [hj])) (fun j hj => ⟨(h2 j (by simp [hj])).1, (h2 j (by simp [hj])).2.1, fun p x hp => ?_⟩) hn'.2 (fun j hj k hk => h3 j (by simp [hj]) k (by simp [hk]))
    by_cases hpd : p = d
    · subst hpd
      simp only [upd_same, List.mem_singleton]
      exact h3 j (by simp [hj]) i (by simp) fun e => hn'.1 (e ▸ hj)
    · simp only [upd_ne _ _ hpd] at hp ⊢
      exact (h2 j (by simp [hj])).2.2 p x hp
theorem VCA_zero {l : List Oper} {K : St → Prop} : ∀ {I : List Nat} {st : St}, VCA P l I K st → ∀ i ∈ I, ∃ o T d zs, l[i]? = some o ∧ o.op = .alloc T ∧ o.dst = some d ∧ zeroCells P T = some zs
  | [], st, _, i, hi => by cases hi
  | j :: I, st, h, i, hi => by
    obtain ⟨o, T, d, zs, ho, hop, hd, hf, hz, h⟩ := h
    rcases List.mem_cons.1 hi with rfl | hi
    · exact ⟨o, T, d, zs, ho, hop, hd, hz⟩
    · exact VCA_zero h i hi
theorem rgDst_take {l : List Oper} {m j : Nat} (h : j < m) : rgDst (l.take m) j = rgDst l j := by simp [rgDst, h]
/-- THE REGION: m operations that only read and call, each on its own; the others behind them, in order. -/
theorem VCP_sound {id : Nat} {l : List Oper} {m : Nat} {Q : Exit → Act → World → Prop} {Qs : St → Prop} (hm : P.follows .mixedOrders = true) (hfl : l.all (fldOk P) = true) (hout : LetsOut Q → False) (hok : rgOk l m F.n = true) (hQp : ∀ c a t v w, Q (.panic c) (a.put (some t) v) w → Q (.panic c) a w)
    (hQ : ∀ st a w R ι φ, Qs st → Sat F R ι φ st a w → Q .normal a w) (h : VCP P F.n l m l (VCA P l (alIdx l m) (VCL P F.n l (rgTl l m) Qs)) st) (hs : Sat F R ι φ st a w) : (Code.region id l.toArray true).wp P Q a w := by
  have hok' : rgOk l m a.tmps.size = true := by rw [hs.size]; exact hok
  have hT := rgText_of hok'
  obtain ⟨xs, st', hrun, htl⟩ := VCP_run h
  have hzero := VCA_zero htl
  have hmem : ∀ i, i < m → alAt l i = true → i ∈ alIdx l m := fun i hi ha => List.mem_filter.2 ⟨List.mem_range.2 hi, ha⟩
  have hlen : (l.take m).length = m := by rw [List.length_take]; exact Nat.min_eq_left hT.le
  have hne : ∀ i j, i < (l.take m).length → j < (l.take m).length → i ≠ j → rgDst (l.take m) i ≠ rgDst (l.take m) j := fun i j hi hj hij => by
    rw [hlen] at hi hj
    rw [rgDst_take hi, rgDst_take hj]
    exact hT.ne i j hi hj hij
  have hobjs := hrun.objs
  have hput : ∀ v, RgFrame l m a v (· < m) (rgPut l a v m) := fun v => rgPut_frame hT.dst hT.ne v m (Nat.le_refl _)
  let A : Nat → (Nat → Prop) → Value → World → Prop := fun j G v w' => if alAt l j = true then ∃ g o T zs, l[j]? = some o ∧ o.op = .alloc T ∧ zeroCells P T = some zs ∧ v = .pointer (some ⟨g, 0, none⟩) ∧ w'.heap[g]? = some (.cells zs.toArray T (0, 0)) else RA w' (Rmax R w G w') ι st.dom v (xs.getD j undefA)
  let own : Nat → Value → List Nat := fun j v => if alAt l j = true then (match v with | .pointer (some a) => [a.block] | _ => []) else []
  have hdead : ∀ j, j < m → alAt l j = true → xs.getD j undefA = deadA := fun j hj hal => by
    obtain ⟨o, ho⟩ : ∃ o, l[j]? = some o := ⟨l[j]'(by have := hT.le; omega), List.getElem?_eq_getElem _⟩
    obtain ⟨sk, x, hx, hstep, _⟩ := hrun.get hne (show (l.take m)[j]? = some o by rw [List.getElem?_take, if_pos hj]; exact ho)
    have hal' : isAl o = true := by simpa [alAt, ho] using hal
    rcases hstep with ⟨_, rfl⟩ | ⟨h, _⟩
    · simp [List.getD, hx]
    · rw [hal'] at h; cases h
  have hAx : ∀ j G v w', j < m → A j G v w' → RA w' (Rmax R w G w') ι st.dom v (xs.getD j undefA) := fun j G v w' hj h => by
    by_cases hal : alAt l j = true
    · rw [hdead j hj hal]; trivial
    · have h : (if alAt l j = true then _ else RA w' (Rmax R w G w') ι st.dom v (xs.getD j undefA)) := h
      rwa [if_neg hal] at h
  refine wp_region_rg m A own hfl hout hQp hm hok' (fun i G X v w1 w2 _ hb hX h => ?_) (rgSteps_of l 0 fun k o ho hk v w1 G hb hG hd => ?_) fun v w1 G hb hG hA => ?_
  · have h : (if alAt l i = true then _ else RA w1 (Rmax R w G w1) ι st.dom v (xs.getD i undefA)) := h
    show (if alAt l i = true then _ else RA w2 (Rmax R w (gAdd G X) w2) ι st.dom v (xs.getD i undefA))
    by_cases hal : alAt l i = true
    · rw [if_pos hal] at h ⊢
      obtain ⟨g, o, T, zs, q1, q2, q3, q4, q5⟩ := h
      exact ⟨g, o, T, zs, q1, q2, q3, q4, (hb.block g (Array.getElem?_eq_some_iff.1 q5).1).trans q5⟩
    · rw [if_neg hal] at h ⊢
      exact Rmax.keep hb hX h
  · rw [Nat.zero_add] at hk hd ⊢
    have ho' : (l.take m)[k]? = some o := by rw [List.getElem?_take, if_pos hk]; exact ho
    obtain ⟨sk, x, hx, hstep, hso, hse, hsold⟩ := hrun.get hne ho'
    have hAk : xs.getD k undefA = x := by simp [List.getD, hx]
    -- what is known of a slot that the operation looks at
    have slot : ∀ t, t ∈ o.looksAt l.toArray → RA w1 (Rmax R w G w1) ι st.dom ((rgPut l a v m).tmps.getD t undef) (sk.env t) := fun t ht => by
      by_cases hj : ∃ j, j < m ∧ rgDst l j = some t
      · obtain ⟨j, hjm, hjt⟩ := hj
        have hdep := hT.sees k o hk ho j t hjm hjt ht
        have hjk : j < k := rgDeps_lt hT.lt m k (by have := hT.le; omega) j hdep
        obtain ⟨y, hy, he⟩ := hse j t hjk (by rw [rgDst_take hjm]; exact hjt)
        have hv := hAx j G (v j) w1 hjm (hd j (by simpa using hdep))
        rw [show xs.getD j undefA = y by simp [List.getD, hy]] at hv
        rw [he, Array.getD_eq_getD_getElem?, (hput v).put j t hjm hjm hjt]
        exact hv
      · have hno : ∀ j, j < m → j < m → rgDst l j ≠ some t := fun j hjm _ e => hj ⟨j, hjm, e⟩
        rw [hsold t fun j hjk => by rw [rgDst_take (by omega)]; exact hno j (by omega) (by omega), Array.getD_eq_getD_getElem?, (hput v).old t hno, ← Array.getD_eq_getD_getElem?]
        exact RA.keep (fun b h => ⟨Nat.lt_of_lt_of_le (hs.rlt b h) hb.size, fun _ => h, fun hg => by have := (hG b hg).1; have := hs.rlt b h; omega⟩) (fun b h => hb.block b (hs.rlt b h)) (fun _ h => h) (fun _ _ => rfl) (hs.env t)
    have hobj : ObjsOk w1 (Rmax R w G w1) ι φ sk.objs := by
      rw [hso]
      refine ⟨fun p y hp => ?_, fun p y hp g hg => ?_, hs.apart, hs.tab.keep (fun b h => ⟨Nat.lt_of_lt_of_le (hs.rlt b h) hb.size, fun _ => h, fun hg => by have := (hG b hg).1; have := hs.rlt b h; omega⟩) fun b h => hb.block b (hs.rlt b h)⟩
      · exact RO.keep (fun b h => ⟨Nat.lt_of_lt_of_le (hs.rlt b h) hb.size, fun _ => h, fun hg => by have := (hG b hg).1; have := hs.rlt b h; omega⟩) (fun b h => hb.block b (hs.rlt b h)) (fun _ h => h) (fun _ _ => rfl) (fun g hg => hb.block g (hs.mine p y hp g hg).2.2) (hs.objs p y hp)
      · have := hs.mine p y hp g hg
        exact ⟨fun hr => this.2.1 (hr.2.1 this.2.2), Nat.lt_of_lt_of_le this.2.2 hb.size⟩
    have hdm : sk.dom = st.dom := by unfold St.dom; rw [hso]
    have hops : ∀ y ∈ o.op.operands.toList, RA w1 (Rmax R w G w1) ι sk.dom ((rgPut l a v m).eval y) (ev sk.env y) := fun y hy => by
      rw [hdm]
      cases y with
      | tmp t => exact slot t (by unfold Oper.looksAt; exact List.mem_append_left _ (List.mem_filterMap.2 ⟨_, hy, rfl⟩))
      | const u => exact constA_ok u
      | func f => exact RD.fn (vs := []) rfl (by simp)
      | global g => trivial
    obtain ⟨d, hdd, hds⟩ := hT.dst k hk
    have hod : o.dst = some d := by simpa [rgDst, ho] using hdd
    have hsz : (rgPut l a v m).tmps.size = a.tmps.size := (hput v).size
    have hdef : (rgPut l a v m).defers = a.defers := (hput v).defers
    have post : ∀ u w2, Below w1.heap.size w1 w2 → rgB A own k G w1 u w2 → rgPost o.dst a.defers w1 (rgB A own k G w1) .normal ((rgPut l a v m).put o.dst u) w2 := fun u w2 hb2 hA => by
      rw [hod]
      refine ⟨by simpa [Act.put] using hdef, hb2, ?_⟩
      show rgB A own k G w1 (((rgPut l a v m).put (some d) u).tmps.getD d undef) w2
      rw [Array.getD_eq_getD_getElem?]
      simp only [Act.put]
      rw [Array.getElem?_setIfInBounds_self_of_lt (by rw [hsz]; exact hds)]
      exact hA
    have guardSlot : ∀ j want g, o.guard = some (j, want) → gslot l j = some g → RA w1 (Rmax R w G w1) ι sk.dom ((rgPut l a v m).tmps.getD g undef) (sk.env g) := fun j want g hg hgs => by
      rw [hdm]
      refine slot g ?_
      unfold Oper.looksAt
      refine List.mem_append_right _ ?_
      rw [hg]
      simp only [gslot] at hgs
      simp [hgs]
    refine wpList_step fun K hK => ?_
    rcases hstep with ⟨hal, rfl⟩ | ⟨hal, hstep⟩
    · have hal' : alAt l k = true := by simpa [alAt, ho] using hal
      obtain ⟨o', T, d', zs, q1, q2, q3, q4⟩ := hzero k (hmem k hk hal')
      rw [ho] at q1; cases q1
      have hgd : o.guard = none := by
        unfold isAl at hal
        cases hg : o.guard with
        | none => rfl
        | some p => rw [q2, hg] at hal; cases hal
      rw [if_pos (by simp [Region.wanted, hgd])]
      unfold Oper.wp
      rw [run_alloc q2 q4, Oper.upon_value]
      have hb2 : Below w1.heap.size w1 (w1.alloc (.cells zs.toArray T)) := (Below.refl _ _).alloc (Nat.le_refl _) _
      refine hK _ _ (post _ _ hb2 ⟨?_, ?_⟩)
      · show (if alAt l k = true then _ else _)
        rw [if_pos hal']
        exact ⟨_, o, T, zs, ho, q2, q4, rfl, alloc_new_at _ _⟩
      · intro g hg
        have hg : g ∈ (if alAt l k = true then [w1.heap.size] else []) := hg
        rw [if_pos hal', List.mem_singleton] at hg
        subst hg
        exact ⟨Nat.le_refl _, by simp⟩
    have hal' : ¬ alAt l k = true := by simpa [alAt, ho] using hal
    have hown : ∀ u, own k u = [] := fun u => if_neg hal'
    have fin : ∀ u w2, RA w2 (Rmax R w G w2) ι st.dom u (xs.getD k undefA) → rgB A own k G w1 u w2 := fun u w2 h => by
      refine ⟨?_, fun g hg => by rw [hown] at hg; cases hg⟩
      show (if alAt l k = true then _ else RA w2 (Rmax R w (gAdd G (own k u)) w2) ι st.dom u (xs.getD k undefA))
      rw [if_neg hal', hown]
      exact RA.keep (fun b h => ⟨h.1, h.2.1, fun hg => hg.elim h.2.2 fun hx => by cases hx⟩) (fun _ _ => rfl) (fun _ h => h) (fun _ _ => rfl) h
    rcases hstep with ⟨hw, hopS⟩ | ⟨hw, rfl⟩
    · have hwant : Region.wanted o (yielded l.toArray (rgPut l a v m).tmps) = true := by
        rcases hw with hg | ⟨j, want, g, hg, hgs, he⟩
        · simp [Region.wanted, hg]
        · have := (yielded_env (guardSlot j want g hg hgs) hgs).1 want he
          simp [Region.wanted, hg, this]
      rw [if_pos hwant]
      refine hopS _ w1 (Rmax R w G w1) ι φ (fun b h => h.1) hobj hops K _ fun u w2 R' hb2 h1 h2 h3 hra => hK _ _ (post u w2 hb2 (fin u w2 ?_))
      rw [hAk]
      rw [hdm] at hra
      exact RA.keep (fun b hb' => ⟨h2 b hb', fun hlt => (h3 b hb' (Nat.lt_of_lt_of_le hlt hb.size)).2.1 hlt, fun hg => (h3 b hb' (hG b hg).2).2.2 hg⟩) (fun _ _ => rfl) (fun _ h => h) (fun _ _ => rfl) hra
    · have hwant : Region.wanted o (yielded l.toArray (rgPut l a v m).tmps) = false := by
        obtain ⟨j, want, g, hg, hgs, he⟩ := hw
        rcases he with he | he
        · have := (yielded_env (guardSlot j want g hg hgs) hgs).2 he
          simp [Region.wanted, hg, this]
        · have := (yielded_env (guardSlot j want g hg hgs) hgs).1 _ he
          simp [Region.wanted, hg, this]
      rw [if_neg (by rw [hwant]; exact Bool.false_ne_true)]
      refine hK _ _ (post undef w1 (Below.refl _ _) (fin undef w1 ?_))
      rw [hAk]
      exact RA.undef
  · -- behind them
    have hfin := hrun.final hne
    have hdm : st'.dom = st.dom := by unfold St.dom; rw [hobjs.1]
    have hs1 : Sat F (Rmax R w G w1) ι φ st a w1 := hs.world hb (fun b h => ⟨Nat.lt_of_lt_of_le (hs.rlt b h) hb.size, fun _ => h, fun hg => by have := (hG.new b hg).1; have := hs.rlt b h; omega⟩) (fun b h => h.1) (fun b h hlt => h.2.1 hlt)
    have hs2 : Sat F (Rmax R w G w1) ι φ st' (rgPut l a v m) w1 := by
      refine ⟨hs1.below, hs1.rlt, hs1.rsub, hs1.rnew, by rw [(hput v).size]; exact hs1.size, by rw [(hput v).defers]; exact hs1.defers, fun t => ?_, fun p y hp => by rw [hdm]; exact hs1.objs p y (by rw [← hobjs.1]; exact hp), fun p y hp => hs1.mine p y (by rw [← hobjs.1]; exact hp), fun o p x y g ho hp => hs1.apart o p x y g (by rw [← hobjs.1]; exact ho) (by rw [← hobjs.1]; exact hp), hs1.pin⟩
      rw [hdm]
      by_cases hj : ∃ j, j < m ∧ rgDst l j = some t
      · obtain ⟨j, hjm, hjt⟩ := hj
        obtain ⟨y, hy, he⟩ := hfin.1 j t (by rw [rgDst_take hjm]; exact hjt)
        have hv := hAx j G (v j) w1 hjm (hA j hjm)
        rw [show xs.getD j undefA = y by simp [List.getD, hy]] at hv
        rw [he, Array.getD_eq_getD_getElem?, (hput v).put j t hjm hjm hjt]
        exact hv
      · have hno : ∀ j, j < m → j < m → rgDst l j ≠ some t := fun j hjm _ e => hj ⟨j, hjm, e⟩
        rw [hfin.2 t fun j hjk => by rw [hlen] at hjk; rw [rgDst_take hjk]; exact hno j hjk hjk, Array.getD_eq_getD_getElem?, (hput v).old t hno, ← Array.getD_eq_getD_getElem?]
        exact hs1.env t
    have hA' : ∀ i, i ∈ alIdx l m → ∃ g o T zs, l[i]? = some o ∧ o.op = .alloc T ∧ zeroCells P T = some zs ∧ v i = .pointer (some ⟨g, 0, none⟩) ∧ w1.heap[g]? = some (.cells zs.toArray T (0, 0)) := fun i hi => by
      obtain ⟨hi1, hi2⟩ := List.mem_filter.1 hi
      have h : (if alAt l i = true then _ else RA w1 (Rmax R w G w1) ι st.dom (v i) (xs.getD i undefA)) := hA i (List.mem_range.1 hi1)
      rwa [if_pos hi2] at h
    let g : Nat → Nat := fun i => match v i with | .pointer (some a) => a.block | _ => 0
    have hown : ∀ i, i ∈ alIdx l m → g i ∈ own i (v i) := fun i hi => by
      obtain ⟨b, o, T, zs, q1, q2, q3, q4, q5⟩ := hA' i hi
      show g i ∈ (if alAt l i = true then _ else [])
      rw [if_pos (List.mem_filter.1 hi).2]
      show (match v i with | .pointer (some a) => a.block | _ => 0) ∈ _
      rw [q4]
      simp
    have hlt : ∀ i, i ∈ alIdx l m → i < m := fun i hi => List.mem_range.1 (List.mem_filter.1 hi).1
    refine VCA_sound (fun st R ι φ h hs => VCL_sound hQ h hs) g (alIdx l m) htl hs2 (fun i hi o T d zs ho hop hd hz => ?_) (fun i hi => ?_) (List.nodup_range.filter _) (fun i hi j hj hij he => ?_)
    · obtain ⟨b, o', T', zs', q1, q2, q3, q4, q5⟩ := hA' i hi
      rw [ho] at q1; cases q1
      rw [hop] at q2; cases q2
      rw [hz] at q3; cases q3
      have hgi : g i = b := by show (match v i with | .pointer (some a) => a.block | _ => 0) = b; rw [q4]
      rw [hgi]
      refine ⟨?_, q5⟩
      rw [Array.getD_eq_getD_getElem?, (hput v).put i d (hlt i hi) (hlt i hi) (by simp [rgDst, ho, hd]), Option.getD_some]
      exact q4
    · have hGi := hG.has i (hlt i hi) trivial (g i) (hown i hi)
      have hn := hG.new _ hGi
      refine ⟨Nat.le_trans hs.below.size hn.1, fun hr => hr.2.2 hGi, fun p x hp hg => ?_⟩
      have := (hs.mine p x (by rw [← hobjs.1]; exact hp) _ hg).2.2
      omega
    · exact hG.dis i j (hlt i hi) (hlt j hj) trivial trivial hij (g i) (hown i hi) (by rw [he]; exact hown j hj)
end
end Go.Proofs.YtlblmofimjhbbaaDoor
