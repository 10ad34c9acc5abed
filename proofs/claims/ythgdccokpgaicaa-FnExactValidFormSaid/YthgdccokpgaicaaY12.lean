/- Regions in words about what is known: in order, and in whatever order. No program is named here. -/
import Derived.Test.YthgdccokpgaicaaY11
import Derived.Test.YthgdccokpgaicaaRg
namespace Go.Proofs.Ythgdccokpgaicaa
open Go.RowKit
/-- Less is known, or the same is told in other words. -/
def Weak (st st' : St) : Prop := ∀ (F : Fx) (R : Nat → Prop) (ι : Nat → Value) (φ : Nat → List Nat) (a : Act) (w : World), Sat F R ι φ st a w → ∃ R' ι' φ', Sat F R' ι' φ' st' a w
theorem Weak.refl (st : St) : Weak st st := fun _ R ι φ _ _ h => ⟨R, ι, φ, h⟩
theorem Weak.trans {a b c : St} (h : Weak a b) (k : Weak b c) : Weak a c := fun F R ι φ ac w hs => by
  obtain ⟨R', ι', φ', h'⟩ := h F R ι φ ac w hs
  exact k F R' ι' φ' ac w h'
def undefA : AV := .tup []
def putD (st : St) (d : Option Tmp) (x : AV) : St :=
  match d with
  | some d => ⟨upd st.env d x, st.objs⟩
  | none => st
def okDst (n : Nat) : Option Tmp → Bool
  | some d => decide (d < n)
  | none => true
def gslot (ops : List Oper) (j : Nat) : Option Tmp := (ops[j]?).bind (·.dst)
/-- Operations in their order. -/
def VCL (P : Program) (n : Nat) (ops : List Oper) : List Oper → (St → Prop) → St → Prop
  | [], Q, st => Q st
  | o :: rest, Q, st => okDst n o.dst = true ∧ match o.guard with
    | none => ∃ st1, Weak st st1 ∧ VCW P st1 o fun x st' => VCL P n ops rest Q (putD st' o.dst x)
    | some (j, want) => ∃ d, gslot ops j = some d ∧ ((st.env d = undefA ∧ VCL P n ops rest Q (putD st o.dst undefA)) ∨
        ∃ t, st.env d = pvA (.bool t) ∧ (t = want → ∃ st1, Weak st st1 ∧ VCW P st1 o fun x st' => VCL P n ops rest Q (putD st' o.dst x)) ∧ (t = !want → VCL P n ops rest Q (putD st o.dst undefA)))
/-- m operations that only read, then the others in their order. -/
def VCP (P : Program) (n : Nat) (ops : List Oper) : Nat → List Oper → (St → Prop) → St → Prop
  | 0, l, Q, st => VCL P n ops l Q st
  | _ + 1, [], _, _ => False
  | m + 1, o :: rest, Q, st => match o.guard with
    | none => VCR P st o.op fun x => VCP P n ops m rest Q (putD st o.dst x)
    | some (j, want) => ∃ d, gslot ops j = some d ∧ ((st.env d = undefA ∧ VCP P n ops m rest Q (putD st o.dst undefA)) ∨
        ∃ t, st.env d = pvA (.bool t) ∧ (t = want → VCR P st o.op fun x => VCP P n ops m rest Q (putD st o.dst x)) ∧ (t = !want → VCP P n ops m rest Q (putD st o.dst undefA)))
section
variable {P : Program} {F : Fx} {w : World} {n : Nat} {R : Nat → Prop} {ι : Nat → Value} {φ : Nat → List Nat} {st : St} {a : Act}
theorem Sat.putD (h : Sat F R ι φ st a w) {d : Option Tmp} {v : Value} {x : AV} (hd : okDst F.n d = true) (hx : RA w R ι st.dom v x) : Sat F R ι φ (putD st d x) (a.put d v) w := by
  cases d with
  | none => exact h
  | some d => exact h.put (by simpa [okDst] using hd) hx
theorem RA.undef {dom : Nat → Prop} : RA w R ι dom undef undefA := ⟨[], rfl, .nil⟩
theorem yielded_env {ops : List Oper} {j d : Nat} (he : RA w R ι st.dom (a.tmps.getD d undef) (st.env d)) (hg : gslot ops j = some d) :
    (∀ t, st.env d = pvA (.bool t) → yielded ops.toArray a.tmps j = some t) ∧ (st.env d = undefA → yielded ops.toArray a.tmps j = none) := by
  have e1 : ((ops.toArray[j]?).bind (·.dst)) = some d := by simpa [gslot] using hg
  constructor
  · intro t ht
    rw [ht] at he
    obtain ⟨hv, _⟩ := RA.pv he
    unfold yielded
    rw [e1]
    simp only [Option.bind_some]
    rw [Array.getD_eq_getD_getElem?] at hv
    cases ho : a.tmps[d]? with
    | none => rw [ho] at hv; simp [undef] at hv
    | some u => rw [ho] at hv; simp only [Option.getD_some] at hv; rw [hv]
  · intro ht
    rw [ht] at he
    obtain ⟨vs, hv, h2⟩ := he
    unfold yielded
    rw [e1]
    simp only [Option.bind_some]
    rw [Array.getD_eq_getD_getElem?] at hv
    cases ho : a.tmps[d]? with
    | none => rfl
    | some u => rw [ho] at hv; simp only [Option.getD_some] at hv; rw [hv]
theorem VCL_sound {ops : List Oper} {Q : Exit → Act → World → Prop} {Qs : St → Prop} (hQ : ∀ st a w R ι φ, Qs st → Sat F R ι φ st a w → Q .normal a w) : ∀ {l : List Oper} {st : St} {a : Act} {w : World} {R : Nat → Prop} {ι : Nat → Value} {φ : Nat → List Nat}, VCL P F.n ops l Qs st → Sat F R ι φ st a w → wpList P ops.toArray Q l a w
  | [], st, a, w, R, ι, φ, h, hs => hQ st a w R ι φ h hs
  | o :: rest, st, a, w, R, ι, φ, h, hs => by
    unfold VCL at h
    obtain ⟨hd, h⟩ := h
    have run : (∃ st1, Weak st st1 ∧ VCW P st1 o (fun x st' => VCL P F.n ops rest Qs (Go.Proofs.Ythgdccokpgaicaa.putD st' o.dst x))) → ∀ K : Act → World → Prop, (∀ a w, wpList P ops.toArray Q rest a w → K a w) → o.wp P a w K Q := fun ⟨st1, hw, h⟩ K hK => by
      obtain ⟨R1, ι1, φ1, hs1⟩ := hw F R ι φ a w hs
      obtain ⟨x, st', h1, h2⟩ := VCW_sound (F := F) h
      exact h1 a w R1 ι1 φ1 hs1 K Q fun v w' R' ι' φ' hs' hv => hK _ _ (VCL_sound hQ h2 (hs'.putD hd hv))
    have skip : VCL P F.n ops rest Qs (Go.Proofs.Ythgdccokpgaicaa.putD st o.dst undefA) → wpList P ops.toArray Q rest (a.put o.dst undef) w := fun h => VCL_sound hQ h (hs.putD hd RA.undef)
    refine wpList_step fun K hK => ?_
    split at h
    · rename_i hg
      rw [if_pos (by simp [Region.wanted, hg])]
      exact run h K hK
    · rename_i j want hg
      obtain ⟨d, hgs, h | ⟨t, ht, h1, h2⟩⟩ := h
      · have hy := (yielded_env (hs.env d) hgs).2 h.1
        rw [if_neg (by simp [Region.wanted, hg, hy])]
        exact hK _ _ (skip h.2)
      · have hy := (yielded_env (hs.env d) hgs).1 t ht
        by_cases he : t = want
        · rw [if_pos (by simp [Region.wanted, hg, hy, he])]
          exact run (h1 he) K hK
        · rw [if_neg (by simp [Region.wanted, hg, hy, he])]
          exact hK _ _ (skip (h2 (by cases t <;> cases want <;> simp_all)))
/-- One operation of those that only read: carried out or passed over. -/
def StepP (P : Program) (ops : List Oper) (st : St) (o : Oper) (x : AV) : Prop :=
  ((o.guard = none ∨ ∃ j want d, o.guard = some (j, want) ∧ gslot ops j = some d ∧ st.env d = pvA (.bool want)) ∧ OpS P st o x) ∨
  ((∃ j want d, o.guard = some (j, want) ∧ gslot ops j = some d ∧ (st.env d = undefA ∨ st.env d = pvA (.bool !want))) ∧ x = undefA)
inductive RunP (P : Program) (ops : List Oper) : St → List Oper → List AV → St → Prop
  | nil {st : St} : RunP P ops st [] [] st
  | cons {st st' : St} {o : Oper} {rest : List Oper} {x : AV} {xs : List AV} : StepP P ops st o x → RunP P ops (Go.Proofs.Ythgdccokpgaicaa.putD st o.dst x) rest xs st' → RunP P ops st (o :: rest) (x :: xs) st'
theorem VCP_run {ops : List Oper} {Qs : St → Prop} : ∀ {m : Nat} {l : List Oper} {st : St}, VCP P n ops m l Qs st → ∃ xs st', RunP P ops st (l.take m) xs st' ∧ VCL P n ops (l.drop m) Qs st'
  | 0, l, st, h => ⟨[], st, .nil, h⟩
  | m + 1, [], st, h => h.elim
  | m + 1, o :: rest, st, h => by
    unfold VCP at h
    have run : VCR P st o.op (fun x => VCP P n ops m rest Qs (Go.Proofs.Ythgdccokpgaicaa.putD st o.dst x)) → (o.guard = none ∨ ∃ j want d, o.guard = some (j, want) ∧ gslot ops j = some d ∧ st.env d = pvA (.bool want)) → ∃ xs st', RunP P ops st ((o :: rest).take (m + 1)) xs st' ∧ VCL P n ops ((o :: rest).drop (m + 1)) Qs st' := fun h hw => by
      obtain ⟨x, h1, h2⟩ := VCR_sound h
      obtain ⟨xs, st', h3, h4⟩ := VCP_run h2
      exact ⟨x :: xs, st', .cons (.inl ⟨hw, h1⟩) h3, h4⟩
    have skip : VCP P n ops m rest Qs (Go.Proofs.Ythgdccokpgaicaa.putD st o.dst undefA) → (∃ j want d, o.guard = some (j, want) ∧ gslot ops j = some d ∧ (st.env d = undefA ∨ st.env d = pvA (.bool !want))) → ∃ xs st', RunP P ops st ((o :: rest).take (m + 1)) xs st' ∧ VCL P n ops ((o :: rest).drop (m + 1)) Qs st' := fun h hw => by
      obtain ⟨xs, st', h3, h4⟩ := VCP_run h
      exact ⟨undefA :: xs, st', .cons (.inr ⟨hw, rfl⟩) h3, h4⟩
    split at h
    · rename_i hg
      exact run h (.inl hg)
    · rename_i j want hg
      obtain ⟨d, hgs, h | ⟨t, ht, h1, h2⟩⟩ := h
      · exact skip h.2 ⟨j, want, d, hg, hgs, .inl h.1⟩
      · by_cases he : t = want
        · exact run (h1 he) (.inr ⟨j, want, d, hg, hgs, by rw [ht, he]⟩)
        · have : t = !want := by cases t <;> cases want <;> simp_all
          exact skip (h2 this) ⟨j, want, d, hg, hgs, .inr (by rw [ht, this])⟩
theorem RunP.objs {ops : List Oper} : ∀ {l : List Oper} {st st' : St} {xs : List AV}, RunP P ops st l xs st' → st'.objs = st.objs ∧ xs.length = l.length
  | _, _, _, _, .nil => ⟨rfl, rfl⟩
  | _, st, _, _, .cons (o := o) h1 h2 => by
    obtain ⟨h3, h4⟩ := h2.objs
    refine ⟨h3.trans ?_, by simp [h4]⟩
    unfold Go.Proofs.Ythgdccokpgaicaa.putD
    split <;> rfl
/-- What is known when the k-th of them comes up, in the order of the text. -/
theorem RunP.get {ops : List Oper} : ∀ {l : List Oper} {st st' : St} {xs : List AV} {k : Nat} {o : Oper}, RunP P ops st l xs st' → (∀ i j, i < l.length → j < l.length → i ≠ j → rgDst l i ≠ rgDst l j) → l[k]? = some o →
    ∃ sk x, xs[k]? = some x ∧ StepP P ops sk o x ∧ sk.objs = st.objs ∧ (∀ j t, j < k → rgDst l j = some t → ∃ y, xs[j]? = some y ∧ sk.env t = y) ∧ (∀ t, (∀ j, j < k → rgDst l j ≠ some t) → sk.env t = st.env t)
  | _, st, _, _, k, o, .nil, _, h => by simp at h
  | _, st, _, _, 0, o, .cons (x := x) h1 h2, _, h => by
    simp at h; subst h
    exact ⟨st, x, rfl, h1, rfl, fun j t hj => absurd hj (Nat.not_lt_zero _), fun t _ => rfl⟩
  | _, st, _, _, k + 1, o, .cons (o := o') (rest := rest) (x := x') h1 h2, hne, h => by
    obtain ⟨sk, x, hx, hs, ho, he, hold⟩ := h2.get (k := k) (o := o) (fun i j hi hj hij he => hne (i + 1) (j + 1) (by simpa using hi) (by simpa using hj) (by omega) (by simpa [rgDst] using he)) (by simpa using h)
    have hdst : rgDst (o' :: rest) 0 = o'.dst := by simp [rgDst]
    have hrest : ∀ j, rgDst (o' :: rest) (j + 1) = rgDst rest j := fun j => by simp [rgDst]
    have hk : k < rest.length := by
      have : rest[k]? = some o := by simpa using h
      exact (List.getElem?_eq_some_iff.1 this).1
    refine ⟨sk, x, by simpa using hx, hs, ho.trans (by unfold Go.Proofs.Ythgdccokpgaicaa.putD; split <;> rfl), fun j t hj hd => ?_, fun t ht => ?_⟩
    · cases j with
      | zero =>
        refine ⟨x', rfl, ?_⟩
        rw [hdst] at hd
        rw [hold t fun j hj hd' => hne (j + 1) 0 (by simp; omega) (by simp) (by omega) (by rw [hrest, hdst, hd', hd])]
        simp [Go.Proofs.Ythgdccokpgaicaa.putD, hd, upd_same]
      | succ j =>
        rw [hrest] at hd
        obtain ⟨y, hy, e⟩ := he j t (by omega) hd
        exact ⟨y, by simpa using hy, e⟩
    · rw [hold t fun j hj => by have := ht (j + 1) (by omega); rwa [hrest] at this]
      have := ht 0 (by omega)
      rw [hdst] at this
      unfold Go.Proofs.Ythgdccokpgaicaa.putD
      split
      · rename_i d hd
        exact upd_ne _ _ fun e => this (by rw [hd, e])
      · rfl
theorem RunP.final {ops : List Oper} : ∀ {l : List Oper} {st st' : St} {xs : List AV}, RunP P ops st l xs st' → (∀ i j, i < l.length → j < l.length → i ≠ j → rgDst l i ≠ rgDst l j) →
    (∀ j t, rgDst l j = some t → ∃ y, xs[j]? = some y ∧ st'.env t = y) ∧ (∀ t, (∀ j, j < l.length → rgDst l j ≠ some t) → st'.env t = st.env t)
  | _, st, _, _, .nil, _ => ⟨fun j t h => by simp [rgDst] at h, fun t _ => rfl⟩
  | _, st, _, _, .cons (o := o') (rest := rest) (x := x') h1 h2, hne => by
    obtain ⟨he, hold⟩ := h2.final (fun i j hi hj hij he => hne (i + 1) (j + 1) (by simpa using hi) (by simpa using hj) (by omega) (by simpa [rgDst] using he))
    have hdst : rgDst (o' :: rest) 0 = o'.dst := by simp [rgDst]
    have hrest : ∀ j, rgDst (o' :: rest) (j + 1) = rgDst rest j := fun j => by simp [rgDst]
    refine ⟨fun j t hd => ?_, fun t ht => ?_⟩
    · cases j with
      | zero =>
        refine ⟨x', rfl, ?_⟩
        rw [hdst] at hd
        rw [hold t fun j hj hd' => hne (j + 1) 0 (by simp; omega) (by simp) (by omega) (by rw [hrest, hdst, hd', hd])]
        simp [Go.Proofs.Ythgdccokpgaicaa.putD, hd, upd_same]
      | succ j =>
        rw [hrest] at hd
        obtain ⟨y, hy, e⟩ := he j t hd
        exact ⟨y, by simpa using hy, e⟩
    · rw [hold t fun j hj => by have := ht (j + 1) (by simp; omega); rwa [hrest] at this]
      have := ht 0 (by simp)
      rw [hdst] at this
      unfold Go.Proofs.Ythgdccokpgaicaa.putD
      split
      · rename_i d hd
        exact upd_ne _ _ fun e => this (by rw [hd, e])
      · rfl
end
section
variable {P : Program} {F : Fx} {w : World} {R : Nat → Prop} {ι : Nat → Value} {φ : Nat → List Nat} {st : St} {a : Act}
/-- All that has been made since w may be read. -/
def Rmax (R : Nat → Prop) (w w' : World) (b : Nat) : Prop := b < w'.heap.size ∧ (b < w.heap.size → R b)
theorem rgSteps_of {l : List Oper} {m : Nat} {a0 : Act} {w0 : World} {A : Nat → Value → World → Prop} : ∀ (l' : List Oper) (k : Nat), (∀ i o, l'[i]? = some o → k + i < m → ∀ (v : Nat → Value) (w : World), Below w0.heap.size w0 w → (∀ j, (rgDeps l m (k + i)).contains j = true → A j (v j) w) →
      wpList P l.toArray (rgPost o.dst a0.defers w (A (k + i))) [o] (rgPut l a0 v m) w) → rgSteps P l m a0 w0 A k l'
  | [], _, _ => trivial
  | o :: rest, k, h => ⟨fun hk => h 0 o rfl hk, rgSteps_of rest (k + 1) fun i o' hi hk => by
      have := h (i + 1) o' (by simpa using hi) (by omega)
      rwa [show k + (i + 1) = k + 1 + i by omega] at this⟩
theorem rgDeps_lt {l : List Oper} (hlt : ∀ i, i < l.length → ∀ j ∈ rgDirect l i, j < i) : ∀ f i, i < l.length → ∀ j ∈ rgDeps l f i, j < i
  | 0, _, _, j, hj => by simp [rgDeps] at hj
  | f + 1, i, hi, j, hj => by
    simp only [rgDeps, List.mem_append, List.mem_flatMap] at hj
    rcases hj with hj | ⟨m, hm, hj⟩
    · exact hlt i hi j hj
    · have h1 := hlt i hi m hm
      have := rgDeps_lt hlt f m (by omega) j hj
      omega
theorem RA.below {w' : World} {dom : Nat → Prop} {v : Value} {x : AV} (hR : ∀ b, R b → b < w.heap.size) (hb : Below w.heap.size w w') (h : RA w R ι dom v x) : RA w' (Rmax R w w') ι dom v x :=
  RA.keep (fun b h => ⟨Nat.lt_of_lt_of_le (hR b h) hb.size, fun _ => h⟩) (fun b h => hb.block b (hR b h)) (fun _ h => h) (fun _ _ => rfl) h
theorem Rmax.keep {w1 w2 : World} {dom : Nat → Prop} {v : Value} {x : AV} (hb : Below w1.heap.size w1 w2) (h : RA w1 (Rmax R w w1) ι dom v x) : RA w2 (Rmax R w w2) ι dom v x :=
  RA.keep (fun _ h => ⟨Nat.lt_of_lt_of_le h.1 hb.size, h.2⟩) (fun b h => hb.block b h.1) (fun _ h => h) (fun _ _ => rfl) h
theorem rgDst_take {l : List Oper} {m j : Nat} (h : j < m) : rgDst (l.take m) j = rgDst l j := by simp [rgDst, h]
/-- THE REGION: m operations that only read and call, each on its own; the others behind them, in order. -/
theorem VCP_sound {id : Nat} {l : List Oper} {m : Nat} {Q : Exit → Act → World → Prop} {Qs : St → Prop} (hm : P.follows .mixedOrders = true) (hok : rgOk l m F.n = true) (hQp : ∀ c a t v w, Q (.panic c) (a.put (some t) v) w → Q (.panic c) a w)
    (hQ : ∀ st a w R ι φ, Qs st → Sat F R ι φ st a w → Q .normal a w) (h : VCP P F.n l m l Qs st) (hs : Sat F R ι φ st a w) : (Code.region id l.toArray true).wp P Q a w := by
  have hok' : rgOk l m a.tmps.size = true := by rw [hs.size]; exact hok
  have hT := rgText_of hok'
  obtain ⟨xs, st', hrun, htl⟩ := VCP_run h
  have hlen : (l.take m).length = m := by rw [List.length_take]; exact Nat.min_eq_left hT.le
  have hne : ∀ i j, i < (l.take m).length → j < (l.take m).length → i ≠ j → rgDst (l.take m) i ≠ rgDst (l.take m) j := fun i j hi hj hij => by
    rw [hlen] at hi hj
    rw [rgDst_take hi, rgDst_take hj]
    exact hT.ne i j hi hj hij
  have hobjs := hrun.objs
  have hput : ∀ v, RgFrame l m a v (· < m) (rgPut l a v m) := fun v => rgPut_frame hT.dst hT.ne v m (Nat.le_refl _)
  let A : Nat → Value → World → Prop := fun j v w' => RA w' (Rmax R w w') ι st.dom v (xs.getD j undefA)
  refine wp_region_rg m A hQp hm hok' (fun i v w1 w2 _ hb h => Rmax.keep hb h) (rgSteps_of l 0 fun k o ho hk v w1 hb hd => ?_) fun v w1 hb hA => ?_
  · rw [Nat.zero_add] at hk hd ⊢
    have ho' : (l.take m)[k]? = some o := by rw [List.getElem?_take, if_pos hk]; exact ho
    obtain ⟨sk, x, hx, hstep, hso, hse, hsold⟩ := hrun.get hne ho'
    have hAk : xs.getD k undefA = x := by simp [List.getD, hx]
    -- what is known of a slot that the operation looks at
    have slot : ∀ t, t ∈ o.looksAt l.toArray → RA w1 (Rmax R w w1) ι st.dom ((rgPut l a v m).tmps.getD t undef) (sk.env t) := fun t ht => by
      by_cases hj : ∃ j, j < m ∧ rgDst l j = some t
      · obtain ⟨j, hjm, hjt⟩ := hj
        have hdep := hT.sees k o hk ho j t hjm hjt ht
        have hjk : j < k := rgDeps_lt hT.lt m k (by have := hT.le; omega) j hdep
        obtain ⟨y, hy, he⟩ := hse j t hjk (by rw [rgDst_take hjm]; exact hjt)
        have hv := hd j (by simpa using hdep)
        have hvj : A j (v j) w1 = RA w1 (Rmax R w w1) ι st.dom (v j) (xs.getD j undefA) := rfl
        rw [hvj, show xs.getD j undefA = y by simp [List.getD, hy]] at hv
        rw [he, Array.getD_eq_getD_getElem?, (hput v).put j t hjm hjm hjt]
        exact hv
      · have hno : ∀ j, j < m → j < m → rgDst l j ≠ some t := fun j hjm _ e => hj ⟨j, hjm, e⟩
        rw [hsold t fun j hjk => by rw [rgDst_take (by omega)]; exact hno j (by omega) (by omega), Array.getD_eq_getD_getElem?, (hput v).old t hno, ← Array.getD_eq_getD_getElem?]
        exact RA.below hs.rlt hb (hs.env t)
    have hobj : ObjsOk w1 (Rmax R w w1) ι φ sk.objs := by
      rw [hso]
      refine ⟨fun p y hp => ?_, fun p y hp g hg => ?_, hs.apart⟩
      · exact RO.keep (fun b h => ⟨Nat.lt_of_lt_of_le (hs.rlt b h) hb.size, fun _ => h⟩) (fun b h => hb.block b (hs.rlt b h)) (fun _ h => h) (fun _ _ => rfl) (fun g hg => hb.block g (hs.mine p y hp g hg).2.2) (hs.objs p y hp)
      · have := hs.mine p y hp g hg
        exact ⟨fun hr => this.2.1 (hr.2 this.2.2), Nat.lt_of_lt_of_le this.2.2 hb.size⟩
    have hdm : sk.dom = st.dom := by unfold St.dom; rw [hso]
    have hops : ∀ y ∈ o.op.operands.toList, RA w1 (Rmax R w w1) ι sk.dom ((rgPut l a v m).eval y) (ev sk.env y) := fun y hy => by
      rw [hdm]
      cases y with
      | tmp t => exact slot t (by unfold Oper.looksAt; exact List.mem_append_left _ (List.mem_filterMap.2 ⟨_, hy, rfl⟩))
      | const u => exact constA_ok u
      | func f => exact RD.fn (vs := []) rfl (by simp)
      | global g => trivial
    obtain ⟨d, hdd, hds⟩ := hT.dst k hk
    have hod : o.dst = some d := by simpa [rgDst, ho] using hdd
    have hsz : (rgPut l a v m).tmps.size = a.tmps.size := (hput v).size
    have hdef : (rgPut l a v m).defers = a.defers := (hput v).defers
    have post : ∀ u w2, Below w1.heap.size w1 w2 → A k u w2 → rgPost o.dst a.defers w1 (A k) .normal ((rgPut l a v m).put o.dst u) w2 := fun u w2 hb2 hA => by
      rw [hod]
      refine ⟨by simpa [Act.put] using hdef, hb2, ?_⟩
      show A k (((rgPut l a v m).put (some d) u).tmps.getD d undef) w2
      rw [Array.getD_eq_getD_getElem?]
      simp only [Act.put]
      rw [Array.getElem?_setIfInBounds_self_of_lt (by rw [hsz]; exact hds)]
      exact hA
    have guardSlot : ∀ j want g, o.guard = some (j, want) → gslot l j = some g → RA w1 (Rmax R w w1) ι sk.dom ((rgPut l a v m).tmps.getD g undef) (sk.env g) := fun j want g hg hgs => by
      rw [hdm]
      refine slot g ?_
      unfold Oper.looksAt
      refine List.mem_append_right _ ?_
      rw [hg]
      simp only [gslot] at hgs
      simp [hgs]
    refine wpList_step fun K hK => ?_
    rcases hstep with ⟨hw, hopS⟩ | ⟨hw, rfl⟩
    · have hwant : Region.wanted o (yielded l.toArray (rgPut l a v m).tmps) = true := by
        rcases hw with hg | ⟨j, want, g, hg, hgs, he⟩
        · simp [Region.wanted, hg]
        · have := (yielded_env (guardSlot j want g hg hgs) hgs).1 want he
          simp [Region.wanted, hg, this]
      rw [if_pos hwant]
      refine hopS _ w1 (Rmax R w w1) ι φ (fun b h => h.1) hobj hops K _ fun u w2 R' hb2 h1 h2 h3 hra => hK _ _ (post u w2 hb2 ?_)
      show RA w2 (Rmax R w w2) ι st.dom u (xs.getD k undefA)
      rw [hAk]
      rw [hdm] at hra
      exact RA.keep (fun b hb' => ⟨h2 b hb', fun hlt => (h3 b hb' (Nat.lt_of_lt_of_le hlt hb.size)).2 hlt⟩) (fun _ _ => rfl) (fun _ h => h) (fun _ _ => rfl) hra
    · have hwant : Region.wanted o (yielded l.toArray (rgPut l a v m).tmps) = false := by
        obtain ⟨j, want, g, hg, hgs, he⟩ := hw
        rcases he with he | he
        · have := (yielded_env (guardSlot j want g hg hgs) hgs).2 he
          simp [Region.wanted, hg, this]
        · have := (yielded_env (guardSlot j want g hg hgs) hgs).1 _ he
          simp [Region.wanted, hg, this]
      rw [if_neg (by rw [hwant]; exact Bool.false_ne_true)]
      refine hK _ _ (post undef w1 (Below.refl _ _) ?_)
      show RA w1 (Rmax R w w1) ι st.dom undef (xs.getD k undefA)
      rw [hAk]
      exact RA.undef
  · -- behind them
    have hfin := hrun.final hne
    have hdm : st'.dom = st.dom := by unfold St.dom; rw [hobjs.1]
    have hs1 : Sat F (Rmax R w w1) ι φ st a w1 := hs.world hb (fun b h => ⟨Nat.lt_of_lt_of_le (hs.rlt b h) hb.size, fun _ => h⟩) (fun b h => h.1) (fun b h hlt => h.2 hlt)
    have hs2 : Sat F (Rmax R w w1) ι φ st' (rgPut l a v m) w1 := by
      refine ⟨hs1.below, hs1.rlt, hs1.rsub, hs1.rnew, by rw [(hput v).size]; exact hs1.size, by rw [(hput v).defers]; exact hs1.defers, fun t => ?_, fun p y hp => by rw [hdm]; exact hs1.objs p y (by rw [← hobjs.1]; exact hp), fun p y hp => hs1.mine p y (by rw [← hobjs.1]; exact hp), fun o p x y g ho hp => hs1.apart o p x y g (by rw [← hobjs.1]; exact ho) (by rw [← hobjs.1]; exact hp), hs1.pin⟩
      rw [hdm]
      by_cases hj : ∃ j, j < m ∧ rgDst l j = some t
      · obtain ⟨j, hjm, hjt⟩ := hj
        obtain ⟨y, hy, he⟩ := hfin.1 j t (by rw [rgDst_take hjm]; exact hjt)
        have hv := hA j hjm
        have hvj : A j (v j) w1 = RA w1 (Rmax R w w1) ι st.dom (v j) (xs.getD j undefA) := rfl
        rw [hvj, show xs.getD j undefA = y by simp [List.getD, hy]] at hv
        rw [he, Array.getD_eq_getD_getElem?, (hput v).put j t hjm hjm hjt]
        exact hv
      · have hno : ∀ j, j < m → j < m → rgDst l j ≠ some t := fun j hjm _ e => hj ⟨j, hjm, e⟩
        rw [hfin.2 t fun j hjk => by rw [hlen] at hjk; rw [rgDst_take hjk]; exact hno j hjk hjk, Array.getD_eq_getD_getElem?, (hput v).old t hno, ← Array.getD_eq_getD_getElem?]
        exact hs1.env t
    exact VCL_sound hQ htl hs2
end
end Go.Proofs.Ythgdccokpgaicaa
