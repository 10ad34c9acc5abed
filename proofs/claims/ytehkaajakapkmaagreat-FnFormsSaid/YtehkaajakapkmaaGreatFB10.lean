/- Texts of one proof, one behind the other. -/
import Derived.Test.YtehkaajakapkmaaGreatFB09
namespace Go.Proofs.YtehkaajakapkmaaGreat
section
open Go.RowKit
inductive OT (α : Type) where
  | done
  | vac
  | take (o : α) (t : OT α)
  | both (a b : OT α)
def isMvO (P : Program) (o : Oper) : Bool := match o.op, o.guard with
  | .move _, none => true
  | .fieldAddr T _ f, none => (fieldOff P T f).isSome
  | _, _ => false
theorem fieldAt_any {P : Program} {T : TypeId} {v r : Value} {f : Nat} {w w' : World} (h0 : (fieldOff P T f).isSome = true) (h : (Instr.fieldAt T v f).run P w = .ok r w') : ∀ w2, (Instr.fieldAt T v f).run P w2 = .ok r w2 := by
  intro w2
  unfold Instr.fieldAt at h ⊢
  cases hu : P.underlying T with
  | none => simp [underlying, hu] at h
  | some d =>
    cases d with
    | struct fs =>
      cases hf : fs[f]? with
      | none => simp [run_underlying hu, hf] at h
      | some fd =>
        cases v with
        | pointer a =>
          cases a with
          | none => simp [run_underlying hu, hf, Instr.sureAddr] at h
          | some a =>
            cases hi : P.info? fd.type with
            | none => simp [run_underlying hu, hf, Instr.sureAddr, fieldPlace, sizeOf, typeInfo, hi] at h
            | some i =>
              simp [run_underlying hu, hf, Instr.sureAddr, fieldPlace, sizeOf, typeInfo, hi] at h ⊢
              by_cases hz : i.size = 0
              · simp [fieldOff, hu, hf, Program.cellsOf, hi, hz] at h0
              · simp [hz] at h ⊢
                exact h.1
        | _ => simp [run_underlying hu, hf, Instr.sureAddr] at h
    | _ => simp [run_underlying hu] at h
def ordB (l : List Oper) (r : Nat → Option (OT Oper)) : Nat → List Nat → Option (OT Oper)
  | i, [] => match l[i]?, r i with
    | some o, some t => some (.take o t)
    | _, _ => none
  | i, j :: js => match l[i]?, r i, ordB l r j js with
    | some o, some t, some u => some (.both (.take o t) u)
    | _, _, _ => none
def ordF (P : Program) (l : List Oper) (listed : Array Bool) (rs : List Nat) : Option Nat := rs.find? fun j => (match l[j]? with | some o => isMvO P o | none => false) && Region.free .any l.toArray listed j
def ordT (P : Program) (l : List Oper) : Nat → Array Bool → Option (OT Oper)
  | 0, listed => if (Region.ready .any l.toArray listed).isEmpty then some .done else none
  | f + 1, listed => match Region.ready .any l.toArray listed with
    | [] => some .done
    | i :: is => match ordF P l listed (i :: is) with
      | some j => match l[j]?, ordT P l f (listed.setIfInBounds j true) with
        | some o, some t => some (.take o t)
        | _, _ => none
      | none => ordB l (fun j => ordT P l f (listed.setIfInBounds j true)) i is
def VCT (P : Program) (n : Nat) (ops : List Oper) : OT Oper → (St → Prop) → St → Prop
  | .done, Q, st => Q st
  | .vac, _, _ => True
  | .take o t, Q, st => VCL P n ops [o] (fun s => VCT P n ops t Q s) st
  | .both a b, Q, st => VCT P n ops a Q st ∧ VCT P n ops b Q st
section
variable {P : Program} {F : Fx} {l : List Oper} {Qs : St → Prop} {Q : Exit → Act → World → Prop}
def SatT (P : Program) (F : Fx) (l : List Oper) (t : OT Oper) (Qs : St → Prop) (a : Act) (w : World) : Prop := ∃ st R ι φ, VCT P F.n l t Qs st ∧ Sat F R ι φ st a w
def QT (P : Program) (F : Fx) (l : List Oper) (t : OT Oper) (Qs : St → Prop) : Exit → Act → World → Prop
  | .normal, a, w => SatT P F l t Qs a w
  | _, _, _ => False
theorem wp_KQ {o : Oper} {a : Act} {w : World} {K K' : Act → World → Prop} {Q Q' : Exit → Act → World → Prop} (hK : ∀ a w, K a w → K' a w) (hp : ∀ c a w, Q (.panic c) a w → Q' (.panic c) a w) (hl : LetsOut Q → LetsOut Q') (h : o.wp P a w K Q) : o.wp P a w K' Q' := by
  unfold Oper.wp at *
  generalize (execOp a.eval o).run P w = r at *
  cases r with
  | ok n w' =>
    cases n <;> simp only [Oper.upon] at h ⊢
    case value v => exact hK _ _ h
    case skip => exact hK _ _ h
    case defer d => exact hK _ _ h
    case enter f args => exact Calls.mono h (fun e w'' he => by cases e <;> first | exact hK _ _ he | exact hp _ _ _ he | exact hl he)
    case row r args => exact Rows.mono h (fun _ _ he => hK _ _ he)
  | halt x w' =>
    cases x <;> simp only [Oper.upon] at h ⊢
    all_goals exact hp _ _ _ h
theorem VCT_step {o : Oper} {t : OT Oper} {a : Act} {w : World} (h : SatT P F l (.take o t) Qs a w) : wpList P l.toArray (QT P F l t Qs) [o] a w := by
  obtain ⟨st, R, ι, φ, hv, hs⟩ := h
  have hv : VCL P F.n l [o] (fun s => VCT P F.n l t Qs s) st := hv
  exact VCL_sound (Q := QT P F l t Qs) (Qs := fun s => VCT P F.n l t Qs s) (fun st a w R ι φ h hs => ⟨st, R, ι, φ, h, hs⟩) hv hs
theorem VCT_op {o : Oper} {t : OT Oper} {i : Nat} {a : Act} {w : World} (ho : l[i]? = some o) (h : SatT P F l (.take o t) Qs a w) {K : Act → World → Prop} (hK : ∀ a w, SatT P F l t Qs a w → K a w) : wpOp P l.toArray Q i K a w := by
  have h1 := VCT_step h
  unfold wpList at h1
  unfold wpOp
  rw [show l.toArray[i]? = some o by simpa using ho]
  show if Region.wanted o (yielded l.toArray a.tmps) = true then _ else _
  split
  · rename_i hw
    rw [if_pos hw] at h1
    rcases h1 with h1 | ⟨_, a1, w1, h1⟩
    · exact .inl (wp_KQ (fun a w h => hK a w h) (fun _ _ _ h => h.elim) (fun ⟨_, _, h⟩ => h.elim) h1)
    · exact h1.elim
  · rename_i hw
    rw [if_neg hw] at h1
    exact hK _ _ h1
theorem ordB_ok {r : Nat → Option (OT Oper)} {a : Act} {w : World} : ∀ {is : List Nat} {i : Nat} {t : OT Oper}, ordB l r i is = some t → SatT P F l t Qs a w → ∀ k ∈ i :: is, ∃ o u, l[k]? = some o ∧ r k = some u ∧ SatT P F l (.take o u) Qs a w
  | [], i, t, h, hs, k, hk => by
    rw [List.mem_singleton] at hk
    subst hk
    simp only [ordB] at h
    split at h
    · rename_i o u h1 h2
      cases h
      exact ⟨o, u, h1, h2, hs⟩
    · cases h
  | j :: js, i, t, h, hs, k, hk => by
    simp only [ordB] at h
    split at h
    · rename_i o u v h1 h2 h3
      cases h
      obtain ⟨st, R, ι, φ, ⟨hv1, hv2⟩, hsat⟩ := hs
      rcases List.mem_cons.1 hk with rfl | hk
      · exact ⟨o, u, h1, h2, st, R, ι, φ, hv1, hsat⟩
      · exact ordB_ok h3 ⟨st, R, ι, φ, hv2, hsat⟩ k hk
    · cases h
theorem ordT_sound (hnos : Region.noSelect l.toArray = true) (hQp : ∀ c a t v w, Q (.panic c) (a.put t v) w → Q (.panic c) a w) (hQ : ∀ st a w R ι φ, Qs st → Sat F R ι φ st a w → Q .normal a w) : ∀ (f : Nat) (listed : Array Bool) (t : OT Oper), ordT P l f listed = some t → ∀ (a : Act) (w : World), SatT P F l t Qs a w → wpAny P .any l.toArray Q f listed a w
  | 0, listed, t, h, a, w, hs => by
    unfold ordT at h
    split at h
    · rename_i he
      cases h
      obtain ⟨st, R, ι, φ, hv, hsat⟩ := hs
      exact ⟨by simpa using he, hQ st a w R ι φ hv hsat⟩
    · cases h
  | f + 1, listed, t, h, a, w, hs => by
    unfold ordT at h
    split at h
    · rename_i he
      cases h
      obtain ⟨st, R, ι, φ, hv, hsat⟩ := hs
      exact ⟨fun _ => hQ st a w R ι φ hv hsat, fun i hi => by rw [he] at hi; cases hi⟩
    · rename_i i is he
      split at h
      · rename_i j hj
        split at h
        · rename_i o u ho hu
          cases h
          unfold ordF at hj
          have hmem := List.mem_of_find?_eq_some hj
          have hp := List.find?_some hj
          rw [ho] at hp
          simp only [Bool.and_eq_true] at hp
          obtain ⟨hmv, hfree⟩ := hp
          have h1 := VCT_step hs
          have hrdy : j ∈ Region.ready .any l.toArray listed := by rw [he]; exact hmem
          unfold isMvO at hmv
          split at hmv
          · rename_i x hop hg
            have hex : ∀ w, (execOp a.eval o).run P w = .ok (.value (a.eval x)) w := fun w => by
              unfold execOp
              rw [hop]
              rfl
            have hw : Region.wanted o (yielded l.toArray a.tmps) = true := by simp [Region.wanted, hg]
            unfold wpList at h1
            rw [if_pos hw] at h1
            rcases h1 with h1 | ⟨_, a1, w1, h1⟩
            · unfold Oper.wp at h1
              rw [hex, Oper.upon_value] at h1
              exact wpAny_take (i := j) (by simpa using ho) hnos hfree (by simpa using hrdy) (fun c a w h => hQp c a _ _ w h) (.inl ⟨hw, hex⟩) (ordT_sound hnos hQp hQ f _ u hu _ _ h1)
            · exact h1.elim
          · rename_i T x fl hop hg
            have hw : Region.wanted o (yielded l.toArray a.tmps) = true := by simp [Region.wanted, hg]
            unfold wpList at h1
            rw [if_pos hw] at h1
            rcases h1 with h1 | ⟨_, a1, w1, h1⟩
            · unfold Oper.wp at h1
              have hrun : ∀ w, (execOp a.eval o).run P w = ((Instr.fieldAt T (a.eval x) fl).run P w).andThen fun v w => .ok (.value v) w := fun w => by
                unfold execOp
                rw [hop]
                simp only [Sem.run_bind]
                rfl
              rw [hrun] at h1
              cases hf : (Instr.fieldAt T (a.eval x) fl).run P w with
              | ok v w' =>
                have hall := fieldAt_any hmv hf
                have hex : ∀ w, (execOp a.eval o).run P w = .ok (.value v) w := fun w => by rw [hrun, hall w]; rfl
                have hww : w' = w := by have := hall w; rw [hf] at this; injection this
                subst hww
                rw [hf] at h1
                exact wpAny_take (i := j) (by simpa using ho) hnos hfree (by simpa using hrdy) (fun c a w h => hQp c a _ _ w h) (.inl ⟨hw, hex⟩) (ordT_sound hnos hQp hQ f _ u hu _ _ h1)
              | halt y w' =>
                rw [hf] at h1
                cases y <;> first | exact h1.elim | (simp only [Result.andThen, Oper.upon] at h1; exact h1.elim)
            · exact h1.elim
          · cases hmv
        · cases h
      · refine ⟨fun hr => (by rw [he] at hr; cases hr), fun k hk => ?_⟩
        rw [he] at hk
        obtain ⟨o, u, ho, hu, hsu⟩ := ordB_ok h hs k hk
        exact VCT_op ho hsu fun a w h => ordT_sound hnos hQp hQ f _ u hu a w h
theorem wp_region_ord {id : Nat} {t : OT Oper} {st : St} {R : Nat → Prop} {ι : Nat → Value} {φ : Nat → List Nat} {a : Act} {w : World} (hm : P.follows .mixedOrders = true) (hnos : Region.noSelect l.toArray = true) (ht : ordT P l l.length (Array.replicate l.length false) = some t) (hQp : ∀ c a t v w, Q (.panic c) (a.put t v) w → Q (.panic c) a w) (hQ : ∀ st a w R ι φ, Qs st → Sat F R ι φ st a w → Q .normal a w) (h : VCT P F.n l t Qs st) (hs : Sat F R ι φ st a w) :
    (Code.region id l.toArray true).wp P Q a w := by
  refine wp_region_any hm ?_
  rw [show l.toArray.size = l.length by simp]
  exact ordT_sound hnos hQp hQ _ _ t ht a _ ⟨st, R, ι, φ, h, hs.below' (w' := w.drew) (Below.drew (Below.refl _ _))⟩
end
end
section
open Go.RowKit
section
variable {P : Program} {md : Region.Mode} {ops : Array Oper} {Q : Exit → Act → World → Prop}
def YieldsAt (P : Program) (ops : Array Oper) (o : Oper) (v : Value) (a : Act) (w : World) : Prop :=
  (Region.wanted o (yielded ops a.tmps) = true ∧ (execOp a.eval o).run P w = .ok (.value v) w) ∨ (Region.wanted o (yielded ops a.tmps) = false ∧ v = undef)
theorem YieldsAt.same {o : Oper} {v : Value} {a a' : Act} {w : World} (hy : YieldsAt P ops o v a w) (he : execOp a'.eval o = execOp a.eval o) (hw : Region.wanted o (yielded ops a'.tmps) = Region.wanted o (yielded ops a.tmps)) : YieldsAt P ops o v a' w := by
  unfold YieldsAt at *
  rw [he, hw]
  exact hy
theorem YieldsAt.put {o : Oper} {v : Value} {a : Act} {w : World} {dst : Option Tmp} {u : Value} (hs : ∀ cs b, o.op ≠ .select cs b) (h : ∀ d, dst = some d → d ∉ o.looksAt ops) (hy : YieldsAt P ops o v a w) : YieldsAt P ops o v (a.put dst u) w :=
  hy.same (execOp_put o hs a dst u h) (wanted_put o a dst u h)
theorem YieldsAt.unput {o : Oper} {v : Value} {a : Act} {w : World} {dst : Option Tmp} {u : Value} (hs : ∀ cs b, o.op ≠ .select cs b) (h : ∀ d, dst = some d → d ∉ o.looksAt ops) (hy : YieldsAt P ops o v (a.put dst u) w) : YieldsAt P ops o v a w :=
  hy.same (execOp_put o hs a dst u h).symm (wanted_put o a dst u h).symm
theorem YieldsAt.det {o : Oper} {v u : Value} {a : Act} {w : World} (h : YieldsAt P ops o v a w) (h' : YieldsAt P ops o u a w) : u = v := by
  rcases h with ⟨h1, h2⟩ | ⟨h1, rfl⟩
  · rcases h' with ⟨_, h4⟩ | ⟨h3, _⟩
    · rw [h2] at h4
      injection h4 with h5
      injection h5 with h6
      exact h6.symm
    · rw [h1] at h3; cases h3
  · rcases h' with ⟨h3, _⟩ | ⟨_, rfl⟩
    · rw [h1] at h3; cases h3
    · rfl
theorem YieldsAt.wpOp {i : Nat} {o : Oper} {v : Value} {a : Act} {w : World} (hi : ops[i]? = some o) (hy : YieldsAt P ops o v a w) {K : Act → World → Prop} (h : K (a.put o.dst v) w) : wpOp P ops Q i K a w := by
  unfold Go.wpOp
  simp only [hi]
  rcases hy with ⟨hw, hv⟩ | ⟨hw, rfl⟩
  · simp only [hw, if_true, Oper.wp, hv, Oper.upon]; exact .inl h
  · simp only [hw, Bool.false_eq_true, if_false]; exact h
def WS (P : Program) (md : Region.Mode) (ops : Array Oper) (Q : Exit → Act → World → Prop) (rd : Nat → Bool) : Nat → Array Bool → (Nat → Bool) → Act → World → Prop
  | 0, listed, _, a, w => Region.ready md ops listed = [] ∧ Q .normal a w
  | f + 1, listed, Z, a, w => (Region.ready md ops listed = [] → Q .normal a w) ∧ ∀ i ∈ Region.ready md ops listed, Z i = false →
      (rd i = true → ∃ o v, ops[i]? = some o ∧ YieldsAt P ops o v a w ∧ WS P md ops Q rd f (listed.setIfInBounds i true) Z (a.put o.dst v) w) ∧
      (rd i = false → wpOp P ops Q i (fun a w => WS P md ops Q rd f (listed.setIfInBounds i true) (fun _ => false) a w) a w)
variable {rd : Nat → Bool}
theorem WS.any : ∀ (f : Nat) (listed : Array Bool) (a : Act) (w : World), WS P md ops Q rd f listed (fun _ => false) a w → wpAny P md ops Q f listed a w
  | 0, _, _, _, h => h
  | f + 1, listed, a, w, h => by
    refine ⟨h.1, fun i hi => ?_⟩
    obtain ⟨h1, h2⟩ := h.2 i hi rfl
    cases hr : rd i with
    | true =>
      obtain ⟨o, v, ho, hy, hk⟩ := h1 hr
      exact hy.wpOp ho (WS.any f _ _ _ hk)
    | false => exact wpOp_mono (fun a w h => WS.any f _ a w h) (h2 hr)
theorem WS.more : ∀ (f : Nat) (listed : Array Bool) (Z Z' : Nat → Bool) (a : Act) (w : World), (∀ i, Z i = true → Z' i = true) → WS P md ops Q rd f listed Z a w → WS P md ops Q rd f listed Z' a w
  | 0, _, _, _, _, _, _, h => h
  | f + 1, listed, Z, Z', a, w, hz, h => by
    refine ⟨h.1, fun i hi hZ => ?_⟩
    have hZ0 : Z i = false := by
      cases hzi : Z i with
      | false => rfl
      | true => rw [hz i hzi] at hZ; cases hZ
    obtain ⟨h1, h2⟩ := h.2 i hi hZ0
    refine ⟨fun hr => ?_, h2⟩
    obtain ⟨o, v, ho, hy, hk⟩ := h1 hr
    exact ⟨o, v, ho, hy, WS.more f _ Z Z' _ _ hz hk⟩
def ReadsApart (md : Region.Mode) (ops : Array Oper) (rd : Nat → Bool) : Prop := ∀ (listed : Array Bool) (i j : Nat) (oi oj : Oper), rd i = true → rd j = true → i ≠ j → ops[i]? = some oi → ops[j]? = some oj →
  i ∈ Region.ready md ops listed → j ∈ Region.ready md ops listed → oi.apart ops oj = true
theorem WS.sleep (hns : ∀ (j : Nat) (o : Oper) cs b, ops[j]? = some o → o.op ≠ .select cs b) (hap : ReadsApart md ops rd) {r : Nat} {o : Oper} (ho : ops[r]? = some o) (hrd : rd r = true) : ∀ (f : Nat) (listed : Array Bool) (Z : Nat → Bool) (a : Act) (w : World) (v : Value),
    r ∈ Region.ready md ops listed → YieldsAt P ops o v a w → WS P md ops Q rd f (listed.setIfInBounds r true) Z (a.put o.dst v) w → WS P md ops Q rd (f + 1) listed (fun i => Z i || i == r) a w → WS P md ops Q rd (f + 1) listed Z a w := by
  intro f
  induction f with
  | zero =>
    intro listed Z a w v hr hy h1 h2
    refine ⟨fun h => (by rw [h] at hr; cases hr), fun i hi hZ => ?_⟩
    by_cases hir : i = r
    · subst hir
      exact ⟨fun _ => ⟨o, v, ho, hy, h1⟩, fun h => by rw [hrd] at h; cases h⟩
    · have := ready_mono hi hir
      rw [h1.1] at this
      cases this
  | succ f ih =>
    intro listed Z a w v hr hy h1 h2
    refine ⟨fun h => (by rw [h] at hr; cases hr), fun i hi hZ => ?_⟩
    by_cases hir : i = r
    · subst hir
      exact ⟨fun _ => ⟨o, v, ho, hy, h1⟩, fun h => by rw [hrd] at h; cases h⟩
    · obtain ⟨k1, k2⟩ := h2.2 i hi (by simp [hZ, hir])
      refine ⟨fun hri => ?_, k2⟩
      obtain ⟨oi, u, hoi, hyi, hk⟩ := k1 hri
      refine ⟨oi, u, hoi, hyi, ?_⟩
      have hapart := hap listed r i o oi hrd hri (Ne.symm hir) ho hoi hr hi
      obtain ⟨p1, p2, p3⟩ := Oper.apart_spec hapart
      obtain ⟨m1, _⟩ := h1.2 i (ready_mono hi hir) hZ
      obtain ⟨oi', u', hoi', hyi', hk'⟩ := m1 hri
      rw [hoi] at hoi'
      cases hoi'
      have hu : u' = u := hyi.det (hyi'.unput (fun cs b => hns i oi cs b hoi) p1)
      subst hu
      refine ih (listed.setIfInBounds i true) Z (a.put oi.dst u') w v (ready_mono hr (Ne.symm hir)) (hy.put (fun cs b => hns r o cs b ho) p3) ?_ hk
      rw [Array.setIfInBounds_comm _ _ hir, ← Act.put_comm a v u' p2]
      exact hk'
end
end
section
open Go.RowKit
section
variable {P : Program}
def RdS (P : Program) {α : Type} (m : Sem α) : Prop := ∀ w r w', m.run P w = .ok r w' → w' = w
theorem RdS.pure {α : Type} (x : α) : RdS P (pure x : Sem α) := fun w r w' h => by
  simp only [Sem.run_pure] at h
  injection h with h1 h2
  exact h2.symm
theorem RdS.bind {α β : Type} {m : Sem α} {f : α → Sem β} (h1 : RdS P m) (h2 : ∀ x, RdS P (f x)) : RdS P (m >>= f) := fun w r w' h => by
  rw [Sem.run_bind] at h
  cases hm : m.run P w with
  | ok x w1 =>
    rw [hm] at h
    simp only [Result.andThen_ok] at h
    have e1 := h1 w x w1 hm
    have e2 := h2 x w1 r w' h
    rw [e2, e1]
  | halt y w1 =>
    rw [hm] at h
    cases h
theorem RdS.stuck {α : Type} (s : String) : RdS P (stuck s : Sem α) := fun w r w' h => by simp at h
theorem RdS.typeInfo (t : TypeId) : RdS P (typeInfo t) := fun w r w' h => by
  cases hi : P.info? t with
  | none => simp [Go.typeInfo, hi] at h
  | some i =>
    simp [Go.typeInfo, hi] at h
    exact h.2.symm
theorem RdS.underlying (t : TypeId) : RdS P (underlying t) := fun w r w' h => by
  cases hi : P.underlying t with
  | none => simp [Go.underlying, hi] at h
  | some i =>
    rw [run_underlying hi] at h
    injection h with h1 h2
    exact h2.symm
theorem RdS.sizeOf (t : TypeId) : RdS P (sizeOf t) := RdS.bind (RdS.typeInfo t) fun _ => RdS.pure _
theorem RdS.isAgg (t : TypeId) : RdS P (isAgg t) := by
  unfold Go.isAgg
  refine RdS.bind (RdS.underlying t) fun d => ?_
  split
  · exact RdS.pure _
  · exact RdS.pure _
  · exact RdS.pure _
theorem RdS.sure (v : Value) : RdS P (Instr.sureAddr v) := by
  unfold Instr.sureAddr
  split
  · exact RdS.pure _
  · exact RdS.stuck _
theorem RdS.load (a : Addr) : RdS P (load a) := fun w r w' h => by
  unfold Go.load at h
  simp only [Sem.run] at h
  repeat' split at h
  all_goals first
    | (cases h; done)
    | (injection h with h1 h2; exact h2.symm)
    | (simp only [Sem.run_pure] at h; injection h with h1 h2; exact h2.symm)
    | skip
theorem RdS.unsup {α : Type} (u : Unsupported) : RdS P (unsupported u : Sem α) := fun w r w' h => by
  simp [Go.unsupported] at h
theorem RdS.asInt (v : Value) : RdS P (asIntOf v) := by
  unfold Go.asIntOf
  split
  all_goals first | exact RdS.pure _ | exact RdS.stuck _ | exact RdS.unsup _
theorem RdS.never {α : Type} {m : Sem α} (h : ∀ w r w', m.run P w ≠ .ok r w') : RdS P m := fun w r w' e => absurd e (h w r w')
theorem RdS.thenNever {α β : Type} {m : Sem α} {f : α → Sem β} (h : ∀ x w r w', (f x).run P w ≠ .ok r w') : RdS P (m >>= f) := RdS.never fun w r w' e => by
  rw [Sem.run_bind] at e
  cases hm : m.run P w with
  | ok x w1 =>
    rw [hm] at e
    simp only [Result.andThen_ok] at e
    exact h _ _ _ _ e
  | halt y w1 =>
    rw [hm] at e
    cases e
theorem RdS.bounds {α : Type} (k : IntKind) (i : Int) (n : Int) (c : BoundsCode) : RdS P (boundsPanic k i n c : Sem α) := by
  have hp : ∀ (s : Bool) (w : World) (r : α) (w' : World), (runtimePanic (RuntimeError.bounds (IntKind.i64.wrap i) n s c) : Sem α).run P w ≠ .ok r w' := fun s w r w' e => by
    simp [Go.runtimePanic] at e
  unfold Go.boundsPanic
  dsimp only
  split
  · exact RdS.thenNever fun x => hp x
  · exact RdS.thenNever fun x => hp x
theorem RdS.loadCells (a : Addr) (n : Nat) : RdS P (loadCells a n) := by
  unfold Go.loadCells
  suffices h : ∀ n i acc, RdS P (loadCellsFrom a i n acc) from h _ _ _
  intro n
  induction n with
  | zero => intro i acc; exact RdS.pure _
  | succ n ih =>
    intro i acc
    exact RdS.bind (RdS.load _) fun v => ih _ _
theorem RdS.loadAt (t : TypeId) (v : Value) : RdS P (Instr.loadAt t v) := by
  unfold Instr.loadAt
  refine RdS.bind (RdS.sure v) fun a => ?_
  unfold loadVar
  refine RdS.bind (RdS.isAgg t) fun b => ?_
  split
  · exact RdS.bind (RdS.sizeOf t) fun n => RdS.bind (RdS.loadCells a n) fun _ => RdS.pure _
  · exact RdS.load a
theorem RdS.indexAt (t : TypeId) (x i : Value) : RdS P (Instr.indexAt t x i) := by
  unfold Instr.indexAt
  repeat' (first | exact RdS.pure _ | exact RdS.stuck _ | exact RdS.unsup _ | exact RdS.bounds _ _ _ _ | exact RdS.sure _ | exact RdS.asInt _ | exact RdS.underlying _ | exact RdS.sizeOf _ | refine RdS.bind ?_ fun _ => ?_ | split | dsimp only)
theorem RdS.blind : ∀ (ps : List FieldStep) (t : TypeId) (x : Option Value), RdS P (followBlind ps t x)
  | [], t, x => by unfold Go.followBlind; exact RdS.pure _
  | p :: ps, t, x => by
    unfold Go.followBlind
    repeat' (first | exact RdS.pure _ | exact RdS.stuck _ | exact RdS.unsup _ | exact RdS.blind _ _ _ | exact RdS.typeInfo _ | exact RdS.underlying _ | exact RdS.sizeOf _ | refine RdS.bind ?_ fun _ => ?_ | split | dsimp only)
theorem RdS.ahead : ∀ (f : Nat) (t : TypeId) (v : Value) (n : String), RdS P (nilAhead f t v n)
  | 0, _, _, _ => RdS.pure _
  | f + 1, t, v, n => by
    unfold Go.nilAhead
    repeat' (first | exact RdS.pure _ | exact RdS.stuck _ | exact RdS.unsup _ | exact RdS.ahead _ _ _ _ | exact RdS.blind _ _ _ | exact RdS.typeInfo _ | exact RdS.underlying _ | exact RdS.sizeOf _ | refine RdS.bind ?_ fun _ => ?_ | split | dsimp only)
def RdN (P : Program) (m : Sem Next) : Prop := ∀ {w n w'}, m.run P w = .ok n w' → ∃ v, n = .value v ∧ w' = w
theorem RdN.val (v : Value) : RdN P (Pure.pure (.value v) : Sem Next) := fun {w n w'} e => by
  simp only [Sem.run_pure] at e
  injection e with e1 e2
  exact ⟨v, e1.symm, e2.symm⟩
theorem RdN.bind {α : Type} {m : Sem α} {f : α → Sem Next} (h1 : RdS P m) (h2 : ∀ x, RdN P (f x)) : RdN P (m >>= f) := fun {w n w'} e => by
  rw [Sem.run_bind] at e
  cases hm : m.run P w with
  | ok x w1 =>
    rw [hm] at e
    simp only [Result.andThen_ok] at e
    obtain ⟨v, e1, e2⟩ := h2 x e
    exact ⟨v, e1, by rw [e2]; exact h1 w x w1 hm⟩
  | halt y w1 =>
    rw [hm] at e
    cases e
theorem RdN.panic : RdN P (runtimePanic .nilDeref : Sem Next) := fun {w n w'} e => by
  simp [Go.runtimePanic] at e
theorem RdN.unsup (u : Unsupported) : RdN P (unsupported u : Sem Next) := fun {w n w'} e => by
  simp [Go.unsupported] at e
theorem RdS.prog : RdS P program := fun w r w' e => by
  unfold Go.program at e
  simp only [Sem.run] at e
  first | (injection e with e1 e2; exact e2.symm) | (simp only [Sem.run_pure] at e; injection e with e1 e2; exact e2.symm)
def rdO (o : Oper) : Bool := match o.op with
  | .load _ _ => true
  | .nilCheck _ => true
  | .indexAddr _ _ _ => true
  | _ => false
theorem rdO_run {o : Oper} {ρ : Operand → Value} (h : rdO o = true) {w : World} {n : Next} {w' : World} (hr : (execOp ρ o).run P w = .ok n w') : ∃ v, n = .value v ∧ w' = w := by
  have hv : ∀ {m : Sem Value}, RdS P m → ∀ {w n w'}, (do let v ← m; Pure.pure (Next.value v) : Sem Next).run P w = .ok n w' → ∃ v, n = .value v ∧ w' = w := fun {m} hm {w n w'} e => by
    rw [Sem.run_bind] at e
    cases hmr : m.run P w with
    | ok x w1 =>
      rw [hmr] at e
      simp only [Result.andThen_ok, Sem.run_pure] at e
      injection e with e1 e2
      exact ⟨x, e1.symm, by rw [← e2]; exact hm w x w1 hmr⟩
    | halt y w1 =>
      rw [hmr] at e
      cases e
  unfold rdO at h
  split at h
  · rename_i T x hop
    unfold execOp at hr
    rw [hop] at hr
    exact hv (RdS.loadAt T (ρ x)) hr
  · rename_i x hop
    have hn : ∀ y : Value, ∀ {w n w'}, (match y with
        | .pointer none | .nilIface | .nilFunc => runtimePanic .nilDeref
        | .func (.method name) first captured =>
          match (first[0]? : Option Value) with
          | some .nilIface => runtimePanic .nilDeref
          | some (.iface t w) => do
            if (← nilAhead ((← program).types.size + Made.depth) t w name) != some false then
              unsupported (.noEntry "op/nilCheck.the method's receiver behind this interface value is a nil pointer, or cannot be seen to be none, and the arguments act or may panic (ledger 612)")
            pure (.value (.func (.method name) first captured))
          | _ => pure (.value (.func (.method name) first captured))
        | x => pure (.value x) : Sem Next).run P w = .ok n w' → ∃ v, n = .value v ∧ w' = w := fun y {w n w'} e => by
      revert w n w'
      change RdN P _
      repeat' (first | exact RdN.val _ | exact RdN.panic | exact RdN.unsup _ | exact RdS.ahead _ _ _ _ | exact RdS.prog | refine RdN.bind ?_ fun _ => ?_ | split | dsimp only)
    unfold execOp at hr
    rw [hop] at hr
    exact hn (ρ x) hr
  · rename_i T x i hop
    unfold execOp at hr
    rw [hop] at hr
    exact hv (RdS.indexAt T (ρ x) (ρ i)) hr
  · cases h
end
end
section
open Go.RowKit
section
variable {P : Program} {md : Region.Mode} {ops : Array Oper} {Q : Exit → Act → World → Prop} {rd : Nat → Bool}
theorem at_of {o : Oper} {v : Value} {a : Act} {w : World} (h : Yields P ops o v a) : YieldsAt P ops o v a w := h.elim (fun h => .inl ⟨h.1, h.2 w⟩) .inr
theorem WS.first {i : Nat} {oi : Oper} {v : Value} (hi : ops[i]? = some oi) (hrd : rd i = true) (hsel : ∀ (j : Nat) (o : Oper) cs b, ops[j]? = some o → o.op ≠ .select cs b)
    (hQ : ∀ c a w, Q (.panic c) (a.put oi.dst v) w → Q (.panic c) a w) :
    ∀ (f : Nat) (listed : Array Bool) (Z : Nat → Bool) (a : Act) (w : World),
      (∀ j oj, ops[j]? = some oj → j ≠ i → listed.getD j true = false → (∀ e ∈ oj.after, Region.binds md e = true → e.on ≠ i) → oi.apart ops oj = true) →
      i ∈ Region.ready md ops listed → Yields P ops oi v a →
      WS P md ops Q rd f (listed.setIfInBounds i true) Z (a.put oi.dst v) w → WS P md ops Q rd (f + 1) listed Z a w := by
  intro f
  induction f with
  | zero =>
    intro listed Z a w _ hr hy H
    refine ⟨fun h => (by rw [h] at hr; cases hr), fun j hj hZ => ?_⟩
    by_cases hji : j = i
    · subst hji; exact ⟨fun _ => ⟨oi, v, hi, at_of hy, H⟩, fun h => by rw [hrd] at h; cases h⟩
    · have := ready_mono hj hji
      rw [H.1] at this
      cases this
  | succ f ih =>
    intro listed Z a w hfree hr hy H
    refine ⟨fun h => (by rw [h] at hr; cases hr), fun j hj hZ => ?_⟩
    by_cases hji : j = i
    · subst hji; exact ⟨fun _ => ⟨oi, v, hi, at_of hy, H⟩, fun h => by rw [hrd] at h; cases h⟩
    · obtain ⟨H1, H2⟩ := H.2 j (ready_mono hj hji) hZ
      obtain ⟨hjun, oj, hoj, hall⟩ := mem_ready.1 hj
      have hnot : ∀ e ∈ oj.after, Region.binds md e = true → e.on ≠ i := fun e he hb heq => by
        have h1 := hall e he hb
        have h0 := (mem_ready.1 hr).1
        rw [heq] at h1
        rcases Nat.lt_or_ge i listed.size with h' | h'
        · simp [h'] at h0 h1; rw [h0] at h1; cases h1
        · simp [Array.getElem?_eq_none h'] at h1
      have hap := hfree j oj hoj hji hjun hnot
      obtain ⟨p1, p2, p3⟩ := Oper.apart_spec hap
      have hfree' : ∀ k ok, ops[k]? = some ok → k ≠ i → (listed.setIfInBounds j true).getD k true = false →
          (∀ e ∈ ok.after, Region.binds md e = true → e.on ≠ i) → oi.apart ops ok = true := fun k ok hk hki hun hno => by
        refine hfree k ok hk hki ?_ hno
        by_cases hjk : j = k
        · subst hjk; exact hjun
        · rw [getD_set_ne true hjk] at hun; exact hun
      have keep : ∀ u, Yields P ops oi v (a.put oj.dst u) := fun u => hy.of_same (execOp_put oi (fun cs b => hsel i oi cs b hi) a oj.dst u p3) (wanted_put oi a oj.dst u p3)
      refine ⟨fun hrj => ?_, fun hrj => ?_⟩
      · obtain ⟨oj', u, hoj', hyj, hk⟩ := H1 hrj
        rw [hoj] at hoj'
        cases hoj'
        refine ⟨oj, u, hoj, hyj.unput (fun cs b => hsel j oj cs b hoj) p1, ?_⟩
        refine ih (listed.setIfInBounds j true) Z (a.put oj.dst u) w hfree' (ready_mono hr (Ne.symm hji)) (keep u) ?_
        rw [Array.setIfInBounds_comm _ _ hji, ← Act.put_comm a v u p2]
        exact hk
      · have h2 := wpOp_put hoj hap (fun cs b => hsel i oi cs b hi) (fun cs b => hsel j oj cs b hoj) hQ hy (H2 hrj)
        refine wpOp_mono (fun a' w' h3 => ih (listed.setIfInBounds j true) (fun _ => false) a' w' hfree' (ready_mono hr (Ne.symm hji)) h3.1 ?_) h2
        rw [Array.setIfInBounds_comm _ _ hji]
        exact h3.2
end
def rdK (P : Program) (o : Oper) : Bool := (isMvO P o || rdO o) && o.guard.isNone
def rdAt (P : Program) (l : List Oper) (i : Nat) : Bool := match l[i]? with
  | some o => rdK P o
  | none => false
def rdRt (l : List Oper) (i : Nat) : Bool := match l[i]? with
  | some o => rdO o && o.guard.isNone
  | none => false
def apartL (l : List Oper) (P : Program) : Bool := (List.range l.length).all fun i => (List.range l.length).all fun j => i == j || !rdAt P l i || !rdAt P l j || match l[i]?, l[j]? with
  | some oi, some oj => oj.after.any (fun e => Region.binds .any e && e.on == i) || oi.after.any (fun e => Region.binds .any e && e.on == j) || oi.apart l.toArray oj
  | _, _ => true
def ordS (P : Program) (l : List Oper) : Nat → Nat → Array Bool → List Nat → Option (OT Oper)
  | 0, _, _, _ => none
  | n + 1, f, listed, Z => match Region.ready .any l.toArray listed with
    | [] => some .done
    | i :: is => match f with
      | 0 => none
      | f + 1 => match ordF P l listed ((i :: is).filter fun j => !Z.contains j) with
        | some j => match l[j]?, ordS P l n f (listed.setIfInBounds j true) Z with
          | some o, some t => some (.take o t)
          | _, _ => none
        | none => match (i :: is).find? (fun j => rdRt l j && !Z.contains j) with
          | some r => match l[r]?, ordS P l n f (listed.setIfInBounds r true) Z, ordS P l n (f + 1) listed (r :: Z) with
            | some o, some t, some u => some (.both (.take o t) u)
            | _, _, _ => none
          | none => if (i :: is).any (fun j => rdAt P l j && !Z.contains j) then none else match (i :: is).filter (fun j => !rdAt P l j) with
            | [] => some .vac
            | k :: ks => ordB l (fun j => ordS P l n f (listed.setIfInBounds j true) []) k ks
section
variable {P : Program} {F : Fx} {l : List Oper} {Qs : St → Prop} {Q : Exit → Act → World → Prop}
theorem apartL_ok (h : apartL l P = true) : ReadsApart .any l.toArray (rdAt P l) := by
  intro listed i j oi oj hi hj hne hoi hoj hri hrj
  unfold apartL at h
  have hil : i < l.length := by have := (Array.getElem?_eq_some_iff.1 hoi).1; simpa using this
  have hjl : j < l.length := by have := (Array.getElem?_eq_some_iff.1 hoj).1; simpa using this
  have h1 := List.all_eq_true.1 (List.all_eq_true.1 h i (List.mem_range.2 hil)) j (List.mem_range.2 hjl)
  have hoi' : l[i]? = some oi := by simpa using hoi
  have hoj' : l[j]? = some oj := by simpa using hoj
  simp only [hi, hj, hoi', hoj', Bool.not_true, Bool.or_false, Bool.or_eq_true, beq_iff_eq, hne, false_or] at h1
  obtain ⟨hu1, o1, ho1, ha1⟩ := mem_ready.1 hri
  obtain ⟨hu2, o2, ho2, ha2⟩ := mem_ready.1 hrj
  rw [hoi] at ho1; cases ho1
  rw [hoj] at ho2; cases ho2
  have hnl : ∀ {k : Nat}, listed.getD k true = false → listed.getD k false = true → False := fun {k} a b => by
    rcases Nat.lt_or_ge k listed.size with h' | h'
    · simp [h'] at a b; rw [a] at b; cases b
    · simp [Array.getElem?_eq_none h'] at a
  rcases h1 with (h1 | h1) | h1
  · obtain ⟨e, he, hb⟩ := Array.any_eq_true'.1 h1
    simp only [Bool.and_eq_true, beq_iff_eq] at hb
    have := ha2 e he hb.1
    rw [hb.2] at this
    exact (hnl hu1 this).elim
  · obtain ⟨e, he, hb⟩ := Array.any_eq_true'.1 h1
    simp only [Bool.and_eq_true, beq_iff_eq] at hb
    have := ha1 e he hb.1
    rw [hb.2] at this
    exact (hnl hu2 this).elim
  · exact h1
theorem read_step {o : Oper} {t : OT Oper} {a : Act} {w : World} (hrd : rdO o = true) (hg : o.guard.isNone = true) (h : SatT P F l (.take o t) Qs a w) : ∃ v, YieldsAt P l.toArray o v a w ∧ SatT P F l t Qs (a.put o.dst v) w := by
  have h1 := VCT_step h
  have hw : Region.wanted o (yielded l.toArray a.tmps) = true := by
    have : o.guard = none := by simpa using hg
    simp [Region.wanted, this]
  unfold wpList at h1
  rw [if_pos hw] at h1
  rcases h1 with h1 | ⟨_, a1, w1, h1⟩
  · unfold Oper.wp at h1
    cases hr : (execOp a.eval o).run P w with
    | ok n w' =>
      rw [hr] at h1
      obtain ⟨v, rfl, rfl⟩ := rdO_run hrd hr
      exact ⟨v, .inl ⟨hw, hr⟩, h1⟩
    | halt y w' =>
      rw [hr] at h1
      cases y <;> first | exact h1.elim | (simp only [Oper.upon] at h1; exact h1.elim)
  · exact h1.elim
theorem mv_yields {o : Oper} {t : OT Oper} {a : Act} {w : World} (hmv : isMvO P o = true) (h : SatT P F l (.take o t) Qs a w) : ∃ v, Yields P l.toArray o v a ∧ SatT P F l t Qs (a.put o.dst v) w := by
  have h1 := VCT_step h
  unfold isMvO at hmv
  split at hmv
  · rename_i x hop hg
    have hw : Region.wanted o (yielded l.toArray a.tmps) = true := by simp [Region.wanted, hg]
    have hex : ∀ w, (execOp a.eval o).run P w = .ok (.value (a.eval x)) w := fun w => by
      unfold execOp
      rw [hop]
      rfl
    unfold wpList at h1
    rw [if_pos hw] at h1
    rcases h1 with h1 | ⟨_, a1, w1, h1⟩
    · unfold Oper.wp at h1
      rw [hex, Oper.upon_value] at h1
      exact ⟨_, .inl ⟨hw, hex⟩, h1⟩
    · exact h1.elim
  · rename_i T x fl hop hg
    have hw : Region.wanted o (yielded l.toArray a.tmps) = true := by simp [Region.wanted, hg]
    unfold wpList at h1
    rw [if_pos hw] at h1
    rcases h1 with h1 | ⟨_, a1, w1, h1⟩
    · unfold Oper.wp at h1
      have hrun : ∀ w, (execOp a.eval o).run P w = ((Instr.fieldAt T (a.eval x) fl).run P w).andThen fun v w => .ok (.value v) w := fun w => by
        unfold execOp
        rw [hop]
        simp only [Sem.run_bind]
        rfl
      rw [hrun] at h1
      cases hf : (Instr.fieldAt T (a.eval x) fl).run P w with
      | ok v w' =>
        have hall := fieldAt_any hmv hf
        have hex : ∀ w, (execOp a.eval o).run P w = .ok (.value v) w := fun w => by rw [hrun, hall w]; rfl
        have hww : w' = w := by have := hall w; rw [hf] at this; injection this
        subst hww
        rw [hf] at h1
        exact ⟨v, .inl ⟨hw, hex⟩, h1⟩
      | halt y w' =>
        rw [hf] at h1
        cases y <;> first | exact h1.elim | (simp only [Result.andThen, Oper.upon] at h1; exact h1.elim)
    · exact h1.elim
  · cases hmv
theorem ordS_sound (hnos : Region.noSelect l.toArray = true) (hap : apartL l P = true) (hQp : ∀ c a t v w, Q (.panic c) (a.put t v) w → Q (.panic c) a w) (hQ : ∀ st a w R ι φ, Qs st → Sat F R ι φ st a w → Q .normal a w) : ∀ (n f : Nat) (listed : Array Bool) (Z : List Nat) (t : OT Oper),
    ordS P l n f listed Z = some t → ∀ a w, SatT P F l t Qs a w → WS P .any l.toArray Q (rdAt P l) f listed (fun i => Z.contains i) a w := by
  intro n
  induction n with
  | zero => intro f listed Z t h; cases h
  | succ n ih =>
    intro f listed Z t h a w hs
    unfold ordS at h
    split at h
    · rename_i he
      cases h
      obtain ⟨st, R, ι, φ, hv, hsat⟩ := hs
      have hq : Q .normal a w := hQ st a w R ι φ hv hsat
      cases f with
      | zero => exact ⟨he, hq⟩
      | succ f => exact ⟨fun _ => hq, fun i hi => by rw [he] at hi; cases hi⟩
    · rename_i i is he
      split at h
      · cases h
      · rename_i f'
        split at h
        · rename_i j hj
          split at h
          · rename_i o u ho hu
            cases h
            unfold ordF at hj
            have hmem := List.mem_of_find?_eq_some hj
            have hp := List.find?_some hj
            rw [ho] at hp
            simp only [Bool.and_eq_true] at hp
            obtain ⟨hmv, hfree⟩ := hp
            have hrdy : j ∈ Region.ready .any l.toArray listed := by rw [he]; exact (List.mem_filter.1 hmem).1
            obtain ⟨v, hy, hsu⟩ := mv_yields hmv hs
            have hoj : l.toArray[j]? = some o := by simpa using ho
            have hgn : o.guard.isNone = true := by
              unfold isMvO at hmv
              split at hmv
              · rename_i hg; simp [hg]
              · rename_i hg; simp [hg]
              · cases hmv
            have hrd : rdAt P l j = true := by unfold rdAt rdK; rw [ho]; simp [hmv, hgn]
            exact WS.first hoj hrd (Region.noSelect_spec hnos) (fun c a w h => hQp c a _ _ w h) f' listed _ a w (Region.free_spec hoj hfree) hrdy hy (ih f' _ Z u hu _ _ hsu)
          · cases h
        · split at h
          · rename_i r hr
            split at h
            · rename_i o t1 u1 ho ht hu
              cases h
              have hmem := List.mem_of_find?_eq_some hr
              have hp := List.find?_some hr
              simp only [Bool.and_eq_true, Bool.not_eq_true'] at hp
              obtain ⟨hrt, hrZ⟩ := hp
              unfold rdRt at hrt
              rw [ho] at hrt
              simp only [Bool.and_eq_true] at hrt
              have hrdy : r ∈ Region.ready .any l.toArray listed := by rw [he]; exact hmem
              have hoj : l.toArray[r]? = some o := by simpa using ho
              have hrd : rdAt P l r = true := by unfold rdAt rdK; rw [ho]; simp [hrt.1, hrt.2]
              obtain ⟨st, R, ι, φ, ⟨hv1, hv2⟩, hsat⟩ := hs
              obtain ⟨v, hy, hsu⟩ := read_step hrt.1 hrt.2 ⟨st, R, ι, φ, hv1, hsat⟩
              have hB := ih (f' + 1) listed (r :: Z) u1 hu a w ⟨st, R, ι, φ, hv2, hsat⟩
              refine WS.sleep (Region.noSelect_spec hnos) (apartL_ok hap) hoj hrd f' listed _ a w v hrdy hy (ih f' _ Z t1 ht _ _ hsu) ?_
              have hZ : (fun i => Z.contains i || i == r) = fun i => (r :: Z).contains i := by
                funext i
                simp only [List.contains_cons]
                rw [Bool.or_comm]
              rw [hZ]
              exact hB
            · cases h
          · rename_i hnr
            split at h
            · cases h
            · rename_i hany
              have hno : ∀ k ∈ Region.ready .any l.toArray listed, Z.contains k = false → rdAt P l k = false := fun k hk hZ => by
                cases hrk : rdAt P l k with
                | false => rfl
                | true =>
                  exfalso
                  apply hany
                  rw [List.any_eq_true]
                  exact ⟨k, by rw [← he]; exact hk, by rw [hrk, hZ]; rfl⟩
              refine ⟨fun h0 => (by rw [he] at h0; cases h0), fun k hk hZ => ⟨fun hr => (by rw [hno k hk hZ] at hr; cases hr), fun hrk => ?_⟩⟩
              have hkf : k ∈ (i :: is).filter (fun j => !rdAt P l j) := List.mem_filter.2 ⟨by rw [← he]; exact hk, by rw [hrk]; rfl⟩
              split at h
              · rename_i hf0
                rw [hf0] at hkf
                cases hkf
              · rename_i k0 ks hf0
                rw [hf0] at hkf
                obtain ⟨o, u, ho, hu, hsu⟩ := ordB_ok h hs k hkf
                refine VCT_op ho hsu fun a w h => ?_
                have := ih f' _ [] u hu a w h
                exact WS.more _ _ _ _ _ _ (fun i hi => by simp at hi) this
end
def isMM (o : Oper) : Bool := match o.op with
  | .call { callee := .builtin .min, .. } | .call { callee := .builtin .max, .. } => true
  | _ => false
def fewO (P : Program) (ops : List Oper) : Bool := (Nat.ble (ops.filter fun o => !isMvO P o).length 8 || (Nat.ble (ops.filter fun o => !isMvO P o).length 9 && ops.any isMM))
def ordX (P : Program) (l : List Oper) : Option (OT Oper) :=
  if fewO P l then ordT P l l.length (Array.replicate l.length false)
  else if Nat.ble (l.filter fun o => !isMvO P o).length 16 && apartL l P then ordS P l 400 l.length (Array.replicate l.length false) []
  else none
theorem wp_region_ordX {P : Program} {F : Fx} {l : List Oper} {Qs : St → Prop} {Q : Exit → Act → World → Prop} {id : Nat} {t : OT Oper} {st : St} {R : Nat → Prop} {ι : Nat → Value} {φ : Nat → List Nat} {a : Act} {w : World} (hm : P.follows .mixedOrders = true) (hnos : Region.noSelect l.toArray = true) (ht : ordX P l = some t)
    (hQp : ∀ c a t v w, Q (.panic c) (a.put t v) w → Q (.panic c) a w) (hQ : ∀ st a w R ι φ, Qs st → Sat F R ι φ st a w → Q .normal a w) (h : VCT P F.n l t Qs st) (hs : Sat F R ι φ st a w) : (Code.region id l.toArray true).wp P Q a w := by
  unfold ordX at ht
  split at ht
  · exact wp_region_ord hm hnos ht hQp hQ h hs
  · split at ht
    · rename_i hc
      simp only [Bool.and_eq_true] at hc
      refine wp_region_any hm ?_
      rw [show l.toArray.size = l.length by simp]
      refine WS.any (rd := rdAt P l) _ _ _ _ ?_
      have := ordS_sound (F := F) (Qs := Qs) hnos hc.2 hQp hQ 400 l.length (Array.replicate l.length false) [] t ht a _ ⟨st, R, ι, φ, h, hs.below' (w' := w.drew) (Below.drew (Below.refl _ _))⟩
      exact WS.more _ _ _ _ _ _ (fun i hi => by simp at hi) this
    · cases ht
end
end Go.Proofs.YtehkaajakapkmaaGreat
