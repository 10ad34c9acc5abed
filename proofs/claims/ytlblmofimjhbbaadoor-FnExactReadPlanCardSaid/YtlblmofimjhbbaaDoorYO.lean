/- A region that draws its order, told for each order by itself. No program is named here. -/
import Derived.Test.YtlblmofimjhbbaaDoorY12
namespace Go.Proofs.YtlblmofimjhbbaaDoor
open Go.RowKit
/-- The orders in which operations may come up. -/
inductive OT (α : Type) where
  | done
  | vac
  | take (o : α) (t : OT α)
  | both (a b : OT α)
def isMvO (P : Program) (o : Oper) : Bool := match o.op, o.guard with
  | .move _, none => true
  | .fieldAddr T _ f, none => (fieldOff P T f).isSome
  | .binOp .add _ (.const (.string _)) _ _, none => true
  | _, _ => false
theorem addS_any {P : Program} {T : TypeId} {x y : Operand} {s : ByteArray} {v r : Value} {w w' : World} (h : (do eqGuard .add T x y (.string s) v; binOp .add T (.string s) v : Sem Value).run P w = .ok r w') : ∀ w2, (do eqGuard .add T x y (.string s) v; binOp .add T (.string s) v : Sem Value).run P w2 = .ok r w2 := by
  intro w2
  cases v <;> simp [eqGuard, binOp, Op.stringOp] at h ⊢
  split at h <;> simp_all
theorem fieldAt_any {P : Program} {T : TypeId} {v r : Value} {f : Nat} {w w' : World} (h0 : (fieldOff P T f).isSome = true) (h : (Instr.fieldAt T v f).run P w = .ok r w') : ∀ w2, (Instr.fieldAt T v f).run P w2 = .ok r w2 := by
  intro w2
  unfold Instr.fieldAt at h ⊢
  cases hu : P.underlying T with
  | none => simp [underlying, hu] at h
  | some d =>
    cases d with
    | struct fs =>
      cases hf : fs[f]? with
      | none => simp [run_underlying hu, hf] at h
      | some fd =>
        cases v with
        | pointer a =>
          cases a with
          | none => simp [run_underlying hu, hf, Instr.sureAddr] at h
          | some a =>
            cases hi : P.info? fd.type with
            | none => simp [run_underlying hu, hf, Instr.sureAddr, fieldPlace, sizeOf, typeInfo, hi] at h
            | some i =>
              simp [run_underlying hu, hf, Instr.sureAddr, fieldPlace, sizeOf, typeInfo, hi] at h ⊢
              by_cases hz : i.size = 0
              · simp [fieldOff, hu, hf, Program.cellsOf, hi, hz] at h0
              · simp [hz] at h ⊢
                exact h.1
        | _ => simp [run_underlying hu, hf, Instr.sureAddr] at h
    | _ => simp [run_underlying hu] at h
def ordB (l : List Oper) (r : Nat → Option (OT Oper)) : Nat → List Nat → Option (OT Oper)
  | i, [] => match l[i]?, r i with
    | some o, some t => some (.take o t)
    | _, _ => none
  | i, j :: js => match l[i]?, r i, ordB l r j js with
    | some o, some t, some u => some (.both (.take o t) u)
    | _, _, _ => none
def ordF (P : Program) (l : List Oper) (listed : Array Bool) (rs : List Nat) : Option Nat := rs.find? fun j => (match l[j]? with | some o => isMvO P o | none => false) && Region.free .any l.toArray listed j
/-- All orders; an operation that only hands a value on comes at once. -/
def ordT (P : Program) (l : List Oper) : Nat → Array Bool → Option (OT Oper)
  | 0, listed => if (Region.ready .any l.toArray listed).isEmpty then some .done else none
  | f + 1, listed => match Region.ready .any l.toArray listed with
    | [] => some .done
    | i :: is => match ordF P l listed (i :: is) with
      | some j => match l[j]?, ordT P l f (listed.setIfInBounds j true) with
        | some o, some t => some (.take o t)
        | _, _ => none
      | none => ordB l (fun j => ordT P l f (listed.setIfInBounds j true)) i is
def VCT (P : Program) (n : Nat) (ops : List Oper) : OT Oper → (St → Prop) → St → Prop
  | .done, Q, st => Q st
  | .vac, _, _ => True
  | .take o t, Q, st => VCL P n ops [o] (fun s => VCT P n ops t Q s) st
  | .both a b, Q, st => VCT P n ops a Q st ∧ VCT P n ops b Q st
section
variable {P : Program} {F : Fx} {l : List Oper} {Qs : St → Prop} {Q : Exit → Act → World → Prop}
def SatT (P : Program) (F : Fx) (l : List Oper) (t : OT Oper) (Qs : St → Prop) (a : Act) (w : World) : Prop := ∃ st R ι φ, VCT P F.n l t Qs st ∧ Sat F R ι φ st a w
/-- What one operation leaves. -/
def QT (P : Program) (F : Fx) (l : List Oper) (t : OT Oper) (Qs : St → Prop) : Exit → Act → World → Prop
  | .normal, a, w => SatT P F l t Qs a w
  | _, _, _ => False
theorem wp_KQ {o : Oper} {a : Act} {w : World} {K K' : Act → World → Prop} {Q Q' : Exit → Act → World → Prop} (hK : ∀ a w, K a w → K' a w) (hp : ∀ c a w, Q (.panic c) a w → Q' (.panic c) a w) (hl : LetsOut Q → LetsOut Q') (h : o.wp P a w K Q) : o.wp P a w K' Q' := by
  unfold Oper.wp at *
  generalize (execOp a.eval o).run P w = r at *
  cases r with
  | ok n w' =>
    cases n <;> simp only [Oper.upon] at h ⊢
    case value v => exact hK _ _ h
    case skip => exact hK _ _ h
    case defer d => exact hK _ _ h
    case enter f args => exact Calls.mono h (fun e w'' he => by cases e <;> first | exact hK _ _ he | exact hp _ _ _ he | exact hl he)
    case row r args => exact Rows.mono h (fun _ _ he => hK _ _ he)
  | halt x w' =>
    cases x <;> simp only [Oper.upon] at h ⊢
    all_goals exact hp _ _ _ h
theorem VCT_step {o : Oper} {t : OT Oper} {a : Act} {w : World} (h : SatT P F l (.take o t) Qs a w) : wpList P l.toArray (QT P F l t Qs) [o] a w := by
  obtain ⟨st, R, ι, φ, hv, hs⟩ := h
  have hv : VCL P F.n l [o] (fun s => VCT P F.n l t Qs s) st := hv
  exact VCL_sound (Q := QT P F l t Qs) (Qs := fun s => VCT P F.n l t Qs s) (fun st a w R ι φ h hs => ⟨st, R, ι, φ, h, hs⟩) hv hs
theorem VCT_op {o : Oper} {t : OT Oper} {i : Nat} {a : Act} {w : World} (ho : l[i]? = some o) (h : SatT P F l (.take o t) Qs a w) {K : Act → World → Prop} (hK : ∀ a w, SatT P F l t Qs a w → K a w) : wpOp P l.toArray Q i K a w := by
  have h1 := VCT_step h
  unfold wpList at h1
  unfold wpOp
  rw [show l.toArray[i]? = some o by simpa using ho]
  show if Region.wanted o (yielded l.toArray a.tmps) = true then _ else _
  split
  · rename_i hw
    rw [if_pos hw] at h1
    rcases h1 with h1 | ⟨_, a1, w1, h1⟩
    · exact .inl (wp_KQ (fun a w h => hK a w h) (fun _ _ _ h => h.elim) (fun ⟨_, _, h⟩ => h.elim) h1)
    · exact h1.elim
  · rename_i hw
    rw [if_neg hw] at h1
    exact hK _ _ h1
theorem ordB_ok {r : Nat → Option (OT Oper)} {a : Act} {w : World} : ∀ {is : List Nat} {i : Nat} {t : OT Oper}, ordB l r i is = some t → SatT P F l t Qs a w → ∀ k ∈ i :: is, ∃ o u, l[k]? = some o ∧ r k = some u ∧ SatT P F l (.take o u) Qs a w
  | [], i, t, h, hs, k, hk => by
    rw [List.mem_singleton] at hk
    subst hk
    simp only [ordB] at h
    split at h
    · rename_i o u h1 h2
      cases h
      exact ⟨o, u, h1, h2, hs⟩
    · cases h
  | j :: js, i, t, h, hs, k, hk => by
    simp only [ordB] at h
    split at h
    · rename_i o u v h1 h2 h3
      cases h
      obtain ⟨st, R, ι, φ, ⟨hv1, hv2⟩, hsat⟩ := hs
      rcases List.mem_cons.1 hk with rfl | hk
      · exact ⟨o, u, h1, h2, st, R, ι, φ, hv1, hsat⟩
      · exact ordB_ok h3 ⟨st, R, ι, φ, hv2, hsat⟩ k hk
    · cases h
theorem ordT_sound (hnos : Region.noSelect l.toArray = true) (hQp : ∀ c a t v w, Q (.panic c) (a.put t v) w → Q (.panic c) a w) (hQ : ∀ st a w R ι φ, Qs st → Sat F R ι φ st a w → Q .normal a w) : ∀ (f : Nat) (listed : Array Bool) (t : OT Oper), ordT P l f listed = some t → ∀ (a : Act) (w : World), SatT P F l t Qs a w → wpAny P .any l.toArray Q f listed a w
  | 0, listed, t, h, a, w, hs => by
    unfold ordT at h
    split at h
    · rename_i he
      cases h
      obtain ⟨st, R, ι, φ, hv, hsat⟩ := hs
      exact ⟨by simpa using he, hQ st a w R ι φ hv hsat⟩
    · cases h
  | f + 1, listed, t, h, a, w, hs => by
    unfold ordT at h
    split at h
    · rename_i he
      cases h
      obtain ⟨st, R, ι, φ, hv, hsat⟩ := hs
      exact ⟨fun _ => hQ st a w R ι φ hv hsat, fun i hi => by rw [he] at hi; cases hi⟩
    · rename_i i is he
      split at h
      · rename_i j hj
        split at h
        · rename_i o u ho hu
          cases h
          unfold ordF at hj
          have hmem := List.mem_of_find?_eq_some hj
          have hp := List.find?_some hj
          rw [ho] at hp
          simp only [Bool.and_eq_true] at hp
          obtain ⟨hmv, hfree⟩ := hp
          have h1 := VCT_step hs
          have hrdy : j ∈ Region.ready .any l.toArray listed := by rw [he]; exact hmem
          unfold isMvO at hmv
          split at hmv
          · rename_i x hop hg
            have hex : ∀ w, (execOp a.eval o).run P w = .ok (.value (a.eval x)) w := fun w => by
              unfold execOp
              rw [hop]
              rfl
            have hw : Region.wanted o (yielded l.toArray a.tmps) = true := by simp [Region.wanted, hg]
            unfold wpList at h1
            rw [if_pos hw] at h1
            rcases h1 with h1 | ⟨_, a1, w1, h1⟩
            · unfold Oper.wp at h1
              rw [hex, Oper.upon_value] at h1
              exact wpAny_take (i := j) (by simpa using ho) hnos hfree (by simpa using hrdy) (fun c a w h => hQp c a _ _ w h) (.inl ⟨hw, hex⟩) (ordT_sound hnos hQp hQ f _ u hu _ _ h1)
            · exact h1.elim
          · rename_i T x fl hop hg
            have hw : Region.wanted o (yielded l.toArray a.tmps) = true := by simp [Region.wanted, hg]
            unfold wpList at h1
            rw [if_pos hw] at h1
            rcases h1 with h1 | ⟨_, a1, w1, h1⟩
            · unfold Oper.wp at h1
              have hrun : ∀ w, (execOp a.eval o).run P w = ((Instr.fieldAt T (a.eval x) fl).run P w).andThen fun v w => .ok (.value v) w := fun w => by
                unfold execOp
                rw [hop]
                simp only [Sem.run_bind]
                rfl
              rw [hrun] at h1
              cases hf : (Instr.fieldAt T (a.eval x) fl).run P w with
              | ok v w' =>
                have hall := fieldAt_any hmv hf
                have hex : ∀ w, (execOp a.eval o).run P w = .ok (.value v) w := fun w => by rw [hrun, hall w]; rfl
                have hww : w' = w := by have := hall w; rw [hf] at this; injection this
                subst hww
                rw [hf] at h1
                exact wpAny_take (i := j) (by simpa using ho) hnos hfree (by simpa using hrdy) (fun c a w h => hQp c a _ _ w h) (.inl ⟨hw, hex⟩) (ordT_sound hnos hQp hQ f _ u hu _ _ h1)
              | halt y w' =>
                rw [hf] at h1
                cases y <;> first | exact h1.elim | (simp only [Result.andThen, Oper.upon] at h1; exact h1.elim)
            · exact h1.elim
          · rename_i T str y T' hop hg
            have hw : Region.wanted o (yielded l.toArray a.tmps) = true := by simp [Region.wanted, hg]
            unfold wpList at h1
            rw [if_pos hw] at h1
            rcases h1 with h1 | ⟨_, a1, w1, h1⟩
            · unfold Oper.wp at h1
              have hrun : ∀ w, (execOp a.eval o).run P w = ((do eqGuard .add T (.const (.string str)) y (.string str) (a.eval y); binOp .add T (.string str) (a.eval y) : Sem Value).run P w).andThen fun v w => .ok (.value v) w := fun w => by
                unfold execOp
                rw [hop]
                simp only [Sem.run_bind]
                rfl
              rw [hrun] at h1
              cases hf : (do eqGuard .add T (.const (.string str)) y (.string str) (a.eval y); binOp .add T (.string str) (a.eval y) : Sem Value).run P w with
              | ok v w' =>
                have hall := addS_any hf
                have hex : ∀ w, (execOp a.eval o).run P w = .ok (.value v) w := fun w => by rw [hrun, hall w]; rfl
                have hww : w' = w := by have := hall w; rw [hf] at this; injection this
                subst hww
                rw [hf] at h1
                exact wpAny_take (i := j) (by simpa using ho) hnos hfree (by simpa using hrdy) (fun c a w h => hQp c a _ _ w h) (.inl ⟨hw, hex⟩) (ordT_sound hnos hQp hQ f _ u hu _ _ h1)
              | halt y w' =>
                rw [hf] at h1
                cases y <;> first | exact h1.elim | (simp only [Result.andThen, Oper.upon] at h1; exact h1.elim)
            · exact h1.elim
          · cases hmv
        · cases h
      · refine ⟨fun hr => (by rw [he] at hr; cases hr), fun k hk => ?_⟩
        rw [he] at hk
        obtain ⟨o, u, ho, hu, hsu⟩ := ordB_ok h hs k hk
        exact VCT_op ho hsu fun a w h => ordT_sound hnos hQp hQ f _ u hu a w h
theorem wp_region_ord {id : Nat} {t : OT Oper} {st : St} {R : Nat → Prop} {ι : Nat → Value} {φ : Nat → List Nat} {a : Act} {w : World} (hm : P.follows .mixedOrders = true) (hnos : Region.noSelect l.toArray = true) (ht : ordT P l l.length (Array.replicate l.length false) = some t) (hQp : ∀ c a t v w, Q (.panic c) (a.put t v) w → Q (.panic c) a w) (hQ : ∀ st a w R ι φ, Qs st → Sat F R ι φ st a w → Q .normal a w) (h : VCT P F.n l t Qs st) (hs : Sat F R ι φ st a w) :
    (Code.region id l.toArray true).wp P Q a w := by
  refine wp_region_any hm ?_
  rw [show l.toArray.size = l.length by simp]
  exact ordT_sound hnos hQp hQ _ _ t ht a _ ⟨st, R, ι, φ, h, hs.below' (w' := w.drew) (Below.drew (Below.refl _ _))⟩
end
end Go.Proofs.YtlblmofimjhbbaaDoor
