/- A region that draws its order, within a round of a loop over a function. No program is named here. -/
import Derived.Test.YtnkfbodolbfjpaaRg
import Derived.RangeFuncNested
import Derived.RangeFuncCalls
import Derived.OrdersIn
import Derived.OwnWalkIn
namespace Go.Proofs.Ytnkfbodolbfjpaa
open Go.RowKit
section
variable {P : Program} {ops : Array Oper} {Q : Exit → Act → World → Prop} {md : Region.Mode} {l0 m : Nat}
theorem wpIn_of_wp {o : Oper} (hnd : ∀ c, o.op ≠ .defer c) {a : Act} {w : World} {K : Act → World → Prop} (h : o.wp P a w K Q) : o.wpIn (Fence.wide.inRound l0) m P a w K Q := by
  refine ⟨fun _ _ => trivial, ?_⟩
  rw [Oper.semAt_eq _ _ _ hnd]
  unfold Oper.wp at h
  generalize (execOp a.eval o).run P w = r at *
  cases r with
  | ok n w' =>
    cases n <;> simp only [Oper.upon, Oper.uponIn] at h ⊢
    case value v => exact h
    case skip => exact h
    case defer d => exact h
    case enter f args => exact ⟨fun h' => by simp [Fence.wide] at h', CallsIn.inRound l0 (callsIn_wide.2 h)⟩
    case row r args => exact ⟨fun h' => by simp [Fence.wide] at h', fun c cs _ => let ⟨v, w', r, s⟩ := h c cs; ⟨v, w', r, stepsIn_wide.2 s⟩⟩
  | halt x w' => cases x <;> simp only [Oper.upon, Oper.uponIn] at h ⊢ <;> exact h
theorem wpAnyIn_of (hnd : ∀ (i : Nat) (o : Oper), ops[i]? = some o → ∀ c, o.op ≠ .defer c) (hout : LetsOut Q → False) : ∀ (fuel : Nat) (listed : Array Bool) (a : Act) (w : World), wpAny P md ops Q fuel listed a w → wpAnyIn (Fence.wide.inRound l0) m P md ops Q fuel listed a w := by
  intro fuel
  induction fuel with
  | zero => intro listed a w h; exact h
  | succ fuel ih =>
    intro listed a w h
    refine ⟨h.1, fun i hi => ?_⟩
    have h1 := h.2 i hi
    unfold wpOp at h1
    unfold wpOpIn
    cases ho : ops[i]? with
    | none =>
      rw [ho] at h1
      exact ih _ _ _ h1
    | some o =>
      rw [ho] at h1
      simp only at h1 ⊢
      split
      · rename_i hw
        rw [if_pos hw] at h1
        rcases h1 with h1 | ⟨_, h1⟩
        · exact Oper.wpIn_mono (fun a w h => ih _ a w h) (wpIn_of_wp (hnd i o ho) h1)
        · exact (hout h1).elim
      · rename_i hw
        rw [if_neg hw] at h1
        exact ⟨fun _ _ => trivial, ih _ _ _ h1⟩
end
section
variable {P : Program} {l : List Oper} {n : Nat} {a0 : Act} {w0 : World} {Q : Exit → Act → World → Prop} {l0 m : Nat}
/-- What is said of the values, one by one. -/
def rgA1 (L : List (Value → World → Prop)) (i : Nat) (_ : Nat → Prop) (v : Value) (w : World) : Prop := match L[i]? with
  | some p => p v w
  | none => True
/-- It stays said. -/
def StabI (p : Value → World → Prop) : Prop := ∀ v w w', Below w.heap.size w w' → p v w → p v w'
def AllStabI : List (Value → World → Prop) → Prop
  | [] => True
  | p :: ps => StabI p ∧ AllStabI ps
theorem AllStabI.get : ∀ {L : List (Value → World → Prop)}, AllStabI L → ∀ (i : Nat) (p : Value → World → Prop), L[i]? = some p → StabI p
  | [], _, i, p, h => by simp at h
  | q :: L, hs, 0, p, h => by simp at h; subst h; exact hs.1
  | q :: L, hs, i + 1, p, h => AllStabI.get hs.2 i p (by simpa using h)
theorem StabI.val (p : Value → Prop) : StabI fun v _ => p v := fun _ _ _ _ h => h
/-- THE REGION, in a round: each of the first n operations by itself; the others behind them, in order. -/
theorem wpIn_region_rgl {id : Nat} (n : Nat) (L : List (Value → World → Prop)) (hnd : ∀ (i : Nat) (o : Oper), l.toArray[i]? = some o → ∀ c, o.op ≠ .defer c) (hfl : l.all (fldOk P) = true) (hout : LetsOut Q → False) (hQ : ∀ c a t v w, Q (.panic c) (a.put (some t) v) w → Q (.panic c) a w) (hm : P.follows .mixedOrders = true) (hok : rgOk l n a0.tmps.size = true) (hst : AllStabI L)
    (hsteps : rgSteps P l n a0 w0 (rgA1 L) (fun _ _ => []) 0 l)
    (htail : ∀ (v : Nat → Value) (w : World), Below w0.heap.size w0 w → (∀ j, j < n → rgA1 L j (fun _ => False) (v j) w) → wpList P l.toArray Q (rgTl l n) (rgPut l a0 v n) w) :
    (Code.region id l.toArray true).wpIn (Fence.wide.inRound l0) m P Q a0 w0 := by
  have hT := rgText_of hok
  have hF : ∀ j d, (Array.replicate l.length false).getD j d = if j < l.length then false else d := fun j d => by
    by_cases h : j < l.length <;> simp [h]
  refine wpIn_region_any hm (wpAnyIn_of hnd hout _ _ _ _ ?_)
  have hsz : l.toArray.size = l.length := by simp
  rw [hsz]
  refine rgMain hfl hout hT rfl hQ (fun i G X v w w' _ hb _ h => by
    unfold rgA1 at *
    cases hp : L[i]? with
    | none => rw [hp] at h; trivial
    | some p => rw [hp] at h; exact hst.get i p hp v w w' hb h) hsteps (fun v w G hb _ hA => htail v w hb fun j hj => by
      have := hA j hj
      unfold rgA1 at *
      exact this) l.length _ a0 w0.drew (fun _ => undef) (fun _ => False) (by simp) ?_ ?_ ?_ (Below.drew (Below.refl _ _)) ⟨fun b h => h.elim, fun b h => h.elim, fun j hj hl => ?_, fun i j hi hj hl => ?_⟩ ?_ ?_
  · have : ∀ k, rgLeft (Array.replicate l.length false) k ≤ k := by
      intro k
      induction k with
      | zero => exact Nat.le_refl _
      | succ k ih => unfold rgLeft; split <;> omega
    have := this n
    have := hT.le
    omega
  · intro j _ hj; rw [hF, if_pos hj]
  · intro i hi hl; rw [hF, if_pos hi] at hl; cases hl
  · rw [hF] at hl; split at hl <;> cases hl
  · rw [hF] at hl; split at hl <;> cases hl
  · intro j hj hl; rw [hF] at hl; split at hl <;> cases hl
  · refine ⟨rfl, rfl, fun j d hj hl => ?_, fun _ _ => rfl⟩
    rw [hF] at hl; split at hl <;> cases hl
/-- THE REGION, outside of rounds. -/
theorem wp_region_rgl1 {id : Nat} (n : Nat) (L : List (Value → World → Prop)) (hfl : l.all (fldOk P) = true) (hout : LetsOut Q → False) (hQ : ∀ c a t v w, Q (.panic c) (a.put (some t) v) w → Q (.panic c) a w) (hm : P.follows .mixedOrders = true) (hok : rgOk l n a0.tmps.size = true) (hst : AllStabI L)
    (hsteps : rgSteps P l n a0 w0 (rgA1 L) (fun _ _ => []) 0 l)
    (htail : ∀ (v : Nat → Value) (w : World), Below w0.heap.size w0 w → (∀ j, j < n → rgA1 L j (fun _ => False) (v j) w) → wpList P l.toArray Q (rgTl l n) (rgPut l a0 v n) w) :
    (Code.region id l.toArray true).wp P Q a0 w0 :=
  wp_region_rg n (rgA1 L) (fun _ _ => []) hfl hout hQ hm hok (fun i G X v w w' _ hb _ h => by
    unfold rgA1 at *
    cases hp : L[i]? with
    | none => rw [hp] at h; trivial
    | some p => rw [hp] at h; exact hst.get i p hp v w w' hb h) hsteps (fun v w G hb _ hA => htail v w hb fun j hj => by
      have := hA j hj
      unfold rgA1 at *
      exact this)
end
end Go.Proofs.Ytnkfbodolbfjpaa
