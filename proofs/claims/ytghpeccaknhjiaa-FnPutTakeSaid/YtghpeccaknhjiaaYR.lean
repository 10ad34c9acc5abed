/- Operations that only read: what they leave is the world as it was. No program is named here. -/
import Derived.Test.YtghpeccaknhjiaaYP
namespace Go.Proofs.Ytghpeccaknhjiaa
open Go.RowKit
section
variable {P : Program}
/-- If it ends well, the world is as it was. -/
def RdS (P : Program) {α : Type} (m : Sem α) : Prop := ∀ w r w', m.run P w = .ok r w' → w' = w
theorem RdS.pure {α : Type} (x : α) : RdS P (pure x : Sem α) := fun w r w' h => by
  simp only [Sem.run_pure] at h
  injection h with h1 h2
  exact h2.symm
theorem RdS.bind {α β : Type} {m : Sem α} {f : α → Sem β} (h1 : RdS P m) (h2 : ∀ x, RdS P (f x)) : RdS P (m >>= f) := fun w r w' h => by
  rw [Sem.run_bind] at h
  cases hm : m.run P w with
  | ok x w1 =>
    rw [hm] at h
    simp only [Result.andThen_ok] at h
    have e1 := h1 w x w1 hm
    have e2 := h2 x w1 r w' h
    rw [e2, e1]
  | halt y w1 =>
    rw [hm] at h
    cases h
theorem RdS.stuck {α : Type} (s : String) : RdS P (stuck s : Sem α) := fun w r w' h => by simp at h
theorem RdS.typeInfo (t : TypeId) : RdS P (typeInfo t) := fun w r w' h => by
  cases hi : P.info? t with
  | none => simp [Go.typeInfo, hi] at h
  | some i =>
    simp [Go.typeInfo, hi] at h
    exact h.2.symm
theorem RdS.underlying (t : TypeId) : RdS P (underlying t) := fun w r w' h => by
  cases hi : P.underlying t with
  | none => simp [Go.underlying, hi] at h
  | some i =>
    rw [run_underlying hi] at h
    injection h with h1 h2
    exact h2.symm
theorem RdS.sizeOf (t : TypeId) : RdS P (sizeOf t) := RdS.bind (RdS.typeInfo t) fun _ => RdS.pure _
theorem RdS.isAgg (t : TypeId) : RdS P (isAgg t) := by
  unfold Go.isAgg
  refine RdS.bind (RdS.underlying t) fun d => ?_
  split
  · exact RdS.pure _
  · exact RdS.pure _
  · exact RdS.pure _
theorem RdS.sure (v : Value) : RdS P (Instr.sureAddr v) := by
  unfold Instr.sureAddr
  split
  · exact RdS.pure _
  · exact RdS.stuck _
theorem RdS.load (a : Addr) : RdS P (load a) := fun w r w' h => by
  unfold Go.load at h
  simp only [Sem.run] at h
  repeat' split at h
  all_goals first
    | (cases h; done)
    | (injection h with h1 h2; exact h2.symm)
    | (simp only [Sem.run_pure] at h; injection h with h1 h2; exact h2.symm)
    | skip
theorem RdS.unsup {α : Type} (u : Unsupported) : RdS P (unsupported u : Sem α) := fun w r w' h => by
  simp [Go.unsupported] at h
theorem RdS.asInt (v : Value) : RdS P (asIntOf v) := by
  unfold Go.asIntOf
  split
  all_goals first | exact RdS.pure _ | exact RdS.stuck _ | exact RdS.unsup _
theorem RdS.never {α : Type} {m : Sem α} (h : ∀ w r w', m.run P w ≠ .ok r w') : RdS P m := fun w r w' e => absurd e (h w r w')
theorem RdS.thenNever {α β : Type} {m : Sem α} {f : α → Sem β} (h : ∀ x w r w', (f x).run P w ≠ .ok r w') : RdS P (m >>= f) := RdS.never fun w r w' e => by
  rw [Sem.run_bind] at e
  cases hm : m.run P w with
  | ok x w1 =>
    rw [hm] at e
    simp only [Result.andThen_ok] at e
    exact h _ _ _ _ e
  | halt y w1 =>
    rw [hm] at e
    cases e
theorem RdS.bounds {α : Type} (k : IntKind) (i : Int) (n : Int) (c : BoundsCode) : RdS P (boundsPanic k i n c : Sem α) := by
  have hp : ∀ (s : Bool) (w : World) (r : α) (w' : World), (runtimePanic (RuntimeError.bounds (IntKind.i64.wrap i) n s c) : Sem α).run P w ≠ .ok r w' := fun s w r w' e => by
    simp [Go.runtimePanic] at e
  unfold Go.boundsPanic
  dsimp only
  split
  · exact RdS.thenNever fun x => hp x
  · exact RdS.thenNever fun x => hp x
theorem RdS.loadCells (a : Addr) (n : Nat) : RdS P (loadCells a n) := by
  unfold Go.loadCells
  suffices h : ∀ n i acc, RdS P (loadCellsFrom a i n acc) from h _ _ _
  intro n
  induction n with
  | zero => intro i acc; exact RdS.pure _
  | succ n ih =>
    intro i acc
    exact RdS.bind (RdS.load _) fun v => ih _ _
theorem RdS.loadAt (t : TypeId) (v : Value) : RdS P (Instr.loadAt t v) := by
  unfold Instr.loadAt
  refine RdS.bind (RdS.sure v) fun a => ?_
  unfold loadVar
  refine RdS.bind (RdS.isAgg t) fun b => ?_
  split
  · exact RdS.bind (RdS.sizeOf t) fun n => RdS.bind (RdS.loadCells a n) fun _ => RdS.pure _
  · exact RdS.load a
theorem RdS.indexAt (t : TypeId) (x i : Value) : RdS P (Instr.indexAt t x i) := by
  unfold Instr.indexAt
  repeat' (first | exact RdS.pure _ | exact RdS.stuck _ | exact RdS.unsup _ | exact RdS.bounds _ _ _ _ | exact RdS.sure _ | exact RdS.asInt _ | exact RdS.underlying _ | exact RdS.sizeOf _ | refine RdS.bind ?_ fun _ => ?_ | split | dsimp only)
theorem RdS.blind : ∀ (ps : List FieldStep) (t : TypeId) (x : Option Value), RdS P (followBlind ps t x)
  | [], t, x => by unfold Go.followBlind; exact RdS.pure _
  | p :: ps, t, x => by
    unfold Go.followBlind
    repeat' (first | exact RdS.pure _ | exact RdS.stuck _ | exact RdS.unsup _ | exact RdS.blind _ _ _ | exact RdS.typeInfo _ | exact RdS.underlying _ | exact RdS.sizeOf _ | refine RdS.bind ?_ fun _ => ?_ | split | dsimp only)
theorem RdS.ahead : ∀ (f : Nat) (t : TypeId) (v : Value) (n : String), RdS P (nilAhead f t v n)
  | 0, _, _, _ => RdS.pure _
  | f + 1, t, v, n => by
    unfold Go.nilAhead
    repeat' (first | exact RdS.pure _ | exact RdS.stuck _ | exact RdS.unsup _ | exact RdS.ahead _ _ _ _ | exact RdS.blind _ _ _ | exact RdS.typeInfo _ | exact RdS.underlying _ | exact RdS.sizeOf _ | refine RdS.bind ?_ fun _ => ?_ | split | dsimp only)
def RdN (P : Program) (m : Sem Next) : Prop := ∀ {w n w'}, m.run P w = .ok n w' → ∃ v, n = .value v ∧ w' = w
theorem RdN.val (v : Value) : RdN P (Pure.pure (.value v) : Sem Next) := fun {w n w'} e => by
  simp only [Sem.run_pure] at e
  injection e with e1 e2
  exact ⟨v, e1.symm, e2.symm⟩
theorem RdN.bind {α : Type} {m : Sem α} {f : α → Sem Next} (h1 : RdS P m) (h2 : ∀ x, RdN P (f x)) : RdN P (m >>= f) := fun {w n w'} e => by
  rw [Sem.run_bind] at e
  cases hm : m.run P w with
  | ok x w1 =>
    rw [hm] at e
    simp only [Result.andThen_ok] at e
    obtain ⟨v, e1, e2⟩ := h2 x e
    exact ⟨v, e1, by rw [e2]; exact h1 w x w1 hm⟩
  | halt y w1 =>
    rw [hm] at e
    cases e
theorem RdN.panic : RdN P (runtimePanic .nilDeref : Sem Next) := fun {w n w'} e => by
  simp [Go.runtimePanic] at e
theorem RdN.unsup (u : Unsupported) : RdN P (unsupported u : Sem Next) := fun {w n w'} e => by
  simp [Go.unsupported] at e
theorem RdS.prog : RdS P program := fun w r w' e => by
  unfold Go.program at e
  simp only [Sem.run] at e
  first | (injection e with e1 e2; exact e2.symm) | (simp only [Sem.run_pure] at e; injection e with e1 e2; exact e2.symm)
/-- Kinds of operations that only read. -/
def rdO (o : Oper) : Bool := match o.op with
  | .load _ _ => true
  | .nilCheck _ => true
  | .indexAddr _ _ _ => true
  | _ => false
theorem rdO_run {o : Oper} {ρ : Operand → Value} (h : rdO o = true) {w : World} {n : Next} {w' : World} (hr : (execOp ρ o).run P w = .ok n w') : ∃ v, n = .value v ∧ w' = w := by
  have hv : ∀ {m : Sem Value}, RdS P m → ∀ {w n w'}, (do let v ← m; Pure.pure (Next.value v) : Sem Next).run P w = .ok n w' → ∃ v, n = .value v ∧ w' = w := fun {m} hm {w n w'} e => by
    rw [Sem.run_bind] at e
    cases hmr : m.run P w with
    | ok x w1 =>
      rw [hmr] at e
      simp only [Result.andThen_ok, Sem.run_pure] at e
      injection e with e1 e2
      exact ⟨x, e1.symm, by rw [← e2]; exact hm w x w1 hmr⟩
    | halt y w1 =>
      rw [hmr] at e
      cases e
  unfold rdO at h
  split at h
  · rename_i T x hop
    unfold execOp at hr
    rw [hop] at hr
    exact hv (RdS.loadAt T (ρ x)) hr
  · rename_i x hop
    have hn : ∀ y : Value, ∀ {w n w'}, (match y with
        | .pointer none | .nilIface | .nilFunc => runtimePanic .nilDeref
        | .func (.method name) first captured =>
          match (first[0]? : Option Value) with
          | some .nilIface => runtimePanic .nilDeref
          | some (.iface t w) => do
            if (← nilAhead ((← program).types.size + Made.depth) t w name) != some false then
              unsupported (.noEntry "op/nilCheck.the method's receiver behind this interface value is a nil pointer, or cannot be seen to be none, and the arguments act or may panic (ledger 612)")
            pure (.value (.func (.method name) first captured))
          | _ => pure (.value (.func (.method name) first captured))
        | x => pure (.value x) : Sem Next).run P w = .ok n w' → ∃ v, n = .value v ∧ w' = w := fun y {w n w'} e => by
      revert w n w'
      change RdN P _
      repeat' (first | exact RdN.val _ | exact RdN.panic | exact RdN.unsup _ | exact RdS.ahead _ _ _ _ | exact RdS.prog | refine RdN.bind ?_ fun _ => ?_ | split | dsimp only)
    unfold execOp at hr
    rw [hop] at hr
    exact hn (ρ x) hr
  · rename_i T x i hop
    unfold execOp at hr
    rw [hop] at hr
    exact hv (RdS.indexAt T (ρ x) (ρ i)) hr
  · cases h
end
end Go.Proofs.Ytghpeccaknhjiaa
