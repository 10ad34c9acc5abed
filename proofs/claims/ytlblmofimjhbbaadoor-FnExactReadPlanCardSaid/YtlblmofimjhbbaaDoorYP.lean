/- Fewer orders of a region that draws its order: operations that only read may be swapped. No program is named here. -/
import Derived.Test.YtlblmofimjhbbaaDoorYO
namespace Go.Proofs.YtlblmofimjhbbaaDoor
open Go.RowKit
section
variable {P : Program} {md : Region.Mode} {ops : Array Oper} {Q : Exit → Act → World → Prop}
/-- In this world the operation gives that value and leaves the world as it is; or it is not wanted. -/
def YieldsAt (P : Program) (ops : Array Oper) (o : Oper) (v : Value) (a : Act) (w : World) : Prop :=
  (Region.wanted o (yielded ops a.tmps) = true ∧ (execOp a.eval o).run P w = .ok (.value v) w) ∨ (Region.wanted o (yielded ops a.tmps) = false ∧ v = undef)
theorem YieldsAt.same {o : Oper} {v : Value} {a a' : Act} {w : World} (hy : YieldsAt P ops o v a w) (he : execOp a'.eval o = execOp a.eval o) (hw : Region.wanted o (yielded ops a'.tmps) = Region.wanted o (yielded ops a.tmps)) : YieldsAt P ops o v a' w := by
  unfold YieldsAt at *
  rw [he, hw]
  exact hy
theorem YieldsAt.put {o : Oper} {v : Value} {a : Act} {w : World} {dst : Option Tmp} {u : Value} (hs : ∀ cs b, o.op ≠ .select cs b) (h : ∀ d, dst = some d → d ∉ o.looksAt ops) (hy : YieldsAt P ops o v a w) : YieldsAt P ops o v (a.put dst u) w :=
  hy.same (execOp_put o hs a dst u h) (wanted_put o a dst u h)
theorem YieldsAt.unput {o : Oper} {v : Value} {a : Act} {w : World} {dst : Option Tmp} {u : Value} (hs : ∀ cs b, o.op ≠ .select cs b) (h : ∀ d, dst = some d → d ∉ o.looksAt ops) (hy : YieldsAt P ops o v (a.put dst u) w) : YieldsAt P ops o v a w :=
  hy.same (execOp_put o hs a dst u h).symm (wanted_put o a dst u h).symm
theorem YieldsAt.det {o : Oper} {v u : Value} {a : Act} {w : World} (h : YieldsAt P ops o v a w) (h' : YieldsAt P ops o u a w) : u = v := by
  rcases h with ⟨h1, h2⟩ | ⟨h1, rfl⟩
  · rcases h' with ⟨_, h4⟩ | ⟨h3, _⟩
    · rw [h2] at h4
      injection h4 with h5
      injection h5 with h6
      exact h6.symm
    · rw [h1] at h3; cases h3
  · rcases h' with ⟨h3, _⟩ | ⟨_, rfl⟩
    · rw [h1] at h3; cases h3
    · rfl
theorem YieldsAt.wpOp {i : Nat} {o : Oper} {v : Value} {a : Act} {w : World} (hi : ops[i]? = some o) (hy : YieldsAt P ops o v a w) {K : Act → World → Prop} (h : K (a.put o.dst v) w) : wpOp P ops Q i K a w := by
  unfold Go.wpOp
  simp only [hi]
  rcases hy with ⟨hw, hv⟩ | ⟨hw, rfl⟩
  · simp only [hw, if_true, Oper.wp, hv, Oper.upon]; exact .inl h
  · simp only [hw, Bool.false_eq_true, if_false]; exact h
/-- As wpAny, but operations that sleep are not tried; a read wakes none, any other operation wakes all. -/
def WS (P : Program) (md : Region.Mode) (ops : Array Oper) (Q : Exit → Act → World → Prop) (rd : Nat → Bool) : Nat → Array Bool → (Nat → Bool) → Act → World → Prop
  | 0, listed, _, a, w => Region.ready md ops listed = [] ∧ Q .normal a w
  | f + 1, listed, Z, a, w => (Region.ready md ops listed = [] → Q .normal a w) ∧ ∀ i ∈ Region.ready md ops listed, Z i = false →
      (rd i = true → ∃ o v, ops[i]? = some o ∧ YieldsAt P ops o v a w ∧ WS P md ops Q rd f (listed.setIfInBounds i true) Z (a.put o.dst v) w) ∧
      (rd i = false → wpOp P ops Q i (fun a w => WS P md ops Q rd f (listed.setIfInBounds i true) (fun _ => false) a w) a w)
variable {rd : Nat → Bool}
theorem WS.any : ∀ (f : Nat) (listed : Array Bool) (a : Act) (w : World), WS P md ops Q rd f listed (fun _ => false) a w → wpAny P md ops Q f listed a w
  | 0, _, _, _, h => h
  | f + 1, listed, a, w, h => by
    refine ⟨h.1, fun i hi => ?_⟩
    obtain ⟨h1, h2⟩ := h.2 i hi rfl
    cases hr : rd i with
    | true =>
      obtain ⟨o, v, ho, hy, hk⟩ := h1 hr
      exact hy.wpOp ho (WS.any f _ _ _ hk)
    | false => exact wpOp_mono (fun a w h => WS.any f _ a w h) (h2 hr)
theorem WS.more : ∀ (f : Nat) (listed : Array Bool) (Z Z' : Nat → Bool) (a : Act) (w : World), (∀ i, Z i = true → Z' i = true) → WS P md ops Q rd f listed Z a w → WS P md ops Q rd f listed Z' a w
  | 0, _, _, _, _, _, _, h => h
  | f + 1, listed, Z, Z', a, w, hz, h => by
    refine ⟨h.1, fun i hi hZ => ?_⟩
    have hZ0 : Z i = false := by
      cases hzi : Z i with
      | false => rfl
      | true => rw [hz i hzi] at hZ; cases hZ
    obtain ⟨h1, h2⟩ := h.2 i hi hZ0
    refine ⟨fun hr => ?_, h2⟩
    obtain ⟨o, v, ho, hy, hk⟩ := h1 hr
    exact ⟨o, v, ho, hy, WS.more f _ Z Z' _ _ hz hk⟩
/-- Reads that may come up together are apart. -/
def ReadsApart (md : Region.Mode) (ops : Array Oper) (rd : Nat → Bool) : Prop := ∀ (listed : Array Bool) (i j : Nat) (oi oj : Oper), rd i = true → rd j = true → i ≠ j → ops[i]? = some oi → ops[j]? = some oj →
  i ∈ Region.ready md ops listed → j ∈ Region.ready md ops listed → oi.apart ops oj = true
/-- A read that runs now, and the same read asleep: together all orders. -/
theorem WS.sleep (hns : ∀ (j : Nat) (o : Oper) cs b, ops[j]? = some o → o.op ≠ .select cs b) (hap : ReadsApart md ops rd) {r : Nat} {o : Oper} (ho : ops[r]? = some o) (hrd : rd r = true) : ∀ (f : Nat) (listed : Array Bool) (Z : Nat → Bool) (a : Act) (w : World) (v : Value),
    r ∈ Region.ready md ops listed → YieldsAt P ops o v a w → WS P md ops Q rd f (listed.setIfInBounds r true) Z (a.put o.dst v) w → WS P md ops Q rd (f + 1) listed (fun i => Z i || i == r) a w → WS P md ops Q rd (f + 1) listed Z a w := by
  intro f
  induction f with
  | zero =>
    intro listed Z a w v hr hy h1 h2
    refine ⟨fun h => (by rw [h] at hr; cases hr), fun i hi hZ => ?_⟩
    by_cases hir : i = r
    · subst hir
      exact ⟨fun _ => ⟨o, v, ho, hy, h1⟩, fun h => by rw [hrd] at h; cases h⟩
    · have := ready_mono hi hir
      rw [h1.1] at this
      cases this
  | succ f ih =>
    intro listed Z a w v hr hy h1 h2
    refine ⟨fun h => (by rw [h] at hr; cases hr), fun i hi hZ => ?_⟩
    by_cases hir : i = r
    · subst hir
      exact ⟨fun _ => ⟨o, v, ho, hy, h1⟩, fun h => by rw [hrd] at h; cases h⟩
    · obtain ⟨k1, k2⟩ := h2.2 i hi (by simp [hZ, hir])
      refine ⟨fun hri => ?_, k2⟩
      obtain ⟨oi, u, hoi, hyi, hk⟩ := k1 hri
      refine ⟨oi, u, hoi, hyi, ?_⟩
      have hapart := hap listed r i o oi hrd hri (Ne.symm hir) ho hoi hr hi
      obtain ⟨p1, p2, p3⟩ := Oper.apart_spec hapart
      obtain ⟨m1, _⟩ := h1.2 i (ready_mono hi hir) hZ
      obtain ⟨oi', u', hoi', hyi', hk'⟩ := m1 hri
      rw [hoi] at hoi'
      cases hoi'
      have hu : u' = u := hyi.det (hyi'.unput (fun cs b => hns i oi cs b hoi) p1)
      subst hu
      refine ih (listed.setIfInBounds i true) Z (a.put oi.dst u') w v (ready_mono hr (Ne.symm hir)) (hy.put (fun cs b => hns r o cs b ho) p3) ?_ hk
      rw [Array.setIfInBounds_comm _ _ hir, ← Act.put_comm a v u' p2]
      exact hk'
end
end Go.Proofs.YtlblmofimjhbbaaDoor
