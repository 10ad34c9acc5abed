/- A contract, used at a world. -/
import Derived.Test.YtghpeccaknhjiaaY23
namespace Go.Proofs.Ytghpeccaknhjiaa
open Go.RowKit
theorem spec_args {W : World} {R : Nat → Prop} {vs : List Value} {args : List VD} (h : F2 (RVD W R) vs args) : F2 (RV1 W R (fun _ => undef) (domO (frO []))) vs (args.map VD.v1) := by
  induction h with
  | nil => exact .nil
  | cons h1 _ ih =>
    refine .cons ?_ ih
    rename_i v x _ _ _
    cases x with
    | c y => exact h1
    | agg ys => obtain ⟨us, e, h2⟩ := h1; exact ⟨us, e, F2.map_right (f := B.d) (fun _ _ h => h) h2⟩
theorem noTab (w : World) (R : Nat → Prop) : TabW w R := fun x hx => by simp [tabG] at hx
/-- A contract whose result is data, at a world. -/
theorem spec_call {P : Program} {k : FuncId} {args : List VD} {d : D} (h : Spec P k args (.v (.c (.fz d)))) {W : World} {R : Nat → Prop} {vs : List Value} (hR : ∀ b, R b → b < W.heap.size) (hF : F2 (RVD W R) vs args) :
    Calls P k vs.toArray W fun e W' => ∃ v, e = .returned v ∧ Below W.heap.size W W' ∧ ∃ R' : Nat → Prop, RD W' R' v d := by
  refine (h.2 W R (fun _ => undef) (fun _ => []) vs hR (spec_args hF) ⟨fun o x h => (by cases h), fun o x h => (by cases h), fun o p x y g h => (by cases h), noTab _ _⟩).mono fun e W' => ?_
  rintro ⟨v, rfl, R', ι', φ', hb, hs, hz, _, hra, _⟩
  exact ⟨v, rfl, hb.below (fun g ⟨o, x, h, _⟩ => by cases h), R', hra⟩
end Go.Proofs.Ytghpeccaknhjiaa
