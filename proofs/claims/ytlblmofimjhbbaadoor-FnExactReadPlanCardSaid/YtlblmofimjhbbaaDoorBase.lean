/- General words of this claim's proofs: no program is named here. -/
import Derived.WalkKit
import Derived.LoopTactic
import Derived.Lib.Hide
import Derived.Below
import Derived.Deep.Draws
namespace Go.Proofs.YtlblmofimjhbbaaDoor
open Go.RowKit
theorem ret_int {k : IntKind} {a b : Int} (h : a = b) : Ending.returned (.int k a) = .returned (.int k b) := by rw [h]
theorem ret_bool {a b : Bool} (h : a = b) : Ending.returned (.bool a) = .returned (.bool b) := by rw [h]
theorem ret_ii {k l : IntKind} {a b c d : Int} (h : a = b) (h' : c = d) : Ending.returned (.tuple #[.int k a, .int l c]) = .returned (.tuple #[.int k b, .int l d]) := by rw [h, h']
/-- A call that answers whether p holds, and leaves the world as it was. -/
def BoolIff (p : Prop) (w : World) (e : Ending) (w' : World) : Prop := w = w' ∧ ((p ∧ e = .returned (.bool true)) ∨ (¬ p ∧ e = .returned (.bool false)))
theorem BoolIff.yes {p : Prop} {w : World} {v : Value} (h : p) (hv : v = .bool true := by rfl) : BoolIff p w (.returned v) w := ⟨rfl, .inl ⟨h, by rw [hv]⟩⟩
theorem BoolIff.no {p : Prop} {w : World} {v : Value} (h : ¬ p) (hv : v = .bool false := by rfl) : BoolIff p w (.returned v) w := ⟨rfl, .inr ⟨h, by rw [hv]⟩⟩
/-- A call that returns v and leaves the world as it was. -/
def Gives (v : Value) (w : World) (e : Ending) (w' : World) : Prop := e = .returned v ∧ w = w'
/-- A call that answers whether p holds, and turns nothing that was there. -/
def BoolB (p : Prop) (w : World) (e : Ending) (w' : World) : Prop := Below w.heap.size w w' ∧ ((p ∧ e = .returned (.bool true)) ∨ (¬ p ∧ e = .returned (.bool false)))
theorem BoolB.yes {p : Prop} {w w' : World} {v : Value} (hb : Below w.heap.size w w') (h : p) (hv : v = .bool true := by rfl) : BoolB p w (.returned v) w' := ⟨hb, .inl ⟨h, by rw [hv]⟩⟩
theorem BoolB.no {p : Prop} {w w' : World} {v : Value} (hb : Below w.heap.size w w') (h : ¬ p) (hv : v = .bool false := by rfl) : BoolB p w (.returned v) w' := ⟨hb, .inr ⟨h, by rw [hv]⟩⟩
/-- A call that returns v, and turns nothing that was there. -/
def Ret (v : Value) (w : World) (e : Ending) (w' : World) : Prop := e = .returned v ∧ Below w.heap.size w w'
/-- A call that returns one value if p holds and another if not, and turns nothing that was there. -/
def Either (p : Prop) (x y : Value) (w : World) (e : Ending) (w' : World) : Prop := Below w.heap.size w w' ∧ ((p ∧ e = .returned x) ∨ (¬ p ∧ e = .returned y))
theorem Either.yes {p : Prop} {w w' : World} {v x y : Value} (hb : Below w.heap.size w w') (h : p) (hv : v = x := by rfl) : Either p x y w (.returned v) w' := ⟨hb, .inl ⟨h, by rw [hv]⟩⟩
theorem Either.no {p : Prop} {w w' : World} {v x y : Value} (hb : Below w.heap.size w w') (h : ¬ p) (hv : v = y := by rfl) : Either p x y w (.returned v) w' := ⟨hb, .inr ⟨h, by rw [hv]⟩⟩
theorem bcell {W w1 : World} (hb : Below W.heap.size W w1) : (∀ b o, b < W.heap.size → w1.cell? ⟨b, o, none⟩ = W.cell? ⟨b, o, none⟩) ∧ (∀ b o, b < W.heap.size → w1.frozen? ⟨b, o, none⟩ = W.frozen? ⟨b, o, none⟩) :=
  ⟨fun b o h => hb.cell (p := ⟨b, o, none⟩) h, fun b o h => hb.frozen (p := ⟨b, o, none⟩) h⟩
theorem below_lt {W w1 : World} (hb : Below W.heap.size W w1) : ∀ b, b < W.heap.size → b < w1.heap.size := fun _ h => Nat.lt_of_lt_of_le h hb.size
/-- The world at hand under a name: what its cells hold, how large it is. -/
theorem wp_named {P : Program} {c : Code} {Q : Exit → Act → World → Prop} {a : Act} {W : World}
    (h : ∀ w0, Below W.heap.size W w0 → (∀ b o, w0.cell? ⟨b, o, none⟩ = W.cell? ⟨b, o, none⟩) → (∀ b o, w0.frozen? ⟨b, o, none⟩ = W.frozen? ⟨b, o, none⟩) → w0.heap.size = W.heap.size → c.wp P Q a w0) : c.wp P Q a W :=
  h W (Below.refl _ _) (fun _ _ => rfl) (fun _ _ => rfl) rfl
/-- What is kept of a world since w0. -/
theorem since_of {w0 w' : World} (hb : Below w0.heap.size w0 w') : (∀ b o, b < w0.heap.size → w'.cell? ⟨b, o, none⟩ = w0.cell? ⟨b, o, none⟩) ∧ (∀ b o, b < w0.heap.size → w'.frozen? ⟨b, o, none⟩ = w0.frozen? ⟨b, o, none⟩) ∧ Below w0.heap.size w0 w' :=
  ⟨(bcell hb).1, (bcell hb).2, hb⟩
theorem below_drewN {B : Nat} {a w : World} (h : Below B a w) (n : Nat) : Below B a (w.drewN n) := ⟨h.os, h.tape, h.output, h.size, h.block⟩
end Go.Proofs.YtlblmofimjhbbaaDoor
