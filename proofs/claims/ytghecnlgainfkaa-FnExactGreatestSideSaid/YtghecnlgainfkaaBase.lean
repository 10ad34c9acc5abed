/- General words of this claim's proofs: no program is named here. -/
import Derived.WalkKit
import Derived.LoopTactic
import Derived.Lib.Hide
import Derived.Below
namespace Go.Proofs.Ytghecnlgainfkaa
open Go.RowKit
theorem ret_int {k : IntKind} {a b : Int} (h : a = b) : Ending.returned (.int k a) = .returned (.int k b) := by rw [h]
theorem ret_bool {a b : Bool} (h : a = b) : Ending.returned (.bool a) = .returned (.bool b) := by rw [h]
theorem ret_ii {k l : IntKind} {a b c d : Int} (h : a = b) (h' : c = d) : Ending.returned (.tuple #[.int k a, .int l c]) = .returned (.tuple #[.int k b, .int l d]) := by rw [h, h']
/-- A call that answers whether p holds, and leaves the world as it was. -/
def BoolIff (p : Prop) (w : World) (e : Ending) (w' : World) : Prop := w = w' ∧ ((p ∧ e = .returned (.bool true)) ∨ (¬ p ∧ e = .returned (.bool false)))
theorem BoolIff.yes {p : Prop} {w : World} {v : Value} (h : p) (hv : v = .bool true := by rfl) : BoolIff p w (.returned v) w := ⟨rfl, .inl ⟨h, by rw [hv]⟩⟩
theorem BoolIff.no {p : Prop} {w : World} {v : Value} (h : ¬ p) (hv : v = .bool false := by rfl) : BoolIff p w (.returned v) w := ⟨rfl, .inr ⟨h, by rw [hv]⟩⟩
/-- A call that returns v and leaves the world as it was. -/
def Gives (v : Value) (w : World) (e : Ending) (w' : World) : Prop := e = .returned v ∧ w = w'
/-- A call that answers whether p holds, and turns nothing that was there. -/
def BoolB (p : Prop) (w : World) (e : Ending) (w' : World) : Prop := Below w.heap.size w w' ∧ ((p ∧ e = .returned (.bool true)) ∨ (¬ p ∧ e = .returned (.bool false)))
theorem BoolB.yes {p : Prop} {w w' : World} {v : Value} (hb : Below w.heap.size w w') (h : p) (hv : v = .bool true := by rfl) : BoolB p w (.returned v) w' := ⟨hb, .inl ⟨h, by rw [hv]⟩⟩
theorem BoolB.no {p : Prop} {w w' : World} {v : Value} (hb : Below w.heap.size w w') (h : ¬ p) (hv : v = .bool false := by rfl) : BoolB p w (.returned v) w' := ⟨hb, .inr ⟨h, by rw [hv]⟩⟩
/-- A call that returns v, and turns nothing that was there. -/
def Ret (v : Value) (w : World) (e : Ending) (w' : World) : Prop := e = .returned v ∧ Below w.heap.size w w'
theorem bcell {W w1 : World} (hb : Below W.heap.size W w1) : (∀ b o, b < W.heap.size → w1.cell? ⟨b, o, none⟩ = W.cell? ⟨b, o, none⟩) ∧ (∀ b o, b < W.heap.size → w1.frozen? ⟨b, o, none⟩ = W.frozen? ⟨b, o, none⟩) :=
  ⟨fun b o h => hb.cell (p := ⟨b, o, none⟩) h, fun b o h => hb.frozen (p := ⟨b, o, none⟩) h⟩
end Go.Proofs.Ytghecnlgainfkaa
