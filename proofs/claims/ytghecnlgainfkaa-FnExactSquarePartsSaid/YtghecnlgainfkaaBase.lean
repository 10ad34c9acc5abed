/- General words of this claim's proofs: no program is named here. -/
import Derived.WalkKit
import Derived.LoopTactic
import Derived.Lib.Hide
namespace Go.Proofs.Ytghecnlgainfkaa
open Go.RowKit
theorem ret_int {k : IntKind} {a b : Int} (h : a = b) : Ending.returned (.int k a) = .returned (.int k b) := by rw [h]
theorem ret_bool {a b : Bool} (h : a = b) : Ending.returned (.bool a) = .returned (.bool b) := by rw [h]
theorem ret_ii {k l : IntKind} {a b c d : Int} (h : a = b) (h' : c = d) : Ending.returned (.tuple #[.int k a, .int l c]) = .returned (.tuple #[.int k b, .int l d]) := by rw [h, h']
/-- A call that answers whether p holds, and leaves the world as it was. -/
def BoolIff (p : Prop) (w : World) (e : Ending) (w' : World) : Prop := w = w' ∧ ((p ∧ e = .returned (.bool true)) ∨ (¬ p ∧ e = .returned (.bool false)))
theorem BoolIff.yes {p : Prop} {w : World} {v : Value} (h : p) (hv : v = .bool true := by rfl) : BoolIff p w (.returned v) w := ⟨rfl, .inl ⟨h, by rw [hv]⟩⟩
theorem BoolIff.no {p : Prop} {w : World} {v : Value} (h : ¬ p) (hv : v = .bool false := by rfl) : BoolIff p w (.returned v) w := ⟨rfl, .inr ⟨h, by rw [hv]⟩⟩
/-- A call that returns v and leaves the world as it was. -/
def Gives (v : Value) (w : World) (e : Ending) (w' : World) : Prop := e = .returned v ∧ w = w'
end Go.Proofs.Ytghecnlgainfkaa
