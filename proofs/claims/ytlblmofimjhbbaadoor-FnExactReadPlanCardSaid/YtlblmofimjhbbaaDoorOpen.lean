/- How an argument that can be read lies in memory: shapes that recur. No program is named here. -/
import Derived.Test.YtlblmofimjhbbaaDoorRead
import Derived.ProofKit
namespace Go.Proofs.YtlblmofimjhbbaaDoor
open Go.ChangeShapes Go.WideShapes Go.RowKit
/-- A struct by value, of plain numbers alone: the value written out. -/
theorem agg_of {cs : List Value} {v : Value} {P : Program} {W : World} {r : Reach} {b : Nat} {t : TypeId} {fs : Array Field} (ht : P.underlying t = some (.struct fs)) (hv : Value.okWide P W r b t v) (h : v.cells.toList = cs) : v = .agg cs.toArray := by
  obtain ⟨cs', rfl, _⟩ := okWide_struct ht hv
  rw [← h]
  simp [Value.cells]
theorem one_of {v x : Value} (h : v.cells.toList = [x]) (hv : ∀ cs, v ≠ .agg cs) : v = x := by
  cases v <;> simp [Value.cells] at h <;> first | exact h | exact absurd rfl (hv _)
end Go.Proofs.YtlblmofimjhbbaaDoor
