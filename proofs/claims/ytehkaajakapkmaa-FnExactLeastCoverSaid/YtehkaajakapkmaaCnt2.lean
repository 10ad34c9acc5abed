/- How many marks rows of numbers take. -/
import Derived.Test.YtehkaajakapkmaaCnt
namespace Go.Proofs.Ytehkaajakapkmaa
open Go.RowKit
theorem cnt_rows {l : List (List Int)} (h1 : l.length ≤ 1048576) (h : ∀ a ∈ l, a.length ≤ 1048576) : cnt (cnt c1) l ≤ 1099511627776 := by
  have h2 := cnt_bd (c := cnt c1) (M := 1048576) (l := l) fun a ha => by
    have := h a ha
    rw [cnt_const (c := c1) (K := 1) fun _ => rfl]
    omega
  have h3 := Nat.mul_le_mul_right 1048576 h1
  omega
end Go.Proofs.Ytehkaajakapkmaa
