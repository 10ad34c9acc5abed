/- How many marks there are. -/
import Derived.Test.YtehkaajakapkmaaBoil
namespace Go.Proofs.Ytehkaajakapkmaa
open Go.RowKit
theorem cnt_const {α : Type} {c : α → Nat} {K : Nat} (h : ∀ a, c a = K) : ∀ {l : List α}, cnt c l = l.length * K
  | [] => by rw [cnt_nil]; simp
  | a :: l => by rw [cnt_cons, h a, cnt_const h, List.length_cons, Nat.succ_mul]; omega
theorem cnt_bd {α : Type} {c : α → Nat} {M : Nat} : ∀ {l : List α}, (∀ a ∈ l, c a ≤ M) → cnt c l ≤ l.length * M
  | [], _ => by rw [cnt_nil]; simp
  | a :: l, h => by
    have h1 := h a (by simp)
    have h2 := cnt_bd (c := c) (M := M) (l := l) fun b hb => h b (by simp [hb])
    rw [cnt_cons, List.length_cons, Nat.succ_mul]
    omega
end Go.Proofs.Ytehkaajakapkmaa
