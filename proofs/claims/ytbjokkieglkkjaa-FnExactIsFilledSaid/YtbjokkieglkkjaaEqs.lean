/- Lists that are the same item by item. -/
import Derived.Test.YtbjokkieglkkjaaBel
namespace Go.Proofs.Ytbjokkieglkkjaa
open Go.RowKit
set_option maxRecDepth 10000
set_option maxHeartbeats 4000000
def eqUp {α β : Type} (r : α → β → Prop) (l : List α) (m : List β) (n : Nat) : Prop := ∀ (i : Nat) a b, i < n → l[i]? = some a → m[i]? = some b → r a b
theorem eqUp_succ {α β : Type} {r : α → β → Prop} {l : List α} {m : List β} {n : Nat} {a : α} {b : β} (h : eqUp r l m n) (ha : l[n]? = some a) (hb : m[n]? = some b) (hr : r a b) : eqUp r l m (n + 1) := fun i x y hi hx hy => by
  by_cases hin : i = n
  · subst hin
    rw [ha] at hx; rw [hb] at hy
    cases hx; cases hy; exact hr
  · exact h i x y (by omega) hx hy
def eqL {α β : Type} (r : α → β → Prop) (l : List α) (m : List β) : Prop := l.length = m.length ∧ eqUp r l m l.length
theorem eqL_list {α : Type} {l m : List α} : eqL (fun a b => a = b) l m ↔ l = m := by
  constructor
  · rintro ⟨h1, h2⟩
    refine List.ext_getElem? fun i => ?_
    by_cases hi : i < l.length
    · rw [List.getElem?_eq_getElem hi, List.getElem?_eq_getElem (h1 ▸ hi)]
      exact congrArg some (h2 i _ _ hi (List.getElem?_eq_getElem hi) (List.getElem?_eq_getElem (h1 ▸ hi)))
    · rw [List.getElem?_eq_none (by omega), List.getElem?_eq_none (by omega)]
  · rintro rfl
    exact ⟨rfl, fun i a b _ ha hb => by rw [ha] at hb; cases hb; rfl⟩
end Go.Proofs.Ytbjokkieglkkjaa
