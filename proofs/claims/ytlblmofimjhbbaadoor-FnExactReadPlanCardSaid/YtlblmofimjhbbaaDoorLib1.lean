/- Functions of the standard library on lists of numbers. -/
import Derived.Test.YtlblmofimjhbbaaDoorY20
import Derived.Test.YtlblmofimjhbbaaDoorTy
import Derived.Test.YtlblmofimjhbbaaDoorProg
namespace Go.Proofs.YtlblmofimjhbbaaDoor
open Go.RowKit
/-- A number in an element of one cell. -/
abbrev kI : Ky := ⟨2, 1⟩
abbrev kN : Ky := ⟨3, 1⟩
def enI (n : Int) : List D := [iD n]
abbrev ints (l : List Int) : List (List D) := l.map enI
def idxOf {α : Type} (p : α → Bool) (l : List α) : Int := match l.findIdx? p with | some i => (i : Int) | none => -1
theorem idxOf_some {α : Type} {p : α → Bool} {l : List α} {i : Nat} {a : α} (h : ∀ b ∈ l.take i, p b = false) (hi : l[i]? = some a) (ha : p a = true) : idxOf p l = i := by
  unfold idxOf
  have : l.findIdx? p = some i := by
    rw [List.findIdx?_eq_some_iff_getElem]
    obtain ⟨hlt, he⟩ := List.getElem?_eq_some_iff.1 hi
    refine ⟨hlt, by rw [he]; exact ha, fun j hj => ?_⟩
    have := h (l[j]'(by omega)) (List.mem_take_iff_getElem.2 ⟨j, by omega, rfl⟩)
    simp [this]
  rw [this]
theorem idxOf_none {α : Type} {p : α → Bool} {l : List α} (h : ∀ b ∈ l, p b = false) : idxOf p l = -1 := by
  unfold idxOf
  have : l.findIdx? p = none := by rw [List.findIdx?_eq_none_iff]; simpa using h
  rw [this]
theorem idxOf_any {α : Type} {p : α → Bool} {l : List α} : decide (0 ≤ idxOf p l) = l.any p := by
  unfold idxOf
  cases h : l.findIdx? p with
  | none =>
    rw [List.findIdx?_eq_none_iff] at h
    simp
    exact h
  | some i =>
    rw [List.findIdx?_eq_some_iff_getElem] at h
    obtain ⟨h1, h2, _⟩ := h
    simp
    exact ⟨_, List.getElem_mem h1, h2⟩
theorem take_snoc {α : Type} {l : List α} {i : Nat} {a : α} (h : l[i]? = some a) : l.take (i + 1) = l.take i ++ [a] := by
  rw [List.take_add_one, h]; rfl
theorem set_fill {α : Type} {l : List α} {z : α} {i : Nat} {a : α} (h : l[i]? = some a) : (l.take i ++ List.replicate (l.length - i) z).set i a = l.take (i + 1) ++ List.replicate (l.length - (i + 1)) z := by
  have hi := (List.getElem?_eq_some_iff.1 h).1
  rw [take_snoc h]
  have : l.length - i = (l.length - (i + 1)) + 1 := by omega
  rw [this, List.replicate_succ, List.set_append]
  simp [Nat.min_eq_left (Nat.le_of_lt hi)]
end Go.Proofs.YtlblmofimjhbbaaDoor
