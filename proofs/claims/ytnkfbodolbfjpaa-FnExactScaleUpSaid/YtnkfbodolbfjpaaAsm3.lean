/- Assemblies: tiles at points, differences. -/
import Derived.Test.YtnkfbodolbfjpaaLibA
namespace Go.Proofs.Ytnkfbodolbfjpaa
open Go.RowKit
set_option maxRecDepth 10000
set_option maxHeartbeats 4000000
theorem iHasT {A : TAssembly} (h : okA A.fTiles) : Spec Try.prog 100 [.agg (enAssembly A)] (oB true) := by
  have := iHasForm A
  rwa [bP_iff.2 h] at this
theorem iHasF {A : TAssembly} (h : ¬ okA A.fTiles) : Spec Try.prog 100 [.agg (enAssembly A)] (oB false) := by
  have := iHasForm A
  rwa [bP_not.2 h] at this
theorem sHasT {A : TAssembly} (h : okA A.fTiles) : Spec Try.prog 92 [vP (enAssembly A)] (oB true) := by
  have := sHasForm A
  rwa [bP_iff.2 h] at this
theorem sHasF {A : TAssembly} (h : ¬ okA A.fTiles) : Spec Try.prog 92 [vP (enAssembly A)] (oB false) := by
  have := sHasForm A
  rwa [bP_not.2 h] at this
open Classical in
noncomputable def fTileAt (l : List TPlaced) (p : TPoint) : Int × Bool := if okA l ∧ 0 ≤ tileAt l p then (tileAt l p, true) else (0, false)
def isDiff (m : List TPlaced) (t : TPlaced) : Bool := decide (0 ≤ tileAt m t.fAt ∧ tileAt m t.fAt ≠ t.fTile)
open Classical in
noncomputable def fDiff (l m : List TPlaced) : TPoint × Int := if okA l ∧ okA m then (match l.find? (isDiff m) with | some t => (t.fAt, 0) | none => (⟨0, 0⟩, 3)) else (⟨0, 0⟩, 1)
theorem find_some' {α : Type} {p : α → Bool} {l : List α} {i : Nat} {a : α} (h : ∀ b ∈ l.take i, p b = false) (hi : l[i]? = some a) (ha : p a = true) : l.find? p = some a := by
  obtain ⟨hn, hx⟩ := List.getElem?_eq_some_iff.1 hi
  have e2 : l = l.take i ++ a :: l.drop (i + 1) := by rw [← hx, ← List.drop_eq_getElem_cons hn, List.take_append_drop]
  rw [e2, List.find?_append, List.find?_eq_none.2 (fun b hb => by simp [h b hb])]
  simp [ha]
theorem all_snoc {α : Type} {p : α → Bool} {l : List α} {i : Nat} {a : α} (h : ∀ b ∈ l.take i, p b = false) (ha : l[i]? = some a) (hp : p a = false) : ∀ b ∈ l.take (i + 1), p b = false := by
  rw [take_snoc ha]
  intro b hb
  rcases List.mem_append.1 hb with hb | hb
  · exact h b hb
  · simp at hb; subst hb; exact hp
/-- All tiles of one assembly are in another. -/
def isIn (m : List TPlaced) (t : TPlaced) : Bool := decide (tileAt m t.fAt = t.fTile)
def okW (l m : List TPlaced) : Prop := okA l ∧ okA m ∧ ∀ t ∈ l, tileAt m t.fAt = t.fTile
end Go.Proofs.Ytnkfbodolbfjpaa
