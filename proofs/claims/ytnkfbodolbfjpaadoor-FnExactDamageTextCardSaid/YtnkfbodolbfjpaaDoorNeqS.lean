/- Strings compared. -/
import Derived.Test.YtnkfbodolbfjpaaDoorBel
import Derived.Lib.Strings
namespace Go.Proofs.YtnkfbodolbfjpaaDoor
open Go.RowKit
section
variable {P : Program} {Q : Exit → St → Prop} {ks : List Fr} {e : Nat → AV} {o : Nat → Option Ob} {d : Nat} {fr : Bool} {x y z : Operand} {rest : List SR}
theorem toList_eq {s t : ByteArray} : (s.toList == t.toList) = decide (s = t) := by
  rw [Bool.eq_iff_iff, beq_iff_eq, decide_eq_true_eq]
  constructor
  · intro h
    have h2 : s.data.toList = t.data.toList := by rw [← Lib.toList_data, ← Lib.toList_data]; exact h
    cases s; cases t
    simp at h2
    rw [h2]
  · intro h; rw [h]
theorem R.eqlS {s t : ByteArray} (h1 : ev e x = pvA (.string s)) (h2 : ev e y = pvA (.string t)) (k : WL P rest ks Q ⟨upd e d (pvA (.bool (decide (s = t)))), o⟩) : WL P (⟨some d, none, fr, .bin .eql x y⟩ :: rest) ks Q ⟨e, o⟩ := R.bin h1 h2 (by simp only [binI, strV, toList_eq]) k
theorem R.neqS {s t : ByteArray} (h1 : ev e x = pvA (.string s)) (h2 : ev e y = pvA (.string t)) (k : WL P rest ks Q ⟨upd e d (pvA (.bool !(decide (s = t)))), o⟩) : WL P (⟨some d, none, fr, .bin .neq x y⟩ :: rest) ks Q ⟨e, o⟩ := R.bin h1 h2 (by simp only [binI, strV, toList_eq]) k
end
end Go.Proofs.YtnkfbodolbfjpaaDoor
