/- Decimal numerals: what they are. -/
import Derived.Test.YtnkfbodolbfjpaaDoorBel
import Derived.Lib.ItoaNum
namespace Go.Proofs.YtnkfbodolbfjpaaDoor
open Go.RowKit
set_option maxRecDepth 10000
set_option maxHeartbeats 400000
/-- A string of these bytes. -/
def bA (l : List UInt8) : ByteArray := ⟨l.toArray⟩
theorem bA_app (l m : List UInt8) : bA l ++ bA m = bA (l ++ m) := by
  apply ByteArray.ext
  simp [bA, ByteArray.data_append]
theorem bA_size (l : List UInt8) : (bA l).size = l.length := by
  show l.toArray.size = _
  simp
theorem bA_list (l : List UInt8) : (bA l).data.toList = l := by simp [bA]
/-- The digits of a number, none for 0. -/
def dg0 (u : Nat) : List UInt8 := if u = 0 then [] else Lib.decDigits u
theorem dg0_step {u : Nat} (h : u ≠ 0) : dg0 u = dg0 (u / 10) ++ [UInt8.ofNat (48 + u % 10)] := by
  unfold dg0
  rw [if_neg h]
  by_cases h1 : u < 10
  · rw [if_pos (by omega), Lib.decDigits_one h1, show u % 10 = u by omega]
    rfl
  · rw [if_neg (by omega), Lib.decDigits, dif_neg h1]
theorem dg0_len : ∀ (k u : Nat), u < 10 ^ k → (dg0 u).length ≤ k
  | 0, u, h => by
    have h0 : u = 0 := by simpa using h
    rw [dg0, if_pos h0]
    simp
  | k + 1, u, h => by
    by_cases h0 : u = 0
    · rw [dg0, if_pos h0]
      simp
    · have := dg0_len k (u / 10) (by rw [Nat.pow_succ] at h; omega)
      rw [dg0_step h0, List.length_append, List.length_singleton]
      omega
/-- The numeral of a number. -/
def decL (n : Int) : List UInt8 := Lib.itoa n
theorem decL_zero : decL 0 = [48] := by
  unfold decL Lib.itoa
  rw [if_neg (by decide), Int.toNat_zero, Lib.decDigits_one (by decide)]
  rfl
theorem decL_pos {n : Int} (h : 0 < n) : decL n = dg0 n.natAbs := by
  unfold decL Lib.itoa dg0
  rw [if_neg (by omega), if_neg (by omega), show n.toNat = n.natAbs by omega]
theorem decL_neg {n : Int} (h : n < 0) : decL n = 45 :: dg0 n.natAbs := by
  unfold decL Lib.itoa dg0
  rw [if_pos h, if_neg (by omega)]
theorem decL_len {n : Int} (h : -9223372036854775808 ≤ n ∧ n ≤ 9223372036854775807) : (decL n).length ≤ 20 := by
  have hl := dg0_len 19 n.natAbs (by omega)
  by_cases h0 : n < 0
  · rw [decL_neg h0, List.length_cons]
    omega
  · by_cases h1 : n = 0
    · rw [h1, decL_zero]
      decide
    · rw [decL_pos (by omega)]
      omega
theorem decL_ne (n : Int) : decL n ≠ [] := by
  unfold decL Lib.itoa
  split
  · simp
  · rw [Lib.decDigits]
    split <;> simp
theorem wrapB {m : Int} (h : 0 ≤ m ∧ m ≤ 255) : IntKind.wrap .u8 m = m := by
  have h2 : m % 256 = m := Int.emod_eq_of_lt h.1 (by omega)
  simp [IntKind.wrap, IntKind.bits, IntKind.signed, h2]
section
variable {P : Program} {Q : Exit → St → Prop} {ks : List Fr} {e : Nat → AV} {o : Nat → Option Ob} {d : Nat} {fr : Bool} {x y z : Operand} {rest : List SR}
theorem R.sadd {s t : List UInt8} (h1 : ev e x = pvA (.string (bA s))) (h2 : ev e y = pvA (.string (bA t))) (hr : s.length + t.length ≤ 281474976710656) (k : WL P rest ks Q ⟨upd e d (pvA (.string (bA (s ++ t)))), o⟩) : WL P (⟨some d, none, fr, .bin .add x y⟩ :: rest) ks Q ⟨e, o⟩ :=
  R.bin h1 h2 (by
    simp only [binI, strV]
    rw [if_pos (by rw [bA_size, bA_size]; unfold maxLen; omega), bA_app]) k
theorem R.cvB {k1 : IntKind} {m : Int} (h : ev e x = pvA (.int k1 m)) (hr : 0 ≤ m ∧ m ≤ 255) (k : WL P rest ks Q ⟨upd e d (pvA (.int .u8 m)), o⟩) : WL P (⟨some d, none, fr, .cv .u8 x⟩ :: rest) ks Q ⟨e, o⟩ := R.cv h (by rw [wrapB hr]; exact k)
theorem R.remS {m n : Int} (h1 : ev e x = pvA (.int .i64 m)) (h2 : ev e y = pvA (.int .i64 n)) (h0 : n ≠ 0) (k : WL P rest ks Q ⟨upd e d (pvA (.int .i64 (m.tmod n))), o⟩) : WL P (⟨some d, none, fr, .bin .rem x y⟩ :: rest) ks Q ⟨e, o⟩ :=
  R.bin h1 h2 (by
    simp only [binI, numV, if_true]
    rw [if_neg h0]) k
theorem R.quoT {m n : Int} (h1 : ev e x = pvA (.int .i64 m)) (h2 : ev e y = pvA (.int .i64 n)) (h0 : 2 ≤ n) (hb : -9223372036854775808 ≤ m ∧ m ≤ 9223372036854775807) (k : WL P rest ks Q ⟨upd e d (pvA (.int .i64 (m.tdiv n))), o⟩) : WL P (⟨some d, none, fr, .bin .quo x y⟩ :: rest) ks Q ⟨e, o⟩ :=
  R.bin h1 h2 (by
    have h3 : (m.tdiv n).natAbs = m.natAbs / n.natAbs := Int.natAbs_tdiv m n
    have h4 : m.natAbs / n.natAbs ≤ m.natAbs / 2 := Nat.div_le_div_left (by omega) (by omega)
    simp only [binI, numV, if_true]
    rw [if_neg (by omega), wrap64 ⟨by omega, by omega⟩]) k
end
end Go.Proofs.YtnkfbodolbfjpaaDoor
