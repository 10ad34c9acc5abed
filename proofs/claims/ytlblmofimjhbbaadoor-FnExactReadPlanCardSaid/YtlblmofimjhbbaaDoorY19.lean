/- Bits: rules to walk with. No program is named here. -/
import Derived.Test.YtlblmofimjhbbaaDoorY18
namespace Go.Proofs.YtlblmofimjhbbaaDoor
open Go.RowKit
def andI (m n : Int) : Int := IntKind.wrap .i64 (BitVec.ofInt 64 m &&& BitVec.ofInt 64 n).toNat
def orI (m n : Int) : Int := IntKind.wrap .i64 (BitVec.ofInt 64 m ||| BitVec.ofInt 64 n).toNat
def xorI (m n : Int) : Int := IntKind.wrap .i64 (BitVec.ofInt 64 m ^^^ BitVec.ofInt 64 n).toNat
def andNotI (m n : Int) : Int := IntKind.wrap .i64 (BitVec.ofInt 64 m &&& ~~~ BitVec.ofInt 64 n).toNat
section
variable {P : Program} {Q : Exit → St → Prop} {ks : List Fr} {e : Nat → AV} {o : Nat → Option Ob} {d : Nat} {fr : Bool} {x y z : Operand} {rest : List SR}
theorem R.and {m n : Int} (h1 : ev e x = pvA (.int .i64 m)) (h2 : ev e y = pvA (.int .i64 n)) (k : WL P rest ks Q ⟨upd e d (pvA (.int .i64 (andI m n))), o⟩) : WL P (⟨some d, none, fr, .bin .and x y⟩ :: rest) ks Q ⟨e, o⟩ := R.bin h1 h2 (by rfl) k
theorem R.or {m n : Int} (h1 : ev e x = pvA (.int .i64 m)) (h2 : ev e y = pvA (.int .i64 n)) (k : WL P rest ks Q ⟨upd e d (pvA (.int .i64 (orI m n))), o⟩) : WL P (⟨some d, none, fr, .bin .or x y⟩ :: rest) ks Q ⟨e, o⟩ := R.bin h1 h2 (by rfl) k
theorem R.xor {m n : Int} (h1 : ev e x = pvA (.int .i64 m)) (h2 : ev e y = pvA (.int .i64 n)) (k : WL P rest ks Q ⟨upd e d (pvA (.int .i64 (xorI m n))), o⟩) : WL P (⟨some d, none, fr, .bin .xor x y⟩ :: rest) ks Q ⟨e, o⟩ := R.bin h1 h2 (by rfl) k
theorem R.andNot {m n : Int} (h1 : ev e x = pvA (.int .i64 m)) (h2 : ev e y = pvA (.int .i64 n)) (k : WL P rest ks Q ⟨upd e d (pvA (.int .i64 (andNotI m n))), o⟩) : WL P (⟨some d, none, fr, .bin .andNot x y⟩ :: rest) ks Q ⟨e, o⟩ := R.bin h1 h2 (by rfl) k
theorem pow62 {n : Int} (h : 0 ≤ n ∧ n ≤ 62) : 0 < (2 : Int) ^ n.toNat ∧ (2 : Int) ^ n.toNat ≤ 4611686018427387904 := by
  constructor
  · exact Int.pow_pos (by decide)
  · have : (2 : Nat) ^ n.toNat ≤ 2 ^ 62 := Nat.pow_le_pow_right (by decide) (by omega)
    have h2 : ((2 ^ n.toNat : Nat) : Int) ≤ ((2 ^ 62 : Nat) : Int) := by exact_mod_cast this
    simpa using h2
/-- A power of two. -/
theorem R.shl1 {k' : IntKind} {n : Int} (h1 : ev e x = pvA (.int .i64 1)) (h2 : ev e y = pvA (.int k' n)) (h0 : 0 ≤ n ∧ n ≤ 62) (k : 0 < (2 : Int) ^ n.toNat ∧ (2 : Int) ^ n.toNat ≤ 4611686018427387904 → WL P rest ks Q ⟨upd e d (pvA (.int .i64 (2 ^ n.toNat))), o⟩) : WL P (⟨some d, none, fr, .bin .shl x y⟩ :: rest) ks Q ⟨e, o⟩ :=
  R.bin h1 h2 (by
    have hp := pow62 h0
    simp only [binI, shV]
    rw [if_neg (by omega), show Min.min n.toNat (IntKind.i64.bits) = n.toNat from by simp [IntKind.bits]; omega, Int.one_mul, wrap64 (by omega)]) (k (pow62 h0))
theorem R.shr {k' : IntKind} {m n : Int} (h1 : ev e x = pvA (.int .i64 m)) (h2 : ev e y = pvA (.int k' n)) (h0 : 0 ≤ n ∧ n ≤ 63) (k : WL P rest ks Q ⟨upd e d (pvA (.int .i64 (m / 2 ^ n.toNat))), o⟩) : WL P (⟨some d, none, fr, .bin .shr x y⟩ :: rest) ks Q ⟨e, o⟩ :=
  R.bin h1 h2 (by
    simp only [binI, shV]
    rw [if_neg (by omega), show Min.min n.toNat (IntKind.i64.bits) = n.toNat from by simp [IntKind.bits]; omega, Int.fdiv_eq_ediv_of_nonneg _ (Int.le_of_lt (Int.pow_pos (by decide)))]) k
end
theorem ofInt_toNat {n : Int} (h : 0 ≤ n ∧ n ≤ 9223372036854775807) : (BitVec.ofInt 64 n).toNat = n.toNat := by
  rw [BitVec.toNat_ofInt]
  simp
  omega
/-- What is masked is no more than the mask. -/
theorem andI_le {m n : Int} (h : 0 ≤ n ∧ n ≤ 9223372036854775807) : 0 ≤ andI m n ∧ andI m n ≤ n := by
  unfold andI
  have h1 : (BitVec.ofInt 64 m &&& BitVec.ofInt 64 n).toNat ≤ n.toNat := by
    rw [BitVec.toNat_and, ofInt_toNat h]
    exact Nat.and_le_right
  rw [wrap64 (by omega)]
  omega
end Go.Proofs.YtlblmofimjhbbaaDoor
