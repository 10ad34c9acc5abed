/- More rules to walk with: division, unsigned numbers. No program is named here. -/
import Derived.Test.YtlblmofimjhbbaaDoorY21
namespace Go.Proofs.YtlblmofimjhbbaaDoor
open Go.RowKit
section
variable {P : Program} {Q : Exit → St → Prop} {ks : List Fr} {e : Nat → AV} {o : Nat → Option Ob} {d : Nat} {fr : Bool} {x y z : Operand} {rest : List SR}
theorem R.quo {m n : Int} (h1 : ev e x = pvA (.int .i64 m)) (h2 : ev e y = pvA (.int .i64 n)) (h0 : 0 ≤ m ∧ m ≤ 9223372036854775807 ∧ 0 < n) (k : WL P rest ks Q ⟨upd e d (pvA (.int .i64 (m / n))), o⟩) : WL P (⟨some d, none, fr, .bin .quo x y⟩ :: rest) ks Q ⟨e, o⟩ :=
  R.bin h1 h2 (by
    have h3 : m / n ≤ m := Int.ediv_le_self _ h0.1
    have h4 : 0 ≤ m / n := Int.ediv_nonneg h0.1 (by omega)
    simp only [binI, numV, if_true]
    rw [if_neg (by omega), Int.tdiv_eq_ediv_of_nonneg h0.1, wrap64 ⟨by omega, by omega⟩]) k
theorem R.rem {m n : Int} (h1 : ev e x = pvA (.int .i64 m)) (h2 : ev e y = pvA (.int .i64 n)) (h0 : 0 ≤ m ∧ 0 < n) (k : WL P rest ks Q ⟨upd e d (pvA (.int .i64 (m % n))), o⟩) : WL P (⟨some d, none, fr, .bin .rem x y⟩ :: rest) ks Q ⟨e, o⟩ :=
  R.bin h1 h2 (by
    simp only [binI, numV, if_true]
    rw [if_neg (by omega), Int.tmod_eq_emod_of_nonneg h0.1]) k
theorem wrapU {n : Int} (h : 0 ≤ n ∧ n ≤ 18446744073709551615) : IntKind.wrap .u64 n = n := by
  have h2 : n % 18446744073709551616 = n := Int.emod_eq_of_lt h.1 (by omega)
  simp [IntKind.wrap, IntKind.bits, IntKind.signed, h2]
theorem R.cvU {k1 : IntKind} {m : Int} (h : ev e x = pvA (.int k1 m)) (hr : 0 ≤ m ∧ m ≤ 18446744073709551615) (k : WL P rest ks Q ⟨upd e d (pvA (.int .u64 m)), o⟩) : WL P (⟨some d, none, fr, .cv .u64 x⟩ :: rest) ks Q ⟨e, o⟩ := R.cv h (by rw [wrapU hr]; exact k)
theorem R.shrU {k' : IntKind} {m n : Int} (h1 : ev e x = pvA (.int .u64 m)) (h2 : ev e y = pvA (.int k' n)) (h0 : 0 ≤ n ∧ n ≤ 63) (k : WL P rest ks Q ⟨upd e d (pvA (.int .u64 (m / 2 ^ n.toNat))), o⟩) : WL P (⟨some d, none, fr, .bin .shr x y⟩ :: rest) ks Q ⟨e, o⟩ :=
  R.bin h1 h2 (by
    simp only [binI, shV]
    rw [if_neg (by omega), show Min.min n.toNat (IntKind.u64.bits) = n.toNat from by simp [IntKind.bits]; omega, Int.fdiv_eq_ediv_of_nonneg _ (Int.le_of_lt (Int.pow_pos (by decide)))]) k
theorem R.shrU1 {k' : IntKind} {m : Int} (h1 : ev e x = pvA (.int .u64 m)) (h2 : ev e y = pvA (.int k' 1)) (k : WL P rest ks Q ⟨upd e d (pvA (.int .u64 (m / 2))), o⟩) : WL P (⟨some d, none, fr, .bin .shr x y⟩ :: rest) ks Q ⟨e, o⟩ := R.shrU h1 h2 ⟨by omega, by omega⟩ k
end
end Go.Proofs.YtlblmofimjhbbaaDoor
