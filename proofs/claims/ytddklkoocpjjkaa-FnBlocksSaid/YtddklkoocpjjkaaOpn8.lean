/- Bytes that are read from the arguments. -/
import Derived.Test.YtddklkoocpjjkaaY20
import Derived.ProofKit
namespace Go.Proofs.Ytddklkoocpjjkaa
open Go.ChangeShapes Go.WideShapes Go.RowKit
def rU8 : Rdr Int := fun _ _ cs n => cs = [.int .u8 n] ∧ (Lit.int .u8 n).wf = true
theorem opens_u8 {H : Type} {enc : TypeId × Value → H} {P : Program} {W : World} {sp : Nat → Bool} {hd : Bool} {t : TypeId} (ht : P.underlying t = some (.int .u8)) : Opens enc P W sp hd t rU8 := fun fuel cs y h => by
  obtain ⟨n, hc, _, hw⟩ := DataW.trod_int ht h
  exact ⟨n, hc, hw⟩
theorem encU8 : Enc rU8 (fun n => [.pv (.int .u8 n)]) := fun W S cs x ⟨h, h1⟩ => by
  subst h
  exact .cons (.pv rfl h1) .nil
end Go.Proofs.Ytddklkoocpjjkaa
