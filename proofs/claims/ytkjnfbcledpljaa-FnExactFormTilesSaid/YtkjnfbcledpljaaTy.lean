/- Closed facts on the types that the program names. -/
import Derived.Test.YtkjnfbcledpljaaProg
import Derived.Test.YtkjnfbcledpljaaY14
namespace Go.Proofs.Ytkjnfbcledpljaa
open Go.RowKit
theorem T.ty2 : tyInfo Try.prog 2 = some (false, 1) := by kernel_rfl
theorem T.ty3 : tyInfo Try.prog 3 = some (false, 1) := by kernel_rfl
theorem T.ty22 : tyInfo Try.prog 22 = some (false, 1) := by kernel_rfl
theorem T.ty23 : tyInfo Try.prog 23 = some (false, 1) := by kernel_rfl
theorem T.ty25 : tyInfo Try.prog 25 = some (true, 3) := by kernel_rfl
theorem T.ty29 : tyInfo Try.prog 29 = some (false, 1) := by kernel_rfl
theorem T.ty31 : tyInfo Try.prog 31 = some (true, 3) := by kernel_rfl
theorem T.ty45 : tyInfo Try.prog 45 = some (true, 6) := by kernel_rfl
theorem T.ty52 : tyInfo Try.prog 52 = some (false, 1) := by kernel_rfl
theorem T.ty56 : tyInfo Try.prog 56 = some (true, 2) := by kernel_rfl
theorem T.ty60 : tyInfo Try.prog 60 = some (true, 2) := by kernel_rfl
theorem T.mixed : Try.prog.follows .mixedOrders = true := by kernel_rfl
end Go.Proofs.Ytkjnfbcledpljaa
