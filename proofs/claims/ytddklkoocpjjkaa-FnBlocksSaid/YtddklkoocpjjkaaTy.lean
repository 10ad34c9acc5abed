/- Closed facts on the types that the program names. -/
import Derived.Test.YtddklkoocpjjkaaProg
import Derived.Test.YtddklkoocpjjkaaY14
namespace Go.Proofs.Ytddklkoocpjjkaa
open Go.RowKit
theorem T.ty2 : tyInfo Try.prog 2 = some (false, 1) := by kernel_rfl
theorem T.ty3 : tyInfo Try.prog 3 = some (false, 1) := by kernel_rfl
theorem T.ty5 : tyInfo Try.prog 5 = some (false, 1) := by kernel_rfl
theorem T.ty22 : tyInfo Try.prog 22 = some (false, 1) := by kernel_rfl
theorem T.ty25 : tyInfo Try.prog 25 = some (true, 2) := by kernel_rfl
theorem T.ty33 : tyInfo Try.prog 33 = some (false, 1) := by kernel_rfl
theorem T.ty40 : tyInfo Try.prog 40 = some (true, 2) := by kernel_rfl
theorem T.ty64 : tyInfo Try.prog 64 = some (false, 1) := by kernel_rfl
theorem T.mixed : Try.prog.follows .mixedOrders = true := by kernel_rfl
end Go.Proofs.Ytddklkoocpjjkaa
