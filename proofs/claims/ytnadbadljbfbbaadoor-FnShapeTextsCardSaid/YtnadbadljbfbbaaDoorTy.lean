/- Closed facts on the types that the program names. -/
import Derived.Test.YtnadbadljbfbbaaDoorProg
import Derived.Test.YtnadbadljbfbbaaDoorY14
namespace Go.Proofs.YtnadbadljbfbbaaDoor
open Go.RowKit
theorem T.ty2 : tyInfo Tryd.prog 2 = some (false, 1) := by kernel_rfl
theorem T.ty3 : tyInfo Tryd.prog 3 = some (false, 1) := by kernel_rfl
theorem T.ty5 : tyInfo Tryd.prog 5 = some (false, 1) := by kernel_rfl
theorem T.ty9 : tyInfo Tryd.prog 9 = some (false, 1) := by kernel_rfl
theorem T.ty22 : tyInfo Tryd.prog 22 = some (false, 1) := by kernel_rfl
theorem T.ty24 : tyInfo Tryd.prog 24 = some (true, 3) := by kernel_rfl
theorem T.ty30 : tyInfo Tryd.prog 30 = some (false, 1) := by kernel_rfl
theorem T.ty39 : tyInfo Tryd.prog 39 = some (false, 1) := by kernel_rfl
theorem T.ty58 : tyInfo Tryd.prog 58 = some (true, 2) := by kernel_rfl
theorem T.ty70 : tyInfo Tryd.prog 70 = some (false, 1) := by kernel_rfl
theorem T.ty82 : tyInfo Tryd.prog 82 = some (false, 1) := by kernel_rfl
theorem T.ty116 : tyInfo Tryd.prog 116 = some (true, 2) := by kernel_rfl
theorem T.ty117 : tyInfo Tryd.prog 117 = some (true, 32) := by kernel_rfl
theorem T.mixed : Tryd.prog.follows .mixedOrders = true := by kernel_rfl
end Go.Proofs.YtnadbadljbfbbaaDoor
