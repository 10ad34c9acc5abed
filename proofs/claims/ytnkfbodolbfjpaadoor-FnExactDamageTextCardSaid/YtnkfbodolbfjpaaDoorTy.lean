/- Closed facts on the types that the program names. -/
import Derived.Test.YtnkfbodolbfjpaaDoorProg
import Derived.Test.YtnkfbodolbfjpaaDoorY14
namespace Go.Proofs.YtnkfbodolbfjpaaDoor
open Go.RowKit
theorem T.ty2 : tyInfo Tryd.prog 2 = some (false, 1) := by kernel_rfl
theorem T.ty3 : tyInfo Tryd.prog 3 = some (false, 1) := by kernel_rfl
theorem T.ty5 : tyInfo Tryd.prog 5 = some (false, 1) := by kernel_rfl
theorem T.ty9 : tyInfo Tryd.prog 9 = some (false, 1) := by kernel_rfl
theorem T.ty22 : tyInfo Tryd.prog 22 = some (false, 1) := by kernel_rfl
theorem T.ty24 : tyInfo Tryd.prog 24 = some (true, 3) := by kernel_rfl
theorem T.ty27 : tyInfo Tryd.prog 27 = some (true, 3) := by kernel_rfl
theorem T.ty31 : tyInfo Tryd.prog 31 = some (false, 1) := by kernel_rfl
theorem T.ty33 : tyInfo Tryd.prog 33 = some (true, 3) := by kernel_rfl
theorem T.ty36 : tyInfo Tryd.prog 36 = some (false, 1) := by kernel_rfl
theorem T.ty38 : tyInfo Tryd.prog 38 = some (true, 3) := by kernel_rfl
theorem T.ty42 : tyInfo Tryd.prog 42 = some (false, 1) := by kernel_rfl
theorem T.ty44 : tyInfo Tryd.prog 44 = some (true, 1) := by kernel_rfl
theorem T.ty47 : tyInfo Tryd.prog 47 = some (false, 1) := by kernel_rfl
theorem T.ty49 : tyInfo Tryd.prog 49 = some (true, 1) := by kernel_rfl
theorem T.ty56 : tyInfo Tryd.prog 56 = some (false, 1) := by kernel_rfl
theorem T.ty57 : tyInfo Tryd.prog 57 = some (false, 1) := by kernel_rfl
theorem T.ty72 : tyInfo Tryd.prog 72 = some (true, 2) := by kernel_rfl
theorem T.ty81 : tyInfo Tryd.prog 81 = some (false, 1) := by kernel_rfl
theorem T.ty85 : tyInfo Tryd.prog 85 = some (true, 2) := by kernel_rfl
theorem T.ty92 : tyInfo Tryd.prog 92 = some (true, 2) := by kernel_rfl
theorem T.ty99 : tyInfo Tryd.prog 99 = some (false, 1) := by kernel_rfl
theorem T.ty110 : tyInfo Tryd.prog 110 = some (true, 2) := by kernel_rfl
theorem T.ty120 : tyInfo Tryd.prog 120 = some (false, 1) := by kernel_rfl
theorem T.ty129 : tyInfo Tryd.prog 129 = some (true, 20) := by kernel_rfl
theorem T.ty138 : tyInfo Tryd.prog 138 = some (true, 32) := by kernel_rfl
theorem T.ty139 : tyInfo Tryd.prog 139 = some (true, 64) := by kernel_rfl
theorem T.mixed : Tryd.prog.follows .mixedOrders = true := by kernel_rfl
end Go.Proofs.YtnkfbodolbfjpaaDoor
