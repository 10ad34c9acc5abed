/- Closed facts on the types that the program names. -/
import Derived.Test.YtlblmofimjhbbaaDoorProg
import Derived.Test.YtlblmofimjhbbaaDoorY14
namespace Go.Proofs.YtlblmofimjhbbaaDoor
open Go.RowKit
theorem T.ty2 : tyInfo Tryd.prog 2 = some (false, 1) := by kernel_rfl
theorem T.ty3 : tyInfo Tryd.prog 3 = some (false, 1) := by kernel_rfl
theorem T.ty4 : tyInfo Tryd.prog 4 = some (false, 1) := by kernel_rfl
theorem T.ty5 : tyInfo Tryd.prog 5 = some (false, 1) := by kernel_rfl
theorem T.ty9 : tyInfo Tryd.prog 9 = some (false, 1) := by kernel_rfl
theorem T.ty22 : tyInfo Tryd.prog 22 = some (false, 1) := by kernel_rfl
theorem T.ty23 : tyInfo Tryd.prog 23 = some (false, 1) := by kernel_rfl
theorem T.ty25 : tyInfo Tryd.prog 25 = some (true, 2) := by kernel_rfl
theorem T.ty26 : tyInfo Tryd.prog 26 = some (false, 1) := by kernel_rfl
theorem T.ty28 : tyInfo Tryd.prog 28 = some (true, 1) := by kernel_rfl
theorem T.ty41 : tyInfo Tryd.prog 41 = some (true, 3) := by kernel_rfl
theorem T.ty43 : tyInfo Tryd.prog 43 = some (false, 1) := by kernel_rfl
theorem T.ty47 : tyInfo Tryd.prog 47 = some (true, 2) := by kernel_rfl
theorem T.ty49 : tyInfo Tryd.prog 49 = some (false, 1) := by kernel_rfl
theorem T.ty51 : tyInfo Tryd.prog 51 = some (true, 2) := by kernel_rfl
theorem T.ty53 : tyInfo Tryd.prog 53 = some (true, 2) := by kernel_rfl
theorem T.ty55 : tyInfo Tryd.prog 55 = some (true, 3) := by kernel_rfl
theorem T.ty56 : tyInfo Tryd.prog 56 = some (false, 1) := by kernel_rfl
theorem T.ty78 : tyInfo Tryd.prog 78 = some (false, 1) := by kernel_rfl
theorem T.ty100 : tyInfo Tryd.prog 100 = some (true, 0) := by kernel_rfl
theorem T.ty116 : tyInfo Tryd.prog 116 = some (false, 1) := by kernel_rfl
theorem T.ty136 : tyInfo Tryd.prog 136 = some (false, 1) := by kernel_rfl
theorem T.ty142 : tyInfo Tryd.prog 142 = some (false, 1) := by kernel_rfl
theorem T.ty151 : tyInfo Tryd.prog 151 = some (true, 20) := by kernel_rfl
theorem T.ty154 : tyInfo Tryd.prog 154 = some (false, 1) := by kernel_rfl
theorem T.ty181 : tyInfo Tryd.prog 181 = some (true, 32) := by kernel_rfl
theorem T.ty182 : tyInfo Tryd.prog 182 = some (true, 64) := by kernel_rfl
theorem T.ty185 : tyInfo Tryd.prog 185 = some (true, 2) := by kernel_rfl
theorem T.ty186 : tyInfo Tryd.prog 186 = some (true, 32) := by kernel_rfl
theorem T.mixed : Tryd.prog.follows .mixedOrders = true := by kernel_rfl
end Go.Proofs.YtlblmofimjhbbaaDoor
