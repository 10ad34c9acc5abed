/- Closed facts on the types that the program names. -/
import Derived.Test.YtehkaajakapkmaaProg
import Derived.Test.YtehkaajakapkmaaY14
namespace Go.Proofs.Ytehkaajakapkmaa
open Go.RowKit
theorem T.ty2 : tyInfo Try.prog 2 = some (false, 1) := by kernel_rfl
theorem T.ty3 : tyInfo Try.prog 3 = some (false, 1) := by kernel_rfl
theorem T.ty4 : tyInfo Try.prog 4 = some (false, 1) := by kernel_rfl
theorem T.ty22 : tyInfo Try.prog 22 = some (false, 1) := by kernel_rfl
theorem T.ty23 : tyInfo Try.prog 23 = some (false, 1) := by kernel_rfl
theorem T.ty35 : tyInfo Try.prog 35 = some (true, 2) := by kernel_rfl
theorem T.ty44 : tyInfo Try.prog 44 = some (false, 1) := by kernel_rfl
theorem T.ty45 : tyInfo Try.prog 45 = some (false, 1) := by kernel_rfl
theorem T.ty46 : tyInfo Try.prog 46 = some (false, 1) := by kernel_rfl
theorem T.mixed : Try.prog.follows .mixedOrders = true := by kernel_rfl
end Go.Proofs.Ytehkaajakapkmaa
