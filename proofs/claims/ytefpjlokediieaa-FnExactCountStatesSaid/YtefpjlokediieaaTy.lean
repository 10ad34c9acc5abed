/- Closed facts on the types that the program names. -/
import Derived.Test.YtefpjlokediieaaProg
import Derived.Test.YtefpjlokediieaaY14
namespace Go.Proofs.Ytefpjlokediieaa
open Go.RowKit
theorem T.ty2 : tyInfo Try.prog 2 = some (false, 1) := by kernel_rfl
theorem T.ty22 : tyInfo Try.prog 22 = some (false, 1) := by kernel_rfl
theorem T.ty24 : tyInfo Try.prog 24 = some (true, 2) := by kernel_rfl
theorem T.ty30 : tyInfo Try.prog 30 = some (true, 2) := by kernel_rfl
theorem T.mixed : Try.prog.follows .mixedOrders = true := by kernel_rfl
end Go.Proofs.Ytefpjlokediieaa
