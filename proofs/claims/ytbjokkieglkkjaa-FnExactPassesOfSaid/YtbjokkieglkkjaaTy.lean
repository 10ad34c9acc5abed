/- Closed facts on the types that the program names. -/
import Derived.Test.YtbjokkieglkkjaaProg
import Derived.Test.YtbjokkieglkkjaaY14
namespace Go.Proofs.Ytbjokkieglkkjaa
open Go.RowKit
theorem T.ty2 : tyInfo Try.prog 2 = some (false, 1) := by kernel_rfl
theorem T.ty3 : tyInfo Try.prog 3 = some (false, 1) := by kernel_rfl
theorem T.ty5 : tyInfo Try.prog 5 = some (false, 1) := by kernel_rfl
theorem T.ty22 : tyInfo Try.prog 22 = some (false, 1) := by kernel_rfl
theorem T.ty24 : tyInfo Try.prog 24 = some (true, 1) := by kernel_rfl
theorem T.ty26 : tyInfo Try.prog 26 = some (true, 2) := by kernel_rfl
theorem T.ty28 : tyInfo Try.prog 28 = some (false, 1) := by kernel_rfl
theorem T.ty30 : tyInfo Try.prog 30 = some (true, 1) := by kernel_rfl
theorem T.ty34 : tyInfo Try.prog 34 = some (true, 2) := by kernel_rfl
theorem T.ty43 : tyInfo Try.prog 43 = some (false, 1) := by kernel_rfl
theorem T.ty53 : tyInfo Try.prog 53 = some (false, 1) := by kernel_rfl
theorem T.ty60 : tyInfo Try.prog 60 = some (true, 2) := by kernel_rfl
theorem T.ty83 : tyInfo Try.prog 83 = some (false, 1) := by kernel_rfl
theorem T.ty103 : tyInfo Try.prog 103 = some (true, 3) := by kernel_rfl
theorem T.ty107 : tyInfo Try.prog 107 = some (true, 3) := by kernel_rfl
theorem T.ty117 : tyInfo Try.prog 117 = some (false, 1) := by kernel_rfl
theorem T.mixed : Try.prog.follows .mixedOrders = true := by kernel_rfl
end Go.Proofs.Ytbjokkieglkkjaa
