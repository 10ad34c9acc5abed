/- Closed facts on the types that the program names. -/
import Derived.Test.YtghpeccaknhjiaaProg
import Derived.Test.YtghpeccaknhjiaaY14
namespace Go.Proofs.Ytghpeccaknhjiaa
open Go.RowKit
theorem T.ty2 : tyInfo Try.prog 2 = some (false, 1) := by kernel_rfl
theorem T.ty3 : tyInfo Try.prog 3 = some (false, 1) := by kernel_rfl
theorem T.ty5 : tyInfo Try.prog 5 = some (false, 1) := by kernel_rfl
theorem T.ty22 : tyInfo Try.prog 22 = some (false, 1) := by kernel_rfl
theorem T.ty24 : tyInfo Try.prog 24 = some (true, 1) := by kernel_rfl
theorem T.ty26 : tyInfo Try.prog 26 = some (true, 2) := by kernel_rfl
theorem T.ty28 : tyInfo Try.prog 28 = some (false, 1) := by kernel_rfl
theorem T.ty30 : tyInfo Try.prog 30 = some (true, 1) := by kernel_rfl
theorem T.ty34 : tyInfo Try.prog 34 = some (true, 2) := by kernel_rfl
theorem T.ty41 : tyInfo Try.prog 41 = some (false, 1) := by kernel_rfl
theorem T.ty47 : tyInfo Try.prog 47 = some (false, 1) := by kernel_rfl
theorem T.ty50 : tyInfo Try.prog 50 = some (true, 3) := by kernel_rfl
theorem T.ty81 : tyInfo Try.prog 81 = some (true, 3) := by kernel_rfl
theorem T.ty90 : tyInfo Try.prog 90 = some (false, 1) := by kernel_rfl
theorem T.mixed : Try.prog.follows .mixedOrders = true := by kernel_rfl
end Go.Proofs.Ytghpeccaknhjiaa
