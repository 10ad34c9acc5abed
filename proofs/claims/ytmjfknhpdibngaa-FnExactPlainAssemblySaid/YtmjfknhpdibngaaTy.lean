/- Closed facts on the types that the program names. -/
import Derived.Test.YtmjfknhpdibngaaProg
import Derived.Test.YtmjfknhpdibngaaY14
namespace Go.Proofs.Ytmjfknhpdibngaa
open Go.RowKit
theorem T.ty2 : tyInfo Try.prog 2 = some (false, 1) := by kernel_rfl
theorem T.ty3 : tyInfo Try.prog 3 = some (false, 1) := by kernel_rfl
theorem T.ty4 : tyInfo Try.prog 4 = some (false, 1) := by kernel_rfl
theorem T.ty5 : tyInfo Try.prog 5 = some (false, 1) := by kernel_rfl
theorem T.ty22 : tyInfo Try.prog 22 = some (false, 1) := by kernel_rfl
theorem T.ty24 : tyInfo Try.prog 24 = some (true, 1) := by kernel_rfl
theorem T.ty26 : tyInfo Try.prog 26 = some (true, 2) := by kernel_rfl
theorem T.ty30 : tyInfo Try.prog 30 = some (false, 1) := by kernel_rfl
theorem T.ty32 : tyInfo Try.prog 32 = some (true, 1) := by kernel_rfl
theorem T.ty34 : tyInfo Try.prog 34 = some (true, 2) := by kernel_rfl
theorem T.ty44 : tyInfo Try.prog 44 = some (false, 1) := by kernel_rfl
theorem T.ty66 : tyInfo Try.prog 66 = some (false, 1) := by kernel_rfl
theorem T.ty72 : tyInfo Try.prog 72 = some (true, 3) := by kernel_rfl
theorem T.ty104 : tyInfo Try.prog 104 = some (false, 1) := by kernel_rfl
theorem T.ty106 : tyInfo Try.prog 106 = some (true, 6) := by kernel_rfl
theorem T.ty108 : tyInfo Try.prog 108 = some (true, 6) := by kernel_rfl
theorem T.ty129 : tyInfo Try.prog 129 = some (true, 3) := by kernel_rfl
theorem T.ty147 : tyInfo Try.prog 147 = some (false, 1) := by kernel_rfl
theorem T.ty173 : tyInfo Try.prog 173 = some (false, 1) := by kernel_rfl
theorem T.mixed : Try.prog.follows .mixedOrders = true := by kernel_rfl
end Go.Proofs.Ytmjfknhpdibngaa
