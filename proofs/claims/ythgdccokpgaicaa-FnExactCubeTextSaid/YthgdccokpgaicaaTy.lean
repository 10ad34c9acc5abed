/- Closed facts on the types that the program names. -/
import Derived.Test.YthgdccokpgaicaaProg
import Derived.Test.YthgdccokpgaicaaY14
namespace Go.Proofs.Ythgdccokpgaicaa
open Go.RowKit
theorem T.ty2 : tyInfo Try.prog 2 = some (false, 1) := by kernel_rfl
theorem T.ty3 : tyInfo Try.prog 3 = some (false, 1) := by kernel_rfl
theorem T.ty4 : tyInfo Try.prog 4 = some (false, 1) := by kernel_rfl
theorem T.ty5 : tyInfo Try.prog 5 = some (false, 1) := by kernel_rfl
theorem T.ty23 : tyInfo Try.prog 23 = some (true, 2) := by kernel_rfl
theorem T.ty25 : tyInfo Try.prog 25 = some (true, 2) := by kernel_rfl
theorem T.ty28 : tyInfo Try.prog 28 = some (false, 1) := by kernel_rfl
theorem T.ty29 : tyInfo Try.prog 29 = some (false, 1) := by kernel_rfl
theorem T.ty31 : tyInfo Try.prog 31 = some (true, 3) := by kernel_rfl
theorem T.ty34 : tyInfo Try.prog 34 = some (false, 1) := by kernel_rfl
theorem T.ty36 : tyInfo Try.prog 36 = some (true, 3) := by kernel_rfl
theorem T.ty42 : tyInfo Try.prog 42 = some (false, 1) := by kernel_rfl
theorem T.ty51 : tyInfo Try.prog 51 = some (false, 1) := by kernel_rfl
theorem T.ty52 : tyInfo Try.prog 52 = some (false, 1) := by kernel_rfl
theorem T.ty54 : tyInfo Try.prog 54 = some (true, 3) := by kernel_rfl
theorem T.ty58 : tyInfo Try.prog 58 = some (true, 3) := by kernel_rfl
theorem T.ty84 : tyInfo Try.prog 84 = some (true, 3) := by kernel_rfl
theorem T.ty104 : tyInfo Try.prog 104 = some (true, 6) := by kernel_rfl
theorem T.ty112 : tyInfo Try.prog 112 = some (true, 3) := by kernel_rfl
theorem T.ty129 : tyInfo Try.prog 129 = some (false, 1) := by kernel_rfl
theorem T.ty130 : tyInfo Try.prog 130 = some (false, 1) := by kernel_rfl
theorem T.ty131 : tyInfo Try.prog 131 = some (false, 1) := by kernel_rfl
theorem T.mixed : Try.prog.follows .mixedOrders = true := by kernel_rfl
end Go.Proofs.Ythgdccokpgaicaa
