/- Closed facts on the types that the program names. -/
import Derived.Test.YtmlcinedbpmncaaProg
import Derived.Test.YtmlcinedbpmncaaY14
namespace Go.Proofs.Ytmlcinedbpmncaa
open Go.RowKit
theorem T.ty2 : tyInfo Try.prog 2 = some (false, 1) := by kernel_rfl
theorem T.ty3 : tyInfo Try.prog 3 = some (false, 1) := by kernel_rfl
theorem T.ty4 : tyInfo Try.prog 4 = some (false, 1) := by kernel_rfl
theorem T.ty9 : tyInfo Try.prog 9 = some (false, 1) := by kernel_rfl
theorem T.ty22 : tyInfo Try.prog 22 = some (false, 1) := by kernel_rfl
theorem T.ty23 : tyInfo Try.prog 23 = some (false, 1) := by kernel_rfl
theorem T.ty25 : tyInfo Try.prog 25 = some (true, 2) := by kernel_rfl
theorem T.ty26 : tyInfo Try.prog 26 = some (false, 1) := by kernel_rfl
theorem T.ty28 : tyInfo Try.prog 28 = some (true, 1) := by kernel_rfl
theorem T.ty32 : tyInfo Try.prog 32 = some (false, 1) := by kernel_rfl
theorem T.ty33 : tyInfo Try.prog 33 = some (false, 1) := by kernel_rfl
theorem T.ty35 : tyInfo Try.prog 35 = some (true, 2) := by kernel_rfl
theorem T.ty37 : tyInfo Try.prog 37 = some (false, 1) := by kernel_rfl
theorem T.ty39 : tyInfo Try.prog 39 = some (true, 1) := by kernel_rfl
theorem T.ty44 : tyInfo Try.prog 44 = some (false, 1) := by kernel_rfl
theorem T.ty46 : tyInfo Try.prog 46 = some (true, 2) := by kernel_rfl
theorem T.ty49 : tyInfo Try.prog 49 = some (false, 1) := by kernel_rfl
theorem T.ty51 : tyInfo Try.prog 51 = some (true, 2) := by kernel_rfl
theorem T.ty75 : tyInfo Try.prog 75 = some (false, 1) := by kernel_rfl
theorem T.ty76 : tyInfo Try.prog 76 = some (false, 1) := by kernel_rfl
theorem T.ty77 : tyInfo Try.prog 77 = some (false, 1) := by kernel_rfl
theorem T.ty79 : tyInfo Try.prog 79 = some (true, 4) := by kernel_rfl
theorem T.ty85 : tyInfo Try.prog 85 = some (true, 2) := by kernel_rfl
theorem T.ty88 : tyInfo Try.prog 88 = some (true, 2) := by kernel_rfl
theorem T.ty90 : tyInfo Try.prog 90 = some (false, 1) := by kernel_rfl
theorem T.ty93 : tyInfo Try.prog 93 = some (false, 1) := by kernel_rfl
theorem T.ty97 : tyInfo Try.prog 97 = some (true, 2) := by kernel_rfl
theorem T.ty98 : tyInfo Try.prog 98 = some (true, 2) := by kernel_rfl
theorem T.ty100 : tyInfo Try.prog 100 = some (true, 2) := by kernel_rfl
theorem T.ty113 : tyInfo Try.prog 113 = some (false, 1) := by kernel_rfl
theorem T.ty115 : tyInfo Try.prog 115 = some (true, 4) := by kernel_rfl
theorem T.ty119 : tyInfo Try.prog 119 = some (true, 2) := by kernel_rfl
theorem T.ty129 : tyInfo Try.prog 129 = some (true, 2) := by kernel_rfl
theorem T.ty151 : tyInfo Try.prog 151 = some (true, 2) := by kernel_rfl
theorem T.mixed : Try.prog.follows .mixedOrders = true := by kernel_rfl
end Go.Proofs.Ytmlcinedbpmncaa
