/- Closed facts on the types that the program names. -/
import Derived.Test.YtljmenkgboaciaaProg
import Derived.Test.YtljmenkgboaciaaY14
namespace Go.Proofs.Ytljmenkgboaciaa
open Go.RowKit
theorem T.ty2 : tyInfo Try.prog 2 = some (false, 1) := by kernel_rfl
theorem T.ty3 : tyInfo Try.prog 3 = some (false, 1) := by kernel_rfl
theorem T.ty9 : tyInfo Try.prog 9 = some (false, 1) := by kernel_rfl
theorem T.ty22 : tyInfo Try.prog 22 = some (false, 1) := by kernel_rfl
theorem T.ty32 : tyInfo Try.prog 32 = some (true, 3) := by kernel_rfl
theorem T.ty35 : tyInfo Try.prog 35 = some (true, 3) := by kernel_rfl
theorem T.ty39 : tyInfo Try.prog 39 = some (false, 1) := by kernel_rfl
theorem T.ty41 : tyInfo Try.prog 41 = some (true, 3) := by kernel_rfl
theorem T.ty44 : tyInfo Try.prog 44 = some (false, 1) := by kernel_rfl
theorem T.ty46 : tyInfo Try.prog 46 = some (true, 3) := by kernel_rfl
theorem T.ty57 : tyInfo Try.prog 57 = some (false, 1) := by kernel_rfl
theorem T.ty59 : tyInfo Try.prog 59 = some (true, 3) := by kernel_rfl
theorem T.ty62 : tyInfo Try.prog 62 = some (false, 1) := by kernel_rfl
theorem T.ty64 : tyInfo Try.prog 64 = some (true, 3) := by kernel_rfl
theorem T.ty72 : tyInfo Try.prog 72 = some (true, 2) := by kernel_rfl
theorem T.ty77 : tyInfo Try.prog 77 = some (false, 1) := by kernel_rfl
theorem T.ty84 : tyInfo Try.prog 84 = some (true, 5) := by kernel_rfl
theorem T.ty88 : tyInfo Try.prog 88 = some (false, 1) := by kernel_rfl
theorem T.ty95 : tyInfo Try.prog 95 = some (true, 2) := by kernel_rfl
theorem T.ty107 : tyInfo Try.prog 107 = some (true, 5) := by kernel_rfl
theorem T.ty118 : tyInfo Try.prog 118 = some (false, 1) := by kernel_rfl
theorem T.ty119 : tyInfo Try.prog 119 = some (false, 1) := by kernel_rfl
theorem T.ty131 : tyInfo Try.prog 131 = some (true, 5) := by kernel_rfl
theorem T.ty142 : tyInfo Try.prog 142 = some (true, 5) := by kernel_rfl
theorem T.ty163 : tyInfo Try.prog 163 = some (false, 1) := by kernel_rfl
theorem T.ty166 : tyInfo Try.prog 166 = some (true, 2) := by kernel_rfl
theorem T.ty186 : tyInfo Try.prog 186 = some (true, 120) := by kernel_rfl
theorem T.ty192 : tyInfo Try.prog 192 = some (false, 1) := by kernel_rfl
theorem T.mixed : Try.prog.follows .mixedOrders = true := by kernel_rfl
end Go.Proofs.Ytljmenkgboaciaa
