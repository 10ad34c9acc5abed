/- Closed facts on the types that the program names. -/
import Derived.Test.YtbdhhldbggidlaaProg
import Derived.Test.YtbdhhldbggidlaaY14
namespace Go.Proofs.Ytbdhhldbggidlaa
open Go.RowKit
theorem T.ty2 : tyInfo Try.prog 2 = some (false, 1) := by kernel_rfl
theorem T.ty3 : tyInfo Try.prog 3 = some (false, 1) := by kernel_rfl
theorem T.ty22 : tyInfo Try.prog 22 = some (false, 1) := by kernel_rfl
theorem T.ty23 : tyInfo Try.prog 23 = some (false, 1) := by kernel_rfl
theorem T.ty32 : tyInfo Try.prog 32 = some (false, 1) := by kernel_rfl
theorem T.ty34 : tyInfo Try.prog 34 = some (true, 1) := by kernel_rfl
theorem T.ty37 : tyInfo Try.prog 37 = some (false, 1) := by kernel_rfl
theorem T.ty39 : tyInfo Try.prog 39 = some (true, 1) := by kernel_rfl
theorem T.ty43 : tyInfo Try.prog 43 = some (true, 2) := by kernel_rfl
theorem T.ty47 : tyInfo Try.prog 47 = some (true, 2) := by kernel_rfl
theorem T.ty55 : tyInfo Try.prog 55 = some (false, 1) := by kernel_rfl
theorem T.ty60 : tyInfo Try.prog 60 = some (false, 1) := by kernel_rfl
theorem T.ty62 : tyInfo Try.prog 62 = some (true, 3) := by kernel_rfl
theorem T.ty66 : tyInfo Try.prog 66 = some (true, 3) := by kernel_rfl
theorem T.ty71 : tyInfo Try.prog 71 = some (false, 1) := by kernel_rfl
theorem T.ty73 : tyInfo Try.prog 73 = some (true, 3) := by kernel_rfl
theorem T.ty76 : tyInfo Try.prog 76 = some (false, 1) := by kernel_rfl
theorem T.ty78 : tyInfo Try.prog 78 = some (true, 3) := by kernel_rfl
theorem T.ty86 : tyInfo Try.prog 86 = some (true, 3) := by kernel_rfl
theorem T.ty88 : tyInfo Try.prog 88 = some (false, 1) := by kernel_rfl
theorem T.ty90 : tyInfo Try.prog 90 = some (true, 3) := by kernel_rfl
theorem T.ty93 : tyInfo Try.prog 93 = some (true, 3) := by kernel_rfl
theorem T.ty100 : tyInfo Try.prog 100 = some (false, 1) := by kernel_rfl
theorem T.ty102 : tyInfo Try.prog 102 = some (true, 3) := by kernel_rfl
theorem T.ty104 : tyInfo Try.prog 104 = some (true, 3) := by kernel_rfl
theorem T.ty108 : tyInfo Try.prog 108 = some (false, 1) := by kernel_rfl
theorem T.ty110 : tyInfo Try.prog 110 = some (true, 3) := by kernel_rfl
theorem T.ty112 : tyInfo Try.prog 112 = some (true, 3) := by kernel_rfl
theorem T.ty123 : tyInfo Try.prog 123 = some (false, 1) := by kernel_rfl
theorem T.ty126 : tyInfo Try.prog 126 = some (true, 2) := by kernel_rfl
theorem T.ty147 : tyInfo Try.prog 147 = some (true, 2) := by kernel_rfl
theorem T.ty185 : tyInfo Try.prog 185 = some (true, 5) := by kernel_rfl
theorem T.ty190 : tyInfo Try.prog 190 = some (false, 1) := by kernel_rfl
theorem T.ty201 : tyInfo Try.prog 201 = some (true, 2) := by kernel_rfl
theorem T.ty206 : tyInfo Try.prog 206 = some (true, 3) := by kernel_rfl
theorem T.ty209 : tyInfo Try.prog 209 = some (true, 3) := by kernel_rfl
theorem T.ty213 : tyInfo Try.prog 213 = some (true, 5) := by kernel_rfl
theorem T.ty217 : tyInfo Try.prog 217 = some (true, 5) := by kernel_rfl
theorem T.ty223 : tyInfo Try.prog 223 = some (true, 2) := by kernel_rfl
theorem T.mixed : Try.prog.follows .mixedOrders = true := by kernel_rfl
end Go.Proofs.Ytbdhhldbggidlaa
