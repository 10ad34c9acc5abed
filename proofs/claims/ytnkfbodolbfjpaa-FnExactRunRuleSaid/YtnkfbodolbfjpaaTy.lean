/- Closed facts on the types that the program names. -/
import Derived.Test.YtnkfbodolbfjpaaProg
import Derived.Test.YtnkfbodolbfjpaaY14
namespace Go.Proofs.Ytnkfbodolbfjpaa
open Go.RowKit
theorem T.ty2 : tyInfo Try.prog 2 = some (false, 1) := by kernel_rfl
theorem T.ty3 : tyInfo Try.prog 3 = some (false, 1) := by kernel_rfl
theorem T.ty4 : tyInfo Try.prog 4 = some (false, 1) := by kernel_rfl
theorem T.ty9 : tyInfo Try.prog 9 = some (false, 1) := by kernel_rfl
theorem T.ty22 : tyInfo Try.prog 22 = some (false, 1) := by kernel_rfl
theorem T.ty23 : tyInfo Try.prog 23 = some (false, 1) := by kernel_rfl
theorem T.ty25 : tyInfo Try.prog 25 = some (true, 2) := by kernel_rfl
theorem T.ty28 : tyInfo Try.prog 28 = some (false, 1) := by kernel_rfl
theorem T.ty29 : tyInfo Try.prog 29 = some (false, 1) := by kernel_rfl
theorem T.ty31 : tyInfo Try.prog 31 = some (true, 2) := by kernel_rfl
theorem T.ty35 : tyInfo Try.prog 35 = some (false, 1) := by kernel_rfl
theorem T.ty37 : tyInfo Try.prog 37 = some (true, 2) := by kernel_rfl
theorem T.ty41 : tyInfo Try.prog 41 = some (false, 1) := by kernel_rfl
theorem T.ty43 : tyInfo Try.prog 43 = some (true, 2) := by kernel_rfl
theorem T.ty49 : tyInfo Try.prog 49 = some (false, 1) := by kernel_rfl
theorem T.ty51 : tyInfo Try.prog 51 = some (true, 3) := by kernel_rfl
theorem T.ty54 : tyInfo Try.prog 54 = some (true, 3) := by kernel_rfl
theorem T.ty58 : tyInfo Try.prog 58 = some (false, 1) := by kernel_rfl
theorem T.ty60 : tyInfo Try.prog 60 = some (true, 1) := by kernel_rfl
theorem T.ty62 : tyInfo Try.prog 62 = some (false, 1) := by kernel_rfl
theorem T.ty64 : tyInfo Try.prog 64 = some (true, 1) := by kernel_rfl
theorem T.ty71 : tyInfo Try.prog 71 = some (false, 1) := by kernel_rfl
theorem T.ty80 : tyInfo Try.prog 80 = some (false, 1) := by kernel_rfl
theorem T.ty82 : tyInfo Try.prog 82 = some (true, 3) := by kernel_rfl
theorem T.ty84 : tyInfo Try.prog 84 = some (false, 1) := by kernel_rfl
theorem T.ty86 : tyInfo Try.prog 86 = some (true, 3) := by kernel_rfl
theorem T.ty96 : tyInfo Try.prog 96 = some (true, 2) := by kernel_rfl
theorem T.ty101 : tyInfo Try.prog 101 = some (true, 2) := by kernel_rfl
theorem T.ty117 : tyInfo Try.prog 117 = some (false, 1) := by kernel_rfl
theorem T.ty118 : tyInfo Try.prog 118 = some (false, 1) := by kernel_rfl
theorem T.ty120 : tyInfo Try.prog 120 = some (true, 4) := by kernel_rfl
theorem T.ty129 : tyInfo Try.prog 129 = some (true, 2) := by kernel_rfl
theorem T.ty133 : tyInfo Try.prog 133 = some (true, 2) := by kernel_rfl
theorem T.ty140 : tyInfo Try.prog 140 = some (false, 1) := by kernel_rfl
theorem T.ty151 : tyInfo Try.prog 151 = some (true, 2) := by kernel_rfl
theorem T.ty153 : tyInfo Try.prog 153 = some (true, 3) := by kernel_rfl
theorem T.ty164 : tyInfo Try.prog 164 = some (true, 2) := by kernel_rfl
theorem T.ty186 : tyInfo Try.prog 186 = some (true, 2) := by kernel_rfl
theorem T.ty188 : tyInfo Try.prog 188 = some (false, 1) := by kernel_rfl
theorem T.ty190 : tyInfo Try.prog 190 = some (true, 4) := by kernel_rfl
theorem T.ty194 : tyInfo Try.prog 194 = some (true, 2) := by kernel_rfl
theorem T.ty207 : tyInfo Try.prog 207 = some (true, 2) := by kernel_rfl
theorem T.ty215 : tyInfo Try.prog 215 = some (false, 1) := by kernel_rfl
theorem T.ty219 : tyInfo Try.prog 219 = some (false, 1) := by kernel_rfl
theorem T.ty233 : tyInfo Try.prog 233 = some (true, 2) := by kernel_rfl
theorem T.ty235 : tyInfo Try.prog 235 = some (true, 3) := by kernel_rfl
theorem T.ty247 : tyInfo Try.prog 247 = some (false, 1) := by kernel_rfl
theorem T.ty248 : tyInfo Try.prog 248 = some (false, 1) := by kernel_rfl
theorem T.ty249 : tyInfo Try.prog 249 = some (false, 1) := by kernel_rfl
theorem T.ty258 : tyInfo Try.prog 258 = some (true, 5) := by kernel_rfl
theorem T.ty265 : tyInfo Try.prog 265 = some (true, 5) := by kernel_rfl
theorem T.ty269 : tyInfo Try.prog 269 = some (false, 1) := by kernel_rfl
theorem T.ty271 : tyInfo Try.prog 271 = some (false, 1) := by kernel_rfl
theorem T.ty274 : tyInfo Try.prog 274 = some (true, 2) := by kernel_rfl
theorem T.ty311 : tyInfo Try.prog 311 = some (true, 2) := by kernel_rfl
theorem T.ty312 : tyInfo Try.prog 312 = some (true, 120) := by kernel_rfl
theorem T.ty319 : tyInfo Try.prog 319 = some (true, 2) := by kernel_rfl
theorem T.ty335 : tyInfo Try.prog 335 = some (false, 1) := by kernel_rfl
theorem T.mixed : Try.prog.follows .mixedOrders = true := by kernel_rfl
end Go.Proofs.Ytnkfbodolbfjpaa
