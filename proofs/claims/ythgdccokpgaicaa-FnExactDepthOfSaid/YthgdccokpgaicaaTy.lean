/- Closed facts on the types that the program names. -/
import Derived.Test.YthgdccokpgaicaaProg
import Derived.Test.YthgdccokpgaicaaSx14
namespace Go.Proofs.Ythgdccokpgaicaa
open Go.RowKit
theorem T.ty2 : tyInfo Try.prog 2 = some (false, 1) := by kernel_rfl
theorem T.ty3 : tyInfo Try.prog 3 = some (false, 1) := by kernel_rfl
theorem T.ty4 : tyInfo Try.prog 4 = some (false, 1) := by kernel_rfl
theorem T.ty5 : tyInfo Try.prog 5 = some (false, 1) := by kernel_rfl
theorem T.ty23 : tyInfo Try.prog 23 = some (true, 2) := by kernel_rfl
theorem T.ty25 : tyInfo Try.prog 25 = some (true, 2) := by kernel_rfl
theorem T.ty28 : tyInfo Try.prog 28 = some (false, 1) := by kernel_rfl
theorem T.ty29 : tyInfo Try.prog 29 = some (false, 1) := by kernel_rfl
theorem T.ty31 : tyInfo Try.prog 31 = some (true, 3) := by kernel_rfl
theorem T.ty34 : tyInfo Try.prog 34 = some (false, 1) := by kernel_rfl
theorem T.ty36 : tyInfo Try.prog 36 = some (true, 3) := by kernel_rfl
theorem T.ty42 : tyInfo Try.prog 42 = some (false, 1) := by kernel_rfl
theorem T.ty51 : tyInfo Try.prog 51 = some (false, 1) := by kernel_rfl
theorem T.ty52 : tyInfo Try.prog 52 = some (false, 1) := by kernel_rfl
theorem T.ty54 : tyInfo Try.prog 54 = some (true, 3) := by kernel_rfl
theorem T.ty58 : tyInfo Try.prog 58 = some (true, 3) := by kernel_rfl
theorem T.ty84 : tyInfo Try.prog 84 = some (true, 3) := by kernel_rfl
theorem T.ty104 : tyInfo Try.prog 104 = some (true, 6) := by kernel_rfl
theorem T.ty112 : tyInfo Try.prog 112 = some (true, 3) := by kernel_rfl
theorem T.ty129 : tyInfo Try.prog 129 = some (false, 1) := by kernel_rfl
theorem T.ty130 : tyInfo Try.prog 130 = some (false, 1) := by kernel_rfl
theorem T.ty131 : tyInfo Try.prog 131 = some (false, 1) := by kernel_rfl
theorem T.fo23_0 : fieldOff Try.prog 23 0 = some 0 := by kernel_rfl
theorem T.fo23_1 : fieldOff Try.prog 23 1 = some 1 := by kernel_rfl
theorem T.fo25_0 : fieldOff Try.prog 25 0 = some 0 := by kernel_rfl
theorem T.fo25_1 : fieldOff Try.prog 25 1 = some 1 := by kernel_rfl
theorem T.fo31_0 : fieldOff Try.prog 31 0 = some 0 := by kernel_rfl
theorem T.fo31_1 : fieldOff Try.prog 31 1 = some 1 := by kernel_rfl
theorem T.fo31_2 : fieldOff Try.prog 31 2 = some 2 := by kernel_rfl
theorem T.fo36_0 : fieldOff Try.prog 36 0 = some 0 := by kernel_rfl
theorem T.fo36_1 : fieldOff Try.prog 36 1 = some 1 := by kernel_rfl
theorem T.fo36_2 : fieldOff Try.prog 36 2 = some 2 := by kernel_rfl
theorem T.fo54_0 : fieldOff Try.prog 54 0 = some 0 := by kernel_rfl
theorem T.fo54_1 : fieldOff Try.prog 54 1 = some 1 := by kernel_rfl
theorem T.fo54_2 : fieldOff Try.prog 54 2 = some 2 := by kernel_rfl
theorem T.fo58_0 : fieldOff Try.prog 58 0 = some 0 := by kernel_rfl
theorem T.fo58_1 : fieldOff Try.prog 58 1 = some 1 := by kernel_rfl
theorem T.fo58_2 : fieldOff Try.prog 58 2 = some 2 := by kernel_rfl
theorem T.fo84_0 : fieldOff Try.prog 84 0 = some 0 := by kernel_rfl
theorem T.fo84_1 : fieldOff Try.prog 84 1 = some 1 := by kernel_rfl
theorem T.fo84_2 : fieldOff Try.prog 84 2 = some 2 := by kernel_rfl
theorem T.fo104_2 : fieldOff Try.prog 104 2 = some 4 := by kernel_rfl
theorem T.fo104_3 : fieldOff Try.prog 104 3 = some 5 := by kernel_rfl
theorem T.fo112_0 : fieldOff Try.prog 112 0 = some 0 := by kernel_rfl
theorem T.fo112_1 : fieldOff Try.prog 112 1 = some 1 := by kernel_rfl
theorem T.fo112_2 : fieldOff Try.prog 112 2 = some 2 := by kernel_rfl
theorem T.fo126_0 : fieldOff Try.prog 126 0 = some 0 := by kernel_rfl
theorem T.fo126_1 : fieldOff Try.prog 126 1 = some 1 := by kernel_rfl
theorem T.fo126_2 : fieldOff Try.prog 126 2 = some 2 := by kernel_rfl
theorem T.fo126_3 : fieldOff Try.prog 126 3 = some 3 := by kernel_rfl
theorem T.fo133_0 : fieldOff Try.prog 133 0 = some 0 := by kernel_rfl
theorem T.fo133_1 : fieldOff Try.prog 133 1 = some 1 := by kernel_rfl
theorem T.fo133_2 : fieldOff Try.prog 133 2 = some 2 := by kernel_rfl
theorem T.fo133_3 : fieldOff Try.prog 133 3 = some 3 := by kernel_rfl
theorem T.fo133_4 : fieldOff Try.prog 133 4 = some 4 := by kernel_rfl
theorem T.sl28 : sliceTy Try.prog 28 = some (112, 3) := by kernel_rfl
theorem T.si28 : sliceInfo Try.prog 28 = some (112, 3, 24, [.int .i64 0, .int .i64 0, .int .i64 0]) := by kernel_rfl
theorem T.sl29 : sliceTy Try.prog 29 = some (2, 1) := by kernel_rfl
theorem T.si29 : sliceInfo Try.prog 29 = some (2, 1, 8, [.int .i64 0]) := by kernel_rfl
theorem T.sl34 : sliceTy Try.prog 34 = some (84, 3) := by kernel_rfl
theorem T.si34 : sliceInfo Try.prog 34 = some (84, 3, 24, [.int .i64 0, .int .i64 0, .int .i64 0]) := by kernel_rfl
theorem T.sl42 : sliceTy Try.prog 42 = some (25, 2) := by kernel_rfl
theorem T.si42 : sliceInfo Try.prog 42 = some (25, 2, 16, [.int .i64 0, .int .i64 0]) := by kernel_rfl
theorem T.sl51 : sliceTy Try.prog 51 = some (23, 2) := by kernel_rfl
theorem T.si51 : sliceInfo Try.prog 51 = some (23, 2, 16, [.int .i64 0, .int .i64 0]) := by kernel_rfl
theorem T.sl52 : sliceTy Try.prog 52 = some (29, 1) := by kernel_rfl
theorem T.si52 : sliceInfo Try.prog 52 = some (29, 1, 24, [.slice none 0 0]) := by kernel_rfl
theorem T.sl77 : sliceTy Try.prog 77 = some (5, 1) := by kernel_rfl
theorem T.si77 : sliceInfo Try.prog 77 = some (5, 1, 1, [.int .u8 0]) := by kernel_rfl
theorem T.sl129 : sliceTy Try.prog 129 = some (130, 1) := by kernel_rfl
theorem T.si129 : sliceInfo Try.prog 129 = some (130, 1, 8, [.int .u64 0]) := by kernel_rfl
theorem T.sl131 : sliceTy Try.prog 131 = some (3, 1) := by kernel_rfl
theorem T.si131 : sliceInfo Try.prog 131 = some (3, 1, 8, [.int .i64 0]) := by kernel_rfl
theorem T.ze2 : zeroCells Try.prog 2 = some [.int .i64 0] := by kernel_rfl
theorem T.ze25 : zeroCells Try.prog 25 = some [.int .i64 0, .int .i64 0] := by kernel_rfl
theorem T.ze36 : zeroCells Try.prog 36 = some [.int .i64 0, .slice none 0 0, .slice none 0 0] := by kernel_rfl
theorem T.ze58 : zeroCells Try.prog 58 = some [.int .i64 0, .slice none 0 0, .slice none 0 0] := by kernel_rfl
theorem T.ze84 : zeroCells Try.prog 84 = some [.int .i64 0, .int .i64 0, .int .i64 0] := by kernel_rfl
theorem T.ze104 : zeroCells Try.prog 104 = some [.pointer none, .int .i64 0, .slice none 0 0, .slice none 0 0, .int .i64 0, .int .i64 0] := by kernel_rfl
theorem T.ze126 : zeroCells Try.prog 126 = some [.slice none 0 0, .slice none 0 0, .slice none 0 0, .bool false] := by kernel_rfl
theorem T.ze133 : zeroCells Try.prog 133 = some [.slice none 0 0, .slice none 0 0, .int .u64 0, .slice none 0 0, .int .i64 0] := by kernel_rfl
theorem T.ze146 : zeroCells Try.prog 146 = some [.slice none 0 0, .slice none 0 0, .map none] := by kernel_rfl
theorem T.pl25 : placesOf Try.prog 25 = some [(0, 1), (1, 1)] := by kernel_rfl
theorem T.pl104 : placesOf Try.prog 104 = some [(0, 1), (1, 3), (4, 1), (5, 1)] := by kernel_rfl
theorem T.pl126 : placesOf Try.prog 126 = some [(0, 1), (1, 1), (2, 1), (3, 1)] := by kernel_rfl
theorem T.pl133 : placesOf Try.prog 133 = some [(0, 1), (1, 1), (2, 1), (3, 1), (4, 1)] := by kernel_rfl
theorem T.pl146 : placesOf Try.prog 146 = some [(0, 2), (2, 1)] := by kernel_rfl
theorem T.cv2 : Try.prog.underlying 2 = some (.int .i64) := by kernel_rfl
theorem T.cv3 : Try.prog.underlying 3 = some (.int .i64) := by kernel_rfl
theorem T.cv4 : Try.prog.underlying 4 = some .bool := by kernel_rfl
theorem T.st9 : Try.prog.underlying 9 = some .string := by kernel_rfl
theorem T.cv130 : Try.prog.underlying 130 = some (.int .u64) := by kernel_rfl
theorem T.all : (tyInfo Try.prog 2 = some (false, 1)) ∧ (tyInfo Try.prog 3 = some (false, 1)) ∧ (tyInfo Try.prog 4 = some (false, 1)) ∧ (tyInfo Try.prog 5 = some (false, 1)) ∧ (tyInfo Try.prog 23 = some (true, 2)) ∧ (tyInfo Try.prog 25 = some (true, 2)) ∧ (tyInfo Try.prog 28 = some (false, 1)) ∧ (tyInfo Try.prog 29 = some (false, 1)) ∧ (tyInfo Try.prog 31 = some (true, 3)) ∧ (tyInfo Try.prog 34 = some (false, 1)) ∧ (tyInfo Try.prog 36 = some (true, 3)) ∧ (tyInfo Try.prog 42 = some (false, 1)) ∧ (tyInfo Try.prog 51 = some (false, 1)) ∧ (tyInfo Try.prog 52 = some (false, 1)) ∧ (tyInfo Try.prog 54 = some (true, 3)) ∧ (tyInfo Try.prog 58 = some (true, 3)) ∧ (tyInfo Try.prog 84 = some (true, 3)) ∧ (tyInfo Try.prog 104 = some (true, 6)) ∧ (tyInfo Try.prog 112 = some (true, 3)) ∧ (tyInfo Try.prog 129 = some (false, 1)) ∧ (tyInfo Try.prog 130 = some (false, 1)) ∧ (tyInfo Try.prog 131 = some (false, 1)) ∧ (fieldOff Try.prog 23 0 = some 0) ∧ (fieldOff Try.prog 23 1 = some 1) ∧ (fieldOff Try.prog 25 0 = some 0) ∧ (fieldOff Try.prog 25 1 = some 1) ∧ (fieldOff Try.prog 31 0 = some 0) ∧ (fieldOff Try.prog 31 1 = some 1) ∧ (fieldOff Try.prog 31 2 = some 2) ∧ (fieldOff Try.prog 36 0 = some 0) ∧ (fieldOff Try.prog 36 1 = some 1) ∧ (fieldOff Try.prog 36 2 = some 2) ∧ (fieldOff Try.prog 54 0 = some 0) ∧ (fieldOff Try.prog 54 1 = some 1) ∧ (fieldOff Try.prog 54 2 = some 2) ∧ (fieldOff Try.prog 58 0 = some 0) ∧ (fieldOff Try.prog 58 1 = some 1) ∧ (fieldOff Try.prog 58 2 = some 2) ∧ (fieldOff Try.prog 84 0 = some 0) ∧ (fieldOff Try.prog 84 1 = some 1) ∧ (fieldOff Try.prog 84 2 = some 2) ∧ (fieldOff Try.prog 104 2 = some 4) ∧ (fieldOff Try.prog 104 3 = some 5) ∧ (fieldOff Try.prog 112 0 = some 0) ∧ (fieldOff Try.prog 112 1 = some 1) ∧ (fieldOff Try.prog 112 2 = some 2) ∧ (fieldOff Try.prog 126 0 = some 0) ∧ (fieldOff Try.prog 126 1 = some 1) ∧ (fieldOff Try.prog 126 2 = some 2) ∧ (fieldOff Try.prog 126 3 = some 3) ∧ (fieldOff Try.prog 133 0 = some 0) ∧ (fieldOff Try.prog 133 1 = some 1) ∧ (fieldOff Try.prog 133 2 = some 2) ∧ (fieldOff Try.prog 133 3 = some 3) ∧ (fieldOff Try.prog 133 4 = some 4) ∧ (sliceTy Try.prog 28 = some (112, 3)) ∧ (sliceInfo Try.prog 28 = some (112, 3, 24, [.int .i64 0, .int .i64 0, .int .i64 0])) ∧ (sliceTy Try.prog 29 = some (2, 1)) ∧ (sliceInfo Try.prog 29 = some (2, 1, 8, [.int .i64 0])) ∧ (sliceTy Try.prog 34 = some (84, 3)) ∧ (sliceInfo Try.prog 34 = some (84, 3, 24, [.int .i64 0, .int .i64 0, .int .i64 0])) ∧ (sliceTy Try.prog 42 = some (25, 2)) ∧ (sliceInfo Try.prog 42 = some (25, 2, 16, [.int .i64 0, .int .i64 0])) ∧ (sliceTy Try.prog 51 = some (23, 2)) ∧ (sliceInfo Try.prog 51 = some (23, 2, 16, [.int .i64 0, .int .i64 0])) ∧ (sliceTy Try.prog 52 = some (29, 1)) ∧ (sliceInfo Try.prog 52 = some (29, 1, 24, [.slice none 0 0])) ∧ (sliceTy Try.prog 77 = some (5, 1)) ∧ (sliceInfo Try.prog 77 = some (5, 1, 1, [.int .u8 0])) ∧ (sliceTy Try.prog 129 = some (130, 1)) ∧ (sliceInfo Try.prog 129 = some (130, 1, 8, [.int .u64 0])) ∧ (sliceTy Try.prog 131 = some (3, 1)) ∧ (sliceInfo Try.prog 131 = some (3, 1, 8, [.int .i64 0])) ∧ (zeroCells Try.prog 2 = some [.int .i64 0]) ∧ (zeroCells Try.prog 25 = some [.int .i64 0, .int .i64 0]) ∧ (zeroCells Try.prog 36 = some [.int .i64 0, .slice none 0 0, .slice none 0 0]) ∧ (zeroCells Try.prog 58 = some [.int .i64 0, .slice none 0 0, .slice none 0 0]) ∧ (zeroCells Try.prog 84 = some [.int .i64 0, .int .i64 0, .int .i64 0]) ∧ (zeroCells Try.prog 104 = some [.pointer none, .int .i64 0, .slice none 0 0, .slice none 0 0, .int .i64 0, .int .i64 0]) ∧ (zeroCells Try.prog 126 = some [.slice none 0 0, .slice none 0 0, .slice none 0 0, .bool false]) ∧ (zeroCells Try.prog 133 = some [.slice none 0 0, .slice none 0 0, .int .u64 0, .slice none 0 0, .int .i64 0]) ∧ (zeroCells Try.prog 146 = some [.slice none 0 0, .slice none 0 0, .map none]) ∧ (placesOf Try.prog 25 = some [(0, 1), (1, 1)]) ∧ (placesOf Try.prog 104 = some [(0, 1), (1, 3), (4, 1), (5, 1)]) ∧ (placesOf Try.prog 126 = some [(0, 1), (1, 1), (2, 1), (3, 1)]) ∧ (placesOf Try.prog 133 = some [(0, 1), (1, 1), (2, 1), (3, 1), (4, 1)]) ∧ (placesOf Try.prog 146 = some [(0, 2), (2, 1)]) ∧ (Try.prog.underlying 2 = some (.int .i64)) ∧ (Try.prog.underlying 3 = some (.int .i64)) ∧ (Try.prog.underlying 4 = some .bool) ∧ (Try.prog.underlying 9 = some .string) ∧ (Try.prog.underlying 130 = some (.int .u64)) :=
  ⟨T.ty2, T.ty3, T.ty4, T.ty5, T.ty23, T.ty25, T.ty28, T.ty29, T.ty31, T.ty34, T.ty36, T.ty42, T.ty51, T.ty52, T.ty54, T.ty58, T.ty84, T.ty104, T.ty112, T.ty129, T.ty130, T.ty131, T.fo23_0, T.fo23_1, T.fo25_0, T.fo25_1, T.fo31_0, T.fo31_1, T.fo31_2, T.fo36_0, T.fo36_1, T.fo36_2, T.fo54_0, T.fo54_1, T.fo54_2, T.fo58_0, T.fo58_1, T.fo58_2, T.fo84_0, T.fo84_1, T.fo84_2, T.fo104_2, T.fo104_3, T.fo112_0, T.fo112_1, T.fo112_2, T.fo126_0, T.fo126_1, T.fo126_2, T.fo126_3, T.fo133_0, T.fo133_1, T.fo133_2, T.fo133_3, T.fo133_4, T.sl28, T.si28, T.sl29, T.si29, T.sl34, T.si34, T.sl42, T.si42, T.sl51, T.si51, T.sl52, T.si52, T.sl77, T.si77, T.sl129, T.si129, T.sl131, T.si131, T.ze2, T.ze25, T.ze36, T.ze58, T.ze84, T.ze104, T.ze126, T.ze133, T.ze146, T.pl25, T.pl104, T.pl126, T.pl133, T.pl146, T.cv2, T.cv3, T.cv4, T.st9, T.cv130⟩
theorem T.mixed : Try.prog.follows .mixedOrders = true := by kernel_rfl
end Go.Proofs.Ythgdccokpgaicaa
