/- The kit's contracts of slices.SortFunc (at Placed) and cmp.Compare, laid at this program (the text is the kit's tool's own). -/
import Derived.Shelf.SlSortCmp.WholeK
import Derived.Shelf.SlicesG.Cmp
import Derived.Ground.SlsfProg
import Derived.Ground.SlgcProg
import Derived.Test.YtnkfbodolbfjpaaProg
namespace Go.Proofs
open Go.Shelf
def Try.laysSlF06_f168_ren : Go.Shelf.Ren := ⟨fun | 6 => 168 | 15 => 219 | 14 => 218 | 28 => 248 | 29 => 249 | 20 => 240 | 21 => 241 | 22 => 242 | 23 => 243 | 24 => 244 | 25 => 245 | 26 => 246 | 27 => 247 | 46 => 255 | 47 => 256 | 48 => 257 | 49 => 258 | 50 => 259 | 57 => 260 | n => n, fun | 22 => 62 | 24 => 153 | 25 => 240 | 3 => 3 | 39 => 295 | 0 => 0 | 53 => 332 | 55 => 248 | 4 => 4 | 46 => 325 | 45 => 324 | 50 => 329 | 5 => 5 | 9 => 9 | 66 => 335 | 70 => 339 | 76 => 341 | 77 => 342 | n => n, fun | n => n⟩
theorem Try.laysSlF06_f168 : Go.Proofs.SlLaysF0.n6 Try.prog Try.laysSlF06_f168_ren := {
  mixed := by kernel_rfl
  f6 := ⟨Try.f168.name, by decide, Try.func168.trans (congrArg some (by kernel_rfl))⟩
  f14 := ⟨Try.f218.name, by decide, Try.func218.trans (congrArg some (by kernel_rfl))⟩
  f15 := Try.func219.trans (congrArg some (by kernel_rfl))
  f20 := ⟨Try.f240.name, by decide, Try.func240.trans (congrArg some (by kernel_rfl))⟩
  f21 := ⟨Try.f241.name, by decide, Try.func241.trans (congrArg some (by kernel_rfl))⟩
  f22 := ⟨Try.f242.name, by decide, Try.func242.trans (congrArg some (by kernel_rfl))⟩
  f23 := ⟨Try.f243.name, by decide, Try.func243.trans (congrArg some (by kernel_rfl))⟩
  f24 := ⟨Try.f244.name, by decide, Try.func244.trans (congrArg some (by kernel_rfl))⟩
  f25 := ⟨Try.f245.name, by decide, Try.func245.trans (congrArg some (by kernel_rfl))⟩
  f26 := ⟨Try.f246.name, by decide, Try.func246.trans (congrArg some (by kernel_rfl))⟩
  f27 := ⟨Try.f247.name, by decide, Try.func247.trans (congrArg some (by kernel_rfl))⟩
  f28 := Try.func248.trans (congrArg some (by kernel_rfl))
  f29 := Try.func249.trans (congrArg some (by kernel_rfl))
  f46 := ⟨Try.f255.name, by decide, Try.func255.trans (congrArg some (by kernel_rfl))⟩
  f47 := Try.func256.trans (congrArg some (by kernel_rfl))
  f48 := Try.func257.trans (congrArg some (by kernel_rfl))
  f49 := ⟨Try.f258.name, by decide, Try.func258.trans (congrArg some (by kernel_rfl))⟩
  f50 := ⟨Try.f259.name, by decide, Try.func259.trans (congrArg some (by kernel_rfl))⟩
  f57 := ⟨Try.f260.name, by decide, Try.func260.trans (congrArg some (by kernel_rfl))⟩
  t0 := Try.underlying0
  a0 := Try.isAgg0
  z0 := Try.sizeOf0
  v0 := Try.zeroValue0
  t3 := Try.underlying3
  a3 := Try.isAgg3
  z3 := Try.sizeOf3
  v3 := Try.zeroValue3
  t4 := Try.underlying4
  a4 := Try.isAgg4
  z4 := Try.sizeOf4
  v4 := Try.zeroValue4
  t5 := Try.underlying5
  a5 := Try.isAgg5
  z5 := Try.sizeOf5
  v5 := Try.zeroValue5
  t9 := Try.underlying9
  a9 := Try.isAgg9
  z9 := Try.sizeOf9
  v9 := Try.zeroValue9
  t22 := Try.underlying62
  a22 := Try.isAgg62
  z22 := Try.sizeOf62
  v22 := Try.zeroValue62
  t25 := Try.underlying240
  a25 := Try.isAgg240
  z25 := Try.sizeOf240
  v25 := Try.zeroValue240
  t39 := Try.underlying295
  a39 := Try.isAgg295
  z39 := Try.sizeOf295
  v39 := Try.zeroValue295
  t45 := Try.underlying324
  a45 := Try.isAgg324
  z45 := Try.sizeOf324
  v45 := Try.zeroValue324
  t46 := Try.underlying325
  a46 := Try.isAgg325
  z46 := Try.sizeOf325
  v46 := Try.zeroValue325
  t50 := Try.underlying329
  a50 := Try.isAgg329
  z50 := Try.sizeOf329
  v50 := Try.zeroValue329
  t53 := Try.underlying332
  a53 := Try.isAgg332
  z53 := Try.sizeOf332
  v53 := Try.zeroValue332
  t55 := Try.underlying248
  a55 := Try.isAgg248
  z55 := Try.sizeOf248
  v55 := Try.zeroValue248
  t66 := Try.underlying335
  a66 := Try.isAgg335
  z66 := Try.sizeOf335
  v66 := Try.zeroValue335
  t70 := Try.underlying339
  a70 := Try.isAgg339
  z70 := Try.sizeOf339
  v70 := Try.zeroValue339
  t76 := Try.underlying341
  a76 := Try.isAgg341
  z76 := Try.sizeOf341
  v76 := Try.zeroValue341
  t77 := Try.underlying342
  a77 := Try.isAgg342
  z77 := Try.sizeOf342
  v77 := Try.zeroValue342 }
def Try.laysSlC25_f221_ren : Go.Shelf.Ren := ⟨fun | 5 => 221 | 7 => 250 | n => n, fun | 22 => 2 | 3 => 3 | 4 => 4 | n => n, fun | n => n⟩
theorem Try.laysSlC25_f221 : Go.Proofs.SlLaysC2.n5 Try.prog Try.laysSlC25_f221_ren := {
  mixed := by kernel_rfl
  f5 := ⟨Try.f221.name, by decide, Try.func221.trans (congrArg some (by kernel_rfl))⟩
  f7 := ⟨Try.f250.name, by decide, Try.func250.trans (congrArg some (by kernel_rfl))⟩
  t3 := Try.underlying3
  a3 := Try.isAgg3
  z3 := Try.sizeOf3
  v3 := Try.zeroValue3
  t4 := Try.underlying4
  a4 := Try.isAgg4
  z4 := Try.sizeOf4
  v4 := Try.zeroValue4
  t22 := Try.underlying2
  a22 := Try.isAgg2
  z22 := Try.sizeOf2
  v22 := Try.zeroValue2 }
end Go.Proofs
