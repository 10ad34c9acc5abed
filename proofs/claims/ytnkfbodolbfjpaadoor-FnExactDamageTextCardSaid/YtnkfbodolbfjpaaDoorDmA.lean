/- The text of damage: what it is; points; the reference; the library. -/
import Derived.Test.YtnkfbodolbfjpaaDoorBoilDm
import Derived.Test.YtnkfbodolbfjpaaDoorY23
import Derived.Test.YtnkfbodolbfjpaaDoorDec2
import Derived.Lib.AppendZeros
import Derived.Lib.SliceRun
import Derived.WalkKit
import Derived.Lib.Walk
import Derived.Lib.Hide
namespace Go.Proofs.YtnkfbodolbfjpaaDoor
open Go.RowKit
set_option maxRecDepth 100000 in
def S.s12 : SC := (.seq (.reg [⟨(.some 1), .none, .false, (.box 38 (.tmp 0))⟩, ⟨(.some 2), .none, .false, (.mv (.const (Go.Value.string { data := #[] })))⟩]) (.seq (.reg [⟨(.some 10), .none, .false, (.fa 0 (.tmp 1))⟩, ⟨(.some 11), .none, .false, (.ld .false 1 (.tmp 10))⟩, ⟨(.some 12), .none, .false, (.call (.func 29) [(.tmp 11)])⟩, ⟨(.some 9), .none, .false, (.mv (.tmp 12))⟩, ⟨(.some 13), .none, .false, (.ext (.tmp 9) 0)⟩, ⟨(.some 14), .none, .false, (.ext (.tmp 9) 1)⟩, ⟨(.some 3), .none, .false, (.mv (.tmp 13))⟩, ⟨(.some 4), .none, .false, (.mv (.tmp 14))⟩]) (.seq (.reg [⟨(.some 16), .none, .false, (.fa 1 (.tmp 1))⟩, ⟨(.some 17), .none, .false, (.ld .false 1 (.tmp 16))⟩, ⟨(.some 18), .none, .false, (.call (.func 29) [(.tmp 17)])⟩, ⟨(.some 15), .none, .false, (.mv (.tmp 18))⟩, ⟨(.some 19), .none, .false, (.ext (.tmp 15) 0)⟩, ⟨(.some 20), .none, .false, (.ext (.tmp 15) 1)⟩, ⟨(.some 5), .none, .false, (.mv (.tmp 19))⟩, ⟨(.some 6), .none, .false, (.mv (.tmp 20))⟩]) (.seq (.reg [⟨(.some 22), .none, .false, (.fa 2 (.tmp 1))⟩, ⟨(.some 23), .none, .false, (.ld .false 1 (.tmp 22))⟩, ⟨(.some 24), .none, .false, (.call (.func 29) [(.tmp 23)])⟩, ⟨(.some 21), .none, .false, (.mv (.tmp 24))⟩, ⟨(.some 25), .none, .false, (.ext (.tmp 21) 0)⟩, ⟨(.some 26), .none, .false, (.ext (.tmp 21) 1)⟩, ⟨(.some 7), .none, .false, (.mv (.tmp 25))⟩, ⟨(.some 8), .none, .false, (.mv (.tmp 26))⟩]) (.seq (.seq (.reg [⟨(.some 27), .none, .false, (.mv (.tmp 4))⟩, ⟨(.some 28), .none, .false, (.not (.tmp 27))⟩, ⟨(.some 29), .none, .false, (.mv (.tmp 28))⟩, ⟨(.some 30), (.some (29, .false)), .false, (.mv (.tmp 6))⟩, ⟨(.some 31), (.some (29, .false)), .false, (.not (.tmp 30))⟩, ⟨(.some 32), .none, .false, (.pick (.tmp 29) (.const (Go.Value.bool true)) (.tmp 31))⟩, ⟨(.some 33), .none, .false, (.mv (.tmp 32))⟩, ⟨(.some 34), (.some (33, .false)), .false, (.mv (.tmp 8))⟩, ⟨(.some 35), (.some (33, .false)), .false, (.not (.tmp 34))⟩, ⟨(.some 36), .none, .false, (.pick (.tmp 33) (.const (Go.Value.bool true)) (.tmp 35))⟩]) (.cond (.tmp 36) (.seq (.reg [⟨(.some 2), .none, .false, (.mv (.const (Go.Value.string { data := #[] })))⟩]) .ret) .skip)) (.seq (.reg [⟨(.some 37), .none, .false, (.mv (.tmp 3))⟩, ⟨(.some 38), .none, .false, (.bin .add (.const (Go.Value.string { data := #[109, 105, 115, 115, 105, 110, 103] })) (.tmp 37))⟩, ⟨(.some 39), .none, .false, (.bin .add (.tmp 38) (.const (Go.Value.string { data := #[32, 119, 114, 111, 110, 103] })))⟩, ⟨(.some 40), .none, .false, (.mv (.tmp 5))⟩, ⟨(.some 41), .none, .false, (.bin .add (.tmp 39) (.tmp 40))⟩, ⟨(.some 42), .none, .false, (.bin .add (.tmp 41) (.const (Go.Value.string { data := #[32, 108, 111, 111, 115, 101] })))⟩, ⟨(.some 43), .none, .false, (.mv (.tmp 7))⟩, ⟨(.some 44), .none, .false, (.bin .add (.tmp 42) (.tmp 43))⟩, ⟨(.some 2), .none, .false, (.mv (.tmp 44))⟩]) .ret))))))
set_option maxRecDepth 100000 in
theorem S.ok12 : stripF Tryd.prog Tryd.f12 = some S.s12 := by kernel_rfl
set_option maxRecDepth 100000 in
def S.s29 : SC := (.seq (.reg [⟨(.some 2), .none, .false, (.mv (.const (Go.Value.string { data := #[] })))⟩, ⟨(.some 3), .none, .false, (.mv (.const (Go.Value.bool false)))⟩]) (.seq (.reg [⟨(.some 4), .none, .false, (.mv (.const (Go.Value.string { data := #[] })))⟩]) (.seq (.seq (.reg [⟨(.some 5), .none, .false, (.mv (.const (Go.Value.int Go.IntKind.i64 0)))⟩]) (.block 0 (.loop (.seq (.seq (.reg [⟨(.some 6), .none, .false, (.mv (.tmp 5))⟩, ⟨(.some 7), .none, .false, (.mv (.tmp 0))⟩, ⟨(.some 8), .none, .false, (.len (.tmp 7))⟩, ⟨(.some 9), .none, .false, (.bin .lss (.tmp 6) (.tmp 8))⟩]) (.cond (.tmp 9) .skip (.exit 0))) (.seq (.block 1 (.seq (.seq (.reg [⟨(.some 12), .none, .false, (.mv (.tmp 0))⟩, ⟨(.some 13), .none, .false, (.mv (.tmp 5))⟩, ⟨(.some 14), .none, .false, (.ix (.mk 72 2) (.tmp 12) (.tmp 13))⟩, ⟨(.some 15), .none, .false, (.ld .true 2 (.tmp 14))⟩, ⟨(.some 16), .none, .false, (.call (.func 47) [(.tmp 15)])⟩, ⟨(.some 17), .none, .false, (.not (.tmp 16))⟩]) (.cond (.tmp 17) (.seq (.reg [⟨(.some 2), .none, .false, (.mv (.const (Go.Value.string { data := #[] })))⟩, ⟨(.some 3), .none, .false, (.mv (.const (Go.Value.bool false)))⟩]) .ret) .skip)) (.reg [⟨(.some 18), .none, .false, (.mv (.tmp 4))⟩, ⟨(.some 19), .none, .false, (.mv (.tmp 0))⟩, ⟨(.some 20), .none, .false, (.mv (.tmp 5))⟩, ⟨(.some 21), .none, .false, (.ix (.mk 72 2) (.tmp 19) (.tmp 20))⟩, ⟨(.some 22), .none, .false, (.ld .true 2 (.tmp 21))⟩, ⟨(.some 23), .none, .false, (.call (.func 48) [(.tmp 22)])⟩, ⟨(.some 24), .none, .false, (.bin .add (.const (Go.Value.string { data := #[32] })) (.tmp 23))⟩, ⟨(.some 25), .none, .false, (.bin .add (.tmp 18) (.tmp 24))⟩, ⟨(.some 4), .none, .false, (.mv (.tmp 25))⟩]))) (.reg [⟨(.some 10), .none, .false, (.mv (.tmp 5))⟩, ⟨(.some 11), .none, .false, (.bin .add (.tmp 10) (.const (Go.Value.int Go.IntKind.i64 1)))⟩, ⟨(.some 5), .none, .false, (.mv (.tmp 11))⟩])))))) (.seq (.reg [⟨(.some 26), .none, .false, (.mv (.tmp 4))⟩, ⟨(.some 2), .none, .false, (.mv (.tmp 26))⟩, ⟨(.some 3), .none, .false, (.mv (.const (Go.Value.bool true)))⟩]) .ret))))
set_option maxRecDepth 100000 in
theorem S.ok29 : stripF Tryd.prog Tryd.f29 = some S.s29 := by kernel_rfl
set_option maxRecDepth 100000 in
def S.s31 : SC := (.seq (.reg [⟨(.some 4), .none, .false, (.mv (.const (Go.Value.bool false)))⟩]) (.seq (.reg [⟨(.some 5), .none, .false, (.mv (.tmp 0))⟩, ⟨(.some 6), .none, .false, (.mv (.tmp 1))⟩, ⟨(.some 7), .none, .false, (.call (.func 50) [(.tmp 5), (.tmp 6)])⟩, ⟨(.some 8), .none, .false, (.bin .geq (.tmp 7) (.const (Go.Value.int Go.IntKind.i64 0)))⟩, ⟨(.some 4), .none, .false, (.mv (.tmp 8))⟩]) .ret))
set_option maxRecDepth 100000 in
theorem S.ok31 : stripF Tryd.prog Tryd.f31 = some S.s31 := by kernel_rfl
set_option maxRecDepth 100000 in
def S.s32 : SC := (.seq (.reg [⟨(.some 2), .none, .false, (.mv (.const (Go.Value.slice none 0 0)))⟩]) (.seq (.reg [⟨(.some 3), .none, .false, (.mv (.const (Go.Value.int Go.IntKind.i64 0)))⟩]) (.seq (.seq (.reg [⟨(.some 9), .none, .false, (.mv (.tmp 0))⟩, ⟨(.some 10), .none, .false, (.len (.tmp 9))⟩, ⟨(.some 11), .none, .false, (.mv (.const (Go.Value.int Go.IntKind.i64 0)))⟩]) (.block 0 (.loop (.seq (.reg [⟨(.some 12), .none, .false, (.bin .lss (.tmp 11) (.tmp 10))⟩]) (.seq (.cond (.tmp 12) .skip (.exit 0)) (.seq (.block 1 (.seq (.reg [⟨(.some 13), .none, .false, (.ix (.mk 36 1) (.tmp 9) (.tmp 11))⟩, ⟨(.some 14), .none, .false, (.ld .false 1 (.tmp 13))⟩, ⟨(.some 5), .none, .false, (.mv (.tmp 14))⟩]) (.seq (.reg [⟨(.some 15), .none, .false, (.mv (.tmp 3))⟩, ⟨(.some 16), .none, .false, (.mv (.tmp 5))⟩, ⟨(.some 17), .none, .false, (.len (.tmp 16))⟩, ⟨(.some 18), .none, .false, (.bin .add (.tmp 15) (.tmp 17))⟩, ⟨(.some 3), .none, .false, (.mv (.tmp 18))⟩]) (.seq (.reg [⟨(.some 19), .none, .false, (.mv (.tmp 3))⟩, ⟨(.some 20), .none, .false, (.bin .lss (.tmp 19) (.const (Go.Value.int Go.IntKind.i64 0)))⟩]) (.cond (.tmp 20) (.reg [⟨(.some 21), .none, .false, (.raw (.makeInterface 9 (.const (Go.Value.string { data := #[108, 101, 110, 32, 111, 117, 116, 32, 111, 102, 32, 114, 97, 110, 103, 101] }))) 20)⟩, ⟨.none, .none, .false, (.raw (.panic (.tmp 21)) 0)⟩]) .skip))))) (.reg [⟨(.some 22), .none, .false, (.bin .add (.tmp 11) (.const (Go.Value.int Go.IntKind.i64 1)))⟩, ⟨(.some 11), .none, .false, (.mv (.tmp 22))⟩]))))))) (.seq (.reg [⟨(.some 23), .none, .false, (.mv (.tmp 3))⟩, ⟨(.some 24), .none, .false, (.call (.func 51) [(.const (Go.Value.slice none 0 0)), (.tmp 23)])⟩, ⟨(.some 6), .none, .false, (.mv (.tmp 24))⟩]) (.seq (.seq (.reg [⟨(.some 25), .none, .false, (.mv (.tmp 0))⟩, ⟨(.some 26), .none, .false, (.len (.tmp 25))⟩, ⟨(.some 27), .none, .false, (.mv (.const (Go.Value.int Go.IntKind.i64 0)))⟩]) (.block 2 (.loop (.seq (.reg [⟨(.some 28), .none, .false, (.bin .lss (.tmp 27) (.tmp 26))⟩]) (.seq (.cond (.tmp 28) .skip (.exit 2)) (.seq (.block 3 (.seq (.reg [⟨(.some 29), .none, .false, (.ix (.mk 36 1) (.tmp 25) (.tmp 27))⟩, ⟨(.some 30), .none, .false, (.ld .false 1 (.tmp 29))⟩, ⟨(.some 8), .none, .false, (.mv (.tmp 30))⟩]) (.reg [⟨(.some 31), .none, .false, (.mv (.tmp 6))⟩, ⟨(.some 32), .none, .false, (.mv (.tmp 8))⟩, ⟨(.some 33), .none, .false, (.app (.mk 72 2) 16 (.tmp 31) (.tmp 32))⟩, ⟨(.some 6), .none, .false, (.mv (.tmp 33))⟩]))) (.reg [⟨(.some 34), .none, .false, (.bin .add (.tmp 27) (.const (Go.Value.int Go.IntKind.i64 1)))⟩, ⟨(.some 27), .none, .false, (.mv (.tmp 34))⟩]))))))) (.seq (.reg [⟨(.some 35), .none, .false, (.mv (.tmp 6))⟩, ⟨(.some 2), .none, .false, (.mv (.tmp 35))⟩]) .ret))))))
set_option maxRecDepth 100000 in
theorem S.ok32 : stripF Tryd.prog Tryd.f32 = some S.s32 := by kernel_rfl
set_option maxRecDepth 100000 in
def S.s34 : SC := (.seq (.reg [⟨(.some 1), .none, .false, (.box 72 (.tmp 0))⟩, ⟨(.some 2), .none, .false, (.mv (.const (Go.Value.bool false)))⟩]) (.seq (.reg [⟨(.some 3), .none, .false, (.fa 0 (.tmp 1))⟩, ⟨(.some 4), .none, .false, (.ld .false 1 (.tmp 3))⟩, ⟨(.some 5), .none, .false, (.call (.func 52) [(.tmp 4), (.const (Go.Value.int Go.IntKind.i64 (-60))), (.const (Go.Value.int Go.IntKind.i64 60))])⟩, ⟨(.some 6), .none, .false, (.mv (.tmp 5))⟩, ⟨(.some 7), (.some (6, .true)), .false, (.fa 1 (.tmp 1))⟩, ⟨(.some 8), (.some (6, .true)), .false, (.ld .false 1 (.tmp 7))⟩, ⟨(.some 9), (.some (6, .true)), .false, (.call (.func 52) [(.tmp 8), (.const (Go.Value.int Go.IntKind.i64 (-60))), (.const (Go.Value.int Go.IntKind.i64 60))])⟩, ⟨(.some 10), .none, .false, (.pick (.tmp 6) (.tmp 9) (.const (Go.Value.bool false)))⟩, ⟨(.some 2), .none, .false, (.mv (.tmp 10))⟩]) .ret))
set_option maxRecDepth 100000 in
theorem S.ok34 : stripF Tryd.prog Tryd.f34 = some S.s34 := by kernel_rfl
set_option maxRecDepth 100000 in
def S.s36 : SC := (.seq (.reg [⟨(.some 1), .none, .false, (.box 72 (.tmp 0))⟩, ⟨(.some 2), .none, .false, (.mv (.const (Go.Value.string { data := #[] })))⟩]) (.seq (.seq (.reg [⟨(.some 3), .none, .false, (.ld .true 2 (.tmp 1))⟩, ⟨(.some 4), .none, .false, (.call (.func 34) [(.tmp 3)])⟩, ⟨(.some 5), .none, .false, (.not (.tmp 4))⟩]) (.cond (.tmp 5) (.seq (.reg [⟨(.some 2), .none, .false, (.mv (.const (Go.Value.string { data := #[] })))⟩]) .ret) .skip)) (.seq (.reg [⟨(.some 6), .none, .true, (.fa 0 (.tmp 1))⟩, ⟨(.some 7), .none, .true, (.ld .false 1 (.tmp 6))⟩, ⟨(.some 8), .none, .true, (.fcal (.func 25) [(.tmp 7)])⟩, ⟨(.some 9), .none, .true, (.bin .add (.tmp 8) (.const (Go.Value.string { data := #[44] })))⟩, ⟨(.some 10), .none, .true, (.fa 1 (.tmp 1))⟩, ⟨(.some 11), .none, .true, (.ld .false 1 (.tmp 10))⟩, ⟨(.some 12), .none, .true, (.fcal (.func 25) [(.tmp 11)])⟩, ⟨(.some 13), .none, .true, (.bin .add (.tmp 9) (.tmp 12))⟩, ⟨(.some 2), .none, .true, (.mv (.tmp 13))⟩]) .ret)))
set_option maxRecDepth 100000 in
theorem S.ok36 : stripF Tryd.prog Tryd.f36 = some S.s36 := by kernel_rfl
set_option maxRecDepth 100000 in
def S.s47 : SC := (.seq (.reg [⟨(.some 1), .none, .false, (.box 72 (.tmp 0))⟩, ⟨(.some 2), .none, .false, (.mv (.const (Go.Value.bool false)))⟩]) (.seq (.reg [⟨(.some 3), .none, .false, (.fa 0 (.tmp 1))⟩, ⟨(.some 4), .none, .false, (.ld .false 1 (.tmp 3))⟩, ⟨(.some 5), .none, .false, (.call (.func 55) [(.tmp 4), (.const (Go.Value.int Go.IntKind.i64 (-60))), (.const (Go.Value.int Go.IntKind.i64 60))])⟩, ⟨(.some 6), .none, .false, (.mv (.tmp 5))⟩, ⟨(.some 7), (.some (6, .true)), .false, (.fa 1 (.tmp 1))⟩, ⟨(.some 8), (.some (6, .true)), .false, (.ld .false 1 (.tmp 7))⟩, ⟨(.some 9), (.some (6, .true)), .false, (.call (.func 55) [(.tmp 8), (.const (Go.Value.int Go.IntKind.i64 (-60))), (.const (Go.Value.int Go.IntKind.i64 60))])⟩, ⟨(.some 10), .none, .false, (.pick (.tmp 6) (.tmp 9) (.const (Go.Value.bool false)))⟩, ⟨(.some 2), .none, .false, (.mv (.tmp 10))⟩]) .ret))
set_option maxRecDepth 100000 in
theorem S.ok47 : stripF Tryd.prog Tryd.f47 = some S.s47 := by kernel_rfl
set_option maxRecDepth 100000 in
def S.s48 : SC := (.seq (.reg [⟨(.some 1), .none, .false, (.box 72 (.tmp 0))⟩, ⟨(.some 2), .none, .false, (.mv (.const (Go.Value.string { data := #[] })))⟩]) (.seq (.seq (.reg [⟨(.some 3), .none, .false, (.ld .true 2 (.tmp 1))⟩, ⟨(.some 4), .none, .false, (.call (.func 47) [(.tmp 3)])⟩, ⟨(.some 5), .none, .false, (.not (.tmp 4))⟩]) (.cond (.tmp 5) (.seq (.reg [⟨(.some 2), .none, .false, (.mv (.const (Go.Value.string { data := #[] })))⟩]) .ret) .skip)) (.seq (.reg [⟨(.some 6), .none, .true, (.fa 0 (.tmp 1))⟩, ⟨(.some 7), .none, .true, (.ld .false 1 (.tmp 6))⟩, ⟨(.some 8), .none, .true, (.fcal (.func 22) [(.tmp 7)])⟩, ⟨(.some 9), .none, .true, (.bin .add (.tmp 8) (.const (Go.Value.string { data := #[44] })))⟩, ⟨(.some 10), .none, .true, (.fa 1 (.tmp 1))⟩, ⟨(.some 11), .none, .true, (.ld .false 1 (.tmp 10))⟩, ⟨(.some 12), .none, .true, (.fcal (.func 22) [(.tmp 11)])⟩, ⟨(.some 13), .none, .true, (.bin .add (.tmp 9) (.tmp 12))⟩, ⟨(.some 2), .none, .true, (.mv (.tmp 13))⟩]) .ret)))
set_option maxRecDepth 100000 in
theorem S.ok48 : stripF Tryd.prog Tryd.f48 = some S.s48 := by kernel_rfl
set_option maxRecDepth 100000 in
def S.s50 : SC := (.seq (.reg [⟨(.some 4), .none, .false, (.mv (.const (Go.Value.int Go.IntKind.i64 0)))⟩]) (.seq (.seq (.reg [⟨(.some 6), .none, .false, (.mv (.tmp 0))⟩, ⟨(.some 7), .none, .false, (.len (.tmp 6))⟩, ⟨(.some 8), .none, .false, (.mv (.const (Go.Value.int Go.IntKind.i64 0)))⟩]) (.block 0 (.loop (.seq (.reg [⟨(.some 9), .none, .false, (.bin .lss (.tmp 8) (.tmp 7))⟩]) (.seq (.cond (.tmp 9) .skip (.exit 0)) (.seq (.block 1 (.seq (.reg [⟨(.some 10), .none, .false, (.mv (.tmp 8))⟩, ⟨(.some 5), .none, .false, (.mv (.tmp 10))⟩]) (.seq (.reg [⟨(.some 11), .none, .false, (.mv (.tmp 1))⟩, ⟨(.some 12), .none, .false, (.mv (.tmp 0))⟩, ⟨(.some 13), .none, .false, (.mv (.tmp 5))⟩, ⟨(.some 14), .none, .false, (.ix (.mk 72 2) (.tmp 12) (.tmp 13))⟩, ⟨(.some 15), .none, .false, (.ld .true 2 (.tmp 14))⟩, ⟨(.some 16), .none, .false, (.call (.tmp 11) [(.tmp 15)])⟩]) (.cond (.tmp 16) (.seq (.reg [⟨(.some 17), .none, .false, (.mv (.tmp 5))⟩, ⟨(.some 4), .none, .false, (.mv (.tmp 17))⟩]) .ret) .skip)))) (.reg [⟨(.some 18), .none, .false, (.bin .add (.tmp 8) (.const (Go.Value.int Go.IntKind.i64 1)))⟩, ⟨(.some 8), .none, .false, (.mv (.tmp 18))⟩]))))))) (.seq (.reg [⟨(.some 4), .none, .false, (.mv (.const (Go.Value.int Go.IntKind.i64 (-1))))⟩]) .ret)))
set_option maxRecDepth 100000 in
theorem S.ok50 : stripF Tryd.prog Tryd.f50 = some S.s50 := by kernel_rfl
set_option maxRecDepth 100000
set_option maxHeartbeats 8000000
theorem lib_indexPoint {l : List TPoint} {g : FuncId} {caps : List D} {p : TPoint → Bool} (h : ∀ a ∈ l, Spec Tryd.prog g ([.agg (enPoint a)] ++ caps.map .c) (oB (p a))) : Spec Tryd.prog 50 [vL kPoint (l.map enPoint), .c (.fn g caps)] (oI (idxOf p l)) := by
  refine Spec.walk T.mixed Tryd.func50 S.ok50 (by simp [Tryd.f50]) fun hk => ?_
  have hlen := (K.c hk 0 rfl).lenM
  unfold S.s50
  repeat' (first | refine R.mv rfl ?_ | refine R.reg ?_ | refine R.nil ?_ | refine R.seq ?_ | refine R.nseq ?_ | refine R.nblk ?_ | refine R.skip ?_ | refine R.blk ?_ | refine R.exit rfl ?_ | refine R.ldEp rfl rfl (by assumption) rfl rfl ?_ | refine R.ldaEp rfl rfl (by assumption) (Nat.le_of_ble_eq_true rfl) rfl rfl ?_ | refine R.ld rfl rfl rfl ?_ | refine R.lda rfl rfl (Nat.le_of_ble_eq_true rfl) rfl ?_ | refine R.lenM rfl ?_ | refine R.lenO rfl rfl ?_ | refine R.len rfl rfl ?_ | refine R.lss rfl rfl ?_ | refine R.add rfl rfl (by omega) ?_ | refine R.ixN rfl rfl rfl (by omega) (fun a ha => ?_) | refine R.ixM rfl rfl rfl (by omega) (fun a ha => ?_) | refine R.ixON rfl rfl rfl (by first | omega | (simp; omega)) (fun a' ha' => ?_) | refine R.ixO rfl rfl rfl (by first | omega | (simp; omega)) (fun a' ha' => ?_) | refine R.condT rfl ?_ | refine R.condF rfl ?_ | refine R.cond rfl (fun hc => ?_) (fun hc => ?_) | refine R.condN rfl (fun hc => ?_) (fun hc => ?_) | refine R.condB rfl (fun hc => ?_) (fun hc => ?_))
  refine R.loop (G := Nat) (fun i => [(0, rdA kPoint (l.map enPoint)), (1, .v (.c (.d (.fn g caps)))), (7, pvA (.int .i64 l.length)), (8, pvA (.int .i64 i))]) (fun _ => []) (fun i => i ≤ l.length ∧ ∀ b ∈ l.take i, p b = false) (fun i => l.length - i) 0 ⟨by omega, by simp⟩ (Weak.frame _ _ ⟨rfl, rfl, rfl, rfl, trivial⟩ trivial rfl rfl) fun i hi => ?_
  repeat' (first | refine R.mv rfl ?_ | refine R.reg ?_ | refine R.nil ?_ | refine R.seq ?_ | refine R.nseq ?_ | refine R.nblk ?_ | refine R.skip ?_ | refine R.blk ?_ | refine R.exit rfl ?_ | refine R.ldEp rfl rfl (by assumption) rfl rfl ?_ | refine R.ldaEp rfl rfl (by assumption) (Nat.le_of_ble_eq_true rfl) rfl rfl ?_ | refine R.ld rfl rfl rfl ?_ | refine R.lda rfl rfl (Nat.le_of_ble_eq_true rfl) rfl ?_ | refine R.lenM rfl ?_ | refine R.lenO rfl rfl ?_ | refine R.len rfl rfl ?_ | refine R.lss rfl rfl ?_ | refine R.add rfl rfl (by omega) ?_ | refine R.ixN rfl rfl rfl (by omega) (fun a ha => ?_) | refine R.ixM rfl rfl rfl (by omega) (fun a ha => ?_) | refine R.ixON rfl rfl rfl (by first | omega | (simp; omega)) (fun a' ha' => ?_) | refine R.ixO rfl rfl rfl (by first | omega | (simp; omega)) (fun a' ha' => ?_) | refine R.condT rfl ?_ | refine R.condF rfl ?_ | refine R.cond rfl (fun hc => ?_) (fun hc => ?_) | refine R.condN rfl (fun hc => ?_) (fun hc => ?_) | refine R.condB rfl (fun hc => ?_) (fun hc => ?_))
  · refine R.call (bor := false) rfl rfl (h a (List.mem_of_getElem? ha)) (by simp [VD.v1]) rfl rfl ?_
    repeat' (first | refine R.mv rfl ?_ | refine R.reg ?_ | refine R.nil ?_ | refine R.seq ?_ | refine R.nseq ?_ | refine R.nblk ?_ | refine R.skip ?_ | refine R.blk ?_ | refine R.exit rfl ?_ | refine R.ldEp rfl rfl (by assumption) rfl rfl ?_ | refine R.ldaEp rfl rfl (by assumption) (Nat.le_of_ble_eq_true rfl) rfl rfl ?_ | refine R.ld rfl rfl rfl ?_ | refine R.lda rfl rfl (Nat.le_of_ble_eq_true rfl) rfl ?_ | refine R.lenM rfl ?_ | refine R.lenO rfl rfl ?_ | refine R.len rfl rfl ?_ | refine R.lss rfl rfl ?_ | refine R.add rfl rfl (by omega) ?_ | refine R.ixN rfl rfl rfl (by omega) (fun a ha => ?_) | refine R.ixM rfl rfl rfl (by omega) (fun a ha => ?_) | refine R.ixON rfl rfl rfl (by first | omega | (simp; omega)) (fun a' ha' => ?_) | refine R.ixO rfl rfl rfl (by first | omega | (simp; omega)) (fun a' ha' => ?_) | refine R.condT rfl ?_ | refine R.condF rfl ?_ | refine R.cond rfl (fun hc => ?_) (fun hc => ?_) | refine R.condN rfl (fun hc => ?_) (fun hc => ?_) | refine R.condB rfl (fun hc => ?_) (fun hc => ?_))
    · refine R.ret ⟨.inr rfl, R.outI rfl rfl ?_⟩
      exact (idxOf_some hi.2 ha (by assumption)).symm
    · refine R.nloop (R.again (i + 1) ⟨by omega, ?_⟩ (by omega) ⟨rfl, rfl, rfl, rfl, trivial⟩ trivial rfl rfl)
      rw [take_snoc ha]
      intro b hb
      rcases List.mem_append.1 hb with hb | hb
      · exact hi.2 b hb
      · simp at hb; subst hb; assumption
  · refine R.ret ⟨.inr rfl, R.outI rfl rfl ?_⟩
    have : i = l.length := by omega
    subst this
    exact (idxOf_none (by simpa using hi.2)).symm
theorem lib_anyPoint {l : List TPoint} {g : FuncId} {caps : List D} {p : TPoint → Bool} (h : ∀ a ∈ l, Spec Tryd.prog g ([.agg (enPoint a)] ++ caps.map .c) (oB (p a))) : Spec Tryd.prog 31 [vL kPoint (l.map enPoint), .c (.fn g caps)] (oB (l.any p)) := by
  refine Spec.walk T.mixed Tryd.func31 S.ok31 (by simp [Tryd.f31]) fun hk => ?_
  unfold S.s31
  repeat' (first | refine R.mv rfl ?_ | refine R.reg ?_ | refine R.nil ?_ | refine R.seq ?_ | refine R.nseq ?_ | refine R.nblk ?_ | refine R.skip ?_ | refine R.blk ?_ | refine R.exit rfl ?_ | refine R.geq rfl rfl ?_ | refine R.condT rfl ?_ | refine R.condF rfl ?_ | refine R.cond rfl (fun hc => ?_) (fun hc => ?_) | refine R.condN rfl (fun hc => ?_) (fun hc => ?_) | refine R.condB rfl (fun hc => ?_) (fun hc => ?_))
  refine R.call (bor := false) rfl rfl (lib_indexPoint h) rfl rfl rfl ?_
  repeat' (first | refine R.mv rfl ?_ | refine R.reg ?_ | refine R.nil ?_ | refine R.seq ?_ | refine R.nseq ?_ | refine R.nblk ?_ | refine R.skip ?_ | refine R.blk ?_ | refine R.exit rfl ?_ | refine R.geq rfl rfl ?_ | refine R.condT rfl ?_ | refine R.condF rfl ?_ | refine R.cond rfl (fun hc => ?_) (fun hc => ?_) | refine R.condN rfl (fun hc => ?_) (fun hc => ?_) | refine R.condB rfl (fun hc => ?_) (fun hc => ?_))
  exact R.ret ⟨.inr rfl, R.outB rfl rfl idxOf_any⟩
def okP (p : TPoint) : Prop := (-60 ≤ p.fX ∧ p.fX ≤ 60) ∧ (-60 ≤ p.fY ∧ p.fY ≤ 60)
instance (p : TPoint) : Decidable (okP p) := by unfold okP; exact inferInstance
theorem iValidPoint (p : TPoint) : Spec Tryd.prog 34 [.agg (enPoint p)] (oB (decide (okP p))) := by
  refine Spec.walk T.mixed Tryd.func34 S.ok34 (by simp [Tryd.f34]) fun hk => ?_
  unfold S.s34
  repeat' (first | refine R.mv rfl ?_ | refine R.reg ?_ | refine R.nil ?_ | refine R.seq ?_ | refine R.nseq ?_ | refine R.nblk ?_ | refine R.skip ?_ | refine R.blk ?_ | refine R.exit rfl ?_ | refine R.gRun rfl ?_ | refine R.gSkip rfl ?_ | refine R.gSkip0 rfl ?_ | refine R.gUndef rfl ?_ | refine R.gUndef0 rfl ?_ | refine R.ldEp rfl rfl (by assumption) rfl rfl ?_ | refine R.ldaEp rfl rfl (by assumption) (Nat.le_of_ble_eq_true rfl) rfl rfl ?_ | refine R.ld rfl rfl rfl ?_ | refine R.lda rfl rfl (Nat.le_of_ble_eq_true rfl) rfl ?_ | refine R.fa rfl rfl ?_ | refine R.pickT rfl rfl ?_ | refine R.pickF rfl rfl ?_ | refine R.box rfl rfl rfl ?_ | refine R.condT rfl ?_ | refine R.condF rfl ?_ | refine R.call (bor := false) rfl rfl (iWithin _ _ _) rfl rfl rfl ?_ | refine R.call (bor := true) rfl rfl (iWithin _ _ _) rfl rfl rfl ?_ | refine R.fcal (bor := false) rfl rfl (iWithin _ _ _) rfl rfl rfl ?_ | refine R.fcal (bor := true) rfl rfl (iWithin _ _ _) rfl rfl rfl ?_ | refine R.cond rfl (fun hc => ?_) (fun hc => ?_) | refine R.condN rfl (fun hc => ?_) (fun hc => ?_) | refine R.condB rfl (fun hc => ?_) (fun hc => ?_) | refine R.gP rfl (fun hc => ?_) (fun hc => ?_) | refine R.gN rfl (fun hc => ?_) (fun hc => ?_) | refine R.gB rfl (fun hc => ?_) (fun hc => ?_))
  all_goals refine R.ret ⟨.inr rfl, R.outB rfl rfl ?_⟩
  all_goals (rw [Bool.eq_iff_iff]; simp only [decide_eq_true_eq]; simp only [okP, Bool.false_eq_true, false_iff]; omega)
theorem sValidPoint (p : TPoint) : Spec Tryd.prog 47 [.agg (enPoint p)] (oB (decide (okP p))) := by
  refine Spec.walk T.mixed Tryd.func47 S.ok47 (by simp [Tryd.f47]) fun hk => ?_
  unfold S.s47
  repeat' (first | refine R.mv rfl ?_ | refine R.reg ?_ | refine R.nil ?_ | refine R.seq ?_ | refine R.nseq ?_ | refine R.nblk ?_ | refine R.skip ?_ | refine R.blk ?_ | refine R.exit rfl ?_ | refine R.gRun rfl ?_ | refine R.gSkip rfl ?_ | refine R.gSkip0 rfl ?_ | refine R.gUndef rfl ?_ | refine R.gUndef0 rfl ?_ | refine R.ldEp rfl rfl (by assumption) rfl rfl ?_ | refine R.ldaEp rfl rfl (by assumption) (Nat.le_of_ble_eq_true rfl) rfl rfl ?_ | refine R.ld rfl rfl rfl ?_ | refine R.lda rfl rfl (Nat.le_of_ble_eq_true rfl) rfl ?_ | refine R.fa rfl rfl ?_ | refine R.pickT rfl rfl ?_ | refine R.pickF rfl rfl ?_ | refine R.box rfl rfl rfl ?_ | refine R.condT rfl ?_ | refine R.condF rfl ?_ | refine R.call (bor := false) rfl rfl (sIn _ _ _) rfl rfl rfl ?_ | refine R.call (bor := true) rfl rfl (sIn _ _ _) rfl rfl rfl ?_ | refine R.fcal (bor := false) rfl rfl (sIn _ _ _) rfl rfl rfl ?_ | refine R.fcal (bor := true) rfl rfl (sIn _ _ _) rfl rfl rfl ?_ | refine R.cond rfl (fun hc => ?_) (fun hc => ?_) | refine R.condN rfl (fun hc => ?_) (fun hc => ?_) | refine R.condB rfl (fun hc => ?_) (fun hc => ?_) | refine R.gP rfl (fun hc => ?_) (fun hc => ?_) | refine R.gN rfl (fun hc => ?_) (fun hc => ?_) | refine R.gB rfl (fun hc => ?_) (fun hc => ?_))
  all_goals refine R.ret ⟨.inr rfl, R.outB rfl rfl ?_⟩
  all_goals (rw [Bool.eq_iff_iff]; simp only [decide_eq_true_eq]; simp only [okP, Bool.false_eq_true, false_iff]; omega)
theorem sPointT {p : TPoint} (h : okP p) : Spec Tryd.prog 47 [.agg (enPoint p)] (oB true) := by have := sValidPoint p; rwa [decide_eq_true h] at this
theorem sPointF {p : TPoint} (h : ¬ okP p) : Spec Tryd.prog 47 [.agg (enPoint p)] (oB false) := by have := sValidPoint p; rwa [decide_eq_false h] at this
/-- The text of a valid point. -/
def ptL (p : TPoint) : List UInt8 := decL p.fX ++ [44] ++ decL p.fY
theorem okP_64 {p : TPoint} (h : okP p) : (-9223372036854775808 ≤ p.fX ∧ p.fX ≤ 9223372036854775807) ∧ (-9223372036854775808 ≤ p.fY ∧ p.fY ≤ 9223372036854775807) := by
  obtain ⟨h1, h2⟩ := h
  exact ⟨⟨by omega, by omega⟩, ⟨by omega, by omega⟩⟩
theorem ptL_len {p : TPoint} (h : okP p) : (ptL p).length ≤ 41 := by
  have h1 := decL_len (okP_64 h).1
  have h2 := decL_len (okP_64 h).2
  unfold ptL
  simp only [List.length_append, List.length_cons, List.length_nil]
  omega
theorem sPointText {p : TPoint} (h : okP p) : Spec Tryd.prog 48 [.agg (enPoint p)] (oS (bA (ptL p))) := by
  have h1 := decL_len (okP_64 h).1
  have h2 := decL_len (okP_64 h).2
  refine Spec.walk T.mixed Tryd.func48 S.ok48 (by simp [Tryd.f48]) fun hk => ?_
  clear hk
  unfold S.s48
  repeat' (first | refine R.mv rfl ?_ | refine R.reg ?_ | refine R.nil ?_ | refine R.seq ?_ | refine R.nseq ?_ | refine R.nblk ?_ | refine R.skip ?_ | refine R.blk ?_ | refine R.exit rfl ?_ | refine R.ldEp rfl rfl (by assumption) rfl rfl ?_ | refine R.ldaEp rfl rfl (by assumption) (Nat.le_of_ble_eq_true rfl) rfl rfl ?_ | refine R.ld rfl rfl rfl ?_ | refine R.lda rfl rfl (Nat.le_of_ble_eq_true rfl) rfl ?_ | refine R.fa rfl rfl ?_ | refine R.add rfl rfl (by omega) ?_ | refine R.not rfl ?_ | refine R.box rfl rfl rfl ?_ | refine R.condT rfl ?_ | refine R.condF rfl ?_ | refine R.call (bor := false) rfl rfl (sPointT h) rfl rfl rfl ?_ | refine R.call (bor := true) rfl rfl (sPointT h) rfl rfl rfl ?_ | refine R.fcal (bor := false) rfl rfl (sPointT h) rfl rfl rfl ?_ | refine R.fcal (bor := true) rfl rfl (sPointT h) rfl rfl rfl ?_ | refine R.call (bor := false) rfl rfl (sDec _ (okP_64 h).1) rfl rfl rfl ?_ | refine R.call (bor := true) rfl rfl (sDec _ (okP_64 h).1) rfl rfl rfl ?_ | refine R.fcal (bor := false) rfl rfl (sDec _ (okP_64 h).1) rfl rfl rfl ?_ | refine R.fcal (bor := true) rfl rfl (sDec _ (okP_64 h).1) rfl rfl rfl ?_ | refine R.call (bor := false) rfl rfl (sDec _ (okP_64 h).2) rfl rfl rfl ?_ | refine R.call (bor := true) rfl rfl (sDec _ (okP_64 h).2) rfl rfl rfl ?_ | refine R.fcal (bor := false) rfl rfl (sDec _ (okP_64 h).2) rfl rfl rfl ?_ | refine R.fcal (bor := true) rfl rfl (sDec _ (okP_64 h).2) rfl rfl rfl ?_ | refine R.sadd (t := [44]) rfl rfl (by simp only [List.length_cons, List.length_nil]; omega) ?_ | refine R.sadd rfl rfl (by simp only [List.length_append, List.length_cons, List.length_nil]; omega) ?_ | refine R.cond rfl (fun hc => ?_) (fun hc => ?_) | refine R.condN rfl (fun hc => ?_) (fun hc => ?_) | refine R.condB rfl (fun hc => ?_) (fun hc => ?_))
  all_goals first
    | (exfalso; omega)
    | exact R.ret ⟨.inr rfl, R.outS rfl rfl rfl⟩
    | skip
theorem iPointText {p : TPoint} (h : okP p) : Spec Tryd.prog 36 [.agg (enPoint p)] (oS (bA (ptL p))) := by
  have h1 := decL_len (okP_64 h).1
  have h2 := decL_len (okP_64 h).2
  have hV : Spec Tryd.prog 34 [.agg (enPoint p)] (oB true) := by have := iValidPoint p; rwa [decide_eq_true h] at this
  refine Spec.walk T.mixed Tryd.func36 S.ok36 (by simp [Tryd.f36]) fun hk => ?_
  clear hk
  unfold S.s36
  repeat' (first | refine R.mv rfl ?_ | refine R.reg ?_ | refine R.nil ?_ | refine R.seq ?_ | refine R.nseq ?_ | refine R.nblk ?_ | refine R.skip ?_ | refine R.blk ?_ | refine R.exit rfl ?_ | refine R.ldEp rfl rfl (by assumption) rfl rfl ?_ | refine R.ldaEp rfl rfl (by assumption) (Nat.le_of_ble_eq_true rfl) rfl rfl ?_ | refine R.ld rfl rfl rfl ?_ | refine R.lda rfl rfl (Nat.le_of_ble_eq_true rfl) rfl ?_ | refine R.fa rfl rfl ?_ | refine R.add rfl rfl (by omega) ?_ | refine R.not rfl ?_ | refine R.box rfl rfl rfl ?_ | refine R.condT rfl ?_ | refine R.condF rfl ?_ | refine R.call (bor := false) rfl rfl (hV) rfl rfl rfl ?_ | refine R.call (bor := true) rfl rfl (hV) rfl rfl rfl ?_ | refine R.fcal (bor := false) rfl rfl (hV) rfl rfl rfl ?_ | refine R.fcal (bor := true) rfl rfl (hV) rfl rfl rfl ?_ | refine R.call (bor := false) rfl rfl (iDec _ (okP_64 h).1) rfl rfl rfl ?_ | refine R.call (bor := true) rfl rfl (iDec _ (okP_64 h).1) rfl rfl rfl ?_ | refine R.fcal (bor := false) rfl rfl (iDec _ (okP_64 h).1) rfl rfl rfl ?_ | refine R.fcal (bor := true) rfl rfl (iDec _ (okP_64 h).1) rfl rfl rfl ?_ | refine R.call (bor := false) rfl rfl (iDec _ (okP_64 h).2) rfl rfl rfl ?_ | refine R.call (bor := true) rfl rfl (iDec _ (okP_64 h).2) rfl rfl rfl ?_ | refine R.fcal (bor := false) rfl rfl (iDec _ (okP_64 h).2) rfl rfl rfl ?_ | refine R.fcal (bor := true) rfl rfl (iDec _ (okP_64 h).2) rfl rfl rfl ?_ | refine R.sadd (t := [44]) rfl rfl (by simp only [List.length_cons, List.length_nil]; omega) ?_ | refine R.sadd rfl rfl (by simp only [List.length_append, List.length_cons, List.length_nil]; omega) ?_ | refine R.cond rfl (fun hc => ?_) (fun hc => ?_) | refine R.condN rfl (fun hc => ?_) (fun hc => ?_) | refine R.condB rfl (fun hc => ?_) (fun hc => ?_))
  all_goals first
    | (exfalso; omega)
    | exact R.ret ⟨.inr rfl, R.outS rfl rfl rfl⟩
    | skip
/-- The texts of points, each behind a blank. -/
def ptsL (l : List TPoint) : List UInt8 := (l.map fun p => 32 :: ptL p).flatten
def allP (l : List TPoint) : Prop := ∀ p ∈ l, okP p
theorem ptsL_snoc {l : List TPoint} {i : Nat} {p : TPoint} (h : l[i]? = some p) : ptsL (l.take (i + 1)) = ptsL (l.take i) ++ (32 :: ptL p) := by
  unfold ptsL
  rw [List.take_add_one, h]
  simp
theorem ptsL_len {l : List TPoint} : (∀ p ∈ l, okP p) → (ptsL l).length ≤ 42 * l.length := by
  induction l with
  | nil => intro _; simp [ptsL]
  | cons p l ih =>
    intro h
    have h1 := ptL_len (h p (by simp))
    have h2 := ih fun q hq => h q (by simp [hq])
    unfold ptsL at h2 ⊢
    simp only [List.map_cons, List.flatten_cons, List.length_append, List.length_cons]
    omega
open Classical in
noncomputable def fTx (l : List TPoint) : List UInt8 := if allP l then ptsL l else []
theorem sTexts (l : List TPoint) (hl : l.length ≤ 1048576) : Spec Tryd.prog 29 [vL kPoint (l.map enPoint)] (.tup [.c (.fz (sD (bA (fTx l)))), .c (.fz (bD (bP (allP l))))]) := by
  refine Spec.walk T.mixed Tryd.func29 S.ok29 (by simp [Tryd.f29]) fun hk => ?_
  clear hk
  unfold S.s29
  repeat' (first | refine R.mv rfl ?_ | refine R.reg ?_ | refine R.nil ?_ | refine R.seq ?_ | refine R.nseq ?_ | refine R.nblk ?_ | refine R.skip ?_ | refine R.blk ?_ | refine R.exit rfl ?_ | refine R.ldEp rfl rfl (by assumption) rfl rfl ?_ | refine R.ldaEp rfl rfl (by assumption) (Nat.le_of_ble_eq_true rfl) rfl rfl ?_ | refine R.ld rfl rfl rfl ?_ | refine R.lda rfl rfl (Nat.le_of_ble_eq_true rfl) rfl ?_ | refine R.lenM rfl ?_ | refine R.lenO rfl rfl ?_ | refine R.len rfl rfl ?_ | refine R.lss rfl rfl ?_ | refine R.add rfl rfl (by omega) ?_ | refine R.ixN rfl rfl rfl (by omega) (fun a ha => ?_) | refine R.ixM rfl rfl rfl (by omega) (fun a ha => ?_) | refine R.ixON rfl rfl rfl (by first | omega | (simp; omega)) (fun a' ha' => ?_) | refine R.ixO rfl rfl rfl (by first | omega | (simp; omega)) (fun a' ha' => ?_) | refine R.not rfl ?_ | refine R.condT rfl ?_ | refine R.condF rfl ?_ | refine R.cond rfl (fun hc => ?_) (fun hc => ?_) | refine R.condN rfl (fun hc => ?_) (fun hc => ?_) | refine R.condB rfl (fun hc => ?_) (fun hc => ?_))
  refine R.loop (G := Nat) (fun i => [(0, rdA kPoint (l.map enPoint)), (4, pvA (.string (bA (ptsL (l.take i))))), (5, pvA (.int .i64 i))]) (fun _ => []) (fun i => i ≤ l.length ∧ ∀ p ∈ l.take i, okP p) (fun i => l.length - i) 0 ⟨Nat.zero_le _, by simp⟩ (Weak.frame _ _ ⟨rfl, rfl, rfl, trivial⟩ trivial rfl rfl) fun i hi => ?_
  obtain ⟨hi, hal⟩ := hi
  have hln := ptsL_len hal
  have hll : (l.take i).length ≤ 1048576 := by rw [List.length_take]; omega
  by_cases hil : i < l.length
  case neg =>
    obtain rfl : i = l.length := by omega
    rw [List.take_length] at hal
    rw [show fTx l = ptsL l from if_pos hal, show bP (allP l) = true from bP_iff.2 hal, List.take_length]
    repeat' (first | refine R.mv rfl ?_ | refine R.reg ?_ | refine R.nil ?_ | refine R.seq ?_ | refine R.nseq ?_ | refine R.nblk ?_ | refine R.skip ?_ | refine R.blk ?_ | refine R.exit rfl ?_ | refine R.ldEp rfl rfl (by assumption) rfl rfl ?_ | refine R.ldaEp rfl rfl (by assumption) (Nat.le_of_ble_eq_true rfl) rfl rfl ?_ | refine R.ld rfl rfl rfl ?_ | refine R.lda rfl rfl (Nat.le_of_ble_eq_true rfl) rfl ?_ | refine R.lenM rfl ?_ | refine R.lenO rfl rfl ?_ | refine R.len rfl rfl ?_ | refine R.lss rfl rfl ?_ | refine R.add rfl rfl (by omega) ?_ | refine R.ixN rfl rfl rfl (by omega) (fun a ha => ?_) | refine R.ixM rfl rfl rfl (by omega) (fun a ha => ?_) | refine R.ixON rfl rfl rfl (by first | omega | (simp; omega)) (fun a' ha' => ?_) | refine R.ixO rfl rfl rfl (by first | omega | (simp; omega)) (fun a' ha' => ?_) | refine R.not rfl ?_ | refine R.condT rfl ?_ | refine R.condF rfl ?_ | refine R.cond rfl (fun hc => ?_) (fun hc => ?_) | refine R.condN rfl (fun hc => ?_) (fun hc => ?_) | refine R.condB rfl (fun hc => ?_) (fun hc => ?_))
    all_goals first | (exfalso; omega) | skip
    exact R.ret ⟨.inr rfl, R.outP2 rfl rfl rfl rfl rfl⟩
  obtain ⟨p, hp⟩ : ∃ p, l[i]? = some p := ⟨_, List.getElem?_eq_getElem hil⟩
  by_cases hv : okP p
  · have hpl := ptL_len hv
    repeat' (first | refine R.ixK p hp rfl rfl rfl ?_ | refine R.mv rfl ?_ | refine R.reg ?_ | refine R.nil ?_ | refine R.seq ?_ | refine R.nseq ?_ | refine R.nblk ?_ | refine R.skip ?_ | refine R.blk ?_ | refine R.exit rfl ?_ | refine R.ldEp rfl rfl (by assumption) rfl rfl ?_ | refine R.ldaEp rfl rfl (by assumption) (Nat.le_of_ble_eq_true rfl) rfl rfl ?_ | refine R.ld rfl rfl rfl ?_ | refine R.lda rfl rfl (Nat.le_of_ble_eq_true rfl) rfl ?_ | refine R.lenM rfl ?_ | refine R.lenO rfl rfl ?_ | refine R.len rfl rfl ?_ | refine R.lss rfl rfl ?_ | refine R.add rfl rfl (by omega) ?_ | refine R.ixN rfl rfl rfl (by omega) (fun a ha => ?_) | refine R.ixM rfl rfl rfl (by omega) (fun a ha => ?_) | refine R.ixON rfl rfl rfl (by first | omega | (simp; omega)) (fun a' ha' => ?_) | refine R.ixO rfl rfl rfl (by first | omega | (simp; omega)) (fun a' ha' => ?_) | refine R.not rfl ?_ | refine R.condT rfl ?_ | refine R.condF rfl ?_ | refine R.call (bor := false) rfl rfl (sPointT hv) rfl rfl rfl ?_ | refine R.call (bor := true) rfl rfl (sPointT hv) rfl rfl rfl ?_ | refine R.fcal (bor := false) rfl rfl (sPointT hv) rfl rfl rfl ?_ | refine R.fcal (bor := true) rfl rfl (sPointT hv) rfl rfl rfl ?_ | refine R.call (bor := false) rfl rfl (sPointText hv) rfl rfl rfl ?_ | refine R.call (bor := true) rfl rfl (sPointText hv) rfl rfl rfl ?_ | refine R.fcal (bor := false) rfl rfl (sPointText hv) rfl rfl rfl ?_ | refine R.fcal (bor := true) rfl rfl (sPointText hv) rfl rfl rfl ?_ | refine R.sadd (s := [32]) rfl rfl (by simp only [List.length_cons, List.length_nil]; omega) ?_ | refine R.sadd rfl rfl (by simp only [List.length_append, List.length_cons, List.length_nil]; omega) ?_ | refine R.cond rfl (fun hc => ?_) (fun hc => ?_) | refine R.condN rfl (fun hc => ?_) (fun hc => ?_) | refine R.condB rfl (fun hc => ?_) (fun hc => ?_))
    all_goals first
      | (exfalso; omega)
      | exact R.nloop (R.again (i + 1) ⟨by omega, fun q hq => by
          rw [take_snoc hp] at hq
          rcases List.mem_append.1 hq with hq | hq
          · exact hal q hq
          · rw [List.mem_singleton.1 hq]; exact hv⟩ (by omega) ⟨rfl, congrArg (fun z => pvA (.string (bA z))) (ptsL_snoc hp).symm, rfl, trivial⟩ trivial rfl rfl)
      | skip
  · have hna : ¬ allP l := fun h => hv (h p (List.mem_of_getElem? hp))
    rw [show fTx l = [] from if_neg hna, show bP (allP l) = false from bP_not.2 hna]
    repeat' (first | refine R.ixK p hp rfl rfl rfl ?_ | refine R.mv rfl ?_ | refine R.reg ?_ | refine R.nil ?_ | refine R.seq ?_ | refine R.nseq ?_ | refine R.nblk ?_ | refine R.skip ?_ | refine R.blk ?_ | refine R.exit rfl ?_ | refine R.ldEp rfl rfl (by assumption) rfl rfl ?_ | refine R.ldaEp rfl rfl (by assumption) (Nat.le_of_ble_eq_true rfl) rfl rfl ?_ | refine R.ld rfl rfl rfl ?_ | refine R.lda rfl rfl (Nat.le_of_ble_eq_true rfl) rfl ?_ | refine R.lenM rfl ?_ | refine R.lenO rfl rfl ?_ | refine R.len rfl rfl ?_ | refine R.lss rfl rfl ?_ | refine R.add rfl rfl (by omega) ?_ | refine R.ixN rfl rfl rfl (by omega) (fun a ha => ?_) | refine R.ixM rfl rfl rfl (by omega) (fun a ha => ?_) | refine R.ixON rfl rfl rfl (by first | omega | (simp; omega)) (fun a' ha' => ?_) | refine R.ixO rfl rfl rfl (by first | omega | (simp; omega)) (fun a' ha' => ?_) | refine R.not rfl ?_ | refine R.condT rfl ?_ | refine R.condF rfl ?_ | refine R.call (bor := false) rfl rfl (sPointF hv) rfl rfl rfl ?_ | refine R.call (bor := true) rfl rfl (sPointF hv) rfl rfl rfl ?_ | refine R.fcal (bor := false) rfl rfl (sPointF hv) rfl rfl rfl ?_ | refine R.fcal (bor := true) rfl rfl (sPointF hv) rfl rfl rfl ?_ | refine R.cond rfl (fun hc => ?_) (fun hc => ?_) | refine R.condN rfl (fun hc => ?_) (fun hc => ?_) | refine R.condB rfl (fun hc => ?_) (fun hc => ?_))
    all_goals first | (exfalso; omega) | skip
    exact R.ret ⟨.inr rfl, R.outP2 rfl rfl rfl rfl rfl⟩
theorem sTextsT {l : List TPoint} (h : allP l) (hl : l.length ≤ 1048576) : Spec Tryd.prog 29 [vL kPoint (l.map enPoint)] (.tup [.c (.fz (sD (bA (ptsL l)))), .c (.fz (bD true))]) := by
  have := sTexts l hl
  rwa [show fTx l = ptsL l from if_pos h, show bP (allP l) = true from bP_iff.2 h] at this
theorem sTextsF {l : List TPoint} (h : ¬ allP l) (hl : l.length ≤ 1048576) : Spec Tryd.prog 29 [vL kPoint (l.map enPoint)] (.tup [.c (.fz (sD (bA []))), .c (.fz (bD false))]) := by
  have := sTexts l hl
  rwa [show fTx l = [] from if_neg h, show bP (allP l) = false from bP_not.2 h] at this
def wMiss : List UInt8 := [109, 105, 115, 115, 105, 110, 103]
def wWrong : List UInt8 := [32, 119, 114, 111, 110, 103]
def wLoose : List UInt8 := [32, 108, 111, 111, 115, 101]
open Classical in
noncomputable def fDm (d : TDamage) : List UInt8 := if allP d.fMissing ∧ allP d.fWrong ∧ allP d.fLoose then wMiss ++ ptsL d.fMissing ++ wWrong ++ ptsL d.fWrong ++ wLoose ++ ptsL d.fLoose else []
theorem sDamageText (d : TDamage) (hb : bdDamage d) : Spec Tryd.prog 12 [.agg (enDamage d)] (oS (bA (fDm d))) := by
  obtain ⟨b1, b2, b3⟩ := hb
  have b1 : d.fMissing.length ≤ 1048576 := b1
  have b2 : d.fWrong.length ≤ 1048576 := b2
  have b3 : d.fLoose.length ≤ 1048576 := b3
  refine Spec.walk T.mixed Tryd.func12 S.ok12 (by simp [Tryd.f12]) fun hk => ?_
  clear hk
  unfold S.s12
  by_cases h : allP d.fMissing ∧ allP d.fWrong ∧ allP d.fLoose
  · rw [show fDm d = wMiss ++ ptsL d.fMissing ++ wWrong ++ ptsL d.fWrong ++ wLoose ++ ptsL d.fLoose from if_pos h]
    obtain ⟨h1, h2, h3⟩ := h
    have l1 := ptsL_len h1
    have l2 := ptsL_len h2
    have l3 := ptsL_len h3
    repeat' (first | refine R.mv rfl ?_ | refine R.reg ?_ | refine R.nil ?_ | refine R.seq ?_ | refine R.nseq ?_ | refine R.nblk ?_ | refine R.skip ?_ | refine R.blk ?_ | refine R.exit rfl ?_ | refine R.gRun rfl ?_ | refine R.gSkip rfl ?_ | refine R.gSkip0 rfl ?_ | refine R.gUndef rfl ?_ | refine R.gUndef0 rfl ?_ | refine R.ldEp rfl rfl (by assumption) rfl rfl ?_ | refine R.ldaEp rfl rfl (by assumption) (Nat.le_of_ble_eq_true rfl) rfl rfl ?_ | refine R.ld rfl rfl rfl ?_ | refine R.lda rfl rfl (Nat.le_of_ble_eq_true rfl) rfl ?_ | refine R.fa rfl rfl ?_ | refine R.add rfl rfl (by omega) ?_ | refine R.pickT rfl rfl ?_ | refine R.pickF rfl rfl ?_ | refine R.not rfl ?_ | refine R.mvU rfl ?_ | refine R.ext rfl rfl ?_ | refine R.box rfl rfl rfl ?_ | refine R.condT rfl ?_ | refine R.condF rfl ?_ | refine R.call (bor := false) rfl rfl (sTextsT h1 b1) rfl rfl rfl ?_ | refine R.call (bor := true) rfl rfl (sTextsT h1 b1) rfl rfl rfl ?_ | refine R.fcal (bor := false) rfl rfl (sTextsT h1 b1) rfl rfl rfl ?_ | refine R.fcal (bor := true) rfl rfl (sTextsT h1 b1) rfl rfl rfl ?_ | refine R.call (bor := false) rfl rfl (sTextsT h2 b2) rfl rfl rfl ?_ | refine R.call (bor := true) rfl rfl (sTextsT h2 b2) rfl rfl rfl ?_ | refine R.fcal (bor := false) rfl rfl (sTextsT h2 b2) rfl rfl rfl ?_ | refine R.fcal (bor := true) rfl rfl (sTextsT h2 b2) rfl rfl rfl ?_ | refine R.call (bor := false) rfl rfl (sTextsT h3 b3) rfl rfl rfl ?_ | refine R.call (bor := true) rfl rfl (sTextsT h3 b3) rfl rfl rfl ?_ | refine R.fcal (bor := false) rfl rfl (sTextsT h3 b3) rfl rfl rfl ?_ | refine R.fcal (bor := true) rfl rfl (sTextsT h3 b3) rfl rfl rfl ?_ | refine R.sadd (s := wMiss) rfl rfl (by unfold wMiss; simp only [List.length_cons, List.length_nil]; omega) ?_ | refine R.sadd (t := wWrong) rfl rfl (by unfold wMiss wWrong; simp only [List.length_append, List.length_cons, List.length_nil]; omega) ?_ | refine R.sadd (t := wLoose) rfl rfl (by unfold wMiss wWrong wLoose; simp only [List.length_append, List.length_cons, List.length_nil]; omega) ?_ | refine R.sadd rfl rfl (by unfold wMiss wWrong; simp only [List.length_append, List.length_cons, List.length_nil]; omega) ?_ | refine R.sadd rfl rfl (by unfold wMiss wWrong wLoose; simp only [List.length_append, List.length_cons, List.length_nil]; omega) ?_ | refine R.cond rfl (fun hc => ?_) (fun hc => ?_) | refine R.condN rfl (fun hc => ?_) (fun hc => ?_) | refine R.condB rfl (fun hc => ?_) (fun hc => ?_) | refine R.gP rfl (fun hc => ?_) (fun hc => ?_) | refine R.gN rfl (fun hc => ?_) (fun hc => ?_) | refine R.gB rfl (fun hc => ?_) (fun hc => ?_))
    all_goals first
      | (exfalso; omega)
      | exact R.ret ⟨.inr rfl, R.outS rfl rfl rfl⟩
      | skip
  · rw [show fDm d = [] from if_neg h]
    by_cases h1 : allP d.fMissing
    · by_cases h2 : allP d.fWrong
      · have h3 : ¬ allP d.fLoose := fun h3 => h ⟨h1, h2, h3⟩
        repeat' (first | refine R.mv rfl ?_ | refine R.reg ?_ | refine R.nil ?_ | refine R.seq ?_ | refine R.nseq ?_ | refine R.nblk ?_ | refine R.skip ?_ | refine R.blk ?_ | refine R.exit rfl ?_ | refine R.gRun rfl ?_ | refine R.gSkip rfl ?_ | refine R.gSkip0 rfl ?_ | refine R.gUndef rfl ?_ | refine R.gUndef0 rfl ?_ | refine R.ldEp rfl rfl (by assumption) rfl rfl ?_ | refine R.ldaEp rfl rfl (by assumption) (Nat.le_of_ble_eq_true rfl) rfl rfl ?_ | refine R.ld rfl rfl rfl ?_ | refine R.lda rfl rfl (Nat.le_of_ble_eq_true rfl) rfl ?_ | refine R.fa rfl rfl ?_ | refine R.add rfl rfl (by omega) ?_ | refine R.pickT rfl rfl ?_ | refine R.pickF rfl rfl ?_ | refine R.not rfl ?_ | refine R.mvU rfl ?_ | refine R.ext rfl rfl ?_ | refine R.box rfl rfl rfl ?_ | refine R.condT rfl ?_ | refine R.condF rfl ?_ | refine R.call (bor := false) rfl rfl (sTextsT h1 b1) rfl rfl rfl ?_ | refine R.call (bor := true) rfl rfl (sTextsT h1 b1) rfl rfl rfl ?_ | refine R.fcal (bor := false) rfl rfl (sTextsT h1 b1) rfl rfl rfl ?_ | refine R.fcal (bor := true) rfl rfl (sTextsT h1 b1) rfl rfl rfl ?_ | refine R.call (bor := false) rfl rfl (sTextsT h2 b2) rfl rfl rfl ?_ | refine R.call (bor := true) rfl rfl (sTextsT h2 b2) rfl rfl rfl ?_ | refine R.fcal (bor := false) rfl rfl (sTextsT h2 b2) rfl rfl rfl ?_ | refine R.fcal (bor := true) rfl rfl (sTextsT h2 b2) rfl rfl rfl ?_ | refine R.call (bor := false) rfl rfl (sTextsF h3 b3) rfl rfl rfl ?_ | refine R.call (bor := true) rfl rfl (sTextsF h3 b3) rfl rfl rfl ?_ | refine R.fcal (bor := false) rfl rfl (sTextsF h3 b3) rfl rfl rfl ?_ | refine R.fcal (bor := true) rfl rfl (sTextsF h3 b3) rfl rfl rfl ?_ | refine R.cond rfl (fun hc => ?_) (fun hc => ?_) | refine R.condN rfl (fun hc => ?_) (fun hc => ?_) | refine R.condB rfl (fun hc => ?_) (fun hc => ?_) | refine R.gP rfl (fun hc => ?_) (fun hc => ?_) | refine R.gN rfl (fun hc => ?_) (fun hc => ?_) | refine R.gB rfl (fun hc => ?_) (fun hc => ?_))
        all_goals first
          | (exfalso; omega)
          | exact R.ret ⟨.inr rfl, R.outS rfl rfl rfl⟩
          | skip
      · by_cases h3 : allP d.fLoose
        · repeat' (first | refine R.mv rfl ?_ | refine R.reg ?_ | refine R.nil ?_ | refine R.seq ?_ | refine R.nseq ?_ | refine R.nblk ?_ | refine R.skip ?_ | refine R.blk ?_ | refine R.exit rfl ?_ | refine R.gRun rfl ?_ | refine R.gSkip rfl ?_ | refine R.gSkip0 rfl ?_ | refine R.gUndef rfl ?_ | refine R.gUndef0 rfl ?_ | refine R.ldEp rfl rfl (by assumption) rfl rfl ?_ | refine R.ldaEp rfl rfl (by assumption) (Nat.le_of_ble_eq_true rfl) rfl rfl ?_ | refine R.ld rfl rfl rfl ?_ | refine R.lda rfl rfl (Nat.le_of_ble_eq_true rfl) rfl ?_ | refine R.fa rfl rfl ?_ | refine R.add rfl rfl (by omega) ?_ | refine R.pickT rfl rfl ?_ | refine R.pickF rfl rfl ?_ | refine R.not rfl ?_ | refine R.mvU rfl ?_ | refine R.ext rfl rfl ?_ | refine R.box rfl rfl rfl ?_ | refine R.condT rfl ?_ | refine R.condF rfl ?_ | refine R.call (bor := false) rfl rfl (sTextsT h1 b1) rfl rfl rfl ?_ | refine R.call (bor := true) rfl rfl (sTextsT h1 b1) rfl rfl rfl ?_ | refine R.fcal (bor := false) rfl rfl (sTextsT h1 b1) rfl rfl rfl ?_ | refine R.fcal (bor := true) rfl rfl (sTextsT h1 b1) rfl rfl rfl ?_ | refine R.call (bor := false) rfl rfl (sTextsF h2 b2) rfl rfl rfl ?_ | refine R.call (bor := true) rfl rfl (sTextsF h2 b2) rfl rfl rfl ?_ | refine R.fcal (bor := false) rfl rfl (sTextsF h2 b2) rfl rfl rfl ?_ | refine R.fcal (bor := true) rfl rfl (sTextsF h2 b2) rfl rfl rfl ?_ | refine R.call (bor := false) rfl rfl (sTextsT h3 b3) rfl rfl rfl ?_ | refine R.call (bor := true) rfl rfl (sTextsT h3 b3) rfl rfl rfl ?_ | refine R.fcal (bor := false) rfl rfl (sTextsT h3 b3) rfl rfl rfl ?_ | refine R.fcal (bor := true) rfl rfl (sTextsT h3 b3) rfl rfl rfl ?_ | refine R.cond rfl (fun hc => ?_) (fun hc => ?_) | refine R.condN rfl (fun hc => ?_) (fun hc => ?_) | refine R.condB rfl (fun hc => ?_) (fun hc => ?_) | refine R.gP rfl (fun hc => ?_) (fun hc => ?_) | refine R.gN rfl (fun hc => ?_) (fun hc => ?_) | refine R.gB rfl (fun hc => ?_) (fun hc => ?_))
          all_goals first
            | (exfalso; omega)
            | exact R.ret ⟨.inr rfl, R.outS rfl rfl rfl⟩
            | skip
        · repeat' (first | refine R.mv rfl ?_ | refine R.reg ?_ | refine R.nil ?_ | refine R.seq ?_ | refine R.nseq ?_ | refine R.nblk ?_ | refine R.skip ?_ | refine R.blk ?_ | refine R.exit rfl ?_ | refine R.gRun rfl ?_ | refine R.gSkip rfl ?_ | refine R.gSkip0 rfl ?_ | refine R.gUndef rfl ?_ | refine R.gUndef0 rfl ?_ | refine R.ldEp rfl rfl (by assumption) rfl rfl ?_ | refine R.ldaEp rfl rfl (by assumption) (Nat.le_of_ble_eq_true rfl) rfl rfl ?_ | refine R.ld rfl rfl rfl ?_ | refine R.lda rfl rfl (Nat.le_of_ble_eq_true rfl) rfl ?_ | refine R.fa rfl rfl ?_ | refine R.add rfl rfl (by omega) ?_ | refine R.pickT rfl rfl ?_ | refine R.pickF rfl rfl ?_ | refine R.not rfl ?_ | refine R.mvU rfl ?_ | refine R.ext rfl rfl ?_ | refine R.box rfl rfl rfl ?_ | refine R.condT rfl ?_ | refine R.condF rfl ?_ | refine R.call (bor := false) rfl rfl (sTextsT h1 b1) rfl rfl rfl ?_ | refine R.call (bor := true) rfl rfl (sTextsT h1 b1) rfl rfl rfl ?_ | refine R.fcal (bor := false) rfl rfl (sTextsT h1 b1) rfl rfl rfl ?_ | refine R.fcal (bor := true) rfl rfl (sTextsT h1 b1) rfl rfl rfl ?_ | refine R.call (bor := false) rfl rfl (sTextsF h2 b2) rfl rfl rfl ?_ | refine R.call (bor := true) rfl rfl (sTextsF h2 b2) rfl rfl rfl ?_ | refine R.fcal (bor := false) rfl rfl (sTextsF h2 b2) rfl rfl rfl ?_ | refine R.fcal (bor := true) rfl rfl (sTextsF h2 b2) rfl rfl rfl ?_ | refine R.call (bor := false) rfl rfl (sTextsF h3 b3) rfl rfl rfl ?_ | refine R.call (bor := true) rfl rfl (sTextsF h3 b3) rfl rfl rfl ?_ | refine R.fcal (bor := false) rfl rfl (sTextsF h3 b3) rfl rfl rfl ?_ | refine R.fcal (bor := true) rfl rfl (sTextsF h3 b3) rfl rfl rfl ?_ | refine R.cond rfl (fun hc => ?_) (fun hc => ?_) | refine R.condN rfl (fun hc => ?_) (fun hc => ?_) | refine R.condB rfl (fun hc => ?_) (fun hc => ?_) | refine R.gP rfl (fun hc => ?_) (fun hc => ?_) | refine R.gN rfl (fun hc => ?_) (fun hc => ?_) | refine R.gB rfl (fun hc => ?_) (fun hc => ?_))
          all_goals first
            | (exfalso; omega)
            | exact R.ret ⟨.inr rfl, R.outS rfl rfl rfl⟩
            | skip
    · by_cases h2 : allP d.fWrong
      · by_cases h3 : allP d.fLoose
        · repeat' (first | refine R.mv rfl ?_ | refine R.reg ?_ | refine R.nil ?_ | refine R.seq ?_ | refine R.nseq ?_ | refine R.nblk ?_ | refine R.skip ?_ | refine R.blk ?_ | refine R.exit rfl ?_ | refine R.gRun rfl ?_ | refine R.gSkip rfl ?_ | refine R.gSkip0 rfl ?_ | refine R.gUndef rfl ?_ | refine R.gUndef0 rfl ?_ | refine R.ldEp rfl rfl (by assumption) rfl rfl ?_ | refine R.ldaEp rfl rfl (by assumption) (Nat.le_of_ble_eq_true rfl) rfl rfl ?_ | refine R.ld rfl rfl rfl ?_ | refine R.lda rfl rfl (Nat.le_of_ble_eq_true rfl) rfl ?_ | refine R.fa rfl rfl ?_ | refine R.add rfl rfl (by omega) ?_ | refine R.pickT rfl rfl ?_ | refine R.pickF rfl rfl ?_ | refine R.not rfl ?_ | refine R.mvU rfl ?_ | refine R.ext rfl rfl ?_ | refine R.box rfl rfl rfl ?_ | refine R.condT rfl ?_ | refine R.condF rfl ?_ | refine R.call (bor := false) rfl rfl (sTextsF h1 b1) rfl rfl rfl ?_ | refine R.call (bor := true) rfl rfl (sTextsF h1 b1) rfl rfl rfl ?_ | refine R.fcal (bor := false) rfl rfl (sTextsF h1 b1) rfl rfl rfl ?_ | refine R.fcal (bor := true) rfl rfl (sTextsF h1 b1) rfl rfl rfl ?_ | refine R.call (bor := false) rfl rfl (sTextsT h2 b2) rfl rfl rfl ?_ | refine R.call (bor := true) rfl rfl (sTextsT h2 b2) rfl rfl rfl ?_ | refine R.fcal (bor := false) rfl rfl (sTextsT h2 b2) rfl rfl rfl ?_ | refine R.fcal (bor := true) rfl rfl (sTextsT h2 b2) rfl rfl rfl ?_ | refine R.call (bor := false) rfl rfl (sTextsT h3 b3) rfl rfl rfl ?_ | refine R.call (bor := true) rfl rfl (sTextsT h3 b3) rfl rfl rfl ?_ | refine R.fcal (bor := false) rfl rfl (sTextsT h3 b3) rfl rfl rfl ?_ | refine R.fcal (bor := true) rfl rfl (sTextsT h3 b3) rfl rfl rfl ?_ | refine R.cond rfl (fun hc => ?_) (fun hc => ?_) | refine R.condN rfl (fun hc => ?_) (fun hc => ?_) | refine R.condB rfl (fun hc => ?_) (fun hc => ?_) | refine R.gP rfl (fun hc => ?_) (fun hc => ?_) | refine R.gN rfl (fun hc => ?_) (fun hc => ?_) | refine R.gB rfl (fun hc => ?_) (fun hc => ?_))
          all_goals first
            | (exfalso; omega)
            | exact R.ret ⟨.inr rfl, R.outS rfl rfl rfl⟩
            | skip
        · repeat' (first | refine R.mv rfl ?_ | refine R.reg ?_ | refine R.nil ?_ | refine R.seq ?_ | refine R.nseq ?_ | refine R.nblk ?_ | refine R.skip ?_ | refine R.blk ?_ | refine R.exit rfl ?_ | refine R.gRun rfl ?_ | refine R.gSkip rfl ?_ | refine R.gSkip0 rfl ?_ | refine R.gUndef rfl ?_ | refine R.gUndef0 rfl ?_ | refine R.ldEp rfl rfl (by assumption) rfl rfl ?_ | refine R.ldaEp rfl rfl (by assumption) (Nat.le_of_ble_eq_true rfl) rfl rfl ?_ | refine R.ld rfl rfl rfl ?_ | refine R.lda rfl rfl (Nat.le_of_ble_eq_true rfl) rfl ?_ | refine R.fa rfl rfl ?_ | refine R.add rfl rfl (by omega) ?_ | refine R.pickT rfl rfl ?_ | refine R.pickF rfl rfl ?_ | refine R.not rfl ?_ | refine R.mvU rfl ?_ | refine R.ext rfl rfl ?_ | refine R.box rfl rfl rfl ?_ | refine R.condT rfl ?_ | refine R.condF rfl ?_ | refine R.call (bor := false) rfl rfl (sTextsF h1 b1) rfl rfl rfl ?_ | refine R.call (bor := true) rfl rfl (sTextsF h1 b1) rfl rfl rfl ?_ | refine R.fcal (bor := false) rfl rfl (sTextsF h1 b1) rfl rfl rfl ?_ | refine R.fcal (bor := true) rfl rfl (sTextsF h1 b1) rfl rfl rfl ?_ | refine R.call (bor := false) rfl rfl (sTextsT h2 b2) rfl rfl rfl ?_ | refine R.call (bor := true) rfl rfl (sTextsT h2 b2) rfl rfl rfl ?_ | refine R.fcal (bor := false) rfl rfl (sTextsT h2 b2) rfl rfl rfl ?_ | refine R.fcal (bor := true) rfl rfl (sTextsT h2 b2) rfl rfl rfl ?_ | refine R.call (bor := false) rfl rfl (sTextsF h3 b3) rfl rfl rfl ?_ | refine R.call (bor := true) rfl rfl (sTextsF h3 b3) rfl rfl rfl ?_ | refine R.fcal (bor := false) rfl rfl (sTextsF h3 b3) rfl rfl rfl ?_ | refine R.fcal (bor := true) rfl rfl (sTextsF h3 b3) rfl rfl rfl ?_ | refine R.cond rfl (fun hc => ?_) (fun hc => ?_) | refine R.condN rfl (fun hc => ?_) (fun hc => ?_) | refine R.condB rfl (fun hc => ?_) (fun hc => ?_) | refine R.gP rfl (fun hc => ?_) (fun hc => ?_) | refine R.gN rfl (fun hc => ?_) (fun hc => ?_) | refine R.gB rfl (fun hc => ?_) (fun hc => ?_))
          all_goals first
            | (exfalso; omega)
            | exact R.ret ⟨.inr rfl, R.outS rfl rfl rfl⟩
            | skip
      · by_cases h3 : allP d.fLoose
        · repeat' (first | refine R.mv rfl ?_ | refine R.reg ?_ | refine R.nil ?_ | refine R.seq ?_ | refine R.nseq ?_ | refine R.nblk ?_ | refine R.skip ?_ | refine R.blk ?_ | refine R.exit rfl ?_ | refine R.gRun rfl ?_ | refine R.gSkip rfl ?_ | refine R.gSkip0 rfl ?_ | refine R.gUndef rfl ?_ | refine R.gUndef0 rfl ?_ | refine R.ldEp rfl rfl (by assumption) rfl rfl ?_ | refine R.ldaEp rfl rfl (by assumption) (Nat.le_of_ble_eq_true rfl) rfl rfl ?_ | refine R.ld rfl rfl rfl ?_ | refine R.lda rfl rfl (Nat.le_of_ble_eq_true rfl) rfl ?_ | refine R.fa rfl rfl ?_ | refine R.add rfl rfl (by omega) ?_ | refine R.pickT rfl rfl ?_ | refine R.pickF rfl rfl ?_ | refine R.not rfl ?_ | refine R.mvU rfl ?_ | refine R.ext rfl rfl ?_ | refine R.box rfl rfl rfl ?_ | refine R.condT rfl ?_ | refine R.condF rfl ?_ | refine R.call (bor := false) rfl rfl (sTextsF h1 b1) rfl rfl rfl ?_ | refine R.call (bor := true) rfl rfl (sTextsF h1 b1) rfl rfl rfl ?_ | refine R.fcal (bor := false) rfl rfl (sTextsF h1 b1) rfl rfl rfl ?_ | refine R.fcal (bor := true) rfl rfl (sTextsF h1 b1) rfl rfl rfl ?_ | refine R.call (bor := false) rfl rfl (sTextsF h2 b2) rfl rfl rfl ?_ | refine R.call (bor := true) rfl rfl (sTextsF h2 b2) rfl rfl rfl ?_ | refine R.fcal (bor := false) rfl rfl (sTextsF h2 b2) rfl rfl rfl ?_ | refine R.fcal (bor := true) rfl rfl (sTextsF h2 b2) rfl rfl rfl ?_ | refine R.call (bor := false) rfl rfl (sTextsT h3 b3) rfl rfl rfl ?_ | refine R.call (bor := true) rfl rfl (sTextsT h3 b3) rfl rfl rfl ?_ | refine R.fcal (bor := false) rfl rfl (sTextsT h3 b3) rfl rfl rfl ?_ | refine R.fcal (bor := true) rfl rfl (sTextsT h3 b3) rfl rfl rfl ?_ | refine R.cond rfl (fun hc => ?_) (fun hc => ?_) | refine R.condN rfl (fun hc => ?_) (fun hc => ?_) | refine R.condB rfl (fun hc => ?_) (fun hc => ?_) | refine R.gP rfl (fun hc => ?_) (fun hc => ?_) | refine R.gN rfl (fun hc => ?_) (fun hc => ?_) | refine R.gB rfl (fun hc => ?_) (fun hc => ?_))
          all_goals first
            | (exfalso; omega)
            | exact R.ret ⟨.inr rfl, R.outS rfl rfl rfl⟩
            | skip
        · repeat' (first | refine R.mv rfl ?_ | refine R.reg ?_ | refine R.nil ?_ | refine R.seq ?_ | refine R.nseq ?_ | refine R.nblk ?_ | refine R.skip ?_ | refine R.blk ?_ | refine R.exit rfl ?_ | refine R.gRun rfl ?_ | refine R.gSkip rfl ?_ | refine R.gSkip0 rfl ?_ | refine R.gUndef rfl ?_ | refine R.gUndef0 rfl ?_ | refine R.ldEp rfl rfl (by assumption) rfl rfl ?_ | refine R.ldaEp rfl rfl (by assumption) (Nat.le_of_ble_eq_true rfl) rfl rfl ?_ | refine R.ld rfl rfl rfl ?_ | refine R.lda rfl rfl (Nat.le_of_ble_eq_true rfl) rfl ?_ | refine R.fa rfl rfl ?_ | refine R.add rfl rfl (by omega) ?_ | refine R.pickT rfl rfl ?_ | refine R.pickF rfl rfl ?_ | refine R.not rfl ?_ | refine R.mvU rfl ?_ | refine R.ext rfl rfl ?_ | refine R.box rfl rfl rfl ?_ | refine R.condT rfl ?_ | refine R.condF rfl ?_ | refine R.call (bor := false) rfl rfl (sTextsF h1 b1) rfl rfl rfl ?_ | refine R.call (bor := true) rfl rfl (sTextsF h1 b1) rfl rfl rfl ?_ | refine R.fcal (bor := false) rfl rfl (sTextsF h1 b1) rfl rfl rfl ?_ | refine R.fcal (bor := true) rfl rfl (sTextsF h1 b1) rfl rfl rfl ?_ | refine R.call (bor := false) rfl rfl (sTextsF h2 b2) rfl rfl rfl ?_ | refine R.call (bor := true) rfl rfl (sTextsF h2 b2) rfl rfl rfl ?_ | refine R.fcal (bor := false) rfl rfl (sTextsF h2 b2) rfl rfl rfl ?_ | refine R.fcal (bor := true) rfl rfl (sTextsF h2 b2) rfl rfl rfl ?_ | refine R.call (bor := false) rfl rfl (sTextsF h3 b3) rfl rfl rfl ?_ | refine R.call (bor := true) rfl rfl (sTextsF h3 b3) rfl rfl rfl ?_ | refine R.fcal (bor := false) rfl rfl (sTextsF h3 b3) rfl rfl rfl ?_ | refine R.fcal (bor := true) rfl rfl (sTextsF h3 b3) rfl rfl rfl ?_ | refine R.cond rfl (fun hc => ?_) (fun hc => ?_) | refine R.condN rfl (fun hc => ?_) (fun hc => ?_) | refine R.condB rfl (fun hc => ?_) (fun hc => ?_) | refine R.gP rfl (fun hc => ?_) (fun hc => ?_) | refine R.gN rfl (fun hc => ?_) (fun hc => ?_) | refine R.gB rfl (fun hc => ?_) (fun hc => ?_))
          all_goals first
            | (exfalso; omega)
            | exact R.ret ⟨.inr rfl, R.outS rfl rfl rfl⟩
            | skip
abbrev enRPt (l : List TPoint) : List D := [.rd kPoint (l.map enPoint)]
abbrev kRPt : Ky := ⟨36, 1⟩
theorem flatP_snoc {rows : List (List TPoint)} {i : Nat} {a : List TPoint} (h : rows[i]? = some a) : (rows.take (i + 1)).flatten = (rows.take i).flatten ++ a := by
  rw [take_snoc h, List.flatten_append]
  simp
theorem flatP_le {rows : List (List TPoint)} (i : Nat) : (rows.take i).flatten.length ≤ rows.flatten.length := by
  have h : (rows.take i ++ rows.drop i).flatten.length = rows.flatten.length := by rw [List.take_append_drop]
  rw [List.flatten_append, List.length_append] at h
  omega
theorem infoPt : (Tryd.prog.info? 72).map (fun i => (i.zero, i.size, i.bytes)) = some (some (.agg #[.int .i64 0, .int .i64 0]), 2, 16) := by kernel_rfl
theorem growP_run (n : Nat) (hn : n ≤ 4194304) (w : World) : Calls Tryd.prog 51 #[.slice none 0 0, .int .i64 n] w (fun e w' => ∃ v, e = .returned v ∧ w'.ownsRow w.heap.size 72 2 v 0 [] ∧ Below w.heap.size w w') := by
  obtain ⟨i0, hi, hz0, hz1, hz2⟩ := info_parts infoPt
  by_cases h0 : n = 0
  · subst h0
    go_enter Tryd.func51, Tryd.ntmps51
    go_wp2
    go_ret
    exact ⟨_, rfl, World.ownsRow_nil _ _ _ _, Below.refl _ _⟩
  · have h1 : ¬ ((n : Int) < 0) := by omega
    have h4 : (n : Int) > 0 := by omega
    have h3 : RowKit.wrap64 ((n : Int) - 0) = (n : Int) := by rw [Int.sub_zero]; exact IntWalk.wrap64_in _ (by omega)
    have hz : ∀ ty, (Builtin.append_ #[36, 3] ty #[.slice none 0 0, .int .i64 (n : Int)]).run Tryd.prog w =
      .ok (.slice (some ⟨w.heap.size, 0, none⟩) n (grownCap w n 0 72)) (w.drew.alloc (.cells (Builtin.zeroCells (Value.agg #[.int .i64 0, .int .i64 0]).cells n ++ Builtin.zeroCells (Value.agg #[.int .i64 0, .int .i64 0]).cells (grownCap w n 0 72 - n)) 72)) := fun ty =>
      Lib.run_append_nil_zeros (P := Tryd.prog) w 36 3 ty 72 i0 (.agg #[.int .i64 0, .int .i64 0]) .i64 .i64 Tryd.underlying36 Tryd.underlying3 hi hz0 n (by omega) (by omega) (by omega) (by rw [hz2]; omega)
    have hg1 : n ≤ grownCap w n 0 72 := grownCap_ge w _ _ _
    have hg2 : grownCap w n 0 72 ≤ maxLen := grownCap_le_maxLen w n 0 72 (by unfold maxLen; omega)
    generalize grownCap w n 0 72 = G at hz hg1 hg2
    obtain ⟨Z, hZ⟩ : ∃ Z, Z = Builtin.zeroCells (Value.agg #[.int .i64 0, .int .i64 0]).cells n ++ Builtin.zeroCells (Value.agg #[.int .i64 0, .int .i64 0]).cells (G - n) := ⟨_, rfl⟩
    have hZs : Z.size = G * 2 := by rw [hZ]; simp [size_zeroCells, Value.cells]; omega
    rw [← hZ] at hz
    clear hZ
    have hG := Lib.hid hg2
    have hG3 : G ≤ 9223372036854775807 := by unfold maxLen at hg2; omega
    clear hg2
    have hbl : Below w.heap.size w (w.alloc (.cells Z 72)).drew := by
      have h := (Below.refl w.heap.size w).alloc (Nat.le_refl _) (.cells Z 72)
      exact ⟨h.os, h.tape, h.output, h.size, h.block⟩
    go_enter Tryd.func51, Tryd.ntmps51
    go_wp2_with (at_builtin; refine Lib.wpList_append_run _ rfl _ _ _ _ rfl _ _ rfl rfl _ _ (hz _) ?_)
    all_goals go_ret
    all_goals exact ⟨_, rfl, ⟨rfl, .inr ⟨_, G, Z, rfl, Nat.le_refl _, (by unfold World.alloc World.drew; simp), Nat.zero_le _, hG.out, hZs, by simp⟩⟩, hbl⟩
theorem iGrowP (n : Int) (hn : 0 ≤ n ∧ n ≤ 4194304) : Spec Tryd.prog 51 [.c (.pv (.slice none 0 0)), vI n] (oN kPoint []) := by
  obtain ⟨m, rfl⟩ : ∃ m : Nat, n = m := ⟨n.toNat, by omega⟩
  refine ⟨callFunc_enter Tryd.func51 rfl (by simp [Tryd.f51]), fun w R ι φ vs hR hF ho => ?_⟩
  cases hF with | cons h1 h2 => cases h2 with | cons h2 h3 =>
  cases h3
  cases h1; cases h2
  refine (growP_run m (by omega) w).mono ?_
  rintro e w1 ⟨v, rfl, hrow, hbl⟩
  have hg : ∀ o x, frO ([(0, Ob.arr kPoint [] [])]) o = some x → o = 0 ∧ x = .arr kPoint [] [] := fun o x hf => by
    simp only [frO, upd] at hf
    split at hf
    · cases hf; exact ⟨by assumption, rfl⟩
    · cases hf
  have hown : ∀ g, v.ownBlock = some g → w.heap.size ≤ g ∧ g < w1.heap.size := fun g hg => by
    rcases hrow.2 with ⟨rfl, _⟩ | ⟨g', cp, cur, rfl, h1, h2, _⟩
    · simp [Value.ownBlock] at hg
    · obtain rfl : g' = g := by simpa [Value.ownBlock] using hg
      exact ⟨h1, (Array.getElem?_eq_some_iff.1 h2).1⟩
  refine ⟨_, rfl, R, upd ι 0 v, upd φ 0 v.ownBlock.toList, BelowM.of_below hbl, fun b h => h, fun b h => Nat.lt_of_lt_of_le (hR b h) hbl.size, fun b h _ => .inl h, ?_, ⟨fun o x hf => ?_, fun o x hf g hgm => ?_, fun o p x y g hf hf' _ _ => (hg o x hf).1.trans (hg p y hf').1.symm, ho.2.2.2.keep (fun _ h => h) fun b hb => hbl.block b (hR b hb)⟩, fun g hf => ?_, fun o hf => upd_ne _ _ (fun e => by subst e; exact absurd hf (by decide))⟩
  · exact ⟨⟨_, upd_same _ _ _⟩, (upd_same _ _ _).symm⟩
  · obtain ⟨rfl, rfl⟩ := hg o x hf
    rw [upd_same, upd_same]
    refine ⟨fun es he => (by cases he), [], [], ?_, EH.of_ET .nil, by simp, by cases v.ownBlock <;> simp⟩
    refine ⟨rfl, ?_⟩
    rcases hrow.2 with h3 | ⟨g, cp, cur, h3, h4, h5⟩
    · exact .inl h3
    · exact .inr ⟨g, cp, cur, h3, Nat.zero_le _, h5⟩
  · obtain ⟨rfl, rfl⟩ := hg o x hf
    rw [upd_same] at hgm
    have := hown g (by simpa using hgm)
    exact ⟨fun hr => by have := hR g hr; omega, this.2⟩
  · obtain ⟨o, x, hf, hgm⟩ := hf
    obtain ⟨rfl, rfl⟩ := hg o x hf
    rw [upd_same] at hgm
    exact .inr (hown g (by simpa using hgm)).1
theorem iConcatP (rows : List (List TPoint)) (h : rows.flatten.length ≤ 4194304) : Spec Tryd.prog 32 [vL kRPt (rows.map enRPt)] (.v (.c (.fz (.rd kPoint (rows.flatten.map enPoint))))) := by
  refine Spec.walk T.mixed Tryd.func32 S.ok32 (by simp [Tryd.f32]) fun hk => ?_
  have hlen := (K.c hk 0 rfl).lenM
  unfold S.s32
  repeat' (first | refine R.mv rfl ?_ | refine R.reg ?_ | refine R.nil ?_ | refine R.seq ?_ | refine R.nseq ?_ | refine R.nblk ?_ | refine R.skip ?_ | refine R.blk ?_ | refine R.exit rfl ?_ | refine R.ldEp rfl rfl (by assumption) rfl rfl ?_ | refine R.ldaEp rfl rfl (by assumption) (Nat.le_of_ble_eq_true rfl) rfl rfl ?_ | refine R.ld rfl rfl rfl ?_ | refine R.lda rfl rfl (Nat.le_of_ble_eq_true rfl) rfl ?_ | refine R.lenM rfl ?_ | refine R.lenO rfl rfl ?_ | refine R.len rfl rfl ?_ | refine R.lss rfl rfl ?_ | refine R.add rfl rfl (by omega) ?_ | refine R.ixN rfl rfl rfl (by omega) (fun a ha => ?_) | refine R.ixM rfl rfl rfl (by omega) (fun a ha => ?_) | refine R.ixON rfl rfl rfl (by first | omega | (simp; omega)) (fun a' ha' => ?_) | refine R.ixO rfl rfl rfl (by first | omega | (simp; omega)) (fun a' ha' => ?_) | refine R.condT rfl ?_ | refine R.condF rfl ?_ | refine R.cond rfl (fun hc => ?_) (fun hc => ?_) | refine R.condN rfl (fun hc => ?_) (fun hc => ?_) | refine R.condB rfl (fun hc => ?_) (fun hc => ?_))
  all_goals first | (exfalso; omega) | skip
  refine R.loop (G := Nat) (fun i => [(0, rdA kRPt (rows.map enRPt)), (3, pvA (.int .i64 (rows.take i).flatten.length)), (9, rdA kRPt (rows.map enRPt)), (10, pvA (.int .i64 rows.length)), (11, pvA (.int .i64 i))]) (fun _ => []) (fun i => i ≤ rows.length) (fun i => rows.length - i) 0 (by omega) (Weak.frame _ _ ⟨rfl, by simp; rfl, rfl, rfl, rfl, trivial⟩ trivial rfl rfl) fun i hi => ?_
  have hfl := flatP_le (rows := rows) i
  by_cases hil : i < rows.length
  · obtain ⟨a, ha⟩ : ∃ a, rows[i]? = some a := ⟨_, List.getElem?_eq_getElem hil⟩
    have hs := flatP_snoc ha
    have hs2 := flatP_le (rows := rows) (i + 1)
    have hs3 : (rows.take (i + 1)).flatten.length = (rows.take i).flatten.length + a.length := by rw [hs, List.length_append]
    repeat' (first | refine R.ixK a ha rfl rfl rfl ?_ | refine R.mv rfl ?_ | refine R.reg ?_ | refine R.nil ?_ | refine R.seq ?_ | refine R.nseq ?_ | refine R.nblk ?_ | refine R.skip ?_ | refine R.blk ?_ | refine R.exit rfl ?_ | refine R.ldEp rfl rfl (by assumption) rfl rfl ?_ | refine R.ldaEp rfl rfl (by assumption) (Nat.le_of_ble_eq_true rfl) rfl rfl ?_ | refine R.ld rfl rfl rfl ?_ | refine R.lda rfl rfl (Nat.le_of_ble_eq_true rfl) rfl ?_ | refine R.lenM rfl ?_ | refine R.lenO rfl rfl ?_ | refine R.len rfl rfl ?_ | refine R.lss rfl rfl ?_ | refine R.add rfl rfl (by omega) ?_ | refine R.ixN rfl rfl rfl (by omega) (fun a ha => ?_) | refine R.ixM rfl rfl rfl (by omega) (fun a ha => ?_) | refine R.ixON rfl rfl rfl (by first | omega | (simp; omega)) (fun a' ha' => ?_) | refine R.ixO rfl rfl rfl (by first | omega | (simp; omega)) (fun a' ha' => ?_) | refine R.condT rfl ?_ | refine R.condF rfl ?_ | refine R.cond rfl (fun hc => ?_) (fun hc => ?_) | refine R.condN rfl (fun hc => ?_) (fun hc => ?_) | refine R.condB rfl (fun hc => ?_) (fun hc => ?_))
    all_goals first
      | (exfalso; omega)
      | exact R.nloop (R.again (i + 1) (by omega) (by omega) ⟨rfl, congrArg (fun z => pvA (.int .i64 z)) (by omega), rfl, rfl, rfl, trivial⟩ trivial rfl rfl)
  · obtain rfl : i = rows.length := by omega
    rw [List.take_length]
    repeat' (first | refine R.mv rfl ?_ | refine R.reg ?_ | refine R.nil ?_ | refine R.seq ?_ | refine R.nseq ?_ | refine R.nblk ?_ | refine R.skip ?_ | refine R.blk ?_ | refine R.exit rfl ?_ | refine R.ldEp rfl rfl (by assumption) rfl rfl ?_ | refine R.ldaEp rfl rfl (by assumption) (Nat.le_of_ble_eq_true rfl) rfl rfl ?_ | refine R.ld rfl rfl rfl ?_ | refine R.lda rfl rfl (Nat.le_of_ble_eq_true rfl) rfl ?_ | refine R.lenM rfl ?_ | refine R.lenO rfl rfl ?_ | refine R.len rfl rfl ?_ | refine R.lss rfl rfl ?_ | refine R.add rfl rfl (by omega) ?_ | refine R.ixN rfl rfl rfl (by omega) (fun a ha => ?_) | refine R.ixM rfl rfl rfl (by omega) (fun a ha => ?_) | refine R.ixON rfl rfl rfl (by first | omega | (simp; omega)) (fun a' ha' => ?_) | refine R.ixO rfl rfl rfl (by first | omega | (simp; omega)) (fun a' ha' => ?_) | refine R.condT rfl ?_ | refine R.condF rfl ?_ | refine R.callN1 (bor := false) rfl rfl (iGrowP _ ⟨by omega, by omega⟩) rfl rfl ?_ | refine R.callN1 (bor := true) rfl rfl (iGrowP _ ⟨by omega, by omega⟩) rfl rfl ?_ | refine R.callN (bor := false) rfl rfl (iGrowP _ ⟨by omega, by omega⟩) rfl rfl rfl rfl rfl ?_ | refine R.callN (bor := true) rfl rfl (iGrowP _ ⟨by omega, by omega⟩) rfl rfl rfl rfl rfl ?_ | refine R.cond rfl (fun hc => ?_) (fun hc => ?_) | refine R.condN rfl (fun hc => ?_) (fun hc => ?_) | refine R.condB rfl (fun hc => ?_) (fun hc => ?_))
    all_goals first | (exfalso; omega) | skip
    refine R.loop (G := Nat) (fun i => [(6, .v (.c (.own 26000))), (25, rdA kRPt (rows.map enRPt)), (26, pvA (.int .i64 rows.length)), (27, pvA (.int .i64 i))]) (fun i => [(26000, .arr kPoint ((rows.take i).flatten.map enPoint) [])]) (fun i => i ≤ rows.length) (fun i => rows.length - i) 0 (by omega) (Weak.frame _ _ ⟨rfl, rfl, rfl, rfl, trivial⟩ ⟨rfl, trivial⟩ rfl rfl) fun i hi => ?_
    have hfl := flatP_le (rows := rows) i
    by_cases hil : i < rows.length
    · obtain ⟨a, ha⟩ : ∃ a, rows[i]? = some a := ⟨_, List.getElem?_eq_getElem hil⟩
      have hs := flatP_snoc ha
      have hs2 := flatP_le (rows := rows) (i + 1)
      have hs3 : (rows.take (i + 1)).flatten.length = (rows.take i).flatten.length + a.length := by rw [hs, List.length_append]
      repeat' (first | refine R.ixK a ha rfl rfl rfl ?_ | refine R.mv rfl ?_ | refine R.reg ?_ | refine R.nil ?_ | refine R.seq ?_ | refine R.nseq ?_ | refine R.nblk ?_ | refine R.skip ?_ | refine R.blk ?_ | refine R.exit rfl ?_ | refine R.ldEp rfl rfl (by assumption) rfl rfl ?_ | refine R.ldaEp rfl rfl (by assumption) (Nat.le_of_ble_eq_true rfl) rfl rfl ?_ | refine R.ld rfl rfl rfl ?_ | refine R.lda rfl rfl (Nat.le_of_ble_eq_true rfl) rfl ?_ | refine R.lenM rfl ?_ | refine R.lenO rfl rfl ?_ | refine R.len rfl rfl ?_ | refine R.lss rfl rfl ?_ | refine R.add rfl rfl (by omega) ?_ | refine R.ixN rfl rfl rfl (by omega) (fun a ha => ?_) | refine R.ixM rfl rfl rfl (by omega) (fun a ha => ?_) | refine R.ixON rfl rfl rfl (by first | omega | (simp; omega)) (fun a' ha' => ?_) | refine R.ixO rfl rfl rfl (by first | omega | (simp; omega)) (fun a' ha' => ?_) | refine R.condT rfl ?_ | refine R.condF rfl ?_ | refine R.app (f := enPoint) (l' := a) (fun _ => rfl) rfl rfl rfl rfl rfl ⟨by omega, by omega⟩ ?_ | refine R.cond rfl (fun hc => ?_) (fun hc => ?_) | refine R.condN rfl (fun hc => ?_) (fun hc => ?_) | refine R.condB rfl (fun hc => ?_) (fun hc => ?_))
      all_goals first
        | (exfalso; omega)
        | exact R.nloop (R.again (i + 1) (by omega) (by omega) ⟨rfl, rfl, rfl, rfl, trivial⟩ ⟨arr_eq (by rw [hs]), trivial⟩ rfl rfl)
    · obtain rfl : i = rows.length := by omega
      rw [List.take_length]
      repeat' (first | refine R.mv rfl ?_ | refine R.reg ?_ | refine R.nil ?_ | refine R.seq ?_ | refine R.nseq ?_ | refine R.nblk ?_ | refine R.skip ?_ | refine R.blk ?_ | refine R.exit rfl ?_ | refine R.ldEp rfl rfl (by assumption) rfl rfl ?_ | refine R.ldaEp rfl rfl (by assumption) (Nat.le_of_ble_eq_true rfl) rfl rfl ?_ | refine R.ld rfl rfl rfl ?_ | refine R.lda rfl rfl (Nat.le_of_ble_eq_true rfl) rfl ?_ | refine R.lenM rfl ?_ | refine R.lenO rfl rfl ?_ | refine R.len rfl rfl ?_ | refine R.lss rfl rfl ?_ | refine R.add rfl rfl (by omega) ?_ | refine R.ixN rfl rfl rfl (by omega) (fun a ha => ?_) | refine R.ixM rfl rfl rfl (by omega) (fun a ha => ?_) | refine R.ixON rfl rfl rfl (by first | omega | (simp; omega)) (fun a' ha' => ?_) | refine R.ixO rfl rfl rfl (by first | omega | (simp; omega)) (fun a' ha' => ?_) | refine R.condT rfl ?_ | refine R.condF rfl ?_ | refine R.cond rfl (fun hc => ?_) (fun hc => ?_) | refine R.condN rfl (fun hc => ?_) (fun hc => ?_) | refine R.condB rfl (fun hc => ?_) (fun hc => ?_))
      all_goals first
        | (exfalso; omega)
        | exact R.ret ⟨.inr rfl, R.outW (Weak.freeze 26000 rfl rfl) (R.outR rfl (.cons (R.tmp rfl) .nil) rfl rfl rfl rfl)⟩
end Go.Proofs.YtnkfbodolbfjpaaDoor
