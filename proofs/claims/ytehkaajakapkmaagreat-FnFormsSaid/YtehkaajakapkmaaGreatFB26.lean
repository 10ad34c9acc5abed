/- Texts of one proof, one behind the other. -/
import Derived.Test.YtehkaajakapkmaaGreatFB25
namespace Go.Proofs.YtehkaajakapkmaaGreat
section
open Go.RowKit
set_option maxRecDepth 100000 in
def S.s16 : SC := (.seq (.reg [⟨(.some 1), .none, .false, (.box 35 (.tmp 0))⟩, ⟨(.some 2), .none, .false, (.mv (.const (Go.Value.slice none 0 0)))⟩, ⟨(.some 3), .none, .false, (.mv (.const (Go.Value.int Go.IntKind.i64 0)))⟩]) (.seq (.seq (.reg [⟨(.some 4), .none, .false, (.ld .true 3 (.tmp 1))⟩, ⟨(.some 5), .none, .false, (.call (.func 33) [(.tmp 4)])⟩, ⟨(.some 6), .none, .false, (.not (.tmp 5))⟩]) (.cond (.tmp 6) (.seq (.reg [⟨(.some 2), .none, .false, (.mv (.const (Go.Value.slice none 0 0)))⟩, ⟨(.some 3), .none, .false, (.mv (.const (Go.Value.int Go.IntKind.i64 1)))⟩]) .ret) .skip)) (.seq (.reg [⟨(.some 7), .none, .false, (.ld .true 3 (.tmp 1))⟩, ⟨(.some 8), .none, .false, (.call (.func 47) [(.tmp 7)])⟩, ⟨(.some 2), .none, .false, (.mv (.tmp 8))⟩, ⟨(.some 3), .none, .false, (.mv (.const (Go.Value.int Go.IntKind.i64 0)))⟩]) .ret)))
set_option maxRecDepth 100000 in
theorem S.ok16 : stripF Tryz.prog Tryz.f16 = some S.s16 := by kernel_rfl
set_option maxRecDepth 100000 in
def S.s28 : SC := (.seq (.reg [⟨(.some 2), .none, .false, (.mv (.const (Go.Value.slice none 0 0)))⟩]) (.seq (.reg [⟨(.some 7), .none, .false, (.mv (.tmp 0))⟩, ⟨(.some 8), .none, .false, (.nc (.tmp 7))⟩, ⟨(.some 9), .none, .false, (.fa 2 (.tmp 8))⟩, ⟨(.some 10), .none, .false, (.ld .false 1 (.tmp 9))⟩, ⟨(.some 11), .none, .false, (.len (.tmp 10))⟩, ⟨(.some 12), .none, .false, (.mks (.mk 23 1) [(Go.Value.slice none 0 0)] (.tmp 11) (.tmp 11))⟩, ⟨(.some 3), .none, .false, (.mv (.tmp 12))⟩]) (.seq (.seq (.reg [⟨(.some 4), .none, .false, (.mv (.const (Go.Value.int Go.IntKind.i64 0)))⟩]) (.block 0 (.loop (.seq (.seq (.reg [⟨(.some 13), .none, .false, (.mv (.tmp 4))⟩, ⟨(.some 14), .none, .false, (.mv (.tmp 0))⟩, ⟨(.some 15), .none, .false, (.nc (.tmp 14))⟩, ⟨(.some 16), .none, .false, (.fa 0 (.tmp 15))⟩, ⟨(.some 17), .none, .false, (.ld .false 1 (.tmp 16))⟩, ⟨(.some 18), .none, .false, (.bin .shl (.const (Go.Value.int Go.IntKind.i64 1)) (.tmp 17))⟩, ⟨(.some 19), .none, .false, (.bin .lss (.tmp 13) (.tmp 18))⟩]) (.cond (.tmp 19) .skip (.exit 0))) (.seq (.block 1 (.seq (.reg [⟨(.some 22), .none, .false, (.mv (.tmp 0))⟩, ⟨(.some 23), .none, .false, (.mv (.tmp 0))⟩, ⟨(.some 24), .none, .false, (.nc (.tmp 23))⟩, ⟨(.some 25), .none, .false, (.fa 0 (.tmp 24))⟩, ⟨(.some 26), .none, .false, (.ld .false 1 (.tmp 25))⟩, ⟨(.some 27), .none, .false, (.mv (.tmp 4))⟩, ⟨(.some 28), .none, .false, (.call (.func 65) [(.tmp 26), (.tmp 27)])⟩, ⟨(.some 29), .none, .false, (.call (.func 64) [(.tmp 22), (.tmp 28)])⟩, ⟨(.some 5), .none, .false, (.mv (.tmp 29))⟩]) (.seq (.reg [⟨(.some 6), .none, .false, (.mv (.const (Go.Value.int Go.IntKind.i64 0)))⟩]) (.block 2 (.loop (.seq (.seq (.reg [⟨(.some 30), .none, .false, (.mv (.tmp 6))⟩, ⟨(.some 31), .none, .false, (.mv (.tmp 5))⟩, ⟨(.some 32), .none, .false, (.len (.tmp 31))⟩, ⟨(.some 33), .none, .false, (.bin .lss (.tmp 30) (.tmp 32))⟩]) (.cond (.tmp 33) .skip (.exit 2))) (.seq (.block 3 (.reg [⟨(.some 36), .none, .true, (.mv (.tmp 3))⟩, ⟨(.some 37), .none, .true, (.mv (.tmp 6))⟩, ⟨(.some 38), .none, .true, (.mv (.tmp 3))⟩, ⟨(.some 39), .none, .true, (.mv (.tmp 6))⟩, ⟨(.some 40), .none, .true, (.ix (.mk 23 1) (.tmp 38) (.tmp 39))⟩, ⟨(.some 41), .none, .true, (.ld .false 1 (.tmp 40))⟩, ⟨(.some 42), .none, .true, (.mv (.tmp 5))⟩, ⟨(.some 43), .none, .true, (.mv (.tmp 6))⟩, ⟨(.some 44), .none, .true, (.ix (.mk 2 1) (.tmp 42) (.tmp 43))⟩, ⟨(.some 45), .none, .true, (.ld .false 1 (.tmp 44))⟩, ⟨(.some 46), .none, .true, (.bsl (.mk 2 1) 1 [(0, (.tmp 45))])⟩, ⟨(.some 47), .none, .false, (.app (.mk 2 1) 8 (.tmp 41) (.tmp 46))⟩, ⟨(.some 48), .none, .false, (.ix (.mk 23 1) (.tmp 36) (.tmp 37))⟩, ⟨.none, .none, .false, (.sto 1 (.tmp 48) (.tmp 47))⟩])) (.reg [⟨(.some 34), .none, .false, (.mv (.tmp 6))⟩, ⟨(.some 35), .none, .false, (.bin .add (.tmp 34) (.const (Go.Value.int Go.IntKind.i64 1)))⟩, ⟨(.some 6), .none, .false, (.mv (.tmp 35))⟩])))))))) (.reg [⟨(.some 20), .none, .false, (.mv (.tmp 4))⟩, ⟨(.some 21), .none, .false, (.bin .add (.tmp 20) (.const (Go.Value.int Go.IntKind.i64 1)))⟩, ⟨(.some 4), .none, .false, (.mv (.tmp 21))⟩])))))) (.seq (.reg [⟨(.some 49), .none, .false, (.mv (.tmp 3))⟩, ⟨(.some 2), .none, .false, (.mv (.tmp 49))⟩]) .ret))))
set_option maxRecDepth 100000 in
theorem S.ok28 : stripF Tryz.prog Tryz.f28 = some S.s28 := by kernel_rfl
set_option maxRecDepth 100000 in
def S.s47 : SC := (.seq (.reg [⟨(.some 1), .none, .false, (.box 35 (.tmp 0))⟩, ⟨(.some 2), .none, .false, (.mv (.const (Go.Value.slice none 0 0)))⟩]) (.seq (.reg [⟨(.some 7), .none, .false, (.fa 2 (.tmp 1))⟩, ⟨(.some 8), .none, .false, (.ld .false 1 (.tmp 7))⟩, ⟨(.some 9), .none, .false, (.len (.tmp 8))⟩, ⟨(.some 10), .none, .false, (.mks (.mk 23 1) [(Go.Value.slice none 0 0)] (.tmp 9) (.tmp 9))⟩, ⟨(.some 3), .none, .false, (.mv (.tmp 10))⟩]) (.seq (.seq (.reg [⟨(.some 11), .none, .false, (.fa 0 (.tmp 1))⟩, ⟨(.some 12), .none, .false, (.ld .false 1 (.tmp 11))⟩, ⟨(.some 13), .none, .false, (.bin .shl (.const (Go.Value.int Go.IntKind.i64 1)) (.tmp 12))⟩, ⟨(.some 14), .none, .false, (.mv (.const (Go.Value.int Go.IntKind.i64 0)))⟩]) (.block 0 (.loop (.seq (.reg [⟨(.some 15), .none, .false, (.bin .lss (.tmp 14) (.tmp 13))⟩]) (.seq (.cond (.tmp 15) .skip (.exit 0)) (.seq (.block 1 (.seq (.reg [⟨(.some 16), .none, .false, (.mv (.tmp 14))⟩, ⟨(.some 4), .none, .false, (.mv (.tmp 16))⟩]) (.seq (.reg [⟨(.some 17), .none, .true, (.ld .true 3 (.tmp 1))⟩, ⟨(.some 18), .none, .true, (.fa 0 (.tmp 1))⟩, ⟨(.some 19), .none, .true, (.ld .false 1 (.tmp 18))⟩, ⟨(.some 20), .none, .true, (.mv (.tmp 4))⟩, ⟨(.some 21), .none, .true, (.fcal (.func 81) [(.tmp 19), (.tmp 20)])⟩, ⟨(.some 22), .none, .true, (.fcal (.func 56) [(.tmp 17), (.tmp 21)])⟩, ⟨(.some 23), .none, .true, (.len (.tmp 22))⟩, ⟨(.some 24), .none, .true, (.mv (.const (Go.Value.int Go.IntKind.i64 0)))⟩]) (.block 2 (.loop (.seq (.reg [⟨(.some 25), .none, .false, (.bin .lss (.tmp 24) (.tmp 23))⟩]) (.seq (.cond (.tmp 25) .skip (.exit 2)) (.seq (.block 3 (.seq (.reg [⟨(.some 26), .none, .false, (.mv (.tmp 24))⟩, ⟨(.some 27), .none, .false, (.ix (.mk 2 1) (.tmp 22) (.tmp 24))⟩, ⟨(.some 28), .none, .false, (.ld .false 1 (.tmp 27))⟩, ⟨(.some 5), .none, .false, (.mv (.tmp 26))⟩, ⟨(.some 6), .none, .false, (.mv (.tmp 28))⟩]) (.reg [⟨(.some 29), .none, .false, (.mv (.tmp 3))⟩, ⟨(.some 30), .none, .false, (.mv (.tmp 5))⟩, ⟨(.some 31), .none, .false, (.mv (.tmp 3))⟩, ⟨(.some 32), .none, .false, (.mv (.tmp 5))⟩, ⟨(.some 33), .none, .false, (.ix (.mk 23 1) (.tmp 31) (.tmp 32))⟩, ⟨(.some 34), .none, .false, (.ld .false 1 (.tmp 33))⟩, ⟨(.some 35), .none, .false, (.mv (.tmp 6))⟩, ⟨(.some 36), .none, .false, (.bsl (.mk 2 1) 1 [(0, (.tmp 35))])⟩, ⟨(.some 37), .none, .false, (.app (.mk 2 1) 8 (.tmp 34) (.tmp 36))⟩, ⟨(.some 38), .none, .false, (.ix (.mk 23 1) (.tmp 29) (.tmp 30))⟩, ⟨.none, .none, .false, (.sto 1 (.tmp 38) (.tmp 37))⟩]))) (.reg [⟨(.some 39), .none, .false, (.bin .add (.tmp 24) (.const (Go.Value.int Go.IntKind.i64 1)))⟩, ⟨(.some 24), .none, .false, (.mv (.tmp 39))⟩]))))))))) (.reg [⟨(.some 40), .none, .false, (.bin .add (.tmp 14) (.const (Go.Value.int Go.IntKind.i64 1)))⟩, ⟨(.some 14), .none, .false, (.mv (.tmp 40))⟩]))))))) (.seq (.reg [⟨(.some 41), .none, .false, (.mv (.tmp 3))⟩, ⟨(.some 2), .none, .false, (.mv (.tmp 41))⟩]) .ret))))
set_option maxRecDepth 100000 in
theorem S.ok47 : stripF Tryz.prog Tryz.f47 = some S.s47 := by kernel_rfl
set_option maxRecDepth 100000 in
def S.s65 : SC := (.seq (.reg [⟨(.some 4), .none, .false, (.mv (.const (Go.Value.slice none 0 0)))⟩]) (.seq (.reg [⟨(.some 7), .none, .false, (.bsl (.mk 2 1) 0 [])⟩, ⟨(.some 5), .none, .false, (.mv (.tmp 7))⟩]) (.seq (.seq (.reg [⟨(.some 6), .none, .false, (.mv (.const (Go.Value.int Go.IntKind.i64 0)))⟩]) (.block 0 (.loop (.seq (.seq (.reg [⟨(.some 8), .none, .false, (.mv (.tmp 6))⟩, ⟨(.some 9), .none, .false, (.mv (.tmp 0))⟩, ⟨(.some 10), .none, .false, (.bin .lss (.tmp 8) (.tmp 9))⟩]) (.cond (.tmp 10) .skip (.exit 0))) (.seq (.block 1 (.reg [⟨(.some 13), .none, .false, (.mv (.tmp 5))⟩, ⟨(.some 14), .none, .false, (.mv (.tmp 1))⟩, ⟨(.some 15), .none, .false, (.mv (.tmp 6))⟩, ⟨(.some 16), .none, .false, (.bin .shr (.tmp 14) (.tmp 15))⟩, ⟨(.some 17), .none, .false, (.bin .and (.tmp 16) (.const (Go.Value.int Go.IntKind.i64 1)))⟩, ⟨(.some 18), .none, .false, (.bsl (.mk 2 1) 1 [(0, (.tmp 17))])⟩, ⟨(.some 19), .none, .false, (.app (.mk 2 1) 8 (.tmp 13) (.tmp 18))⟩, ⟨(.some 5), .none, .false, (.mv (.tmp 19))⟩])) (.reg [⟨(.some 11), .none, .false, (.mv (.tmp 6))⟩, ⟨(.some 12), .none, .false, (.bin .add (.tmp 11) (.const (Go.Value.int Go.IntKind.i64 1)))⟩, ⟨(.some 6), .none, .false, (.mv (.tmp 12))⟩])))))) (.seq (.reg [⟨(.some 20), .none, .false, (.mv (.tmp 5))⟩, ⟨(.some 4), .none, .false, (.mv (.tmp 20))⟩]) .ret))))
set_option maxRecDepth 100000 in
theorem S.ok65 : stripF Tryz.prog Tryz.f65 = some S.s65 := by kernel_rfl
set_option maxRecDepth 100000 in
def S.s81 : SC := (.seq (.reg [⟨(.some 4), .none, .false, (.mv (.const (Go.Value.slice none 0 0)))⟩]) (.seq (.reg [⟨(.some 5), .none, .false, (.mv (.const (Go.Value.slice none 0 0)))⟩]) (.seq (.seq (.reg [⟨(.some 7), .none, .false, (.mv (.tmp 0))⟩, ⟨(.some 8), .none, .false, (.mv (.const (Go.Value.int Go.IntKind.i64 0)))⟩]) (.block 0 (.loop (.seq (.reg [⟨(.some 9), .none, .false, (.bin .lss (.tmp 8) (.tmp 7))⟩]) (.seq (.cond (.tmp 9) .skip (.exit 0)) (.seq (.block 1 (.seq (.reg [⟨(.some 10), .none, .false, (.mv (.tmp 8))⟩, ⟨(.some 6), .none, .false, (.mv (.tmp 10))⟩]) (.reg [⟨(.some 11), .none, .false, (.mv (.tmp 5))⟩, ⟨(.some 12), .none, .false, (.mv (.tmp 1))⟩, ⟨(.some 13), .none, .false, (.mv (.tmp 6))⟩, ⟨(.some 14), .none, .false, (.bin .shr (.tmp 12) (.tmp 13))⟩, ⟨(.some 15), .none, .false, (.bin .and (.tmp 14) (.const (Go.Value.int Go.IntKind.i64 1)))⟩, ⟨(.some 16), .none, .false, (.bsl (.mk 2 1) 1 [(0, (.tmp 15))])⟩, ⟨(.some 17), .none, .false, (.app (.mk 2 1) 8 (.tmp 11) (.tmp 16))⟩, ⟨(.some 5), .none, .false, (.mv (.tmp 17))⟩]))) (.reg [⟨(.some 18), .none, .false, (.bin .add (.tmp 8) (.const (Go.Value.int Go.IntKind.i64 1)))⟩, ⟨(.some 8), .none, .false, (.mv (.tmp 18))⟩]))))))) (.seq (.reg [⟨(.some 19), .none, .false, (.mv (.tmp 5))⟩, ⟨(.some 4), .none, .false, (.mv (.tmp 19))⟩]) .ret))))
set_option maxRecDepth 100000 in
theorem S.ok81 : stripF Tryz.prog Tryz.f81 = some S.s81 := by kernel_rfl
set_option maxRecDepth 10000
set_option maxHeartbeats 4000000
section
variable {P : Program} {Q : Exit → St → Prop} {ks : List Fr} {e : Nat → AV} {o : Nat → Option Ob} {d : Nat} {fr : Bool} {x y z : Operand} {rest : List SR}
theorem R.ldHole {α : Type} {f : α → List D} {l : List α} {p i j q : Nat} {κ : Ky} {a : α} {s' : Nat} (h : ev e x = .v (.c (.ep p κ.k i j))) (ho : o p = some (.arr κ (l.map f) [⟨i, j, some q⟩])) (hi : l[i]? = some a) (hj : Nat.blt j (f a).length = true) (hjk : j < κ.k) (k : WL P rest ks Q ⟨upd e d (.v (.c (.own q))), o⟩) : WL P (⟨some d, none, fr, .ld false s' x⟩ :: rest) ks Q ⟨e, o⟩ := by
  have hfa : (l.map f)[i]? = some (f a) := by rw [List.getElem?_map, hi]; rfl
  refine R.ld h (cs := ((elemC κ.k i (f a) [⟨i, j, some q⟩]).drop j).map clB) (c := .own q) ?_ ?_ k
  · simp only [cellsAt, ho, if_true, hfa, Option.map_some]
  · have hlen : j < ((f a).map Cl.d).length := by rw [List.length_map]; rw [Nat.blt] at hj; exact Nat.le_of_ble_eq_true hj
    simp only [elemC, true_and, hjk, if_true, List.map_drop, List.getElem?_drop, Nat.add_zero, List.getElem?_map]
    rw [List.getElem?_set_self hlen]
    rfl
theorem R.nseqOpen {α β : Type} {f : α → List D} {g : β → List D} {l : List α} {l' : List β} {κ κ' : Ky} {a : α} {c : SC} (p i j q : Nat) (ho : o p = some (.arr κ (l.map f) [])) (hi : l[i]? = some a) (hj : (f a)[j]? = some (.rd κ' (l'.map g))) (hq : freeO o q)
    (k : WC P c ks Q ⟨e, upd (upd o p (some (.arr κ (l.map f) [⟨i, j, some q⟩]))) q (some (.arr κ' (l'.map g) []))⟩) : WN P (.seq c :: ks) Q ⟨e, o⟩ :=
  R.nseqW (Weak.open (st := ⟨e, o⟩) p i j q ho (by rw [List.getElem?_map, hi]; rfl) hj (fun _ h => by cases h) hq) k
end
def inp (_ : Int) (k i : Nat) : List Int := (List.range i).map fun j => andI ((k : Int) / 2 ^ j) 1
theorem inp_succ {n : Int} {k i : Nat} : inp n k (i + 1) = inp n k i ++ [andI ((k : Int) / 2 ^ i) 1] := by unfold inp; rw [List.range_succ, List.map_append]; rfl
theorem inp_len {n : Int} {k i : Nat} : (inp n k i).length = i := by unfold inp; simp
theorem inp_ok {n : Int} {k : Nat} (hn : 1 ≤ n) : inK (inp n k n.toNat) n := by
  refine ⟨by rw [inp_len]; omega, fun w hw => ?_⟩
  obtain ⟨j, _, rfl⟩ := List.mem_map.1 hw
  exact andI_le ⟨by omega, by omega⟩
def rowT (c : TCircuit) (j k : Nat) : List Int := (List.range k).map fun n => (evC c (inp c.fInputs n c.fInputs.toNat)).getD j 0
theorem rowT_succ {c : TCircuit} {j k : Nat} : rowT c j (k + 1) = rowT c j k ++ [(evC c (inp c.fInputs k c.fInputs.toNat)).getD j 0] := by unfold rowT; rw [List.range_succ, List.map_append]; rfl
theorem rowT_len {c : TCircuit} {j k : Nat} : (rowT c j k).length = k := by unfold rowT; simp
def tabT (c : TCircuit) (k j : Nat) : List (List Int) := (List.range c.fOutputs.length).map fun i => rowT c i (if i < j then k + 1 else k)
theorem tabT_len {c : TCircuit} {k j : Nat} : (tabT c k j).length = c.fOutputs.length := by unfold tabT; simp
theorem tabT_get {c : TCircuit} {k j : Nat} (h : j < c.fOutputs.length) : (tabT c k j)[j]? = some (rowT c j k) := by
  unfold tabT
  rw [List.getElem?_map, List.getElem?_range h]
  simp
theorem tabT_set {c : TCircuit} {k j : Nat} : (tabT c k j).set j (rowT c j (k + 1)) = tabT c k (j + 1) := by
  refine List.ext_getElem? fun i => ?_
  rw [List.getElem?_set]
  by_cases hi : i < c.fOutputs.length
  · by_cases hij : j = i
    · subst hij
      rw [if_pos rfl, if_pos (by rw [tabT_len]; exact hi)]
      unfold tabT
      rw [List.getElem?_map, List.getElem?_range hi]
      simp
    · rw [if_neg hij]
      unfold tabT
      rw [List.getElem?_map, List.getElem?_map, List.getElem?_range hi]
      simp only [Option.map_some]
      by_cases h1 : i < j
      · rw [if_pos h1, if_pos (by omega)]
      · rw [if_neg h1, if_neg (by omega)]
  · have h1 : ∀ m, (tabT c k m)[i]? = none := fun m => List.getElem?_eq_none (by rw [tabT_len]; omega)
    rw [h1, h1]
    split
    · split
      · rename_i h2 h3
        rw [tabT_len] at h3
        omega
      · rfl
    · rfl
theorem tabT_next {c : TCircuit} {k : Nat} : tabT c k c.fOutputs.length = tabT c (k + 1) 0 := by
  unfold tabT
  refine List.map_congr_left fun i hi => ?_
  rw [if_pos (List.mem_range.1 hi), if_neg (by omega)]
theorem tabT_zero {c : TCircuit} : tabT c 0 0 = List.replicate c.fOutputs.length [] := by
  unfold tabT
  rw [List.eq_replicate_iff]
  refine ⟨by simp, fun r hr => ?_⟩
  obtain ⟨i, _, rfl⟩ := List.mem_map.1 hr
  simp [rowT]
open Classical in
noncomputable def fTabT (c : TCircuit) : List (List Int) × Int := if okC c then (tabT c (2 ^ c.fInputs.toNat) 0, 0) else ([], 1)
theorem q16 {n : Int} (h : 1 ≤ n ∧ n ≤ 4) : 2 ≤ (2 : Nat) ^ n.toNat ∧ (2 : Nat) ^ n.toNat ≤ 16 := by
  have : n = 1 ∨ n = 2 ∨ n = 3 ∨ n = 4 := by omega
  rcases this with rfl | rfl | rfl | rfl <;> decide
theorem q16c {n : Int} : ((2 ^ n.toNat : Nat) : Int) = 2 ^ n.toNat := by simp
theorem evC_len {c : TCircuit} {l : List Int} : (evC c l).length = c.fOutputs.length := by unfold evC; simp
theorem iInp (n : Int) (k : Nat) (hn : 1 ≤ n ∧ n ≤ 4) (_ : k ≤ 16) : Spec Tryz.prog 81 [vI n, vI k] (oN kI (ints (inp n k n.toNat))) := by
  refine Spec.walk T.mixed Tryz.func81 S.ok81 (by simp [Tryz.f81]) fun hk => ?_
  unfold S.s81
  repeat' (first|refine R.mv rfl ?_|refine R.reg ?_|refine R.nil ?_|refine R.seq ?_|refine R.nseq ?_|refine R.blk ?_)
  refine R.loop (G := Nat) (fun i => [(1, pvA (.int .i64 k)), (5, .v (.c (.own 5))), (7, pvA (.int .i64 n)), (8, pvA (.int .i64 i))]) (fun i => [(5, .arr kI (ints (inp n k i)) [])]) (fun i => i ≤ n.toNat) (fun i => n.toNat - i) 0 (by omega) (Weak.trans (Weak.reify 5 5 kI rfl rfl) (Weak.frame _ _ ⟨rfl, rfl, rfl, rfl, trivial⟩ ⟨rfl, trivial⟩ rfl rfl)) fun i hi => ?_
  have hil := inp_len (n := n) (k := k) (i := i)
  by_cases hin : i < n.toNat
  · repeat' (first|refine R.mv rfl ?_|refine R.reg ?_|refine R.nil ?_|refine R.seq ?_|refine R.nseq ?_|refine R.nblk ?_|refine R.skip ?_|refine R.blk ?_|refine R.exit rfl ?_|refine R.lss rfl rfl ?_|refine R.add rfl rfl (by omega) ?_|refine R.and rfl rfl ?_|refine R.shr rfl rfl (by omega) ?_|refine R.bsl (f := enI) [andI ((k : Int) / 2 ^ i) 1] rfl rfl rfl rfl rfl ?_|refine R.app (f := enI) (fun _ => rfl) rfl rfl rfl rfl rfl ⟨by simp only [List.length_singleton]; omega, by simp only [List.length_singleton]; omega⟩ ?_|refine R.cond rfl (fun hc => ?_) (fun hc => ?_))
    all_goals first
      | (exfalso; omega)
      | exact R.nloop (R.again (i + 1) (by omega) (by omega) ⟨rfl, rfl, rfl, rfl, trivial⟩ ⟨arr_eq (by rw [inp_succ]), trivial⟩ rfl rfl)
  obtain rfl : i = n.toNat := by omega
  repeat' (first|refine R.mv rfl ?_|refine R.reg ?_|refine R.nil ?_|refine R.seq ?_|refine R.nseq ?_|refine R.skip ?_|refine R.blk ?_|refine R.exit rfl ?_|refine R.lss rfl rfl ?_|refine R.and rfl rfl ?_|refine R.shr rfl rfl (by omega) ?_|refine R.cond rfl (fun hc => ?_) (fun hc => ?_))
  all_goals first
    | (exfalso; omega)
    | exact R.ret ⟨.inr rfl, R.outN rfl rfl rfl⟩
theorem iTab (c : TCircuit) (h : okC c) : Spec Tryz.prog 47 [.agg (enCircuit c)] (oN kR ((tabT c (2 ^ c.fInputs.toNat) 0).map enR)) := by
  refine Spec.walk T.mixed Tryz.func47 S.ok47 (by simp [Tryz.f47]) fun hk => ?_
  have hn := h.1
  have hO := h.2.2.1
  have hp := q16 hn
  have hc2 := q16c (n := c.fInputs)
  unfold S.s47
  repeat' (first|refine R.mv rfl ?_|refine R.reg ?_|refine R.nil ?_|refine R.seq ?_|refine R.nseq ?_|refine R.blk ?_|refine R.ld rfl rfl rfl ?_|refine R.fa rfl rfl ?_|refine R.lenM rfl ?_|refine R.box rfl rfl rfl ?_|refine R.shl1 rfl rfl (by omega) (fun hp => ?_)|refine R.mks (f := enR) ([] : List Int) rfl rfl rfl ⟨by omega, by omega⟩ (.cons ⟨rfl, rfl⟩ .nil) ?_)
  refine R.loop (G := Nat) (fun k => [(1, .v (.c (.ptr 1 0))), (3, .v (.c (.own 10))), (13, pvA (.int .i64 (2 ^ c.fInputs.toNat))), (14, pvA (.int .i64 k))]) (fun k => [(1, .box 35 ((enCircuit c).map B.d)), (10, .arr kR ((tabT c k 0).map enR) [])]) (fun k => k ≤ 2 ^ c.fInputs.toNat) (fun k => 2 ^ c.fInputs.toNat - k) 0 (by omega) (Weak.frame _ _ ⟨rfl, rfl, rfl, rfl, trivial⟩ ⟨rfl, arr_eq (by rw [tabT_zero, Int.toNat_natCast]), trivial⟩ rfl rfl) fun k hkn => ?_
  by_cases hkl : k < 2 ^ c.fInputs.toNat
  · have hin := inp_ok (n := c.fInputs) (k := k) hn.1
    have hel := evC_len (c := c) (l := inp c.fInputs k c.fInputs.toNat)
    repeat' (first|refine R.mv rfl ?_|refine R.reg ?_|refine R.nil ?_|refine R.seq ?_|refine R.nseq ?_|refine R.skip ?_|refine R.blk ?_|refine R.exit rfl ?_|refine R.ld rfl rfl rfl ?_|refine R.lda rfl rfl (lbT rfl) rfl ?_|refine R.fa rfl rfl ?_|refine R.lenM rfl ?_|refine R.lss rfl rfl ?_|refine R.fcal (bor := false) rfl rfl (iInp c.fInputs k hn (by omega)) rfl rfl rfl ?_|refine R.fcal (bor := false) rfl rfl (iEvC c _ h hin) rfl rfl rfl ?_|refine R.cond rfl (fun hc => ?_) (fun hc => ?_))
    all_goals first | (exfalso; omega) | skip
    refine R.loop (G := Nat) (fun j => [(1, .v (.c (.ptr 1 0))), (3, .v (.c (.own 10))), (13, pvA (.int .i64 (2 ^ c.fInputs.toNat))), (14, pvA (.int .i64 k)), (22, rdA kI (ints (evC c (inp c.fInputs k c.fInputs.toNat)))), (23, pvA (.int .i64 (evC c (inp c.fInputs k c.fInputs.toNat)).length)), (24, pvA (.int .i64 j))]) (fun j => [(1, .box 35 ((enCircuit c).map B.d)), (10, .arr kR ((tabT c k j).map enR) [])]) (fun j => j ≤ c.fOutputs.length) (fun j => c.fOutputs.length - j) 0 (by omega) (Weak.frame _ _ ⟨rfl, rfl, rfl, rfl, rfl, rfl, rfl, trivial⟩ ⟨rfl, rfl, trivial⟩ rfl rfl) fun j hj => ?_
    by_cases hjl : j < c.fOutputs.length
    · obtain ⟨v, hv⟩ : ∃ v, (evC c (inp c.fInputs k c.fInputs.toNat))[j]? = some v := ⟨_, List.getElem?_eq_getElem (by omega)⟩
      have hrow := tabT_get (c := c) (k := k) hjl
      have hrl := rowT_len (c := c) (j := j) (k := k)
      have hrs : rowT c j (k + 1) = rowT c j k ++ [v] := by rw [rowT_succ]; simp [List.getD, hv]
      repeat' (first|refine R.ixK v hv rfl rfl rfl ?_|refine R.ixOK (rowT c j k) hrow rfl rfl rfl ?_|refine R.mv rfl ?_|refine R.reg ?_|refine R.nil ?_|refine R.seq ?_|refine R.nseq ?_|refine R.nblk ?_|refine R.skip ?_|refine R.blk ?_|refine R.exit rfl ?_|refine R.ld rfl rfl rfl ?_|refine R.lss rfl rfl ?_|refine R.add rfl rfl (by omega) ?_|refine R.ldOpen rfl rfl hrow rfl (by decide) rfl ?_|refine R.bsl (f := enI) [v] rfl rfl rfl rfl rfl ?_|refine R.app (f := enI) (fun _ => rfl) rfl rfl rfl rfl rfl ⟨by simp only [List.length_singleton]; omega, by simp only [List.length_singleton]; omega⟩ ?_|refine R.stoA (rowT c j k ++ [v]) rfl rfl rfl rfl rfl rfl (by simp [clearHo, Ho.kill]) hrow rfl ⟨rfl, rfl, Nat.le_of_ble_eq_true rfl⟩ ?_|refine R.cond rfl (fun hc => ?_) (fun hc => ?_))

      all_goals first
        | (exfalso; omega)
        | exact R.nloop (R.again (j + 1) (by omega) (by omega) ⟨rfl, rfl, rfl, rfl, rfl, rfl, rfl, trivial⟩ ⟨rfl, arr_eq (by rw [← hrs, tabT_set]), trivial⟩ rfl rfl)
    obtain rfl : j = c.fOutputs.length := by omega
    repeat' (first|refine R.mv rfl ?_|refine R.reg ?_|refine R.nil ?_|refine R.seq ?_|refine R.nseq ?_|refine R.nblk ?_|refine R.skip ?_|refine R.blk ?_|refine R.exit rfl ?_|refine R.ld rfl rfl rfl ?_|refine R.lss rfl rfl ?_|refine R.add rfl rfl (by omega) ?_|refine R.ixN rfl rfl rfl (by omega) (fun a ha => ?_)|refine R.ixON rfl rfl rfl (by first|omega|(simp; omega)) (fun a' ha' => ?_)|refine R.cond rfl (fun hc => ?_) (fun hc => ?_))
    all_goals first
      | (exfalso; omega)
      | exact R.nloop (R.again (k + 1) (by omega) (by omega) ⟨rfl, rfl, rfl, rfl, trivial⟩ ⟨rfl, arr_eq (by rw [tabT_next]), trivial⟩ rfl rfl)
  obtain rfl : k = 2 ^ c.fInputs.toNat := by omega
  repeat' (first|refine R.mv rfl ?_|refine R.reg ?_|refine R.nil ?_|refine R.seq ?_|refine R.nseq ?_|refine R.skip ?_|refine R.blk ?_|refine R.exit rfl ?_|refine R.ld rfl rfl rfl ?_|refine R.lda rfl rfl (lbT rfl) rfl ?_|refine R.fa rfl rfl ?_|refine R.lss rfl rfl ?_|refine R.cond rfl (fun hc => ?_) (fun hc => ?_))
  all_goals first
    | (exfalso; omega)
    | exact R.ret ⟨.inr rfl, R.outN rfl rfl rfl⟩
theorem iTruthTable (c : TCircuit) : Spec Tryz.prog 16 [.agg (enCircuit c)] (.tup [cN kR ((fTabT c).1.map enR), cI (fTabT c).2]) := by
  refine Spec.walk T.mixed Tryz.func16 S.ok16 (by simp [Tryz.f16]) fun hk => ?_
  unfold S.s16
  by_cases h1 : okC c
  · rw [show fTabT c = (tabT c (2 ^ c.fInputs.toNat) 0, 0) from if_pos h1]
    repeat' (first|refine R.mv rfl ?_|refine R.reg ?_|refine R.nil ?_|refine R.seq ?_|refine R.nseq ?_|refine R.skip ?_|refine R.lda rfl rfl (lbT rfl) rfl ?_|refine R.not rfl ?_|refine R.box rfl rfl rfl ?_|refine R.condF rfl ?_|refine R.call (bor := false) rfl rfl (iCirT h1) rfl rfl rfl ?_|refine R.callN1 (bor := false) rfl rfl (iTab c h1) rfl rfl ?_)
    exact R.ret ⟨.inr rfl, R.outNI rfl rfl rfl rfl rfl⟩
  · rw [show fTabT c = ([], 1) from if_neg h1]
    repeat' (first|refine R.mv rfl ?_|refine R.reg ?_|refine R.nil ?_|refine R.seq ?_|refine R.nseq ?_|refine R.lda rfl rfl (lbT rfl) rfl ?_|refine R.not rfl ?_|refine R.box rfl rfl rfl ?_|refine R.condT rfl ?_|refine R.call (bor := false) rfl rfl (iCirF h1) rfl rfl rfl ?_)
    exact R.ret ⟨.inr rfl, R.outNilI rfl rfl rfl rfl rfl rfl⟩
theorem sInp (n : Int) (k : Nat) (hn : 1 ≤ n ∧ n ≤ 4) (_ : k ≤ 16) : Spec Tryz.prog 65 [vI n, vI k] (oN kI (ints (inp n k n.toNat))) := by
  refine Spec.walk T.mixed Tryz.func65 S.ok65 (by simp [Tryz.f65]) fun hk => ?_
  unfold S.s65
  repeat' (first|refine R.mv rfl ?_|refine R.reg ?_|refine R.nil ?_|refine R.seq ?_|refine R.nseq ?_|refine R.blk ?_|refine R.bsl (f := enI) ([] : List Int) rfl rfl rfl rfl rfl ?_)
  refine R.loop (G := Nat) (fun i => [(0, pvA (.int .i64 n)), (1, pvA (.int .i64 k)), (5, .v (.c (.own 7))), (6, pvA (.int .i64 i))]) (fun i => [(7, .arr kI (ints (inp n k i)) [])]) (fun i => i ≤ n.toNat) (fun i => n.toNat - i) 0 (by omega) (Weak.frame _ _ ⟨rfl, rfl, rfl, rfl, trivial⟩ ⟨rfl, trivial⟩ rfl rfl) fun i hi => ?_
  have hil := inp_len (n := n) (k := k) (i := i)
  by_cases hin : i < n.toNat
  · repeat' (first|refine R.mv rfl ?_|refine R.reg ?_|refine R.nil ?_|refine R.seq ?_|refine R.nseq ?_|refine R.nblk ?_|refine R.skip ?_|refine R.blk ?_|refine R.exit rfl ?_|refine R.lss rfl rfl ?_|refine R.add rfl rfl (by omega) ?_|refine R.and rfl rfl ?_|refine R.shr rfl rfl (by omega) ?_|refine R.bsl (f := enI) [andI ((k : Int) / 2 ^ i) 1] rfl rfl rfl rfl rfl ?_|refine R.app (f := enI) (fun _ => rfl) rfl rfl rfl rfl rfl ⟨by simp only [List.length_singleton]; omega, by simp only [List.length_singleton]; omega⟩ ?_|refine R.cond rfl (fun hc => ?_) (fun hc => ?_))
    all_goals first
      | (exfalso; omega)
      | exact R.nloop (R.again (i + 1) (by omega) (by omega) ⟨rfl, rfl, rfl, rfl, trivial⟩ ⟨arr_eq (by rw [inp_succ]), trivial⟩ rfl rfl)
  obtain rfl : i = n.toNat := by omega
  repeat' (first|refine R.mv rfl ?_|refine R.reg ?_|refine R.nil ?_|refine R.seq ?_|refine R.nseq ?_|refine R.skip ?_|refine R.blk ?_|refine R.exit rfl ?_|refine R.lss rfl rfl ?_|refine R.and rfl rfl ?_|refine R.shr rfl rfl (by omega) ?_|refine R.cond rfl (fun hc => ?_) (fun hc => ?_))
  all_goals first
    | (exfalso; omega)
    | exact R.ret ⟨.inr rfl, R.outN rfl rfl rfl⟩
theorem sTab (c : TCircuit) (h : okC c) : Spec Tryz.prog 28 [vP (enCircuit c)] (oN kR ((tabT c (2 ^ c.fInputs.toNat) 0).map enR)) := by
  refine Spec.walk T.mixed Tryz.func28 S.ok28 (by simp [Tryz.f28]) fun hk => ?_
  have hn := h.1
  have hO := h.2.2.1
  have hp := q16 hn
  have hc2 := q16c (n := c.fInputs)
  unfold S.s28
  repeat' (first|refine R.mv rfl ?_|refine R.reg ?_|refine R.nil ?_|refine R.seq ?_|refine R.nseq ?_|refine R.blk ?_|refine R.ld rfl rfl rfl ?_|refine R.fa rfl rfl ?_|refine R.lenM rfl ?_|refine R.nc rfl rfl ?_|refine R.mks (f := enR) ([] : List Int) rfl rfl rfl ⟨by omega, by omega⟩ (.cons ⟨rfl, rfl⟩ .nil) ?_)
  refine R.loop (G := Nat) (fun k => [(0, .v (.c (.d (.rp (enCircuit c))))), (3, .v (.c (.own 12))), (4, pvA (.int .i64 k))]) (fun k => [(12, .arr kR ((tabT c k 0).map enR) [])]) (fun k => k ≤ 2 ^ c.fInputs.toNat) (fun k => 2 ^ c.fInputs.toNat - k) 0 (by omega) (Weak.frame _ _ ⟨rfl, rfl, rfl, trivial⟩ ⟨arr_eq (by rw [tabT_zero, Int.toNat_natCast]), trivial⟩ rfl rfl) fun k hkn => ?_
  by_cases hkl : k < 2 ^ c.fInputs.toNat
  · have hin := inp_ok (n := c.fInputs) (k := k) hn.1
    have hel := evC_len (c := c) (l := inp c.fInputs k c.fInputs.toNat)
    repeat' (first|refine R.mv rfl ?_|refine R.reg ?_|refine R.nil ?_|refine R.seq ?_|refine R.nseq ?_|refine R.skip ?_|refine R.blk ?_|refine R.exit rfl ?_|refine R.ld rfl rfl rfl ?_|refine R.fa rfl rfl ?_|refine R.lss rfl rfl ?_|refine R.nc rfl rfl ?_|refine R.shl1 rfl rfl (by omega) (fun hp => ?_)|refine R.call (bor := false) rfl rfl (sInp c.fInputs k hn (by omega)) rfl rfl rfl ?_|refine R.call (bor := false) rfl rfl (sEvC c _ h hin) rfl rfl rfl ?_|refine R.cond rfl (fun hc => ?_) (fun hc => ?_))
    all_goals first | (exfalso; omega) | skip
    refine R.loop (G := Nat) (fun j => [(0, .v (.c (.d (.rp (enCircuit c))))), (3, .v (.c (.own 12))), (4, pvA (.int .i64 k)), (5, rdA kI (ints (evC c (inp c.fInputs k c.fInputs.toNat)))), (6, pvA (.int .i64 j))]) (fun j => [(12, .arr kR ((tabT c k j).map enR) [])]) (fun j => j ≤ c.fOutputs.length) (fun j => c.fOutputs.length - j) 0 (by omega) (Weak.frame _ _ ⟨rfl, rfl, rfl, rfl, rfl, trivial⟩ ⟨rfl, trivial⟩ rfl rfl) fun j hj => ?_
    by_cases hjl : j < c.fOutputs.length
    · obtain ⟨v, hv⟩ : ∃ v, (evC c (inp c.fInputs k c.fInputs.toNat))[j]? = some v := ⟨_, List.getElem?_eq_getElem (by omega)⟩
      have hrow := tabT_get (c := c) (k := k) hjl
      have hrl := rowT_len (c := c) (j := j) (k := k)
      have hrs : rowT c j (k + 1) = rowT c j k ++ [v] := by rw [rowT_succ]; simp [List.getD, hv]
      repeat' (first|refine R.nseqOpen 12 j 0 960041 rfl hrow rfl rfl ?_|refine R.ldHole rfl rfl hrow rfl (by decide) ?_|refine R.ixK v hv rfl rfl rfl ?_|refine R.ixOK (rowT c j k) hrow rfl rfl rfl ?_|refine R.mv rfl ?_|refine R.reg ?_|refine R.nil ?_|refine R.seq ?_|refine R.nseq ?_|refine R.nblk ?_|refine R.skip ?_|refine R.blk ?_|refine R.exit rfl ?_|refine R.ld rfl rfl rfl ?_|refine R.lenM rfl ?_|refine R.lss rfl rfl ?_|refine R.add rfl rfl (by omega) ?_|refine R.bslF (f := enI) [v] rfl rfl rfl rfl ?_|refine R.app (f := enI) (fun _ => rfl) rfl rfl rfl rfl rfl ⟨by simp only [List.length_singleton]; omega, by simp only [List.length_singleton]; omega⟩ ?_|refine R.stoA (rowT c j k ++ [v]) rfl rfl rfl rfl rfl rfl (by simp [clearHo, Ho.kill]) hrow rfl ⟨rfl, rfl, Nat.le_of_ble_eq_true rfl⟩ ?_|refine R.cond rfl (fun hc => ?_) (fun hc => ?_))

      all_goals first
        | (exfalso; omega)
        | exact R.nloop (R.again (j + 1) (by omega) (by omega) ⟨rfl, rfl, rfl, rfl, rfl, trivial⟩ ⟨arr_eq (by rw [← hrs, tabT_set]), trivial⟩ rfl rfl)
    obtain rfl : j = c.fOutputs.length := by omega
    repeat' (first|refine R.mv rfl ?_|refine R.reg ?_|refine R.nil ?_|refine R.seq ?_|refine R.nseq ?_|refine R.nblk ?_|refine R.skip ?_|refine R.blk ?_|refine R.exit rfl ?_|refine R.lenM rfl ?_|refine R.lss rfl rfl ?_|refine R.add rfl rfl (by omega) ?_|refine R.ixON rfl rfl rfl (by first|omega|(simp; omega)) (fun a' ha' => ?_)|refine R.cond rfl (fun hc => ?_) (fun hc => ?_))
    all_goals first
      | (exfalso; omega)
      | exact R.nloop (R.again (k + 1) (by omega) (by omega) ⟨rfl, rfl, rfl, trivial⟩ ⟨arr_eq (by rw [tabT_next]), trivial⟩ rfl rfl)
  obtain rfl : k = 2 ^ c.fInputs.toNat := by omega
  repeat' (first|refine R.mv rfl ?_|refine R.reg ?_|refine R.nil ?_|refine R.seq ?_|refine R.nseq ?_|refine R.skip ?_|refine R.blk ?_|refine R.exit rfl ?_|refine R.ld rfl rfl rfl ?_|refine R.fa rfl rfl ?_|refine R.lss rfl rfl ?_|refine R.nc rfl rfl ?_|refine R.shl1 rfl rfl (by omega) (fun hp => ?_)|refine R.cond rfl (fun hc => ?_) (fun hc => ?_))
  all_goals first
    | (exfalso; omega)
    | exact R.ret ⟨.inr rfl, R.outN rfl rfl rfl⟩
end
end Go.Proofs.YtehkaajakapkmaaGreat
