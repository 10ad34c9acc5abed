/- Swp and Scl0 and Scl1. -/
import Derived.Test.YtnkfbodolbfjpaaY22
import Derived.Test.YtnkfbodolbfjpaaPut1
import Derived.Test.YtnkfbodolbfjpaaBel
import Derived.Test.YtnkfbodolbfjpaaOutN
namespace Go.Proofs.Ytnkfbodolbfjpaa
open Go.RowKit
set_option maxRecDepth 100000 in
def S.s30 : SC := (.seq (.reg [⟨(.some 2), .none, .false, (.box 64 (.tmp 0))⟩, ⟨(.some 4), .none, .false, (.al 64 [(Go.Value.slice none 0 0)])⟩, ⟨(.some 5), .none, .false, (.mv (.const (Go.Value.int Go.IntKind.i64 0)))⟩]) (.seq (.seq (.reg [⟨(.some 8), .none, .false, (.call (.func 92) [(.tmp 2)])⟩, ⟨(.some 9), .none, .false, (.not (.tmp 8))⟩]) (.cond (.tmp 9) (.seq (.reg [⟨(.some 10), .none, .false, (.bld [(Go.Value.slice none 0 0)] [(0, 1)] [])⟩, ⟨.none, .none, .false, (.sto 1 (.tmp 4) (.tmp 10))⟩, ⟨(.some 5), .none, .false, (.mv (.const (Go.Value.int Go.IntKind.i64 1)))⟩]) .ret) .skip)) (.seq (.seq (.reg [⟨(.some 11), .none, .false, (.mv (.tmp 1))⟩, ⟨(.some 12), .none, .false, (.call (.func 93) [(.tmp 11), (.const (Go.Value.int Go.IntKind.i64 1)), (.const (Go.Value.int Go.IntKind.i64 4))])⟩, ⟨(.some 13), .none, .false, (.not (.tmp 12))⟩]) (.cond (.tmp 13) (.seq (.reg [⟨(.some 14), .none, .false, (.bld [(Go.Value.slice none 0 0)] [(0, 1)] [])⟩, ⟨.none, .none, .false, (.sto 1 (.tmp 4) (.tmp 14))⟩, ⟨(.some 5), .none, .false, (.mv (.const (Go.Value.int Go.IntKind.i64 2)))⟩]) .ret) .skip)) (.seq (.reg [⟨(.some 16), .none, .false, (.mv (.tmp 1))⟩, ⟨(.some 17), .none, .false, (.call (.func 94) [(.tmp 2), (.tmp 16)])⟩, ⟨(.some 15), .none, .false, (.mv (.tmp 17))⟩, ⟨(.some 18), .none, .false, (.ext (.tmp 15) 0)⟩, ⟨(.some 19), .none, .false, (.ext (.tmp 15) 1)⟩, ⟨(.some 6), .none, .false, (.al 64 [(Go.Value.slice none 0 0)])⟩, ⟨.none, .none, .false, (.sto 1 (.tmp 6) (.tmp 18))⟩, ⟨(.some 7), .none, .false, (.mv (.tmp 19))⟩]) (.seq (.seq (.reg [⟨(.some 20), .none, .false, (.mv (.tmp 7))⟩, ⟨(.some 21), .none, .false, (.not (.tmp 20))⟩]) (.cond (.tmp 21) (.seq (.reg [⟨(.some 22), .none, .false, (.bld [(Go.Value.slice none 0 0)] [(0, 1)] [])⟩, ⟨.none, .none, .false, (.sto 1 (.tmp 4) (.tmp 22))⟩, ⟨(.some 5), .none, .false, (.mv (.const (Go.Value.int Go.IntKind.i64 4)))⟩]) .ret) .skip)) (.seq (.reg [⟨(.some 23), .none, .false, (.ld .true 1 (.tmp 6))⟩, ⟨.none, .none, .false, (.sto 1 (.tmp 4) (.tmp 23))⟩, ⟨(.some 5), .none, .false, (.mv (.const (Go.Value.int Go.IntKind.i64 0)))⟩]) .ret))))))
set_option maxRecDepth 100000 in
theorem S.ok30 : stripF Try.prog Try.f30 = some S.s30 := by kernel_rfl
set_option maxRecDepth 100000 in
def S.s94 : SC := (.seq (.reg [⟨(.some 4), .none, .false, (.al 64 [(Go.Value.slice none 0 0)])⟩, ⟨(.some 5), .none, .false, (.mv (.const (Go.Value.bool false)))⟩]) (.seq (.seq (.reg [⟨(.some 12), .none, .false, (.mv (.tmp 0))⟩, ⟨(.some 13), .none, .false, (.nc (.tmp 12))⟩, ⟨(.some 14), .none, .false, (.fa 0 (.tmp 13))⟩, ⟨(.some 15), .none, .false, (.ld .false 1 (.tmp 14))⟩, ⟨(.some 16), .none, .false, (.len (.tmp 15))⟩, ⟨(.some 17), .none, .false, (.mv (.tmp 1))⟩, ⟨(.some 18), .none, .false, (.bin .mul (.tmp 16) (.tmp 17))⟩, ⟨(.some 19), .none, .false, (.mv (.tmp 1))⟩, ⟨(.some 20), .none, .false, (.bin .mul (.tmp 18) (.tmp 19))⟩, ⟨(.some 21), .none, .false, (.bin .gtr (.tmp 20) (.const (Go.Value.int Go.IntKind.i64 500)))⟩]) (.cond (.tmp 21) (.seq (.reg [⟨(.some 22), .none, .false, (.bld [(Go.Value.slice none 0 0)] [(0, 1)] [])⟩, ⟨.none, .none, .false, (.sto 1 (.tmp 4) (.tmp 22))⟩, ⟨(.some 5), .none, .false, (.mv (.const (Go.Value.bool false)))⟩]) .ret) .skip)) (.seq (.reg [⟨(.some 23), .none, .false, (.bld [(Go.Value.slice none 0 0)] [(0, 1)] [])⟩, ⟨(.some 6), .none, .false, (.al 64 [(Go.Value.slice none 0 0)])⟩, ⟨.none, .none, .false, (.sto 1 (.tmp 6) (.tmp 23))⟩]) (.seq (.seq (.reg [⟨(.some 7), .none, .false, (.mv (.const (Go.Value.int Go.IntKind.i64 0)))⟩]) (.block 0 (.loop (.seq (.seq (.reg [⟨(.some 24), .none, .false, (.mv (.tmp 7))⟩, ⟨(.some 25), .none, .false, (.mv (.tmp 0))⟩, ⟨(.some 26), .none, .false, (.nc (.tmp 25))⟩, ⟨(.some 27), .none, .false, (.fa 0 (.tmp 26))⟩, ⟨(.some 28), .none, .false, (.ld .false 1 (.tmp 27))⟩, ⟨(.some 29), .none, .false, (.len (.tmp 28))⟩, ⟨(.some 30), .none, .false, (.bin .lss (.tmp 24) (.tmp 29))⟩]) (.cond (.tmp 30) .skip (.exit 0))) (.seq (.block 1 (.seq (.reg [⟨(.some 33), .none, .false, (.mv (.tmp 0))⟩, ⟨(.some 34), .none, .false, (.nc (.tmp 33))⟩, ⟨(.some 35), .none, .false, (.fa 0 (.tmp 34))⟩, ⟨(.some 36), .none, .false, (.ld .false 1 (.tmp 35))⟩, ⟨(.some 37), .none, .false, (.mv (.tmp 7))⟩, ⟨(.some 38), .none, .false, (.ix (.mk 153 3) (.tmp 36) (.tmp 37))⟩, ⟨(.some 39), .none, .false, (.ld .true 3 (.tmp 38))⟩, ⟨(.some 8), .none, .false, (.al 153 [(Go.Value.int Go.IntKind.i64 0), (Go.Value.int Go.IntKind.i64 0), (Go.Value.int Go.IntKind.i64 0)])⟩, ⟨.none, .none, .false, (.sto 3 (.tmp 8) (.tmp 39))⟩]) (.seq (.reg [⟨(.some 9), .none, .false, (.mv (.const (Go.Value.int Go.IntKind.i64 0)))⟩]) (.block 2 (.loop (.seq (.seq (.reg [⟨(.some 40), .none, .false, (.mv (.tmp 9))⟩, ⟨(.some 41), .none, .false, (.mv (.tmp 1))⟩, ⟨(.some 42), .none, .false, (.mv (.tmp 1))⟩, ⟨(.some 43), .none, .false, (.bin .mul (.tmp 41) (.tmp 42))⟩, ⟨(.some 44), .none, .false, (.bin .lss (.tmp 40) (.tmp 43))⟩]) (.cond (.tmp 44) .skip (.exit 2))) (.seq (.block 3 (.seq (.regA [⟨(.some 47), .none, .true, (.fa 0 (.tmp 8))⟩, ⟨(.some 48), .none, .true, (.ld .true 2 (.tmp 47))⟩, ⟨(.some 49), .none, .true, (.mv (.tmp 9))⟩, ⟨(.some 50), .none, .true, (.mv (.tmp 1))⟩, ⟨(.some 51), .none, .true, (.bin .rem (.tmp 49) (.tmp 50))⟩, ⟨(.some 52), .none, .true, (.mv (.tmp 9))⟩, ⟨(.some 53), .none, .true, (.mv (.tmp 1))⟩, ⟨(.some 54), .none, .true, (.bin .quo (.tmp 52) (.tmp 53))⟩, ⟨(.some 55), .none, .true, (.mv (.tmp 1))⟩, ⟨(.some 56), .none, .true, (.fcal (.func 162) [(.tmp 48), (.tmp 51), (.tmp 54), (.tmp 55)])⟩, ⟨(.some 10), .none, .true, .kil⟩] [(10, (151, [(Go.Value.int Go.IntKind.i64 0), (Go.Value.int Go.IntKind.i64 0)]))] [⟨.none, .none, .false, (.sto 2 (.tmp 10) (.tmp 56))⟩]) (.seq (.reg [⟨(.some 57), .none, .false, (.fa 2 (.tmp 8))⟩, ⟨(.some 58), .none, .false, (.ld .false 1 (.tmp 57))⟩, ⟨(.some 59), .none, .false, (.mv (.tmp 1))⟩, ⟨(.some 60), .none, .false, (.bin .mul (.tmp 58) (.tmp 59))⟩, ⟨(.some 61), .none, .false, (.mv (.tmp 1))⟩, ⟨(.some 62), .none, .false, (.bin .mul (.tmp 60) (.tmp 61))⟩, ⟨(.some 63), .none, .false, (.mv (.tmp 9))⟩, ⟨(.some 64), .none, .false, (.bin .add (.tmp 62) (.tmp 63))⟩, ⟨(.some 11), .none, .false, (.mv (.tmp 64))⟩]) (.seq (.seq (.reg [⟨(.some 65), .none, .false, (.ld .true 2 (.tmp 10))⟩, ⟨(.some 66), .none, .false, (.call (.func 160) [(.tmp 65)])⟩, ⟨(.some 67), .none, .false, (.not (.tmp 66))⟩, ⟨(.some 68), .none, .false, (.mv (.tmp 67))⟩, ⟨(.some 69), (.some (68, .false)), .false, (.mv (.tmp 11))⟩, ⟨(.some 70), (.some (68, .false)), .false, (.bin .geq (.tmp 69) (.const (Go.Value.int Go.IntKind.i64 160)))⟩, ⟨(.some 71), .none, .false, (.pick (.tmp 68) (.const (Go.Value.bool true)) (.tmp 70))⟩]) (.cond (.tmp 71) (.seq (.reg [⟨(.some 72), .none, .false, (.bld [(Go.Value.slice none 0 0)] [(0, 1)] [])⟩, ⟨.none, .none, .false, (.sto 1 (.tmp 4) (.tmp 72))⟩, ⟨(.some 5), .none, .false, (.mv (.const (Go.Value.bool false)))⟩]) .ret) .skip)) (.reg [⟨(.some 73), .none, .false, (.ld .true 2 (.tmp 10))⟩, ⟨(.some 74), .none, .false, (.mv (.tmp 11))⟩, ⟨(.some 75), .none, .false, (.call (.func 163) [(.tmp 6), (.tmp 73), (.tmp 74)])⟩, ⟨.none, .none, .false, (.sto 1 (.tmp 6) (.tmp 75))⟩]))))) (.reg [⟨(.some 45), .none, .false, (.mv (.tmp 9))⟩, ⟨(.some 46), .none, .false, (.bin .add (.tmp 45) (.const (Go.Value.int Go.IntKind.i64 1)))⟩, ⟨(.some 9), .none, .false, (.mv (.tmp 46))⟩])))))))) (.reg [⟨(.some 31), .none, .false, (.mv (.tmp 7))⟩, ⟨(.some 32), .none, .false, (.bin .add (.tmp 31) (.const (Go.Value.int Go.IntKind.i64 1)))⟩, ⟨(.some 7), .none, .false, (.mv (.tmp 32))⟩])))))) (.seq (.reg [⟨(.some 76), .none, .false, (.ld .true 1 (.tmp 6))⟩, ⟨.none, .none, .false, (.sto 1 (.tmp 4) (.tmp 76))⟩, ⟨(.some 5), .none, .false, (.mv (.const (Go.Value.bool true)))⟩]) .ret)))))
set_option maxRecDepth 100000 in
theorem S.ok94 : stripF Try.prog Try.f94 = some S.s94 := by kernel_rfl
set_option maxRecDepth 100000 in
def S.s162 : SC := (.seq (.reg [⟨(.some 4), .none, .false, (.box 151 (.tmp 0))⟩, ⟨(.some 8), .none, .false, (.al 151 [(Go.Value.int Go.IntKind.i64 0), (Go.Value.int Go.IntKind.i64 0)])⟩]) (.seq (.reg [⟨(.some 9), .none, .false, (.fa 0 (.tmp 4))⟩, ⟨(.some 10), .none, .false, (.ld .false 1 (.tmp 9))⟩, ⟨(.some 11), .none, .false, (.mv (.tmp 3))⟩, ⟨(.some 12), .none, .false, (.bin .mul (.tmp 10) (.tmp 11))⟩, ⟨(.some 13), .none, .false, (.mv (.tmp 1))⟩, ⟨(.some 14), .none, .false, (.bin .add (.tmp 12) (.tmp 13))⟩, ⟨(.some 15), .none, .false, (.fa 1 (.tmp 4))⟩, ⟨(.some 16), .none, .false, (.ld .false 1 (.tmp 15))⟩, ⟨(.some 17), .none, .false, (.mv (.tmp 3))⟩, ⟨(.some 18), .none, .false, (.bin .mul (.tmp 16) (.tmp 17))⟩, ⟨(.some 19), .none, .false, (.mv (.tmp 2))⟩, ⟨(.some 20), .none, .false, (.bin .add (.tmp 18) (.tmp 19))⟩, ⟨(.some 21), .none, .false, (.bld [(Go.Value.int Go.IntKind.i64 0), (Go.Value.int Go.IntKind.i64 0)] [(0, 1), (1, 1)] [(0, (.tmp 14)), (1, (.tmp 20))])⟩, ⟨.none, .none, .false, (.sto 2 (.tmp 8) (.tmp 21))⟩]) .ret))
set_option maxRecDepth 100000 in
theorem S.ok162 : stripF Try.prog Try.f162 = some S.s162 := by kernel_rfl
set_option maxRecDepth 20000
set_option maxHeartbeats 8000000
def sw2 (p q o : Nat) : Nat := if o = p then q else if o = q then p else o
theorem sw2_sw2 (p q o : Nat) : sw2 p q (sw2 p q o) = o := by
  unfold sw2
  by_cases h1 : o = p
  · subst h1
    rw [if_pos rfl]
    by_cases h2 : q = o
    · subst h2; simp
    · rw [if_neg h2, if_pos rfl]
  · rw [if_neg h1]
    by_cases h2 : o = q
    · subst h2; rw [if_pos rfl, if_pos rfl]
    · rw [if_neg h2, if_neg h1, if_neg h2]
theorem sw2_pin {p q o : Nat} (hp : p < pinN) (hq : q < pinN) (ho : pinN ≤ o) : sw2 p q o = o := by
  unfold sw2
  rw [if_neg (by omega), if_neg (by omega)]
def St.swap (p q : Nat) (st : St) : St := ⟨fun d => (st.env d).ren (sw2 p q), fun o => (st.objs (sw2 p q o)).map (Ob.ren (sw2 p q))⟩
/-- Two objects change their names. -/
theorem Weak.swap {st : St} (p q : Nat) (hp : Nat.blt p pinN = true) (hq : Nat.blt q pinN = true) : Weak st (st.swap p q) := fun F R ι φ a w hs => by
  have hp : p < pinN := Nat.le_of_ble_eq_true hp
  have hq : q < pinN := Nat.le_of_ble_eq_true hq
  have hσ : ∀ j, st.dom j → (st.swap p q).dom (sw2 p q j) ∧ (fun o => ι (sw2 p q o)) (sw2 p q j) = ι j := fun j ⟨x, hx⟩ =>
    ⟨⟨x.ren (sw2 p q), by show (st.objs (sw2 p q (sw2 p q j))).map _ = _; rw [sw2_sw2, hx]; rfl⟩, by show ι (sw2 p q (sw2 p q j)) = _; rw [sw2_sw2]⟩
  have hob : ∀ o x, (st.swap p q).objs o = some x → ∃ y, st.objs (sw2 p q o) = some y ∧ x = y.ren (sw2 p q) := fun o x hx => by
    have hx : (st.objs (sw2 p q o)).map (Ob.ren (sw2 p q)) = some x := hx
    cases hy : st.objs (sw2 p q o) with
    | none => rw [hy] at hx; cases hx
    | some y => rw [hy] at hx; cases hx; exact ⟨y, rfl, rfl⟩
  refine ⟨R, fun o => ι (sw2 p q o), fun o => φ (sw2 p q o), hs.below, hs.rlt, hs.rsub, hs.rnew, hs.size, hs.defers, fun d => RA.ren hσ (.inl fun _ h => h) (hs.env d), fun o x hx => ?_, fun o x hx => ?_, fun o o' x x' g hx hx' h1 h2 => ?_, fun o ho => ?_⟩
  · obtain ⟨y, hy, rfl⟩ := hob o x hx
    exact RO.ren hσ (.inl fun _ h => h) (hs.objs _ y hy)
  · obtain ⟨y, hy, rfl⟩ := hob o x hx
    exact hs.mine _ y hy
  · obtain ⟨y, hy, rfl⟩ := hob o x hx
    obtain ⟨y', hy', rfl⟩ := hob o' x' hx'
    have := hs.apart _ _ y y' g hy hy' h1 h2
    rw [← sw2_sw2 p q o, this, sw2_sw2]
  · show ι (sw2 p q o) = _
    rw [sw2_pin hp hq ho]
    exact hs.pin o ho
/-- The cell c of the block of a tile. -/
def clP (t : TPlaced) (k : Int) (c : Nat) : TPlaced := ⟨⟨t.fAt.fX * k + (c : Int) % k, t.fAt.fY * k + (c : Int) / k⟩, t.fTile * k * k + c⟩
def blkL (t : TPlaced) (k : Int) (n : Nat) : List TPlaced := (List.range n).map (clP t k)
theorem blkL_succ {t : TPlaced} {k : Int} {n : Nat} : blkL t k (n + 1) = blkL t k n ++ [clP t k n] := by unfold blkL; rw [List.range_succ, List.map_append]; rfl
theorem blkL_len {t : TPlaced} {k : Int} {n : Nat} : (blkL t k n).length = n := by unfold blkL; simp
def allL (l : List TPlaced) (k : Int) : List TPlaced := l.flatMap fun t => blkL t k (k * k).toNat
theorem allL_snoc {l : List TPlaced} {k : Int} {i : Nat} {x : TPlaced} (h : l[i]? = some x) : allL (l.take (i + 1)) k = allL (l.take i) k ++ blkL x k (k * k).toNat := by
  unfold allL
  rw [take_snoc h, List.flatMap_append]
  simp
theorem allL_len {k : Int} : ∀ {l : List TPlaced}, (allL l k).length = l.length * (k * k).toNat
  | [] => by simp [allL]
  | t :: l => by
    show (blkL t k (k * k).toNat ++ allL l k).length = _
    rw [List.length_append, blkL_len, allL_len (l := l), List.length_cons, Nat.succ_mul]
    omega
def insL (l : List TPlaced) : List TPlaced := l.foldl putP []
theorem insL_snoc {l : List TPlaced} {q : TPlaced} : insL (l ++ [q]) = putP (insL l) q := by unfold insL; rw [List.foldl_append]; rfl
theorem foldP_len : ∀ {l out : List TPlaced}, (l.foldl putP out).length = out.length + l.length
  | [], _ => rfl
  | q :: l, out => by
    show ((l.foldl putP (putP out q))).length = _
    rw [foldP_len, putP_len, List.length_cons]
    omega
theorem insL_len {l : List TPlaced} : (insL l).length = l.length := by unfold insL; rw [foldP_len]; simp
def okC (t : TPlaced) : Prop := okP t.fAt ∧ t.fTile < 160
def okS (l : List TPlaced) (k : Int) : Prop := (l.length : Int) * k * k ≤ 500 ∧ ∀ (i : Nat) (t : TPlaced) (c : Nat), l[i]? = some t → c < (k * k).toNat → okC (clP t k c)
open Classical in
noncomputable def fScl (l : List TPlaced) (k : Int) : List TPlaced × Bool := if okS l k then (insL (allL l k), true) else ([], false)
def rngK (k : Int) : Prop := 1 ≤ k ∧ k ≤ 4
theorem rngK.sq {k : Int} (h : rngK k) : 1 ≤ k * k ∧ k * k ≤ 16 := by
  have h' : k = 1 ∨ k = 2 ∨ k = 3 ∨ k = 4 := by unfold rngK at h; omega
  rcases h' with rfl | rfl | rfl | rfl <;> omega
theorem rngK.mul {k a M : Int} (h : rngK k) (ha : -M ≤ a ∧ a ≤ M) (hM : 0 ≤ M) : -(4 * M) ≤ a * k ∧ a * k ≤ 4 * M := by
  have h' : k = 1 ∨ k = 2 ∨ k = 3 ∨ k = 4 := by unfold rngK at h; omega
  rcases h' with rfl | rfl | rfl | rfl <;> omega

-- what is put tile by tile is what is sorted
theorem putP_perm {q : TPlaced} : ∀ {l : List TPlaced}, (putP l q).Perm (q :: l)
  | [] => .refl _
  | x :: xs => by
    rw [putP]
    split
    · exact .refl _
    · exact ((putP_perm (l := xs)).cons x).trans (.swap q x xs)
theorem foldP_perm : ∀ {l out : List TPlaced}, (l.foldl putP out).Perm (out ++ l)
  | [], out => by rw [List.append_nil]; exact .refl _
  | q :: l, out => by
    refine (foldP_perm (l := l) (out := putP out q)).trans ?_
    refine ((putP_perm (q := q) (l := out)).append_right l).trans ?_
    exact (List.perm_middle (l₁ := out) (l₂ := l) (a := q)).symm
theorem insL_perm (l : List TPlaced) : (insL l).Perm l := foldP_perm
def ltA (a b : TPlaced) : Prop := ltP a.fAt b.fAt
def neA (a b : TPlaced) : Prop := a.fAt ≠ b.fAt
theorem putP_pw {q : TPlaced} : ∀ {l : List TPlaced}, l.Pairwise ltA → (∀ x ∈ l, x.fAt ≠ q.fAt) → (putP l q).Pairwise ltA
  | [], _, _ => by rw [putP]; exact .cons (fun _ h => by cases h) .nil
  | x :: xs, h, hne => by
    obtain ⟨h1, h2⟩ := List.pairwise_cons.1 h
    rw [putP]
    split
    · rename_i hq
      refine .cons (fun y hy => ?_) h
      rcases List.mem_cons.1 hy with rfl | hy
      · exact hq
      · exact ltP_trans hq (h1 y hy)
    · rename_i hq
      refine .cons (fun y hy => ?_) (putP_pw h2 fun y hy => hne y (by simp [hy]))
      rcases List.mem_cons.1 ((putP_perm (q := q) (l := xs)).mem_iff.1 hy) with rfl | hy
      · exact ltP_tri hq fun e => hne x (by simp) e.symm
      · exact h1 y hy
theorem foldP_pw : ∀ {l out : List TPlaced}, out.Pairwise ltA → (out ++ l).Pairwise neA → (l.foldl putP out).Pairwise ltA
  | [], _, h, _ => h
  | q :: l, out, h, hne => by
    have hsym : ∀ {x y : TPlaced}, neA x y → neA y x := fun h e => h e.symm
    obtain ⟨h1, h2, h3⟩ := List.pairwise_append.1 hne
    refine foldP_pw (l := l) (putP_pw h fun x hx => h3 x hx q (by simp)) ?_
    have hp : (putP out q ++ l).Perm (out ++ q :: l) := ((putP_perm (q := q) (l := out)).append_right l).trans (List.perm_middle (l₁ := out) (l₂ := l) (a := q)).symm
    exact (hp.pairwise_iff hsym).2 hne
theorem insL_pw {l : List TPlaced} (h : l.Pairwise neA) : (insL l).Pairwise ltA := foldP_pw .nil h
/-- There is one ascending order of tiles that lie at places of their own. -/
theorem insL_uniq {l m : List TPlaced} (h : l.Pairwise neA) (hp : m.Perm l) (hs : m.Pairwise fun a b => ¬ ltP b.fAt a.fAt) : m = insL l := by
  have hsym : ∀ {x y : TPlaced}, neA x y → neA y x := fun h e => h e.symm
  have hne := (hp.pairwise_iff hsym).2 h
  have hlt : m.Pairwise ltA := (hs.and hne).imp fun {a b} ⟨h1, h2⟩ => ltP_tri h1 fun e => h2 e.symm
  exact List.Perm.eq_of_pairwise (le := ltA) (fun a b _ _ h1 h2 => absurd (ltP_trans h1 h2) (ltP_irrefl _)) hlt (insL_pw h) (hp.trans (insL_perm l).symm)
theorem okA_pw {l : List TPlaced} (h : okA l) : l.Pairwise neA := List.pairwise_iff_getElem.2 fun i j hi hj hij e => by
  have := at_lt h.2 hij (List.getElem?_eq_getElem hi) (List.getElem?_eq_getElem hj)
  rw [e] at this
  exact ltP_irrefl _ this
theorem clP_inj {t s : TPlaced} {k : Int} {c d : Nat} (hk : rngK k) (hc : c < (k * k).toNat) (hd : d < (k * k).toNat) (h : (clP t k c).fAt = (clP s k d).fAt) : t.fAt = s.fAt ∧ c = d := by
  have hx : t.fAt.fX * k + (c : Int) % k = s.fAt.fX * k + (d : Int) % k := congrArg TPoint.fX h
  have hy : t.fAt.fY * k + (c : Int) / k = s.fAt.fY * k + (d : Int) / k := congrArg TPoint.fY h
  have h' : k = 1 ∨ k = 2 ∨ k = 3 ∨ k = 4 := by unfold rngK at hk; omega
  have e : t.fAt.fX = s.fAt.fX ∧ t.fAt.fY = s.fAt.fY ∧ c = d := by
    rcases h' with rfl | rfl | rfl | rfl <;> simp only [Int.reduceMul, Int.reduceToNat] at hc hd <;> omega
  refine ⟨?_, e.2.2⟩
  cases ht : t.fAt with
  | mk x y => cases hs : s.fAt with
    | mk x' y' => rw [ht, hs] at e; rw [show x = x' from e.1, show y = y' from e.2.1]
theorem blkL_pw {t : TPlaced} {k : Int} (hk : rngK k) : (blkL t k (k * k).toNat).Pairwise neA := by
  unfold blkL
  refine List.pairwise_map.2 (List.pairwise_iff_getElem.2 fun i j hi hj hij e => ?_)
  rw [List.getElem_range, List.getElem_range] at e
  rw [List.length_range] at hi hj
  have := (clP_inj hk hi hj e).2
  omega
theorem allL_pw {l : List TPlaced} {k : Int} (hk : rngK k) (h : l.Pairwise neA) : (allL l k).Pairwise neA := by
  unfold allL
  refine List.pairwise_flatMap.2 ⟨fun a _ => blkL_pw hk, h.imp fun {a b} hab x hx y hy e => ?_⟩
  obtain ⟨c, hc, rfl⟩ := List.mem_map.1 hx
  obtain ⟨d, hd, rfl⟩ := List.mem_map.1 hy
  exact hab (clP_inj hk (List.mem_range.1 hc) (List.mem_range.1 hd) e).1
/-- Whether the scaled assembly has the form of one. -/
theorem okA_ins {l : List TPlaced} {k : Int} (hl : okA l) (hk : rngK k) : okA (insL (allL l k)) ↔ okS l k := by
  have hpw := insL_pw (allL_pw hk (okA_pw hl))
  have hlen : (insL (allL l k)).length = l.length * (k * k).toNat := by rw [insL_len, allL_len]
  have hcast : ((l.length * (k * k).toNat : Nat) : Int) = (l.length : Int) * k * k := by
    have := hk.sq
    rw [Int.natCast_mul, show ((k * k).toNat : Int) = k * k by omega, Int.mul_assoc]
  have hmem : ∀ x : TPlaced, x ∈ insL (allL l k) ↔ ∃ t ∈ l, ∃ c, c < (k * k).toNat ∧ x = clP t k c := fun x => by
    rw [(insL_perm _).mem_iff]
    unfold allL blkL
    simp only [List.mem_flatMap, List.mem_map, List.mem_range]
    constructor
    · rintro ⟨t, ht, c, hc, rfl⟩; exact ⟨t, ht, c, hc, rfl⟩
    · rintro ⟨t, ht, c, hc, rfl⟩; exact ⟨t, ht, c, hc, rfl⟩
  constructor
  · rintro ⟨h1, h2⟩
    refine ⟨by omega, fun i t c ht hc => ?_⟩
    obtain ⟨j, hj⟩ := List.getElem?_of_mem ((hmem (clP t k c)).2 ⟨t, List.mem_of_getElem? ht, c, hc, rfl⟩)
    obtain ⟨⟨h3, h4⟩, -⟩ := h2 j _ (List.getElem?_eq_some_iff.1 hj).1 hj
    exact ⟨h3, by omega⟩
  · rintro ⟨h1, h2⟩
    refine ⟨by omega, fun j x hj hx => ⟨?_, fun s h0 hs => ?_⟩⟩
    · obtain ⟨t, ht, c, hc, rfl⟩ := (hmem x).1 (List.mem_of_getElem? hx)
      obtain ⟨i, hi⟩ := List.getElem?_of_mem ht
      obtain ⟨h3, h4⟩ := h2 i t c hi hc
      obtain ⟨⟨-, h5, -⟩, -⟩ := hl.2 i t (List.getElem?_eq_some_iff.1 hi).1 hi
      have h6 : 0 ≤ t.fTile * k * k := Int.mul_nonneg (Int.mul_nonneg h5 (by have := hk.1; omega)) (by have := hk.1; omega)
      refine ⟨h3, ?_, ?_⟩
      · show 0 ≤ t.fTile * k * k + (c : Int); omega
      · omega
    · obtain ⟨hj1, rfl⟩ := List.getElem?_eq_some_iff.1 hx
      obtain ⟨hs1, rfl⟩ := List.getElem?_eq_some_iff.1 hs
      exact List.pairwise_iff_getElem.1 hpw (j - 1) j hs1 hj1 (by omega)
theorem sCellK (p : TPoint) (x y k : Int) (hk : rngK k) (hp : (-60 ≤ p.fX ∧ p.fX ≤ 60) ∧ (-60 ≤ p.fY ∧ p.fY ≤ 60)) (hx : 0 ≤ x ∧ x ≤ 100) (hy : 0 ≤ y ∧ y ≤ 100) : Spec Try.prog 162 [.agg (enPoint p), vI x, vI y, vI k] (.v (.agg [.fz (iD (p.fX * k + x)), .fz (iD (p.fY * k + y))])) := by
  have h1 := hk.mul (M := 60) hp.1 (by omega)
  have h2 := hk.mul (M := 60) hp.2 (by omega)
  refine Spec.walk T.mixed Try.func162 S.ok162 (by simp [Try.f162]) fun hk => ?_
  clear hk
  unfold S.s162
  repeat' (first | refine R.mv rfl ?_ | refine R.reg ?_ | refine R.nil ?_ | refine R.seq ?_ | refine R.nseq ?_ | refine R.nblk ?_ | refine R.skip ?_ | refine R.blk ?_ | refine R.exit rfl ?_ | refine R.ldEp rfl rfl (by assumption) rfl rfl ?_ | refine R.ldaEp rfl rfl (by assumption) (Nat.le_of_ble_eq_true rfl) rfl rfl ?_ | refine R.ld rfl rfl rfl ?_ | refine R.lda rfl rfl (Nat.le_of_ble_eq_true rfl) rfl ?_ | refine R.fa rfl rfl ?_ | refine R.add rfl rfl (by omega) ?_ | refine R.al rfl ?_ | refine R.box rfl rfl rfl ?_ | refine R.stoB rfl rfl rfl rfl ⟨rfl, rfl, Nat.le_of_ble_eq_true rfl⟩ rfl ?_ | refine R.stoE _ rfl rfl rfl rfl rfl (by assumption) rfl ⟨rfl, rfl, Nat.le_of_ble_eq_true rfl⟩ ?_ | refine R.bld rfl rfl ?_ | refine R.condT rfl ?_ | refine R.condF rfl ?_ | refine R.mul rfl rfl ⟨by omega, by omega⟩ ?_ | refine R.cond rfl (fun hc => ?_) (fun hc => ?_) | refine R.condN rfl (fun hc => ?_) (fun hc => ?_) | refine R.condB rfl (fun hc => ?_) (fun hc => ?_))
  all_goals first
    | (exfalso; omega)
    | exact R.ret ⟨.inr rfl, R.outR rfl (.cons (R.cell rfl rfl T.ty151 (Nat.le_of_ble_eq_true rfl) rfl) .nil) rfl rfl rfl rfl⟩
    | skip
theorem sScale (A : TAssembly) (k : Int) (hA : okA A.fTiles) (hkk : rngK k) : Spec Try.prog 94 [vP (enAssembly A), vI k] (.tup [.agg [.nw kPlaced ((fScl A.fTiles k).1.map enPlaced)], .c (.fz (bD (fScl A.fTiles k).2))]) := by
  obtain ⟨hlen, hat⟩ := hA
  have hk0 := hkk
  obtain ⟨hk1, hk4⟩ := hk0
  have hsq := hkk.sq
  have hn2 : ((k * k).toNat : Int) = k * k := by omega
  have hm1 : 0 ≤ (A.fTiles.length : Int) * k ∧ (A.fTiles.length : Int) * k ≤ 2000 := by
    have := hkk.mul (a := (A.fTiles.length : Int)) (M := 500) ⟨by omega, by omega⟩ (by omega)
    exact ⟨Int.mul_nonneg (by omega) (by omega), by omega⟩
  have hm2 : 0 ≤ (A.fTiles.length : Int) * k * k ∧ (A.fTiles.length : Int) * k * k ≤ 8000 := by
    have := hkk.mul (a := (A.fTiles.length : Int) * k) (M := 2000) ⟨by omega, by omega⟩ (by omega)
    exact ⟨Int.mul_nonneg hm1.1 (by omega), by omega⟩
  refine Spec.walk T.mixed Try.func94 S.ok94 (by simp [Try.f94]) fun hk => ?_
  clear hk
  unfold S.s94
  by_cases hL : (A.fTiles.length : Int) * k * k ≤ 500
  case neg =>
    rw [show fScl A.fTiles k = ([], false) from if_neg fun h => hL h.1]
    repeat' (first | refine R.mv rfl ?_ | refine R.reg ?_ | refine R.regA ?_ | refine R.nal rfl ?_ | refine R.nal0 ?_ | refine R.kil ?_ | refine R.nil ?_ | refine R.seq ?_ | refine R.nseq ?_ | refine R.nblk ?_ | refine R.skip ?_ | refine R.blk ?_ | refine R.exit rfl ?_ | refine R.gRun rfl ?_ | refine R.gSkip rfl ?_ | refine R.gSkip0 rfl ?_ | refine R.gUndef rfl ?_ | refine R.gUndef0 rfl ?_ | refine R.ldEp rfl rfl (by assumption) rfl rfl ?_ | refine R.ldaEp rfl rfl (by assumption) (Nat.le_of_ble_eq_true rfl) rfl rfl ?_ | refine R.ld rfl rfl rfl ?_ | refine R.lda rfl rfl (Nat.le_of_ble_eq_true rfl) rfl ?_ | refine R.fa rfl rfl ?_ | refine R.lenM rfl ?_ | refine R.lenO rfl rfl ?_ | refine R.len rfl rfl ?_ | refine R.lss rfl rfl ?_ | refine R.gtr rfl rfl ?_ | refine R.geq rfl rfl ?_ | refine R.add rfl rfl (by omega) ?_ | refine R.ixN rfl rfl rfl (by omega) (fun a ha => ?_) | refine R.ixM rfl rfl rfl (by omega) (fun a ha => ?_) | refine R.ixON rfl rfl rfl (by first | omega | (simp; omega)) (fun a' ha' => ?_) | refine R.ixO rfl rfl rfl (by first | omega | (simp; omega)) (fun a' ha' => ?_) | refine R.pickT rfl rfl ?_ | refine R.pickF rfl rfl ?_ | refine R.not rfl ?_ | refine R.nc rfl rfl ?_ | refine R.nc0 rfl rfl ?_ | refine R.al rfl ?_ | refine R.stoB rfl rfl rfl rfl ⟨rfl, rfl, Nat.le_of_ble_eq_true rfl⟩ rfl ?_ | refine R.stoE _ rfl rfl rfl rfl rfl (by assumption) rfl ⟨rfl, rfl, Nat.le_of_ble_eq_true rfl⟩ ?_ | refine R.bld rfl rfl ?_ | refine R.quo rfl rfl (by omega) ?_ | refine R.rem rfl rfl (by omega) ?_ | refine R.condT rfl ?_ | refine R.condF rfl ?_ | refine R.mul rfl rfl ⟨by omega, by omega⟩ ?_ | refine R.cond rfl (fun hc => ?_) (fun hc => ?_) | refine R.condN rfl (fun hc => ?_) (fun hc => ?_) | refine R.condB rfl (fun hc => ?_) (fun hc => ?_) | refine R.gP rfl (fun hc => ?_) (fun hc => ?_) | refine R.gN rfl (fun hc => ?_) (fun hc => ?_) | refine R.gB rfl (fun hc => ?_) (fun hc => ?_))
    all_goals first
      | (exfalso; omega)
      | exact R.ret ⟨.inr rfl, R.outW (Weak.reifyBox 4 0 900000 kPlaced rfl rfl rfl) (R.outR rfl (.cons (R.cell rfl rfl T.ty64 (Nat.le_of_ble_eq_true rfl) rfl) (.cons (R.tmp rfl) .nil)) rfl rfl rfl ⟨by show ¬ (2 = 1); omega, rfl⟩)⟩
      | skip
  repeat' (first | refine R.mv rfl ?_ | refine R.reg ?_ | refine R.regA ?_ | refine R.nal rfl ?_ | refine R.nal0 ?_ | refine R.kil ?_ | refine R.nil ?_ | refine R.seq ?_ | refine R.nseq ?_ | refine R.nblk ?_ | refine R.skip ?_ | refine R.blk ?_ | refine R.exit rfl ?_ | refine R.gRun rfl ?_ | refine R.gSkip rfl ?_ | refine R.gSkip0 rfl ?_ | refine R.gUndef rfl ?_ | refine R.gUndef0 rfl ?_ | refine R.ldEp rfl rfl (by assumption) rfl rfl ?_ | refine R.ldaEp rfl rfl (by assumption) (Nat.le_of_ble_eq_true rfl) rfl rfl ?_ | refine R.ld rfl rfl rfl ?_ | refine R.lda rfl rfl (Nat.le_of_ble_eq_true rfl) rfl ?_ | refine R.fa rfl rfl ?_ | refine R.lenM rfl ?_ | refine R.lenO rfl rfl ?_ | refine R.len rfl rfl ?_ | refine R.lss rfl rfl ?_ | refine R.gtr rfl rfl ?_ | refine R.geq rfl rfl ?_ | refine R.add rfl rfl (by omega) ?_ | refine R.ixN rfl rfl rfl (by omega) (fun a ha => ?_) | refine R.ixM rfl rfl rfl (by omega) (fun a ha => ?_) | refine R.ixON rfl rfl rfl (by first | omega | (simp; omega)) (fun a' ha' => ?_) | refine R.ixO rfl rfl rfl (by first | omega | (simp; omega)) (fun a' ha' => ?_) | refine R.pickT rfl rfl ?_ | refine R.pickF rfl rfl ?_ | refine R.not rfl ?_ | refine R.nc rfl rfl ?_ | refine R.nc0 rfl rfl ?_ | refine R.al rfl ?_ | refine R.stoB rfl rfl rfl rfl ⟨rfl, rfl, Nat.le_of_ble_eq_true rfl⟩ rfl ?_ | refine R.stoE _ rfl rfl rfl rfl rfl (by assumption) rfl ⟨rfl, rfl, Nat.le_of_ble_eq_true rfl⟩ ?_ | refine R.bld rfl rfl ?_ | refine R.quo rfl rfl (by omega) ?_ | refine R.rem rfl rfl (by omega) ?_ | refine R.condT rfl ?_ | refine R.condF rfl ?_ | refine R.mul rfl rfl ⟨by omega, by omega⟩ ?_ | refine R.cond rfl (fun hc => ?_) (fun hc => ?_) | refine R.condN rfl (fun hc => ?_) (fun hc => ?_) | refine R.condB rfl (fun hc => ?_) (fun hc => ?_) | refine R.gP rfl (fun hc => ?_) (fun hc => ?_) | refine R.gN rfl (fun hc => ?_) (fun hc => ?_) | refine R.gB rfl (fun hc => ?_) (fun hc => ?_))
  all_goals first | (exfalso; omega) | skip
  refine R.loop (G := Nat) (fun i => [(0, .v (.c (.d (.rp (enAssembly A))))), (1, pvA (.int .i64 k)), (4, .v (.c (.ptr 4 0))), (6, .v (.c (.ptr 6 0))), (7, pvA (.int .i64 i))]) (fun i => [(4, .box 64 [nilB]), (6, .box 64 [.own 10006]), (10006, .arr kPlaced ((insL (allL (A.fTiles.take i) k)).map enPlaced) [])]) (fun i => i ≤ A.fTiles.length ∧ ∀ (j : Nat) (t : TPlaced) (c : Nat), j < i → A.fTiles[j]? = some t → c < (k * k).toNat → okC (clP t k c)) (fun i => A.fTiles.length - i) 0 ⟨by omega, fun j t c hj => by omega⟩ (Weak.trans (Weak.reifyBox 6 0 10006 kPlaced rfl rfl rfl) (Weak.frame _ _ ⟨rfl, rfl, rfl, rfl, rfl, trivial⟩ ⟨rfl, rfl, rfl, trivial⟩ rfl rfl)) fun i hi => ?_
  obtain ⟨hi, hps⟩ := hi
  by_cases hil : i < A.fTiles.length
  case neg =>
    obtain rfl : i = A.fTiles.length := by omega
    have hok : okS A.fTiles k := ⟨hL, fun j t c hj => hps j t c (List.getElem?_eq_some_iff.1 hj).1 hj⟩
    rw [show fScl A.fTiles k = (insL (allL A.fTiles k), true) from if_pos hok, List.take_length]
    repeat' (first | refine R.mv rfl ?_ | refine R.reg ?_ | refine R.regA ?_ | refine R.nal rfl ?_ | refine R.nal0 ?_ | refine R.kil ?_ | refine R.nil ?_ | refine R.seq ?_ | refine R.nseq ?_ | refine R.nblk ?_ | refine R.skip ?_ | refine R.blk ?_ | refine R.exit rfl ?_ | refine R.gRun rfl ?_ | refine R.gSkip rfl ?_ | refine R.gSkip0 rfl ?_ | refine R.gUndef rfl ?_ | refine R.gUndef0 rfl ?_ | refine R.ldEp rfl rfl (by assumption) rfl rfl ?_ | refine R.ldaEp rfl rfl (by assumption) (Nat.le_of_ble_eq_true rfl) rfl rfl ?_ | refine R.ld rfl rfl rfl ?_ | refine R.lda rfl rfl (Nat.le_of_ble_eq_true rfl) rfl ?_ | refine R.fa rfl rfl ?_ | refine R.lenM rfl ?_ | refine R.lenO rfl rfl ?_ | refine R.len rfl rfl ?_ | refine R.lss rfl rfl ?_ | refine R.gtr rfl rfl ?_ | refine R.geq rfl rfl ?_ | refine R.add rfl rfl (by omega) ?_ | refine R.ixN rfl rfl rfl (by omega) (fun a ha => ?_) | refine R.ixM rfl rfl rfl (by omega) (fun a ha => ?_) | refine R.ixON rfl rfl rfl (by first | omega | (simp; omega)) (fun a' ha' => ?_) | refine R.ixO rfl rfl rfl (by first | omega | (simp; omega)) (fun a' ha' => ?_) | refine R.pickT rfl rfl ?_ | refine R.pickF rfl rfl ?_ | refine R.not rfl ?_ | refine R.nc rfl rfl ?_ | refine R.nc0 rfl rfl ?_ | refine R.al rfl ?_ | refine R.stoB rfl rfl rfl rfl ⟨rfl, rfl, Nat.le_of_ble_eq_true rfl⟩ rfl ?_ | refine R.stoE _ rfl rfl rfl rfl rfl (by assumption) rfl ⟨rfl, rfl, Nat.le_of_ble_eq_true rfl⟩ ?_ | refine R.bld rfl rfl ?_ | refine R.quo rfl rfl (by omega) ?_ | refine R.rem rfl rfl (by omega) ?_ | refine R.condT rfl ?_ | refine R.condF rfl ?_ | refine R.cond rfl (fun hc => ?_) (fun hc => ?_) | refine R.condN rfl (fun hc => ?_) (fun hc => ?_) | refine R.condB rfl (fun hc => ?_) (fun hc => ?_) | refine R.gP rfl (fun hc => ?_) (fun hc => ?_) | refine R.gN rfl (fun hc => ?_) (fun hc => ?_) | refine R.gB rfl (fun hc => ?_) (fun hc => ?_))
    all_goals first
      | (exfalso; omega)
      | exact R.ret ⟨.inr rfl, R.outR rfl (.cons (R.cell rfl rfl T.ty64 (Nat.le_of_ble_eq_true rfl) rfl) (.cons (R.tmp rfl) .nil)) rfl rfl rfl ⟨by show ¬ (2 = 1); omega, rfl⟩⟩
      | skip
  obtain ⟨x, hx⟩ : ∃ x, A.fTiles[i]? = some x := ⟨_, List.getElem?_eq_getElem hil⟩
  obtain ⟨⟨hxP, hxT⟩, -⟩ := hat i x hil hx
  have hx1 := hkk.mul (a := x.fTile) (M := 160) ⟨by omega, by omega⟩ (by omega)
  have hx2 := hkk.mul (a := x.fTile * k) (M := 640) ⟨by omega, by omega⟩ (by omega)
  repeat' (first | refine R.ixK x hx rfl rfl rfl ?_ | refine R.mv rfl ?_ | refine R.reg ?_ | refine R.regA ?_ | refine R.nal rfl ?_ | refine R.nal0 ?_ | refine R.kil ?_ | refine R.nil ?_ | refine R.seq ?_ | refine R.nseq ?_ | refine R.nblk ?_ | refine R.skip ?_ | refine R.blk ?_ | refine R.exit rfl ?_ | refine R.gRun rfl ?_ | refine R.gSkip rfl ?_ | refine R.gSkip0 rfl ?_ | refine R.gUndef rfl ?_ | refine R.gUndef0 rfl ?_ | refine R.ldEp rfl rfl (by assumption) rfl rfl ?_ | refine R.ldaEp rfl rfl (by assumption) (Nat.le_of_ble_eq_true rfl) rfl rfl ?_ | refine R.ld rfl rfl rfl ?_ | refine R.lda rfl rfl (Nat.le_of_ble_eq_true rfl) rfl ?_ | refine R.fa rfl rfl ?_ | refine R.lenM rfl ?_ | refine R.lenO rfl rfl ?_ | refine R.len rfl rfl ?_ | refine R.lss rfl rfl ?_ | refine R.gtr rfl rfl ?_ | refine R.geq rfl rfl ?_ | refine R.add rfl rfl (by omega) ?_ | refine R.ixN rfl rfl rfl (by omega) (fun a ha => ?_) | refine R.ixM rfl rfl rfl (by omega) (fun a ha => ?_) | refine R.ixON rfl rfl rfl (by first | omega | (simp; omega)) (fun a' ha' => ?_) | refine R.ixO rfl rfl rfl (by first | omega | (simp; omega)) (fun a' ha' => ?_) | refine R.pickT rfl rfl ?_ | refine R.pickF rfl rfl ?_ | refine R.not rfl ?_ | refine R.nc rfl rfl ?_ | refine R.nc0 rfl rfl ?_ | refine R.al rfl ?_ | refine R.stoB rfl rfl rfl rfl ⟨rfl, rfl, Nat.le_of_ble_eq_true rfl⟩ rfl ?_ | refine R.stoE _ rfl rfl rfl rfl rfl (by assumption) rfl ⟨rfl, rfl, Nat.le_of_ble_eq_true rfl⟩ ?_ | refine R.bld rfl rfl ?_ | refine R.quo rfl rfl (by omega) ?_ | refine R.rem rfl rfl (by omega) ?_ | refine R.condT rfl ?_ | refine R.condF rfl ?_ | refine R.cond rfl (fun hc => ?_) (fun hc => ?_) | refine R.condN rfl (fun hc => ?_) (fun hc => ?_) | refine R.condB rfl (fun hc => ?_) (fun hc => ?_) | refine R.gP rfl (fun hc => ?_) (fun hc => ?_) | refine R.gN rfl (fun hc => ?_) (fun hc => ?_) | refine R.gB rfl (fun hc => ?_) (fun hc => ?_))
  all_goals first | (exfalso; omega) | skip
  refine R.loop (G := Nat) (fun c => [(0, .v (.c (.d (.rp (enAssembly A))))), (1, pvA (.int .i64 k)), (4, .v (.c (.ptr 4 0))), (6, .v (.c (.ptr 6 0))), (7, pvA (.int .i64 i)), (8, .v (.c (.ptr 8 0))), (9, pvA (.int .i64 c))]) (fun c => [(4, .box 64 [nilB]), (6, .box 64 [.own 10006]), (8, .box 153 ((enPlaced x).map B.d)), (10006, .arr kPlaced ((insL (allL (A.fTiles.take i) k ++ blkL x k c)).map enPlaced) [])]) (fun c => c ≤ (k * k).toNat ∧ ∀ c' : Nat, c' < c → okC (clP x k c')) (fun c => (k * k).toNat - c) 0 ⟨by omega, fun c' hc' => by omega⟩ (Weak.frame _ _ ⟨rfl, rfl, rfl, rfl, rfl, rfl, rfl, trivial⟩ ⟨rfl, rfl, rfl, arr_eq (by rw [show blkL x k 0 = [] from rfl, List.append_nil]), trivial⟩ rfl rfl) fun c hcc => ?_
  obtain ⟨hcn, hpc⟩ := hcc
  by_cases hcl : c < (k * k).toNat
  case neg =>
    obtain rfl : c = (k * k).toNat := by omega
    have hst := allL_snoc (k := k) hx
    repeat' (first | refine R.mv rfl ?_ | refine R.reg ?_ | refine R.regA ?_ | refine R.nal rfl ?_ | refine R.nal0 ?_ | refine R.kil ?_ | refine R.nil ?_ | refine R.seq ?_ | refine R.nseq ?_ | refine R.nblk ?_ | refine R.skip ?_ | refine R.blk ?_ | refine R.exit rfl ?_ | refine R.gRun rfl ?_ | refine R.gSkip rfl ?_ | refine R.gSkip0 rfl ?_ | refine R.gUndef rfl ?_ | refine R.gUndef0 rfl ?_ | refine R.ldEp rfl rfl (by assumption) rfl rfl ?_ | refine R.ldaEp rfl rfl (by assumption) (Nat.le_of_ble_eq_true rfl) rfl rfl ?_ | refine R.ld rfl rfl rfl ?_ | refine R.lda rfl rfl (Nat.le_of_ble_eq_true rfl) rfl ?_ | refine R.fa rfl rfl ?_ | refine R.lenM rfl ?_ | refine R.lenO rfl rfl ?_ | refine R.len rfl rfl ?_ | refine R.lss rfl rfl ?_ | refine R.gtr rfl rfl ?_ | refine R.geq rfl rfl ?_ | refine R.add rfl rfl (by omega) ?_ | refine R.ixN rfl rfl rfl (by omega) (fun a ha => ?_) | refine R.ixM rfl rfl rfl (by omega) (fun a ha => ?_) | refine R.ixON rfl rfl rfl (by first | omega | (simp; omega)) (fun a' ha' => ?_) | refine R.ixO rfl rfl rfl (by first | omega | (simp; omega)) (fun a' ha' => ?_) | refine R.pickT rfl rfl ?_ | refine R.pickF rfl rfl ?_ | refine R.not rfl ?_ | refine R.nc rfl rfl ?_ | refine R.nc0 rfl rfl ?_ | refine R.al rfl ?_ | refine R.stoB rfl rfl rfl rfl ⟨rfl, rfl, Nat.le_of_ble_eq_true rfl⟩ rfl ?_ | refine R.stoE _ rfl rfl rfl rfl rfl (by assumption) rfl ⟨rfl, rfl, Nat.le_of_ble_eq_true rfl⟩ ?_ | refine R.bld rfl rfl ?_ | refine R.quo rfl rfl (by omega) ?_ | refine R.rem rfl rfl (by omega) ?_ | refine R.condT rfl ?_ | refine R.condF rfl ?_ | refine R.mul rfl rfl ⟨by omega, by omega⟩ ?_ | refine R.cond rfl (fun hc => ?_) (fun hc => ?_) | refine R.condN rfl (fun hc => ?_) (fun hc => ?_) | refine R.condB rfl (fun hc => ?_) (fun hc => ?_) | refine R.gP rfl (fun hc => ?_) (fun hc => ?_) | refine R.gN rfl (fun hc => ?_) (fun hc => ?_) | refine R.gB rfl (fun hc => ?_) (fun hc => ?_))
    all_goals first
      | (exfalso; omega)
      | exact R.nloop (R.again (i + 1) ⟨by omega, fun j t c hj ht hc2 => by
          by_cases e : j = i
          · subst e; rw [hx] at ht; cases ht; exact hpc c hc2
          · exact hps j t c (by omega) ht hc2⟩ (by omega) ⟨rfl, rfl, rfl, rfl, rfl, trivial⟩ ⟨rfl, rfl, arr_eq (by rw [hst]), trivial⟩ rfl rfl)
      | skip
  have hrem : 0 ≤ (c : Int) % k ∧ (c : Int) % k ≤ 100 := by
    have h1 := Int.emod_nonneg (c : Int) (show k ≠ 0 by omega)
    have h2 := Int.emod_lt_of_pos (c : Int) (show 0 < k by omega)
    omega
  have hquo : 0 ≤ (c : Int) / k ∧ (c : Int) / k ≤ 100 := by
    have h1 := Int.ediv_nonneg (show 0 ≤ (c : Int) by omega) (show 0 ≤ k by omega)
    have h2 := Int.ediv_le_self k (show 0 ≤ (c : Int) by omega)
    omega
  have hCell := sCellK x.fAt ((c : Int) % k) ((c : Int) / k) k hkk hxP hrem hquo
  have hV := sValidPoint (clP x k c).fAt
  by_cases hg1 : okP (clP x k c).fAt
  case neg =>
    have hno : ¬ okS A.fTiles k := fun h => hg1 (h.2 i x c hx hcl).1
    rw [show fScl A.fTiles k = ([], false) from if_neg hno]
    rw [decide_eq_false hg1] at hV
    repeat' (first | refine R.mv rfl ?_ | refine R.reg ?_ | refine R.regA ?_ | refine R.nal rfl ?_ | refine R.nal0 ?_ | refine R.kil ?_ | refine R.nil ?_ | refine R.seq ?_ | refine R.nseq ?_ | refine R.nblk ?_ | refine R.skip ?_ | refine R.blk ?_ | refine R.exit rfl ?_ | refine R.gRun rfl ?_ | refine R.gSkip rfl ?_ | refine R.gSkip0 rfl ?_ | refine R.gUndef rfl ?_ | refine R.gUndef0 rfl ?_ | refine R.ldEp rfl rfl (by assumption) rfl rfl ?_ | refine R.ldaEp rfl rfl (by assumption) (Nat.le_of_ble_eq_true rfl) rfl rfl ?_ | refine R.ld rfl rfl rfl ?_ | refine R.lda rfl rfl (Nat.le_of_ble_eq_true rfl) rfl ?_ | refine R.fa rfl rfl ?_ | refine R.lenM rfl ?_ | refine R.lenO rfl rfl ?_ | refine R.len rfl rfl ?_ | refine R.lss rfl rfl ?_ | refine R.gtr rfl rfl ?_ | refine R.geq rfl rfl ?_ | refine R.add rfl rfl (by omega) ?_ | refine R.ixN rfl rfl rfl (by omega) (fun a ha => ?_) | refine R.ixM rfl rfl rfl (by omega) (fun a ha => ?_) | refine R.ixON rfl rfl rfl (by first | omega | (simp; omega)) (fun a' ha' => ?_) | refine R.ixO rfl rfl rfl (by first | omega | (simp; omega)) (fun a' ha' => ?_) | refine R.pickT rfl rfl ?_ | refine R.pickF rfl rfl ?_ | refine R.not rfl ?_ | refine R.nc rfl rfl ?_ | refine R.nc0 rfl rfl ?_ | refine R.al rfl ?_ | refine R.stoB rfl rfl rfl rfl ⟨rfl, rfl, Nat.le_of_ble_eq_true rfl⟩ rfl ?_ | refine R.stoE _ rfl rfl rfl rfl rfl (by assumption) rfl ⟨rfl, rfl, Nat.le_of_ble_eq_true rfl⟩ ?_ | refine R.bld rfl rfl ?_ | refine R.quo rfl rfl (by omega) ?_ | refine R.rem rfl rfl (by omega) ?_ | refine R.condT rfl ?_ | refine R.condF rfl ?_ | refine R.mul rfl rfl ⟨by omega, by omega⟩ ?_ | refine R.rem rfl rfl ⟨by omega, by omega⟩ ?_ | refine R.quo rfl rfl ⟨by omega, by omega, by omega⟩ ?_ | refine R.fcal (bor := true) rfl rfl hCell rfl rfl rfl ?_ | refine R.call (bor := false) rfl rfl (hV) rfl rfl rfl ?_ | refine R.call (bor := true) rfl rfl (hV) rfl rfl rfl ?_ | refine R.fcal (bor := false) rfl rfl (hV) rfl rfl rfl ?_ | refine R.fcal (bor := true) rfl rfl (hV) rfl rfl rfl ?_ | refine R.cond rfl (fun hc => ?_) (fun hc => ?_) | refine R.condN rfl (fun hc => ?_) (fun hc => ?_) | refine R.condB rfl (fun hc => ?_) (fun hc => ?_) | refine R.gP rfl (fun hc => ?_) (fun hc => ?_) | refine R.gN rfl (fun hc => ?_) (fun hc => ?_) | refine R.gB rfl (fun hc => ?_) (fun hc => ?_))
    all_goals first
      | (exfalso; omega)
      | exact R.ret ⟨.inr rfl, R.outW (Weak.reifyBox 4 0 900000 kPlaced rfl rfl rfl) (R.outR rfl (.cons (R.cell rfl rfl T.ty64 (Nat.le_of_ble_eq_true rfl) rfl) (.cons (R.tmp rfl) .nil)) rfl rfl rfl ⟨by show ¬ (2 = 1); omega, rfl⟩)⟩
      | skip
  rw [decide_eq_true hg1] at hV
  by_cases hg2 : x.fTile * k * k + c < 160
  case neg =>
    have hno : ¬ okS A.fTiles k := fun h => hg2 (h.2 i x c hx hcl).2
    rw [show fScl A.fTiles k = ([], false) from if_neg hno]
    repeat' (first | refine R.mv rfl ?_ | refine R.reg ?_ | refine R.regA ?_ | refine R.nal rfl ?_ | refine R.nal0 ?_ | refine R.kil ?_ | refine R.nil ?_ | refine R.seq ?_ | refine R.nseq ?_ | refine R.nblk ?_ | refine R.skip ?_ | refine R.blk ?_ | refine R.exit rfl ?_ | refine R.gRun rfl ?_ | refine R.gSkip rfl ?_ | refine R.gSkip0 rfl ?_ | refine R.gUndef rfl ?_ | refine R.gUndef0 rfl ?_ | refine R.ldEp rfl rfl (by assumption) rfl rfl ?_ | refine R.ldaEp rfl rfl (by assumption) (Nat.le_of_ble_eq_true rfl) rfl rfl ?_ | refine R.ld rfl rfl rfl ?_ | refine R.lda rfl rfl (Nat.le_of_ble_eq_true rfl) rfl ?_ | refine R.fa rfl rfl ?_ | refine R.lenM rfl ?_ | refine R.lenO rfl rfl ?_ | refine R.len rfl rfl ?_ | refine R.lss rfl rfl ?_ | refine R.gtr rfl rfl ?_ | refine R.geq rfl rfl ?_ | refine R.add rfl rfl (by omega) ?_ | refine R.ixN rfl rfl rfl (by omega) (fun a ha => ?_) | refine R.ixM rfl rfl rfl (by omega) (fun a ha => ?_) | refine R.ixON rfl rfl rfl (by first | omega | (simp; omega)) (fun a' ha' => ?_) | refine R.ixO rfl rfl rfl (by first | omega | (simp; omega)) (fun a' ha' => ?_) | refine R.pickT rfl rfl ?_ | refine R.pickF rfl rfl ?_ | refine R.not rfl ?_ | refine R.nc rfl rfl ?_ | refine R.nc0 rfl rfl ?_ | refine R.al rfl ?_ | refine R.stoB rfl rfl rfl rfl ⟨rfl, rfl, Nat.le_of_ble_eq_true rfl⟩ rfl ?_ | refine R.stoE _ rfl rfl rfl rfl rfl (by assumption) rfl ⟨rfl, rfl, Nat.le_of_ble_eq_true rfl⟩ ?_ | refine R.bld rfl rfl ?_ | refine R.quo rfl rfl (by omega) ?_ | refine R.rem rfl rfl (by omega) ?_ | refine R.condT rfl ?_ | refine R.condF rfl ?_ | refine R.mul rfl rfl ⟨by omega, by omega⟩ ?_ | refine R.rem rfl rfl ⟨by omega, by omega⟩ ?_ | refine R.quo rfl rfl ⟨by omega, by omega, by omega⟩ ?_ | refine R.fcal (bor := true) rfl rfl hCell rfl rfl rfl ?_ | refine R.call (bor := false) rfl rfl (hV) rfl rfl rfl ?_ | refine R.call (bor := true) rfl rfl (hV) rfl rfl rfl ?_ | refine R.fcal (bor := false) rfl rfl (hV) rfl rfl rfl ?_ | refine R.fcal (bor := true) rfl rfl (hV) rfl rfl rfl ?_ | refine R.cond rfl (fun hc => ?_) (fun hc => ?_) | refine R.condN rfl (fun hc => ?_) (fun hc => ?_) | refine R.condB rfl (fun hc => ?_) (fun hc => ?_) | refine R.gP rfl (fun hc => ?_) (fun hc => ?_) | refine R.gN rfl (fun hc => ?_) (fun hc => ?_) | refine R.gB rfl (fun hc => ?_) (fun hc => ?_))
    all_goals first
      | (exfalso; omega)
      | exact R.ret ⟨.inr rfl, R.outW (Weak.reifyBox 4 0 900000 kPlaced rfl rfl rfl) (R.outR rfl (.cons (R.cell rfl rfl T.ty64 (Nat.le_of_ble_eq_true rfl) rfl) (.cons (R.tmp rfl) .nil)) rfl rfl rfl ⟨by show ¬ (2 = 1); omega, rfl⟩)⟩
      | skip
  have hlA : (insL (allL (A.fTiles.take i) k ++ blkL x k c)).length ≤ 1048576 := by
    rw [insL_len, List.length_append, allL_len, blkL_len, List.length_take]
    have : min i A.fTiles.length * (k * k).toNat ≤ 500 * 16 := Nat.mul_le_mul (by omega) (by omega)
    omega
  have hP := sL03Put ⟨insL (allL (A.fTiles.take i) k ++ blkL x k c)⟩ (clP x k c).fAt (x.fTile * k * k + c) hlA
  have hst : insL (allL (A.fTiles.take i) k ++ blkL x k (c + 1)) = putP (insL (allL (A.fTiles.take i) k ++ blkL x k c)) (clP x k c) := by rw [blkL_succ, ← List.append_assoc, insL_snoc]
  repeat' (first | refine R.mv rfl ?_ | refine R.reg ?_ | refine R.regA ?_ | refine R.nal rfl ?_ | refine R.nal0 ?_ | refine R.kil ?_ | refine R.nil ?_ | refine R.seq ?_ | refine R.nseq ?_ | refine R.nblk ?_ | refine R.skip ?_ | refine R.blk ?_ | refine R.exit rfl ?_ | refine R.gRun rfl ?_ | refine R.gSkip rfl ?_ | refine R.gSkip0 rfl ?_ | refine R.gUndef rfl ?_ | refine R.gUndef0 rfl ?_ | refine R.ldEp rfl rfl (by assumption) rfl rfl ?_ | refine R.ldaEp rfl rfl (by assumption) (Nat.le_of_ble_eq_true rfl) rfl rfl ?_ | refine R.ld rfl rfl rfl ?_ | refine R.lda rfl rfl (Nat.le_of_ble_eq_true rfl) rfl ?_ | refine R.fa rfl rfl ?_ | refine R.lenM rfl ?_ | refine R.lenO rfl rfl ?_ | refine R.len rfl rfl ?_ | refine R.lss rfl rfl ?_ | refine R.gtr rfl rfl ?_ | refine R.geq rfl rfl ?_ | refine R.add rfl rfl (by omega) ?_ | refine R.ixN rfl rfl rfl (by omega) (fun a ha => ?_) | refine R.ixM rfl rfl rfl (by omega) (fun a ha => ?_) | refine R.ixON rfl rfl rfl (by first | omega | (simp; omega)) (fun a' ha' => ?_) | refine R.ixO rfl rfl rfl (by first | omega | (simp; omega)) (fun a' ha' => ?_) | refine R.pickT rfl rfl ?_ | refine R.pickF rfl rfl ?_ | refine R.not rfl ?_ | refine R.nc rfl rfl ?_ | refine R.nc0 rfl rfl ?_ | refine R.al rfl ?_ | refine R.stoB rfl rfl rfl rfl ⟨rfl, rfl, Nat.le_of_ble_eq_true rfl⟩ rfl ?_ | refine R.stoE _ rfl rfl rfl rfl rfl (by assumption) rfl ⟨rfl, rfl, Nat.le_of_ble_eq_true rfl⟩ ?_ | refine R.bld rfl rfl ?_ | refine R.quo rfl rfl (by omega) ?_ | refine R.rem rfl rfl (by omega) ?_ | refine R.condT rfl ?_ | refine R.condF rfl ?_ | refine R.mul rfl rfl ⟨by omega, by omega⟩ ?_ | refine R.rem rfl rfl ⟨by omega, by omega⟩ ?_ | refine R.quo rfl rfl ⟨by omega, by omega, by omega⟩ ?_ | refine R.fcal (bor := true) rfl rfl hCell rfl rfl rfl ?_ | refine R.call (bor := false) rfl rfl (hV) rfl rfl rfl ?_ | refine R.call (bor := true) rfl rfl (hV) rfl rfl rfl ?_ | refine R.fcal (bor := false) rfl rfl (hV) rfl rfl rfl ?_ | refine R.fcal (bor := true) rfl rfl (hV) rfl rfl rfl ?_ | refine R.callN (bor := true) rfl rfl hP rfl rfl rfl rfl rfl ?_ | refine R.cond rfl (fun hc => ?_) (fun hc => ?_) | refine R.condN rfl (fun hc => ?_) (fun hc => ?_) | refine R.condB rfl (fun hc => ?_) (fun hc => ?_) | refine R.gP rfl (fun hc => ?_) (fun hc => ?_) | refine R.gN rfl (fun hc => ?_) (fun hc => ?_) | refine R.gB rfl (fun hc => ?_) (fun hc => ?_))
  all_goals first
    | (exfalso; omega)
    | exact R.nloop ⟨c + 1, ⟨by omega, fun c' hc' => by
        by_cases e : c' = c
        · subst e; exact ⟨hg1, hg2⟩
        · exact hpc c' (by omega)⟩, by omega, Weak.trans (Weak.swap 77000 10006 rfl rfl) (Weak.frame _ _ ⟨rfl, rfl, rfl, rfl, rfl, rfl, rfl, trivial⟩ ⟨rfl, rfl, rfl, arr_eq (by rw [hst]; rfl), trivial⟩ rfl rfl)⟩
    | skip
open Classical in
noncomputable def fSU (l : List TPlaced) (k : Int) : List TPlaced × Int := if okA l then (if rngK k then (if (fScl l k).2 = true then ((fScl l k).1, 0) else ([], 4)) else ([], 2)) else ([], 1)
theorem sScaleUp (A : TAssembly) (k : Int) : Spec Try.prog 30 [.agg (enAssembly A), vI k] (.tup [.agg [.nw kPlaced ((fSU A.fTiles k).1.map enPlaced)], cI (fSU A.fTiles k).2]) := by
  have hI := sIn k 1 4
  refine Spec.walk T.mixed Try.func30 S.ok30 (by simp [Try.f30]) fun hk => ?_
  clear hk
  unfold S.s30
  by_cases h1 : okA A.fTiles
  case neg =>
    rw [show fSU A.fTiles k = ([], 1) from if_neg h1]
    repeat' (first | refine R.mv rfl ?_ | refine R.reg ?_ | refine R.nil ?_ | refine R.seq ?_ | refine R.nseq ?_ | refine R.nblk ?_ | refine R.skip ?_ | refine R.blk ?_ | refine R.exit rfl ?_ | refine R.ldEp rfl rfl (by assumption) rfl rfl ?_ | refine R.ldaEp rfl rfl (by assumption) (Nat.le_of_ble_eq_true rfl) rfl rfl ?_ | refine R.ld rfl rfl rfl ?_ | refine R.lda rfl rfl (Nat.le_of_ble_eq_true rfl) rfl ?_ | refine R.not rfl ?_ | refine R.mvU rfl ?_ | refine R.ext rfl rfl ?_ | refine R.al rfl ?_ | refine R.box rfl rfl rfl ?_ | refine R.stoB rfl rfl rfl rfl ⟨rfl, rfl, Nat.le_of_ble_eq_true rfl⟩ rfl ?_ | refine R.stoE _ rfl rfl rfl rfl rfl (by assumption) rfl ⟨rfl, rfl, Nat.le_of_ble_eq_true rfl⟩ ?_ | refine R.bld rfl rfl ?_ | refine R.condT rfl ?_ | refine R.condF rfl ?_ | refine R.call (bor := false) rfl rfl (sHasF h1) rfl rfl rfl ?_ | refine R.call (bor := true) rfl rfl (sHasF h1) rfl rfl rfl ?_ | refine R.fcal (bor := false) rfl rfl (sHasF h1) rfl rfl rfl ?_ | refine R.fcal (bor := true) rfl rfl (sHasF h1) rfl rfl rfl ?_ | refine R.cond rfl (fun hc => ?_) (fun hc => ?_) | refine R.condN rfl (fun hc => ?_) (fun hc => ?_) | refine R.condB rfl (fun hc => ?_) (fun hc => ?_))
    all_goals first
      | (exfalso; omega)
      | exact R.ret ⟨.inr rfl, R.outW (Weak.reifyBox 4 0 900000 kPlaced rfl rfl rfl) (R.outR rfl (.cons (R.cell rfl rfl T.ty64 (Nat.le_of_ble_eq_true rfl) rfl) (.cons (R.tmp rfl) .nil)) rfl rfl rfl ⟨by show ¬ (2 = 1); omega, rfl⟩)⟩
      | skip
  by_cases h2 : rngK k
  case neg =>
    rw [show fSU A.fTiles k = ([], 2) from (if_pos h1).trans (if_neg h2)]
    rw [inB_F h2] at hI
    repeat' (first | refine R.mv rfl ?_ | refine R.reg ?_ | refine R.nil ?_ | refine R.seq ?_ | refine R.nseq ?_ | refine R.nblk ?_ | refine R.skip ?_ | refine R.blk ?_ | refine R.exit rfl ?_ | refine R.ldEp rfl rfl (by assumption) rfl rfl ?_ | refine R.ldaEp rfl rfl (by assumption) (Nat.le_of_ble_eq_true rfl) rfl rfl ?_ | refine R.ld rfl rfl rfl ?_ | refine R.lda rfl rfl (Nat.le_of_ble_eq_true rfl) rfl ?_ | refine R.not rfl ?_ | refine R.mvU rfl ?_ | refine R.ext rfl rfl ?_ | refine R.al rfl ?_ | refine R.box rfl rfl rfl ?_ | refine R.stoB rfl rfl rfl rfl ⟨rfl, rfl, Nat.le_of_ble_eq_true rfl⟩ rfl ?_ | refine R.stoE _ rfl rfl rfl rfl rfl (by assumption) rfl ⟨rfl, rfl, Nat.le_of_ble_eq_true rfl⟩ ?_ | refine R.bld rfl rfl ?_ | refine R.condT rfl ?_ | refine R.condF rfl ?_ | refine R.call (bor := false) rfl rfl (sHasT h1) rfl rfl rfl ?_ | refine R.call (bor := true) rfl rfl (sHasT h1) rfl rfl rfl ?_ | refine R.fcal (bor := false) rfl rfl (sHasT h1) rfl rfl rfl ?_ | refine R.fcal (bor := true) rfl rfl (sHasT h1) rfl rfl rfl ?_ | refine R.call (bor := false) rfl rfl (hI) rfl rfl rfl ?_ | refine R.call (bor := true) rfl rfl (hI) rfl rfl rfl ?_ | refine R.fcal (bor := false) rfl rfl (hI) rfl rfl rfl ?_ | refine R.fcal (bor := true) rfl rfl (hI) rfl rfl rfl ?_ | refine R.cond rfl (fun hc => ?_) (fun hc => ?_) | refine R.condN rfl (fun hc => ?_) (fun hc => ?_) | refine R.condB rfl (fun hc => ?_) (fun hc => ?_))
    all_goals first
      | (exfalso; omega)
      | exact R.ret ⟨.inr rfl, R.outW (Weak.reifyBox 4 0 900000 kPlaced rfl rfl rfl) (R.outR rfl (.cons (R.cell rfl rfl T.ty64 (Nat.le_of_ble_eq_true rfl) rfl) (.cons (R.tmp rfl) .nil)) rfl rfl rfl ⟨by show ¬ (2 = 1); omega, rfl⟩)⟩
      | skip
  rw [inB_T h2] at hI
  have hS := sScale A k h1 h2
  by_cases h3 : (fScl A.fTiles k).2 = true
  · rw [show fSU A.fTiles k = ((fScl A.fTiles k).1, 0) from (if_pos h1).trans ((if_pos h2).trans (if_pos h3))]
    rw [h3] at hS
    repeat' (first | refine R.mv rfl ?_ | refine R.reg ?_ | refine R.nil ?_ | refine R.seq ?_ | refine R.nseq ?_ | refine R.nblk ?_ | refine R.skip ?_ | refine R.blk ?_ | refine R.exit rfl ?_ | refine R.ldEp rfl rfl (by assumption) rfl rfl ?_ | refine R.ldaEp rfl rfl (by assumption) (Nat.le_of_ble_eq_true rfl) rfl rfl ?_ | refine R.ld rfl rfl rfl ?_ | refine R.lda rfl rfl (Nat.le_of_ble_eq_true rfl) rfl ?_ | refine R.not rfl ?_ | refine R.mvU rfl ?_ | refine R.ext rfl rfl ?_ | refine R.al rfl ?_ | refine R.box rfl rfl rfl ?_ | refine R.stoB rfl rfl rfl rfl ⟨rfl, rfl, Nat.le_of_ble_eq_true rfl⟩ rfl ?_ | refine R.stoE _ rfl rfl rfl rfl rfl (by assumption) rfl ⟨rfl, rfl, Nat.le_of_ble_eq_true rfl⟩ ?_ | refine R.bld rfl rfl ?_ | refine R.condT rfl ?_ | refine R.condF rfl ?_ | refine R.call (bor := false) rfl rfl (sHasT h1) rfl rfl rfl ?_ | refine R.call (bor := true) rfl rfl (sHasT h1) rfl rfl rfl ?_ | refine R.fcal (bor := false) rfl rfl (sHasT h1) rfl rfl rfl ?_ | refine R.fcal (bor := true) rfl rfl (sHasT h1) rfl rfl rfl ?_ | refine R.call (bor := false) rfl rfl (hI) rfl rfl rfl ?_ | refine R.call (bor := true) rfl rfl (hI) rfl rfl rfl ?_ | refine R.fcal (bor := false) rfl rfl (hI) rfl rfl rfl ?_ | refine R.fcal (bor := true) rfl rfl (hI) rfl rfl rfl ?_ | refine R.callN1 (bor := false) rfl rfl (hS) rfl rfl ?_ | refine R.callN1 (bor := true) rfl rfl (hS) rfl rfl ?_ | refine R.callN (bor := false) rfl rfl (hS) rfl rfl rfl rfl rfl ?_ | refine R.callN (bor := true) rfl rfl (hS) rfl rfl rfl rfl rfl ?_ | refine R.cond rfl (fun hc => ?_) (fun hc => ?_) | refine R.condN rfl (fun hc => ?_) (fun hc => ?_) | refine R.condB rfl (fun hc => ?_) (fun hc => ?_))
    all_goals first
      | (exfalso; omega)
      | exact R.ret ⟨.inr rfl, R.outR rfl (.cons (R.cell rfl rfl T.ty64 (Nat.le_of_ble_eq_true rfl) rfl) (.cons (R.tmp rfl) .nil)) rfl rfl rfl ⟨by show ¬ (2 = 1); omega, rfl⟩⟩
      | skip
  · rw [show fSU A.fTiles k = ([], 4) from (if_pos h1).trans ((if_pos h2).trans (if_neg h3))]
    rw [Bool.eq_false_iff.2 h3] at hS
    repeat' (first | refine R.mv rfl ?_ | refine R.reg ?_ | refine R.nil ?_ | refine R.seq ?_ | refine R.nseq ?_ | refine R.nblk ?_ | refine R.skip ?_ | refine R.blk ?_ | refine R.exit rfl ?_ | refine R.ldEp rfl rfl (by assumption) rfl rfl ?_ | refine R.ldaEp rfl rfl (by assumption) (Nat.le_of_ble_eq_true rfl) rfl rfl ?_ | refine R.ld rfl rfl rfl ?_ | refine R.lda rfl rfl (Nat.le_of_ble_eq_true rfl) rfl ?_ | refine R.not rfl ?_ | refine R.mvU rfl ?_ | refine R.ext rfl rfl ?_ | refine R.al rfl ?_ | refine R.box rfl rfl rfl ?_ | refine R.stoB rfl rfl rfl rfl ⟨rfl, rfl, Nat.le_of_ble_eq_true rfl⟩ rfl ?_ | refine R.stoE _ rfl rfl rfl rfl rfl (by assumption) rfl ⟨rfl, rfl, Nat.le_of_ble_eq_true rfl⟩ ?_ | refine R.bld rfl rfl ?_ | refine R.condT rfl ?_ | refine R.condF rfl ?_ | refine R.call (bor := false) rfl rfl (sHasT h1) rfl rfl rfl ?_ | refine R.call (bor := true) rfl rfl (sHasT h1) rfl rfl rfl ?_ | refine R.fcal (bor := false) rfl rfl (sHasT h1) rfl rfl rfl ?_ | refine R.fcal (bor := true) rfl rfl (sHasT h1) rfl rfl rfl ?_ | refine R.call (bor := false) rfl rfl (hI) rfl rfl rfl ?_ | refine R.call (bor := true) rfl rfl (hI) rfl rfl rfl ?_ | refine R.fcal (bor := false) rfl rfl (hI) rfl rfl rfl ?_ | refine R.fcal (bor := true) rfl rfl (hI) rfl rfl rfl ?_ | refine R.callN1 (bor := false) rfl rfl (hS) rfl rfl ?_ | refine R.callN1 (bor := true) rfl rfl (hS) rfl rfl ?_ | refine R.callN (bor := false) rfl rfl (hS) rfl rfl rfl rfl rfl ?_ | refine R.callN (bor := true) rfl rfl (hS) rfl rfl rfl rfl rfl ?_ | refine R.cond rfl (fun hc => ?_) (fun hc => ?_) | refine R.condN rfl (fun hc => ?_) (fun hc => ?_) | refine R.condB rfl (fun hc => ?_) (fun hc => ?_))
    all_goals first
      | (exfalso; omega)
      | exact R.ret ⟨.inr rfl, R.outW (Weak.reifyBox 4 0 900000 kPlaced rfl rfl rfl) (R.outR rfl (.cons (R.cell rfl rfl T.ty64 (Nat.le_of_ble_eq_true rfl) rfl) (.cons (R.tmp rfl) .nil)) rfl rfl rfl ⟨by show ¬ (2 = 1); omega, rfl⟩)⟩
      | skip
end Go.Proofs.Ytnkfbodolbfjpaa
