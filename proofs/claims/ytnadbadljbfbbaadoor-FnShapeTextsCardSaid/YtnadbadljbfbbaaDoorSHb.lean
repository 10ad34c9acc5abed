/- Stx1 and Stx2 and NeqS and Rsh1 and ShP. -/
import Derived.Test.YtnadbadljbfbbaaDoorSHa
import Derived.Test.YtnadbadljbfbbaaDoorRPd
import Derived.Test.YtnadbadljbfbbaaDoorRPg
import Derived.Test.YtnadbadljbfbbaaDoorShB
import Derived.RangeFuncBox
import Derived.Test.YtnadbadljbfbbaaDoorBel
import Derived.Lib.Strings
namespace Go.Proofs.YtnadbadljbfbbaaDoor
open Go.RowKit
set_option maxRecDepth 100000 in
def S.s12 : SC := (.seq (.reg [⟨(.some 2), .none, .false, (.mv (.const (Go.Value.string { data := #[] })))⟩]) (.seq (.seq (.reg [⟨(.some 3), .none, .false, (.mv (.tmp 0))⟩, ⟨(.some 4), .none, .false, (.call (.func 29) [(.tmp 3)])⟩, ⟨(.some 5), .none, .false, (.not (.tmp 4))⟩]) (.cond (.tmp 5) (.seq (.reg [⟨(.some 2), .none, .false, (.mv (.const (Go.Value.string { data := #[] })))⟩]) .ret) .skip)) (.seq (.reg [⟨(.some 6), .none, .false, (.mv (.tmp 0))⟩, ⟨(.some 7), .none, .false, (.call (.func 30) [(.tmp 6)])⟩, ⟨(.some 2), .none, .false, (.mv (.tmp 7))⟩]) .ret)))
set_option maxRecDepth 100000 in
theorem S.ok12 : stripF Tryd.prog Tryd.f12 = some S.s12 := by kernel_rfl
set_option maxRecDepth 100000 in
def S.s15 : SC := (.seq (.reg [⟨(.some 2), .none, .false, (.mv (.const (Go.Value.string { data := #[] })))⟩]) (.seq (.seq (.reg [⟨(.some 8), .none, .false, (.mv (.tmp 0))⟩, ⟨(.some 9), .none, .false, (.call (.func 34) [(.tmp 8)])⟩, ⟨(.some 10), .none, .false, (.not (.tmp 9))⟩]) (.cond (.tmp 10) (.seq (.reg [⟨(.some 2), .none, .false, (.mv (.const (Go.Value.string { data := #[] })))⟩]) .ret) .skip)) (.seq (.reg [⟨(.some 12), .none, .false, (.mv (.tmp 0))⟩, ⟨(.some 13), .none, .false, (.call (.func 36) [(.tmp 12)])⟩, ⟨(.some 11), .none, .false, (.mv (.tmp 13))⟩, ⟨(.some 14), .none, .false, (.ext (.tmp 11) 0)⟩, ⟨(.some 15), .none, .false, (.ext (.tmp 11) 1)⟩, ⟨(.some 3), .none, .false, (.al 58 [(Go.Value.int Go.IntKind.i64 0), (Go.Value.int Go.IntKind.i64 0)])⟩, ⟨(.some 4), .none, .false, (.al 58 [(Go.Value.int Go.IntKind.i64 0), (Go.Value.int Go.IntKind.i64 0)])⟩, ⟨.none, .none, .false, (.sto 2 (.tmp 3) (.tmp 14))⟩, ⟨.none, .none, .false, (.sto 2 (.tmp 4) (.tmp 15))⟩]) (.seq (.reg [⟨(.some 16), .none, .false, (.bsl (.mk 5 1) 0 [])⟩, ⟨(.some 5), .none, .false, (.mv (.tmp 16))⟩]) (.seq (.seq (.reg [⟨(.some 17), .none, .false, (.fa 1 (.tmp 4))⟩, ⟨(.some 18), .none, .false, (.ld .false 1 (.tmp 17))⟩, ⟨(.some 6), .none, .false, (.mv (.tmp 18))⟩]) (.block 0 (.loop (.seq (.seq (.reg [⟨(.some 19), .none, .false, (.mv (.tmp 6))⟩, ⟨(.some 20), .none, .false, (.fa 1 (.tmp 3))⟩, ⟨(.some 21), .none, .false, (.ld .false 1 (.tmp 20))⟩, ⟨(.some 22), .none, .false, (.bin .geq (.tmp 19) (.tmp 21))⟩]) (.cond (.tmp 22) .skip (.exit 0))) (.seq (.block 1 (.seq (.seq (.reg [⟨(.some 25), .none, .false, (.fa 0 (.tmp 3))⟩, ⟨(.some 26), .none, .false, (.ld .false 1 (.tmp 25))⟩, ⟨(.some 7), .none, .false, (.mv (.tmp 26))⟩]) (.block 2 (.loop (.seq (.seq (.reg [⟨(.some 27), .none, .false, (.mv (.tmp 7))⟩, ⟨(.some 28), .none, .false, (.fa 0 (.tmp 4))⟩, ⟨(.some 29), .none, .false, (.ld .false 1 (.tmp 28))⟩, ⟨(.some 30), .none, .false, (.bin .leq (.tmp 27) (.tmp 29))⟩]) (.cond (.tmp 30) .skip (.exit 2))) (.seq (.block 3 (.seq (.reg [⟨(.some 33), .none, .false, (.mv (.tmp 0))⟩, ⟨(.some 34), .none, .false, (.mv (.tmp 7))⟩, ⟨(.some 35), .none, .false, (.mv (.tmp 6))⟩, ⟨(.some 36), .none, .false, (.bld [(Go.Value.int Go.IntKind.i64 0), (Go.Value.int Go.IntKind.i64 0)] [(0, 1), (1, 1)] [(0, (.tmp 34)), (1, (.tmp 35))])⟩, ⟨(.some 37), .none, .false, (.call (.func 37) [(.tmp 33), (.tmp 36)])⟩]) (.cond (.tmp 37) (.reg [⟨(.some 38), .none, .false, (.mv (.tmp 5))⟩, ⟨(.some 39), .none, .false, (.bsl (.mk 5 1) 1 [(0, (.const (Go.Value.int Go.IntKind.u8 35)))])⟩, ⟨(.some 40), .none, .false, (.app (.mk 5 1) 1 (.tmp 38) (.tmp 39))⟩, ⟨(.some 5), .none, .false, (.mv (.tmp 40))⟩]) (.reg [⟨(.some 41), .none, .false, (.mv (.tmp 5))⟩, ⟨(.some 42), .none, .false, (.bsl (.mk 5 1) 1 [(0, (.const (Go.Value.int Go.IntKind.u8 46)))])⟩, ⟨(.some 43), .none, .false, (.app (.mk 5 1) 1 (.tmp 41) (.tmp 42))⟩, ⟨(.some 5), .none, .false, (.mv (.tmp 43))⟩])))) (.reg [⟨(.some 31), .none, .false, (.mv (.tmp 7))⟩, ⟨(.some 32), .none, .false, (.bin .add (.tmp 31) (.const (Go.Value.int Go.IntKind.i64 1)))⟩, ⟨(.some 7), .none, .false, (.mv (.tmp 32))⟩])))))) (.seq (.reg [⟨(.some 44), .none, .false, (.mv (.tmp 6))⟩, ⟨(.some 45), .none, .false, (.fa 1 (.tmp 3))⟩, ⟨(.some 46), .none, .false, (.ld .false 1 (.tmp 45))⟩, ⟨(.some 47), .none, .false, (.bin .gtr (.tmp 44) (.tmp 46))⟩]) (.cond (.tmp 47) (.reg [⟨(.some 48), .none, .false, (.mv (.tmp 5))⟩, ⟨(.some 49), .none, .false, (.bsl (.mk 5 1) 1 [(0, (.const (Go.Value.int Go.IntKind.u8 47)))])⟩, ⟨(.some 50), .none, .false, (.app (.mk 5 1) 1 (.tmp 48) (.tmp 49))⟩, ⟨(.some 5), .none, .false, (.mv (.tmp 50))⟩]) .skip)))) (.reg [⟨(.some 23), .none, .false, (.mv (.tmp 6))⟩, ⟨(.some 24), .none, .false, (.bin .sub (.tmp 23) (.const (Go.Value.int Go.IntKind.i64 1)))⟩, ⟨(.some 6), .none, .false, (.mv (.tmp 24))⟩])))))) (.seq (.reg [⟨(.some 51), .none, .false, (.mv (.tmp 5))⟩, ⟨(.some 52), .none, .false, (.b2s (.tmp 51))⟩, ⟨(.some 2), .none, .false, (.mv (.tmp 52))⟩]) .ret))))))
set_option maxRecDepth 100000 in
theorem S.ok15 : stripF Tryd.prog Tryd.f15 = some S.s15 := by kernel_rfl
set_option maxRecDepth 100000 in
def S.s17 : SC := (.seq (.reg [⟨(.some 2), .none, .false, (.mv (.const (Go.Value.slice none 0 0)))⟩, ⟨(.some 3), .none, .false, (.mv (.const (Go.Value.int Go.IntKind.i64 0)))⟩]) (.seq (.reg [⟨(.some 9), .none, .false, (.mv (.tmp 0))⟩, ⟨(.some 10), .none, .false, (.call (.func 20) [(.tmp 9), (.const (Go.Value.string { data := #[47] }))])⟩, ⟨(.some 4), .none, .false, (.mv (.tmp 10))⟩]) (.seq (.reg [⟨(.some 11), .none, .false, (.mv (.tmp 4))⟩, ⟨(.some 12), .none, .false, (.call (.func 39) [(.tmp 11)])⟩]) (.seq (.reg [⟨(.some 5), .none, .false, (.mv (.const (Go.Value.slice none 0 0)))⟩]) (.seq (.seq (.reg [⟨(.some 13), .none, .false, (.mv (.tmp 4))⟩, ⟨(.some 14), .none, .false, (.len (.tmp 13))⟩, ⟨(.some 15), .none, .false, (.mv (.const (Go.Value.int Go.IntKind.i64 0)))⟩]) (.block 0 (.loop (.seq (.reg [⟨(.some 16), .none, .false, (.bin .lss (.tmp 15) (.tmp 14))⟩]) (.seq (.cond (.tmp 16) .skip (.exit 0)) (.seq (.block 1 (.seq (.reg [⟨(.some 17), .none, .false, (.mv (.tmp 15))⟩, ⟨(.some 18), .none, .false, (.ix (.mk 9 1) (.tmp 13) (.tmp 15))⟩, ⟨(.some 19), .none, .false, (.ld .false 1 (.tmp 18))⟩, ⟨(.some 6), .none, .false, (.mv (.tmp 17))⟩, ⟨(.some 7), .none, .false, (.mv (.tmp 19))⟩]) (.seq (.reg [⟨(.some 20), .none, .false, (.mv (.tmp 7))⟩, ⟨(.some 21), .none, .false, (.slen (.tmp 20))⟩, ⟨(.some 22), .none, .false, (.mv (.const (Go.Value.int Go.IntKind.i64 0)))⟩]) (.block 2 (.loop (.seq (.reg [⟨(.some 23), .none, .false, (.bin .lss (.tmp 22) (.tmp 21))⟩]) (.seq (.cond (.tmp 23) .skip (.exit 2)) (.seq (.block 3 (.seq (.reg [⟨(.some 24), .none, .false, (.mv (.tmp 22))⟩, ⟨(.some 8), .none, .false, (.mv (.tmp 24))⟩]) (.seq (.reg [⟨(.some 25), .none, .false, (.mv (.tmp 7))⟩, ⟨(.some 26), .none, .false, (.mv (.tmp 8))⟩, ⟨(.some 27), .none, .false, (.six (.tmp 25) (.tmp 26))⟩, ⟨(.some 28), .none, .false, (.bin .eql (.tmp 27) (.const (Go.Value.int Go.IntKind.u8 35)))⟩]) (.cond (.tmp 28) (.reg [⟨(.some 29), .none, .false, (.mv (.tmp 5))⟩, ⟨(.some 30), .none, .false, (.mv (.tmp 8))⟩, ⟨(.some 31), .none, .false, (.mv (.tmp 6))⟩, ⟨(.some 32), .none, .false, (.bld [(Go.Value.int Go.IntKind.i64 0), (Go.Value.int Go.IntKind.i64 0)] [(0, 1), (1, 1)] [(0, (.tmp 30)), (1, (.tmp 31))])⟩, ⟨(.some 33), .none, .false, (.bsl (.mk 58 2) 1 [(0, (.tmp 32))])⟩, ⟨(.some 34), .none, .false, (.app (.mk 58 2) 16 (.tmp 29) (.tmp 33))⟩, ⟨(.some 5), .none, .false, (.mv (.tmp 34))⟩]) .skip)))) (.reg [⟨(.some 35), .none, .false, (.bin .add (.tmp 22) (.const (Go.Value.int Go.IntKind.i64 1)))⟩, ⟨(.some 22), .none, .false, (.mv (.tmp 35))⟩]))))))))) (.reg [⟨(.some 36), .none, .false, (.bin .add (.tmp 15) (.const (Go.Value.int Go.IntKind.i64 1)))⟩, ⟨(.some 15), .none, .false, (.mv (.tmp 36))⟩]))))))) (.seq (.seq (.reg [⟨(.some 37), .none, .false, (.mv (.tmp 5))⟩, ⟨(.some 38), .none, .false, (.call (.func 29) [(.tmp 37)])⟩, ⟨(.some 39), .none, .false, (.not (.tmp 38))⟩, ⟨(.some 40), .none, .false, (.mv (.tmp 39))⟩, ⟨(.some 41), (.some (40, .false)), .false, (.mv (.tmp 5))⟩, ⟨(.some 42), (.some (40, .false)), .false, (.call (.func 30) [(.tmp 41)])⟩, ⟨(.some 43), (.some (40, .false)), .false, (.mv (.tmp 0))⟩, ⟨(.some 44), (.some (40, .false)), .false, (.bin .neq (.tmp 42) (.tmp 43))⟩, ⟨(.some 45), .none, .false, (.pick (.tmp 40) (.const (Go.Value.bool true)) (.tmp 44))⟩]) (.cond (.tmp 45) (.seq (.reg [⟨(.some 2), .none, .false, (.mv (.const (Go.Value.slice none 0 0)))⟩, ⟨(.some 3), .none, .false, (.mv (.const (Go.Value.int Go.IntKind.i64 6)))⟩]) .ret) .skip)) (.seq (.reg [⟨(.some 46), .none, .false, (.mv (.tmp 5))⟩, ⟨(.some 2), .none, .false, (.mv (.tmp 46))⟩, ⟨(.some 3), .none, .false, (.mv (.const (Go.Value.int Go.IntKind.i64 0)))⟩]) .ret)))))))
set_option maxRecDepth 100000 in
theorem S.ok17 : stripF Tryd.prog Tryd.f17 = some S.s17 := by kernel_rfl
set_option maxRecDepth 20000
set_option maxHeartbeats 8000000
attribute [local go_sem] Oper.semAt_some
theorem okI_sm2 {n : Int} (h : -1000 ≤ n ∧ n ≤ 1000) : okI (.int .i64 n) := by
  show (Lit.int .i64 n).wf = true
  rw [wf_iff]
  simp [IntKind.min, IntKind.max, IntKind.signed, IntKind.bits]
  omega
/-- The letter of a place. -/
def chT (l : List TPoint) (x y : Int) : UInt8 := if (⟨x, y⟩ : TPoint) ∈ l then 35 else 46
/-- The first k letters of a row. -/
def rowT (l : List TPoint) (y : Int) (k : Nat) : List UInt8 := (List.range k).map fun (j : Nat) => chT l ((lowP l).fX + j) y
def widT (l : List TPoint) : Nat := ((highP l).fX - (lowP l).fX + 1).toNat
def hgtT (l : List TPoint) : Nat := ((highP l).fY - (lowP l).fY + 1).toNat
/-- The first m rows, from above. -/
def rowsT (l : List TPoint) (m : Nat) : List ByteArray := (List.range m).map fun (i : Nat) => mkB (rowT l ((highP l).fY - i) (widT l))
def fST (l : List TPoint) : ByteArray := joinB (rowsT l (hgtT l)) ⟨#[47]⟩
theorem rowT_succ (l : List TPoint) (y : Int) (k : Nat) : rowT l y (k + 1) = rowT l y k ++ [chT l ((lowP l).fX + k) y] := by unfold rowT; rw [List.range_succ, List.map_append]; rfl
theorem rowT_len (l : List TPoint) (y : Int) (k : Nat) : (rowT l y k).length = k := by simp [rowT]
theorem rowsT_succ (l : List TPoint) (m : Nat) : rowsT l (m + 1) = rowsT l m ++ [mkB (rowT l ((highP l).fY - m) (widT l))] := by unfold rowsT; rw [List.range_succ, List.map_append]; rfl
theorem rowsT_len (l : List TPoint) (m : Nat) : (rowsT l m).length = m := by simp [rowsT]
theorem low_high {l : List TPoint} (h : okSh l) : (lowP l).fX ≤ (highP l).fX ∧ (lowP l).fY ≤ (highP l).fY := by
  have hb := sh_bnd (sh_ne h)
  obtain ⟨p, hp⟩ := sh_head h
  have := hb.all p (List.mem_of_getElem? hp)
  simp only at this
  omega
theorem wid_ok {l : List TPoint} (h : okSh l) : (1 ≤ widT l ∧ widT l ≤ 121) ∧ (1 ≤ hgtT l ∧ hgtT l ≤ 121) ∧ ((widT l : Nat) : Int) = (highP l).fX - (lowP l).fX + 1 ∧ ((hgtT l : Nat) : Int) = (highP l).fY - (lowP l).fY + 1 := by
  obtain ⟨h1, h2⟩ := low_ok h
  obtain ⟨h3, h4⟩ := low_high h
  unfold widT hgtT
  unfold okP at *
  omega
theorem join_le (c : Nat) : ∀ X : List (List UInt8), (∀ x ∈ X, x.length ≤ c) → (Lib.join X [47]).length ≤ X.length * (c + 1)
  | [], _ => by simp [Lib.join_nil]
  | [x], h => by
    rw [Lib.join_one]
    have := h x (by simp)
    simp
    omega
  | x :: y :: X, h => by
    rw [join_cons3 _ _ _ (by simp), List.length_append, List.length_append]
    have h1 := h x (by simp)
    have h2 := join_le c (y :: X) fun z hz => h z (by simp [hz])
    rw [List.length_cons (a := x), Nat.succ_mul]
    simp only [List.length_singleton]
    omega
theorem rowsT_join {l : List TPoint} (h : okSh l) : (Lib.join ((rowsT l (hgtT l)).map (·.data.toList)) [47]).length ≤ 121 * 122 := by
  obtain ⟨⟨_, hw⟩, ⟨_, hh⟩, _⟩ := wid_ok h
  refine Nat.le_trans (join_le 121 _ fun x hx => ?_) ?_
  · obtain ⟨b, hb, rfl⟩ := List.mem_map.1 hx
    obtain ⟨i, _, rfl⟩ := List.mem_map.1 hb
    show (List.toArray _).toList.length ≤ 121
    rw [List.toList_toArray, rowT_len]
    exact hw
  · rw [List.length_map, rowsT_len]
    exact Nat.mul_le_mul_right _ hh
theorem byteCells_snoc (l : List UInt8) (c : UInt8) : Lib.byteCells (l ++ [c]) = Lib.byteCells l ++ [.int .u8 c.toNat] := by simp [Lib.byteCells]
theorem infoStr' : (Tryd.prog.info? 9).map (fun i => (i.zero, i.size, i.bytes)) = some (some (.string ⟨#[]⟩), 1, 16) := by kernel_rfl
theorem one_cell {W : World} {g T : Nat} {v : Value} {p : Nat × Nat} (h : W.heap[g]? = some (.cells #[v] T p)) : ∀ (j : Nat) (y : Value), [v][j]? = some y → W.cell? ((⟨g, 0, none⟩ : Addr).add j) = some y := fun j y hj => by
  cases j with
  | zero => simp at hj; subst hj; simp [World.cell?, h, Addr.add]
  | succ j => simp at hj
theorem own_cells {W : World} {n₀ T n g cap : Nat} {xs : List ByteArray} (h : W.ownsRow n₀ T 1 (.slice (some ⟨g, 0, none⟩) n cap) xs.length (xs.map Value.string)) (hn : xs.length = n) : g < W.heap.size ∧ n ≤ cap ∧ ∀ (j : Nat) (x : ByteArray), xs[j]? = some x → W.cell? ⟨g, 0 + j, none⟩ = some (.string x) := by
  rcases h.2 with ⟨h0, _⟩ | ⟨g', cp, cur, he, _, hg, hnc, _, _, htake⟩
  · cases h0
  · cases he
    refine ⟨(Array.getElem?_eq_some_iff.1 hg).1, by omega, fun j x hx => ?_⟩
    have hj := (List.getElem?_eq_some_iff.1 hx).1
    have h1 : (cur.toList.take (xs.length * 1))[j]? = (xs.map Value.string)[j]? := by rw [htake]
    rw [List.getElem?_take_of_lt (by omega), Array.getElem?_toList, List.getElem?_map, hx] at h1
    unfold World.cell?
    rw [hg, Nat.zero_add]
    exact h1
theorem isB_keep {T e B b : Nat} {bs : List Value} {w w' : World} (h : Lib.IsBuilder T e B b bs w) (hb : Below w.heap.size w w') : Lib.IsBuilder T e B b bs w' := by
  have one : ∀ p, Lib.BuilderAt T e B b p bs w → Lib.BuilderAt T e B b p bs w' := fun p hA => by
    obtain ⟨h1, v, h2, h3, h4⟩ := hA
    exact ⟨h1, v, (hb.block _ (Array.getElem?_eq_some_iff.1 h2).1).trans h2, h3.kept (⟨hb.os, hb.tape, hb.output, hb.size, fun k hk _ => hb.block k hk⟩ : w.grownBy w' none) (by cases hu : v.ownBlock <;> simp), h4⟩
  rcases h with h | h
  · exact .inl (one _ h)
  · exact .inr (one _ h)
/-- A contract with two points as results, at a world. -/
theorem specT_PP {P : Program} {k : FuncId} {args : List VD} {a b c d : Int} (h : Spec P k args (.tup [.agg [.fz (iD a), .fz (iD b)], .agg [.fz (iD c), .fz (iD d)]])) {W : World} {R : Nat → Prop} {vs : List Value} (hT : TabsOk W) (hR : ∀ b, R b → b < W.heap.size) (hF : F2 (RVD W (fun b => R b ∨ ∃ x ∈ tabG, x.1 = b)) vs args) :
    Calls P k vs.toArray W fun e W' => e = .returned (.tuple #[.agg #[.int .i64 a, .int .i64 b], .agg #[.int .i64 c, .int .i64 d]]) ∧ Below W.heap.size W W' := by
  have hR' : ∀ b, (R b ∨ ∃ x ∈ tabG, x.1 = b) → b < W.heap.size := fun b hb => by
    rcases hb with hb | ⟨x, hx, rfl⟩
    · exact hR b hb
    · exact (hT x hx).lt
  refine (h.2 W _ (fun _ => undef) (fun _ => []) vs hR' (specT_args hF) ⟨fun o x h => (by cases h), fun o x h => (by cases h), fun o p x y g h => (by cases h), fun x hx => ⟨.inr ⟨x, hx, rfl⟩, hT x hx⟩⟩).mono fun e W' => ?_
  rintro ⟨v, rfl, R', ι', φ', hb, hs, hz, _, hra, _⟩
  refine ⟨?_, hb.below (fun g ⟨o, x, h, _⟩ => by cases h)⟩
  obtain ⟨us, rfl, hus⟩ := hra
  cases hus with | cons u1 hus => cases hus with | cons u2 hus =>
  cases hus
  obtain ⟨vs1, rfl, h1⟩ := u1
  obtain ⟨vs2, rfl, h2⟩ := u2
  cases h1 with | cons a1 h1 => cases h1 with | cons a2 h1 =>
  cases h1
  cases h2 with | cons b1 h2 => cases h2 with | cons b2 h2 =>
  cases h2
  cases (show RD W' R' _ (iD a) from a1)
  cases (show RD W' R' _ (iD b) from a2)
  cases (show RD W' R' _ (iD c) from b1)
  cases (show RD W' R' _ (iD d) from b2)
  rfl
theorem shText1 (l : List TPoint) (h : okSh l) (w : World) (hTb : TabsOk w) (v : Value) (R : Nat → Prop) (hR : ∀ b, R b → b < w.heap.size) (hv : RD w R v (.rd kPoint (l.map enPoint))) :
    Calls Tryd.prog 30 #[v] w fun e W' => e = .returned (.string (fST l)) ∧ Below w.heap.size w W' := by
  obtain ⟨p, hp⟩ := sh_head h
  have hb := iBounds p l hp
  rw [← (low_head hp).1, ← (low_head hp).2] at hb
  have hvW : ∀ W : World, Below w.heap.size w W → RD W (fun b => R b ∨ ∃ x ∈ tabG, x.1 = b) v (.rd kPoint (l.map enPoint)) := fun W hW => hv.keep (fun _ h => .inl h) fun b hb => hW.block b (hR b hb)
  have hRW : ∀ W : World, Below w.heap.size w W → ∀ b, R b → b < W.heap.size := fun W hW b hb => Nat.lt_of_lt_of_le (hR b hb) hW.size
  have hBd := specT_PP hb hTb hR (vs := [v]) (.cons (hvW w (Below.refl _ _)) .nil)
  have hIn : ∀ (W : World), Below w.heap.size w W → ∀ x y : Int, okI (.int .i64 x) → okI (.int .i64 y) → Calls Tryd.prog 56 #[v, .agg #[.int .i64 x, .int .i64 y]] W fun e W' => e = .returned (.bool (decide ((⟨x, y⟩ : TPoint) ∈ l))) ∧ Below W.heap.size W W' := fun W hW x y h1 h2 =>
    specT_B (iIsIn l ⟨x, y⟩ h) (hTb.below hW) (hRW W hW) (vs := [v, .agg #[.int .i64 x, .int .i64 y]]) (.cons (hvW W hW) (.cons ⟨[_, _], rfl, .cons (.pv rfl h1) (.cons (.pv rfl h2) .nil)⟩ .nil))
  clear hvW hRW hv hb
  obtain ⟨⟨hw1, hw2⟩, ⟨hh1, hh2⟩, hwe, hhe⟩ := wid_ok h
  obtain ⟨⟨lx1, ly1⟩, ⟨hx1, hy1⟩⟩ := low_ok h
  have hJl := rowsT_join h
  go_enter Tryd.func30, Tryd.ntmps30
  go_wp2_with (go_at_call 55; refine hBd.mono ?_; rintro e w1 ⟨rfl, hb1⟩)
  have hB2 : Below w.heap.size w ((w1.alloc (.cells #[.int .i64 (lowP l).fX, .int .i64 (lowP l).fY] 58)).alloc (.cells #[.int .i64 (highP l).fX, .int .i64 (highP l).fY] 58)) := (hb1.alloc hb1.size _).alloc (by simp; have := hb1.size; omega) _
  have bL : ((w1.alloc (.cells #[.int .i64 (lowP l).fX, .int .i64 (lowP l).fY] 58)).alloc (.cells #[.int .i64 (highP l).fX, .int .i64 (highP l).fY] 58)).heap[w1.heap.size]? = some (.cells #[.int .i64 (lowP l).fX, .int .i64 (lowP l).fY] 58 (0, 0)) := (Below.heap_alloc _ _ _ (by simp)).trans (World.alloc_heap_new _ _)
  have bH : ((w1.alloc (.cells #[.int .i64 (lowP l).fX, .int .i64 (lowP l).fY] 58)).alloc (.cells #[.int .i64 (highP l).fX, .int .i64 (highP l).fY] 58)).heap[w1.heap.size + 1]? = some (.cells #[.int .i64 (highP l).fX, .int .i64 (highP l).fY] 58 (0, 0)) := by
    have := World.alloc_heap_new (w1.alloc (.cells #[.int .i64 (lowP l).fX, .int .i64 (lowP l).fY] 58)) (.cells #[.int .i64 (highP l).fX, .int .i64 (highP l).fY] 58)
    simpa using this
  have hsz2 : ((w1.alloc (.cells #[.int .i64 (lowP l).fX, .int .i64 (lowP l).fY] 58)).alloc (.cells #[.int .i64 (highP l).fX, .int .i64 (highP l).fY] 58)).heap.size = w1.heap.size + 2 := by simp
  generalize (w1.alloc (.cells #[.int .i64 (lowP l).fX, .int .i64 (lowP l).fY] 58)).alloc (.cells #[.int .i64 (highP l).fX, .int .i64 (highP l).fY] 58) = w2 at *
  generalize w1.heap.size = b3 at *
  clear hb1 hBd
  go_loopw [5, 6] (fun s5 s6 wr => ∃ m : Nat, m ≤ hgtT l ∧ s6 = .int .i64 ((highP l).fY - m) ∧ wr.ownsRow w2.heap.size 9 1 s5 m ((rowsT l m).map Value.string) ∧ Below w2.heap.size w2 wr) (fun _ s6 _ => (intOf s6 - (lowP l).fY + 1).toNat)
  case atStart => exact ⟨0, Nat.zero_le _, by simp, World.ownsRow_nil _ _ _ _, Below.refl _ _⟩
  case round =>
    obtain ⟨m, hm, rfl, hrow, hbw⟩ := hrel
    rename World => wo
    have cL0 : wo.cell? ⟨b3, 0, none⟩ = some (.int .i64 (lowP l).fX) := by simp [World.cell?, (hbw.block _ (by omega)).trans bL]
    have cL1 : wo.cell? ⟨b3, 1, none⟩ = some (.int .i64 (lowP l).fY) := by simp [World.cell?, (hbw.block _ (by omega)).trans bL]
    by_cases hml : m < hgtT l
    · have hge : (highP l).fY - (m : Int) ≥ (lowP l).fY := by omega
      have hyo : okI (.int .i64 ((highP l).fY - (m : Int))) := okI_sm2 ⟨by omega, by omega⟩
      have hst := rowsT_succ l m
      have hsub : RowKit.wrap64 ((highP l).fY - (m : Int) - 1) = (highP l).fY - ((m + 1 : Nat) : Int) := by
        rw [IntWalk.wrap64_in _ (by omega)]; omega
      generalize hyv : (highP l).fY - (m : Int) = y at *
      have hbw0 : Below w.heap.size w wo := hB2.trans (hbw.mono hB2.size)
      have hw2r := hbw.size
      have hbH : wo.heap[b3 + 1]? = _ := (hbw.block _ (by omega)).trans bH
      have cL0' : (wo.alloc (.cells #[.pointer none, .slice none 0 0] 72)).cell? ⟨b3, 0, none⟩ = some (.int .i64 (lowP l).fX) := by
        rw [World.cell?_alloc_old _ _ _ (by show b3 ≠ _; omega)]
        exact cL0
      have HB := Lib.hid hbw
      clear hbw
      go_wp2_with fail
      go_loopw [8] (fun s8 wr => ∃ k : Nat, k ≤ widT l ∧ s8 = .int .i64 ((lowP l).fX + k) ∧ Lib.IsBuilder 72 5 wo.heap.size wo.heap.size (Lib.byteCells (rowT l y k)) wr ∧ Below wo.heap.size wo wr) (fun s8 _ => ((highP l).fX - intOf s8 + 1).toNat)
      case atStart => exact ⟨0, Nat.zero_le _, by simp, Lib.fresh_isBuilder 72 5 wo, (Below.refl _ wo).alloc (Nat.le_refl _) _⟩
      case round =>
        obtain ⟨k, hk, rfl, hIb, hbq⟩ := hrel
        have cH0 : wr.cell? ⟨b3 + 1, 0, none⟩ = some (.int .i64 (highP l).fX) := by simp [World.cell?, (hbq.block _ (by omega)).trans hbH]
        by_cases hkw : k < widT l
        · have hle : (lowP l).fX + (k : Int) ≤ (highP l).fX := by omega
          have hxo : okI (.int .i64 ((lowP l).fX + (k : Int))) := okI_sm2 ⟨by omega, by omega⟩
          have hI := hIn wr (hbw0.trans (hbq.mono hbw0.size)) _ _ hxo hyo
          have hlim : (Lib.byteCells (rowT l y k)).length + 1 ≤ 140737488355328 := by
            rw [Lib.byteCells_length, rowT_len]; omega
          have hbz := hbq.size
          by_cases hin : (⟨(lowP l).fX + (k : Int), y⟩ : TPoint) ∈ l
          all_goals (first | rw [decide_eq_true hin] at hI | rw [decide_eq_false hin] at hI)
          · have hch : chT l ((lowP l).fX + (k : Int)) y = 35 := if_pos hin
            go_wp2_with (first | (go_at_call 56; refine hI.mono ?_; rintro e w' ⟨rfl, hbi⟩; have hW := Tryd.Builder_WriteByte wo.heap.size wo.heap.size _ 35 w' (isB_keep hIb hbi) hlim (Nat.le_trans hbz hbi.size)) | (go_at_call 46; refine hW.mono ?_; rintro e w'' ⟨rfl, hB3, hB4⟩))
            go_roundw
            case rel => exact ⟨k + 1, hkw, congrArg (Value.int .i64) (by omega), .inr (by rw [rowT_succ, byteCells_snoc, hch]; exact hB3), (hbq.trans (hbi.mono hbz)).trans hB4⟩
            case measure =>
              show ((highP l).fX - ((lowP l).fX + (k : Int) + 1) + 1).toNat < ((highP l).fX - ((lowP l).fX + (k : Int)) + 1).toNat
              omega
          · have hch : chT l ((lowP l).fX + (k : Int)) y = 46 := if_neg hin
            go_wp2_with (first | (go_at_call 56; refine hI.mono ?_; rintro e w' ⟨rfl, hbi⟩; have hW := Tryd.Builder_WriteByte wo.heap.size wo.heap.size _ 46 w' (isB_keep hIb hbi) hlim (Nat.le_trans hbz hbi.size)) | (go_at_call 46; refine hW.mono ?_; rintro e w'' ⟨rfl, hB3, hB4⟩))
            go_roundw
            case rel => exact ⟨k + 1, hkw, congrArg (Value.int .i64) (by omega), .inr (by rw [rowT_succ, byteCells_snoc, hch]; exact hB3), (hbq.trans (hbi.mono hbz)).trans hB4⟩
            case measure =>
              show ((highP l).fX - ((lowP l).fX + (k : Int) + 1) + 1).toNat < ((highP l).fX - ((lowP l).fX + (k : Int)) + 1).toNat
              omega
        · obtain rfl : k = widT l := by omega
          have hle : ¬ ((lowP l).fX + (widT l : Int) ≤ (highP l).fX) := by omega
          have hS := Tryd.Builder_String_any wo.heap.size wo.heap.size (rowT l y (widT l)) wr hIb hbq.size
          obtain ⟨i0, hi, hz0, hz1, hz2⟩ := info_parts infoStr'
          have hmx1 : m + 1 ≤ maxLen := by unfold maxLen; omega
          have hmx2 : (m + 1) * 16 ≤ 140737488355328 := by omega
          have HM := Lib.hid (And.intro hmx1 hmx2)
          clear hmx1 hmx2 hJl
          obtain ⟨X, hX⟩ : ∃ X, mkB (rowT l y (widT l)) = X := ⟨_, rfl⟩
          change Calls _ _ _ _ (fun e w' => e = .returned (.string (mkB (rowT l y (widT l)))) ∧ _) at hS
          rw [hX] at hS
          have hw2o := hw2r
          clear cL0' cL0 cL1 hbH hIb
          go_wp2_with (first | (go_at_call 47; refine hS.mono ?_; rintro e w3 ⟨rfl, hb3⟩) | (at_builtin; have hb5 : Below wo.heap.size wo (w3.alloc (.cells #[.string X] 9)) := (hbq.trans hb3).alloc (Nat.le_trans hbq.size hb3.size) _; have b9 : (w3.alloc (.cells #[.string X] 9)).heap[w3.heap.size]? = some (.cells #[.string X] 9) := World.alloc_heap_new _ _; refine wpList_append_own_at _ rfl (.tmp 37) (.tmp 39) 39 rfl w2.heap.size 9 i0 (.string ⟨#[]⟩) 1 16 Tryd.underlying39 hi hz0 hz1 hz2 rfl (by decide) u5 m _ rfl (hrow.kept (⟨hb5.os, hb5.tape, hb5.output, hb5.size, fun k hk _ => hb5.block k hk⟩ : wo.grownBy _ none) (by cases hu : u5.ownBlock <;> simp)) ⟨w3.heap.size, 0, none⟩ 1 1 [.string X] rfl rfl (one_cell b9) (by simp [Value.oneCell']) HM.out.1 HM.out.2 (Nat.le_trans hw2r hb5.size) ?_; intro v' w4 hown' hgrow _ _))
          refine ⟨⟨m + 1, hml, congrArg (Value.int .i64) (by omega), ?_, ?_⟩, ?_⟩
          · rw [hst, hX, List.map_append]
            exact hown'
          · exact (HB.out.trans (hb5.mono hw2r)).grown hgrow (Nat.le_trans hw2r hb5.size) (fun k e => (hrow.lt k e).1)
          · show (y - 1 - (lowP l).fY + 1).toNat < (y - (lowP l).fY + 1).toNat
            omega
    · obtain rfl : m = hgtT l := by omega
      have hge : ¬ ((highP l).fY - (hgtT l : Int) ≥ (lowP l).fY) := by omega
      obtain ⟨n0, hn0⟩ : ∃ n0, hgtT l = n0 + 1 := ⟨hgtT l - 1, by omega⟩
      have hrow2 := hrow
      rw [hn0] at hrow2
      obtain ⟨g, cp, rfl⟩ := ownsRow_succ hrow2
      have hlr : (rowsT l (hgtT l)).length = n0 + 1 := by rw [rowsT_len, hn0]
      obtain ⟨hgl, hcp, hcl⟩ := own_cells (xs := rowsT l (hgtT l)) (by rw [rowsT_len]; exact hrow) (by rw [hlr])
      have hJ := Tryd.strings_Join g 0 cp (rowsT l (hgtT l)) ⟨#[47]⟩ wo hcl hgl (by rw [hlr]; omega) (by rw [hlr]; exact hcp) (Nat.le_trans hJl (by decide))
      rw [hlr] at hJ
      have hf : (⟨(Lib.join ((rowsT l (hgtT l)).map (·.data.toList)) (⟨#[47]⟩ : ByteArray).data.toList).toArray⟩ : ByteArray) = fST l := rfl
      rw [hf] at hJ
      have hbw0 : Below w.heap.size w wo := hB2.trans (hbw.mono hB2.size)
      clear hrow hrow2 hcl hJl hIn
      go_wp2_with (go_at_call 48; refine hJ.mono ?_; rintro e w' ⟨rfl, hbj⟩)
      go_ret
      exact ⟨rfl, hbw0.trans (hbj.mono hbw0.size)⟩
theorem fST_ok {l : List TPoint} (h : okSh l) : okI (.string (fST l)) := by
  show ((Lib.join ((rowsT l (hgtT l)).map (·.data.toList)) [47]).toArray).size ≤ maxLen
  rw [List.size_toArray]
  exact Nat.le_trans (rowsT_join h) (by decide)
theorem iShText (l : List TPoint) (h : okSh l) : Spec Tryd.prog 30 [vPts l] (oS (fST l)) := by
  refine ⟨callFunc_enter Tryd.func30 rfl (by simp [Tryd.f30]), fun w R ι φ vs hR hFs ho => ?_⟩
  cases hFs with | cons h1 h2 =>
  cases h2
  rename_i v
  have h1 : RD w R v (.rd kPoint (l.map enPoint)) := h1
  have hTb : TabsOk w := fun x hx => (ho.2.2.2 x hx).2
  refine (shText1 l h w hTb v R hR h1).mono ?_
  rintro e w1 ⟨rfl, hbl⟩
  have hn : ∀ o x, frO [] o = some x → False := fun o x h => by simp [frO] at h
  have hO : ObjsOk w1 R ι φ (frO []) := ⟨fun o x h => (hn o x h).elim, fun o x h => (hn o x h).elim, fun o p x y g h => (hn o x h).elim, ho.2.2.2.keep (fun _ h => h) fun b hb => hbl.block b (hR b hb)⟩
  refine ⟨.string (fST l), rfl, R, ι, φ, BelowM.of_below hbl, fun b h => h, fun b h => Nat.lt_of_lt_of_le (hR b h) hbl.size, fun b h _ => .inl h, RA.of_pv rfl (fST_ok h), hO, fun g h => ?_, fun o h => rfl⟩
  obtain ⟨o, x, h, _⟩ := h
  exact (hn o x h).elim
theorem iShapeText (l : List TPoint) (h : okSh l) : Spec Tryd.prog 12 [vPts l] (oS (fST l)) := by
  refine Spec.walk T.mixed Tryd.func12 S.ok12 (by simp [Tryd.f12]) fun hk => ?_
  have hT := iShT h
  have hS := iShText l h
  unfold S.s12
  repeat' (first | refine R.mv rfl ?_ | refine R.reg ?_ | refine R.nil ?_ | refine R.seq ?_ | refine R.nseq ?_ | refine R.nblk ?_ | refine R.skip ?_ | refine R.blk ?_ | refine R.exit rfl ?_ | refine R.not rfl ?_ | refine R.condT rfl ?_ | refine R.condF rfl ?_ | refine R.call (bor := false) rfl rfl (hT) rfl rfl rfl ?_ | refine R.call (bor := true) rfl rfl (hT) rfl rfl rfl ?_ | refine R.fcal (bor := false) rfl rfl (hT) rfl rfl rfl ?_ | refine R.fcal (bor := true) rfl rfl (hT) rfl rfl rfl ?_ | refine R.call (bor := false) rfl rfl (hS) rfl rfl rfl ?_ | refine R.call (bor := true) rfl rfl (hS) rfl rfl rfl ?_ | refine R.fcal (bor := false) rfl rfl (hS) rfl rfl rfl ?_ | refine R.fcal (bor := true) rfl rfl (hS) rfl rfl rfl ?_ | refine R.cond rfl (fun hc => ?_) (fun hc => ?_) | refine R.condN rfl (fun hc => ?_) (fun hc => ?_) | refine R.condB rfl (fun hc => ?_) (fun hc => ?_))
  all_goals first | (exfalso; simp_all; done) | exact R.ret ⟨.inr rfl, R.outS rfl rfl rfl⟩
def u8I (n : Int) : UInt8 := UInt8.ofNat n.toNat
def chI (l : List TPoint) (x y : Int) : Int := if (⟨x, y⟩ : TPoint) ∈ l then 35 else 46
def rowI (l : List TPoint) (y : Int) (k : Nat) : List Int := (List.range k).map fun (j : Nat) => chI l ((lowP l).fX + j) y
theorem rowI_succ (l : List TPoint) (y : Int) (k : Nat) : rowI l y (k + 1) = rowI l y k ++ [chI l ((lowP l).fX + k) y] := by unfold rowI; rw [List.range_succ, List.map_append]; rfl
theorem rowI_len (l : List TPoint) (y : Int) (k : Nat) : (rowI l y k).length = k := by simp [rowI]
/-- The first m rows, each with its line behind it but the last. -/
def txI (l : List TPoint) : Nat → List Int
  | 0 => []
  | m + 1 => txI l m ++ rowI l ((highP l).fY - m) (widT l) ++ (if (highP l).fY - m > (lowP l).fY then [47] else [])
theorem txI_len {l : List TPoint} : ∀ m, (txI l m).length ≤ m * (widT l + 1)
  | 0 => by simp [txI]
  | m + 1 => by
    have := txI_len (l := l) m
    rw [txI, List.length_append, List.length_append, rowI_len, Nat.succ_mul]
    split
    · simp only [List.length_singleton]; omega
    · simp only [List.length_nil]; omega
theorem rowI_u8 (l : List TPoint) (y : Int) (k : Nat) : (rowI l y k).map u8I = rowT l y k := by
  unfold rowI rowT
  rw [List.map_map]
  refine List.map_congr_left fun j _ => ?_
  show u8I (chI l _ y) = chT l _ y
  unfold chI chT
  split <;> rfl
theorem join_snoc (x : List UInt8) : ∀ X : List (List UInt8), Lib.join (X ++ [x]) [47] = (X.flatMap fun r => r ++ [47]) ++ x
  | [] => by simp [Lib.join_one]
  | y :: X => by
    rw [List.cons_append, join_cons3 _ _ _ (by simp), join_snoc x X, List.flatMap_cons]
    simp
theorem txI_pre {l : List TPoint} (h : okSh l) : ∀ m, m < hgtT l → (txI l m).map u8I = ((List.range m).map fun (i : Nat) => rowT l ((highP l).fY - i) (widT l)).flatMap fun r => r ++ [47]
  | 0, _ => rfl
  | m + 1, hm => by
    obtain ⟨_, _, _, hh⟩ := wid_ok h
    rw [txI, if_pos (by omega), List.map_append, List.map_append, rowI_u8, txI_pre h m (by omega), List.range_succ, List.map_append, List.flatMap_append]
    simp only [List.map_singleton, List.flatMap_singleton, List.append_assoc]
    rfl
theorem txI_fST {l : List TPoint} (h : okSh l) : bsOf (txI l (hgtT l)) = fST l := by
  obtain ⟨_, ⟨hh1, _⟩, _, hh⟩ := wid_ok h
  obtain ⟨m, hm⟩ : ∃ m, hgtT l = m + 1 := ⟨hgtT l - 1, by omega⟩
  have hp := txI_pre h m (by omega)
  have e1 : (txI l (m + 1)).map u8I = (((List.range m).map fun (i : Nat) => rowT l ((highP l).fY - i) (widT l)).flatMap fun r => r ++ [47]) ++ rowT l ((highP l).fY - m) (widT l) := by
    rw [txI, if_neg (by omega), List.append_nil, List.map_append, rowI_u8, hp]
  have e2 : (rowsT l (m + 1)).map (fun (b : ByteArray) => b.data.toList) = ((List.range m).map fun (i : Nat) => rowT l ((highP l).fY - i) (widT l)) ++ [rowT l ((highP l).fY - m) (widT l)] := by
    rw [rowsT_succ, List.map_append]
    unfold rowsT
    rw [List.map_map]
    simp only [List.map_singleton]
    congr 1
  unfold fST joinB bsOf
  rw [hm, e2]
  show (⟨((txI l (m + 1)).map u8I).toArray⟩ : ByteArray) = ⟨(Lib.join _ [47]).toArray⟩
  rw [e1, join_snoc]
theorem sShapeText (l : List TPoint) (h : okSh l) : Spec Tryd.prog 15 [vPts l] (oS (fST l)) := by
  refine Spec.walk T.mixed Tryd.func15 S.ok15 (by simp [Tryd.f15]) fun hk => ?_
  clear hk
  obtain ⟨p, hp⟩ := sh_head h
  have hC := sShT h
  have hb := sBounds p l hp
  rw [← (low_head hp).1, ← (low_head hp).2] at hb
  obtain ⟨⟨hw1, hw2⟩, ⟨hh1, hh2⟩, hwe, hhe⟩ := wid_ok h
  obtain ⟨⟨lx1, ly1⟩, ⟨hx1, hy1⟩⟩ := low_ok h
  have hHas := fun q => sHas l q h
  rw [← txI_fST h]
  unfold S.s15
  repeat' (first | refine R.mv rfl ?_ | refine R.reg ?_ | refine R.nil ?_ | refine R.seq ?_ | refine R.nseq ?_ | refine R.nblk ?_ | refine R.skip ?_ | refine R.blk ?_ | refine R.exit rfl ?_ | refine R.ldEp rfl rfl (by assumption) rfl rfl ?_ | refine R.ldaEp rfl rfl (by assumption) (Nat.le_of_ble_eq_true rfl) rfl rfl ?_ | refine R.ld rfl rfl rfl ?_ | refine R.lda rfl rfl (Nat.le_of_ble_eq_true rfl) rfl ?_ | refine R.fa rfl rfl ?_ | refine R.leq rfl rfl ?_ | refine R.gtr rfl rfl ?_ | refine R.geq rfl rfl ?_ | refine R.add rfl rfl (by omega) ?_ | refine R.sub rfl rfl (by omega) ?_ | refine R.not rfl ?_ | refine R.mvU rfl ?_ | refine R.ext rfl rfl ?_ | refine R.al rfl ?_ | refine R.stoB rfl rfl rfl rfl ⟨rfl, rfl, Nat.le_of_ble_eq_true rfl⟩ rfl ?_ | refine R.stoE _ rfl rfl rfl rfl rfl (by assumption) rfl ⟨rfl, rfl, Nat.le_of_ble_eq_true rfl⟩ ?_ | refine R.bld rfl rfl ?_ | refine R.condT rfl ?_ | refine R.condF rfl ?_ | refine R.call (bor := false) rfl rfl (hC) rfl rfl rfl ?_ | refine R.call (bor := true) rfl rfl (hC) rfl rfl rfl ?_ | refine R.fcal (bor := false) rfl rfl (hC) rfl rfl rfl ?_ | refine R.fcal (bor := true) rfl rfl (hC) rfl rfl rfl ?_ | refine R.call (bor := false) rfl rfl (hb) rfl rfl rfl ?_ | refine R.call (bor := true) rfl rfl (hb) rfl rfl rfl ?_ | refine R.fcal (bor := false) rfl rfl (hb) rfl rfl rfl ?_ | refine R.fcal (bor := true) rfl rfl (hb) rfl rfl rfl ?_ | refine R.bsl (f := enB8) ([] : List Int) rfl rfl rfl rfl rfl ?_ | refine R.cond rfl (fun hc => ?_) (fun hc => ?_) | refine R.condN rfl (fun hc => ?_) (fun hc => ?_) | refine R.condB rfl (fun hc => ?_) (fun hc => ?_))
  all_goals first | (exfalso; simp_all; done) | skip
  refine R.loop (G := Nat) (fun m => [(0, rdA kPoint (l.map enPoint)), (3, .v (.c (.ptr 3 0))), (4, .v (.c (.ptr 4 0))), (5, .v (.c (.own 16))), (6, pvA (.int .i64 ((highP l).fY - m)))]) (fun m => [(3, .box 58 ((enPoint (lowP l)).map B.d)), (4, .box 58 ((enPoint (highP l)).map B.d)), (16, .arr ⟨5, 1⟩ ((txI l m).map enB8) [])]) (fun m => m ≤ hgtT l) (fun m => hgtT l - m) 0 (Nat.zero_le _) (Weak.frame _ _ ⟨rfl, rfl, rfl, rfl, (congrArg (fun z => pvA (.int .i64 z)) (show (highP l).fY = (highP l).fY - ((0 : Nat) : Int) by omega)), trivial⟩ ⟨rfl, rfl, rfl, trivial⟩ rfl rfl) fun m hm => ?_
  have htl := txI_len (l := l) m
  have htl2 : m * (widT l + 1) ≤ 121 * 122 := Nat.mul_le_mul (by omega) (by omega)
  by_cases hml : m < hgtT l
  case neg =>
    obtain rfl : m = hgtT l := by omega
    repeat' (first | refine R.mv rfl ?_ | refine R.reg ?_ | refine R.nil ?_ | refine R.seq ?_ | refine R.nseq ?_ | refine R.nblk ?_ | refine R.skip ?_ | refine R.blk ?_ | refine R.exit rfl ?_ | refine R.ldEp rfl rfl (by assumption) rfl rfl ?_ | refine R.ldaEp rfl rfl (by assumption) (Nat.le_of_ble_eq_true rfl) rfl rfl ?_ | refine R.ld rfl rfl rfl ?_ | refine R.lda rfl rfl (Nat.le_of_ble_eq_true rfl) rfl ?_ | refine R.fa rfl rfl ?_ | refine R.leq rfl rfl ?_ | refine R.gtr rfl rfl ?_ | refine R.geq rfl rfl ?_ | refine R.add rfl rfl (by omega) ?_ | refine R.sub rfl rfl (by omega) ?_ | refine R.not rfl ?_ | refine R.mvU rfl ?_ | refine R.ext rfl rfl ?_ | refine R.al rfl ?_ | refine R.stoB rfl rfl rfl rfl ⟨rfl, rfl, Nat.le_of_ble_eq_true rfl⟩ rfl ?_ | refine R.stoE _ rfl rfl rfl rfl rfl (by assumption) rfl ⟨rfl, rfl, Nat.le_of_ble_eq_true rfl⟩ ?_ | refine R.bld rfl rfl ?_ | refine R.condT rfl ?_ | refine R.condF rfl ?_ | refine R.b2s (κ := ⟨5, 1⟩) _ rfl rfl rfl ?_ | refine R.cond rfl (fun hc => ?_) (fun hc => ?_) | refine R.condN rfl (fun hc => ?_) (fun hc => ?_) | refine R.condB rfl (fun hc => ?_) (fun hc => ?_))
    all_goals first
      | (exfalso; omega)
      | exact R.ret ⟨.inr rfl, R.outS rfl rfl rfl⟩
      | skip
  have hst : txI l (m + 1) = txI l m ++ rowI l ((highP l).fY - m) (widT l) ++ (if (highP l).fY - m > (lowP l).fY then [47] else []) := rfl
  have hsub : (highP l).fY - (m : Int) - 1 = (highP l).fY - ((m + 1 : Nat) : Int) := by omega
  have hge : (highP l).fY - (m : Int) ≥ (lowP l).fY := by omega
  generalize hyv : (highP l).fY - (m : Int) = y at *
  repeat' (first | refine R.mv rfl ?_ | refine R.reg ?_ | refine R.nil ?_ | refine R.seq ?_ | refine R.nseq ?_ | refine R.nblk ?_ | refine R.skip ?_ | refine R.blk ?_ | refine R.exit rfl ?_ | refine R.ldEp rfl rfl (by assumption) rfl rfl ?_ | refine R.ldaEp rfl rfl (by assumption) (Nat.le_of_ble_eq_true rfl) rfl rfl ?_ | refine R.ld rfl rfl rfl ?_ | refine R.lda rfl rfl (Nat.le_of_ble_eq_true rfl) rfl ?_ | refine R.fa rfl rfl ?_ | refine R.leq rfl rfl ?_ | refine R.gtr rfl rfl ?_ | refine R.geq rfl rfl ?_ | refine R.add rfl rfl (by omega) ?_ | refine R.sub rfl rfl (by omega) ?_ | refine R.not rfl ?_ | refine R.mvU rfl ?_ | refine R.ext rfl rfl ?_ | refine R.al rfl ?_ | refine R.stoB rfl rfl rfl rfl ⟨rfl, rfl, Nat.le_of_ble_eq_true rfl⟩ rfl ?_ | refine R.stoE _ rfl rfl rfl rfl rfl (by assumption) rfl ⟨rfl, rfl, Nat.le_of_ble_eq_true rfl⟩ ?_ | refine R.bld rfl rfl ?_ | refine R.condT rfl ?_ | refine R.condF rfl ?_ | refine R.cond rfl (fun hc => ?_) (fun hc => ?_) | refine R.condN rfl (fun hc => ?_) (fun hc => ?_) | refine R.condB rfl (fun hc => ?_) (fun hc => ?_))
  all_goals first | (exfalso; omega) | skip
  refine R.loop (G := Nat) (fun x => [(0, rdA kPoint (l.map enPoint)), (3, .v (.c (.ptr 3 0))), (4, .v (.c (.ptr 4 0))), (5, .v (.c (.own 16))), (6, pvA (.int .i64 y)), (7, pvA (.int .i64 ((lowP l).fX + x)))]) (fun x => [(3, .box 58 ((enPoint (lowP l)).map B.d)), (4, .box 58 ((enPoint (highP l)).map B.d)), (16, .arr ⟨5, 1⟩ ((txI l m ++ rowI l y x).map enB8) [])]) (fun x => x ≤ widT l) (fun x => widT l - x) 0 (Nat.zero_le _) (Weak.frame _ _ ⟨rfl, rfl, rfl, rfl, rfl, (congrArg (fun z => pvA (.int .i64 z)) (show (lowP l).fX = (lowP l).fX + ((0 : Nat) : Int) by omega)), trivial⟩ ⟨rfl, rfl, arr_eq (by rw [show rowI l y 0 = [] from rfl, List.append_nil]), trivial⟩ rfl rfl) fun x hx => ?_
  by_cases hxl : x < widT l
  · have hrs := rowI_succ l y x
    by_cases hin : (⟨(lowP l).fX + (x : Int), y⟩ : TPoint) ∈ l
    · rw [show chI l ((lowP l).fX + (x : Int)) y = 35 from if_pos hin] at hrs
      have hH := hHas ⟨(lowP l).fX + (x : Int), y⟩
      rw [decide_eq_true hin] at hH
      repeat' (first | refine R.mv rfl ?_ | refine R.reg ?_ | refine R.nil ?_ | refine R.seq ?_ | refine R.nseq ?_ | refine R.nblk ?_ | refine R.skip ?_ | refine R.blk ?_ | refine R.exit rfl ?_ | refine R.ldEp rfl rfl (by assumption) rfl rfl ?_ | refine R.ldaEp rfl rfl (by assumption) (Nat.le_of_ble_eq_true rfl) rfl rfl ?_ | refine R.ld rfl rfl rfl ?_ | refine R.lda rfl rfl (Nat.le_of_ble_eq_true rfl) rfl ?_ | refine R.fa rfl rfl ?_ | refine R.leq rfl rfl ?_ | refine R.gtr rfl rfl ?_ | refine R.geq rfl rfl ?_ | refine R.add rfl rfl (by omega) ?_ | refine R.sub rfl rfl (by omega) ?_ | refine R.not rfl ?_ | refine R.mvU rfl ?_ | refine R.ext rfl rfl ?_ | refine R.al rfl ?_ | refine R.stoB rfl rfl rfl rfl ⟨rfl, rfl, Nat.le_of_ble_eq_true rfl⟩ rfl ?_ | refine R.stoE _ rfl rfl rfl rfl rfl (by assumption) rfl ⟨rfl, rfl, Nat.le_of_ble_eq_true rfl⟩ ?_ | refine R.bld rfl rfl ?_ | refine R.condT rfl ?_ | refine R.condF rfl ?_ | refine R.call (bor := false) rfl rfl (hH) rfl rfl rfl ?_ | refine R.call (bor := true) rfl rfl (hH) rfl rfl rfl ?_ | refine R.fcal (bor := false) rfl rfl (hH) rfl rfl rfl ?_ | refine R.fcal (bor := true) rfl rfl (hH) rfl rfl rfl ?_ | refine R.bsl (f := enB8) [(35 : Int)] rfl rfl rfl rfl rfl ?_ | refine R.app (f := enB8) (fun _ => rfl) rfl rfl rfl rfl rfl ⟨by simp only [List.length_append, rowI_len, List.length_singleton]; omega, by simp only [List.length_append, rowI_len, List.length_singleton]; omega⟩ ?_ | refine R.cond rfl (fun hc => ?_) (fun hc => ?_) | refine R.condN rfl (fun hc => ?_) (fun hc => ?_) | refine R.condB rfl (fun hc => ?_) (fun hc => ?_))
      all_goals first
        | (exfalso; omega)
        | (exfalso; simp_all; done)
        | exact R.nloop (R.again (x + 1) (by omega) (by omega) ⟨rfl, rfl, rfl, rfl, rfl, (congrArg (fun z => pvA (.int .i64 z)) (show (lowP l).fX + (x : Int) + 1 = (lowP l).fX + ((x + 1 : Nat) : Int) by omega)), trivial⟩ ⟨rfl, rfl, arr_eq (by rw [hrs, List.append_assoc]), trivial⟩ rfl rfl)
        | skip
    · rw [show chI l ((lowP l).fX + (x : Int)) y = 46 from if_neg hin] at hrs
      have hH := hHas ⟨(lowP l).fX + (x : Int), y⟩
      rw [decide_eq_false hin] at hH
      repeat' (first | refine R.mv rfl ?_ | refine R.reg ?_ | refine R.nil ?_ | refine R.seq ?_ | refine R.nseq ?_ | refine R.nblk ?_ | refine R.skip ?_ | refine R.blk ?_ | refine R.exit rfl ?_ | refine R.ldEp rfl rfl (by assumption) rfl rfl ?_ | refine R.ldaEp rfl rfl (by assumption) (Nat.le_of_ble_eq_true rfl) rfl rfl ?_ | refine R.ld rfl rfl rfl ?_ | refine R.lda rfl rfl (Nat.le_of_ble_eq_true rfl) rfl ?_ | refine R.fa rfl rfl ?_ | refine R.leq rfl rfl ?_ | refine R.gtr rfl rfl ?_ | refine R.geq rfl rfl ?_ | refine R.add rfl rfl (by omega) ?_ | refine R.sub rfl rfl (by omega) ?_ | refine R.not rfl ?_ | refine R.mvU rfl ?_ | refine R.ext rfl rfl ?_ | refine R.al rfl ?_ | refine R.stoB rfl rfl rfl rfl ⟨rfl, rfl, Nat.le_of_ble_eq_true rfl⟩ rfl ?_ | refine R.stoE _ rfl rfl rfl rfl rfl (by assumption) rfl ⟨rfl, rfl, Nat.le_of_ble_eq_true rfl⟩ ?_ | refine R.bld rfl rfl ?_ | refine R.condT rfl ?_ | refine R.condF rfl ?_ | refine R.call (bor := false) rfl rfl (hH) rfl rfl rfl ?_ | refine R.call (bor := true) rfl rfl (hH) rfl rfl rfl ?_ | refine R.fcal (bor := false) rfl rfl (hH) rfl rfl rfl ?_ | refine R.fcal (bor := true) rfl rfl (hH) rfl rfl rfl ?_ | refine R.bsl (f := enB8) [(46 : Int)] rfl rfl rfl rfl rfl ?_ | refine R.app (f := enB8) (fun _ => rfl) rfl rfl rfl rfl rfl ⟨by simp only [List.length_append, rowI_len, List.length_singleton]; omega, by simp only [List.length_append, rowI_len, List.length_singleton]; omega⟩ ?_ | refine R.cond rfl (fun hc => ?_) (fun hc => ?_) | refine R.condN rfl (fun hc => ?_) (fun hc => ?_) | refine R.condB rfl (fun hc => ?_) (fun hc => ?_))
      all_goals first
        | (exfalso; omega)
        | (exfalso; simp_all; done)
        | exact R.nloop (R.again (x + 1) (by omega) (by omega) ⟨rfl, rfl, rfl, rfl, rfl, (congrArg (fun z => pvA (.int .i64 z)) (show (lowP l).fX + (x : Int) + 1 = (lowP l).fX + ((x + 1 : Nat) : Int) by omega)), trivial⟩ ⟨rfl, rfl, arr_eq (by rw [hrs, List.append_assoc]), trivial⟩ rfl rfl)
        | skip
  obtain rfl : x = widT l := by omega
  by_cases hy : y > (lowP l).fY
  · rw [if_pos hy] at hst
    repeat' (first | refine R.mv rfl ?_ | refine R.reg ?_ | refine R.nil ?_ | refine R.seq ?_ | refine R.nseq ?_ | refine R.nblk ?_ | refine R.skip ?_ | refine R.blk ?_ | refine R.exit rfl ?_ | refine R.ldEp rfl rfl (by assumption) rfl rfl ?_ | refine R.ldaEp rfl rfl (by assumption) (Nat.le_of_ble_eq_true rfl) rfl rfl ?_ | refine R.ld rfl rfl rfl ?_ | refine R.lda rfl rfl (Nat.le_of_ble_eq_true rfl) rfl ?_ | refine R.fa rfl rfl ?_ | refine R.leq rfl rfl ?_ | refine R.gtr rfl rfl ?_ | refine R.geq rfl rfl ?_ | refine R.add rfl rfl (by omega) ?_ | refine R.sub rfl rfl (by omega) ?_ | refine R.not rfl ?_ | refine R.mvU rfl ?_ | refine R.ext rfl rfl ?_ | refine R.al rfl ?_ | refine R.stoB rfl rfl rfl rfl ⟨rfl, rfl, Nat.le_of_ble_eq_true rfl⟩ rfl ?_ | refine R.stoE _ rfl rfl rfl rfl rfl (by assumption) rfl ⟨rfl, rfl, Nat.le_of_ble_eq_true rfl⟩ ?_ | refine R.bld rfl rfl ?_ | refine R.condT rfl ?_ | refine R.condF rfl ?_ | refine R.bsl (f := enB8) [(47 : Int)] rfl rfl rfl rfl rfl ?_ | refine R.app (f := enB8) (fun _ => rfl) rfl rfl rfl rfl rfl ⟨by simp only [List.length_append, rowI_len, List.length_singleton]; omega, by simp only [List.length_append, rowI_len, List.length_singleton]; omega⟩ ?_ | refine R.cond rfl (fun hc => ?_) (fun hc => ?_) | refine R.condN rfl (fun hc => ?_) (fun hc => ?_) | refine R.condB rfl (fun hc => ?_) (fun hc => ?_))
    all_goals first
      | (exfalso; omega)
      | exact R.nloop (R.again (m + 1) (by omega) (by omega) ⟨rfl, rfl, rfl, rfl, (congrArg (fun z => pvA (.int .i64 z)) hsub), trivial⟩ ⟨rfl, rfl, arr_eq hst.symm, trivial⟩ rfl rfl)
      | skip
  · rw [if_neg hy, List.append_nil] at hst
    repeat' (first | refine R.mv rfl ?_ | refine R.reg ?_ | refine R.nil ?_ | refine R.seq ?_ | refine R.nseq ?_ | refine R.nblk ?_ | refine R.skip ?_ | refine R.blk ?_ | refine R.exit rfl ?_ | refine R.ldEp rfl rfl (by assumption) rfl rfl ?_ | refine R.ldaEp rfl rfl (by assumption) (Nat.le_of_ble_eq_true rfl) rfl rfl ?_ | refine R.ld rfl rfl rfl ?_ | refine R.lda rfl rfl (Nat.le_of_ble_eq_true rfl) rfl ?_ | refine R.fa rfl rfl ?_ | refine R.leq rfl rfl ?_ | refine R.gtr rfl rfl ?_ | refine R.geq rfl rfl ?_ | refine R.add rfl rfl (by omega) ?_ | refine R.sub rfl rfl (by omega) ?_ | refine R.not rfl ?_ | refine R.mvU rfl ?_ | refine R.ext rfl rfl ?_ | refine R.al rfl ?_ | refine R.stoB rfl rfl rfl rfl ⟨rfl, rfl, Nat.le_of_ble_eq_true rfl⟩ rfl ?_ | refine R.stoE _ rfl rfl rfl rfl rfl (by assumption) rfl ⟨rfl, rfl, Nat.le_of_ble_eq_true rfl⟩ ?_ | refine R.bld rfl rfl ?_ | refine R.condT rfl ?_ | refine R.condF rfl ?_ | refine R.cond rfl (fun hc => ?_) (fun hc => ?_) | refine R.condN rfl (fun hc => ?_) (fun hc => ?_) | refine R.condB rfl (fun hc => ?_) (fun hc => ?_))
    all_goals first
      | (exfalso; omega)
      | exact R.nloop (R.again (m + 1) (by omega) (by omega) ⟨rfl, rfl, rfl, rfl, (congrArg (fun z => pvA (.int .i64 z)) hsub), trivial⟩ ⟨rfl, rfl, arr_eq hst.symm, trivial⟩ rfl rfl)
      | skip
section
variable {P : Program} {Q : Exit → St → Prop} {ks : List Fr} {e : Nat → AV} {o : Nat → Option Ob} {d : Nat} {fr : Bool} {x y z : Operand} {rest : List SR}
theorem toList_eq {s t : ByteArray} : (s.toList == t.toList) = decide (s = t) := by
  rw [Bool.eq_iff_iff, beq_iff_eq, decide_eq_true_eq]
  constructor
  · intro h
    have h2 : s.data.toList = t.data.toList := by rw [← Lib.toList_data, ← Lib.toList_data]; exact h
    cases s; cases t
    simp at h2
    rw [h2]
  · intro h; rw [h]
theorem R.eqlS {s t : ByteArray} (h1 : ev e x = pvA (.string s)) (h2 : ev e y = pvA (.string t)) (k : WL P rest ks Q ⟨upd e d (pvA (.bool (decide (s = t)))), o⟩) : WL P (⟨some d, none, fr, .bin .eql x y⟩ :: rest) ks Q ⟨e, o⟩ := R.bin h1 h2 (by simp only [binI, strV, toList_eq]) k
theorem R.neqS {s t : ByteArray} (h1 : ev e x = pvA (.string s)) (h2 : ev e y = pvA (.string t)) (k : WL P rest ks Q ⟨upd e d (pvA (.bool !(decide (s = t)))), o⟩) : WL P (⟨some d, none, fr, .bin .neq x y⟩ :: rest) ks Q ⟨e, o⟩ := R.bin h1 h2 (by simp only [binI, strV, toList_eq]) k
end
theorem ET.strsL {W : World} : ∀ l : List ByteArray, (∀ n ∈ l, okI (.string n)) → ET W (l.map Value.string) (l.map enSx).flatten []
  | [], _ => .nil
  | n :: l, h => .pv rfl (h n (by simp)) (ET.strsL l fun m hm => h m (by simp [hm]))
theorem lib_split (s : ByteArray) (hs : s.size ≤ 1048576) : Spec Tryd.prog 20 [.c (sD s), .c (sD ⟨#[47]⟩)] (oN kSx ((splB 47 s).map enSx)) := by
  refine ⟨fun vs w => by kernel_rfl, fun w R ι φ vs hR hF ho => ?_⟩
  cases hF with | cons h1 h2 =>
  cases h2 with | cons h2 h3 =>
  cases h3
  rename_i v1 v2
  cases (show RD w R v1 (sD s) from h1)
  cases (show RD w R v2 (sD ⟨#[47]⟩) from h2)
  have hTb : TabsOk w := fun x hx => (ho.2.2.2 x hx).2
  have hlen := splB_length 47 s
  have hok : ∀ n ∈ splB 47 s, okI (.string n) := fun n hn => by
    show n.size ≤ maxLen
    have := splB_size hn
    unfold maxLen
    omega
  have hpos : 0 < (splB 47 s).length := by
    obtain ⟨r0, rest, hr⟩ := splB_cons 47 s
    rw [hr]; simp
  have hc := lib_split1 47 s (by omega) hTb
  generalize splB 47 s = l at *
  refine hc.mono ?_
  rintro e w1 ⟨rfl, rfl⟩
  have hbl : Below w.heap.size w (w.alloc (.cells (l.map Value.string).toArray 9)) := (Below.refl _ _).alloc (Nat.le_refl _) _
  have hnew := World.alloc_heap_new w (.cells (l.map Value.string).toArray 9)
  generalize w.alloc (.cells (l.map Value.string).toArray 9) = w1 at *
  have hlt := (Array.getElem?_eq_some_iff.1 hnew).1
  have hg : ∀ o x, frO ([(0, Ob.arr kSx (l.map enSx) [])]) o = some x → o = 0 ∧ x = .arr kSx (l.map enSx) [] := fun o x hf => by
    simp only [frO, upd] at hf
    split at hf
    · cases hf; exact ⟨by assumption, rfl⟩
    · cases hf
  refine ⟨_, rfl, R, upd ι 0 (.slice (some ⟨w.heap.size, 0, none⟩) l.length l.length), upd φ 0 [w.heap.size], BelowM.of_below hbl, fun b h => h, fun b h => Nat.lt_of_lt_of_le (hR b h) hbl.size, fun b h _ => .inl h, ?_, ⟨fun o x hf => ?_, fun o x hf g hgm => ?_, fun o p x y g hf hf' _ _ => (hg o x hf).1.trans (hg p y hf').1.symm, ho.2.2.2.keep (fun _ h => h) fun b hb => hbl.block b (hR b hb)⟩, fun g hf => ?_, fun o hf => upd_ne _ _ (fun e => by subst e; exact absurd hf (by decide))⟩
  · exact ⟨⟨_, upd_same _ _ _⟩, (upd_same _ _ _).symm⟩
  · obtain ⟨rfl, rfl⟩ := hg o x hf
    rw [upd_same, upd_same]
    refine ⟨fun es he => ?_, _, [], ?_, EH.of_ET (ET.strsL l hok), by simp [Value.ownBlock], by simp⟩
    · obtain ⟨n, _, rfl⟩ := List.mem_map.1 he
      rfl
    · have hl2 : (l.map enSx).length = l.length := by simp
      rw [hl2]
      refine ⟨by simp, .inr ⟨w.heap.size, l.length, _, rfl, Nat.zero_le _, hnew, Nat.le_refl _, by unfold maxLen; omega, by simp, ?_⟩⟩
      show (l.map Value.string).toArray.toList.take (l.length * 1) = _
      rw [List.toList_toArray, List.take_of_length_le (by simp)]
  · obtain ⟨rfl, rfl⟩ := hg o x hf
    rw [upd_same, List.mem_singleton] at hgm
    subst hgm
    exact ⟨fun h => Nat.lt_irrefl _ (hR _ h), hlt⟩
  · obtain ⟨o, x, hf, hgm⟩ := hf
    obtain ⟨rfl, rfl⟩ := hg o x hf
    rw [upd_same, List.mem_singleton] at hgm
    subst hgm
    exact .inr (Nat.le_refl _)
/-- The points of a row, of its first k letters. -/
def ptsR (r : ByteArray) (y : Int) : Nat → List TPoint
  | 0 => []
  | k + 1 => ptsR r y k ++ (if r[k]? = some 35 then [⟨(k : Int), y⟩] else [])
/-- The points of the first m rows. -/
def ptsM (rows : List ByteArray) : Nat → List TPoint
  | 0 => []
  | m + 1 => ptsM rows m ++ (match rows[m]? with | some r => ptsR r (m : Int) r.size | none => [])
theorem ptsR_len (r : ByteArray) (y : Int) : ∀ k, (ptsR r y k).length ≤ k
  | 0 => Nat.le_refl _
  | k + 1 => by
    have := ptsR_len r y k
    unfold ptsR
    rw [List.length_append]
    split
    · simp; omega
    · simp; omega
theorem ptsM_len {rows : List ByteArray} (h : ∀ r ∈ rows, r.size ≤ 1048576) : ∀ m, (ptsM rows m).length ≤ m * 1048576
  | 0 => by simp [ptsM]
  | m + 1 => by
    have h1 := ptsM_len h m
    unfold ptsM
    rw [List.length_append, Nat.succ_mul]
    split
    · rename_i r hr
      have h2 := ptsR_len r (m : Int) r.size
      have h3 := h r (List.mem_of_getElem? hr)
      omega
    · rw [List.length_nil, Nat.add_zero]
      exact Nat.le_trans h1 (Nat.le_add_right _ _)
theorem ptsM_succ {rows : List ByteArray} {m : Nat} {r : ByteArray} (h : rows[m]? = some r) : ptsM rows (m + 1) = ptsM rows m ++ ptsR r (m : Int) r.size := by
  show ptsM rows m ++ _ = _
  rw [h]
theorem iReadShape (s : ByteArray) (hs : s.size ≤ 1000000) (q : List TPoint) (hq : ptsM (splB 47 s).reverse (splB 47 s).length = q) (h1 : okSh q) (h2 : fST q = s) : Spec Tryd.prog 17 [.c (sD s)] (.tup [.c (oPts q), .c (.fz (iD 0))]) := by
  refine Spec.walk T.mixed Tryd.func17 S.ok17 (by simp [Tryd.f17]) fun hk => ?_
  clear hk
  unfold S.s17
  have hSp := lib_split s (by omega)
  have hln := splB_length 47 s
  have hsz : ∀ r ∈ splB 47 s, r.size ≤ 1048576 := fun r h => Nat.le_trans (splB_size h) (by omega)
  have hV := iShT h1
  have hT := iShText q h1
  rw [h2] at hT
  generalize splB 47 s = rows at *
  have hrv := lib_revS rows (by omega)
  have hrl : (srt rows).length = rows.length := by simp
  repeat' (first | refine R.mv rfl ?_ | refine R.reg ?_ | refine R.nil ?_ | refine R.seq ?_ | refine R.nseq ?_ | refine R.nblk ?_ | refine R.skip ?_ | refine R.blk ?_ | refine R.exit rfl ?_ | refine R.gRun rfl ?_ | refine R.gSkip rfl ?_ | refine R.gSkip0 rfl ?_ | refine R.gUndef rfl ?_ | refine R.gUndef0 rfl ?_ | refine R.ldEp rfl rfl (by assumption) rfl rfl ?_ | refine R.ldaEp rfl rfl (by assumption) (Nat.le_of_ble_eq_true rfl) rfl rfl ?_ | refine R.ld rfl rfl rfl ?_ | refine R.lda rfl rfl (Nat.le_of_ble_eq_true rfl) rfl ?_ | refine R.lenM rfl ?_ | refine R.lenO rfl rfl ?_ | refine R.len rfl rfl ?_ | refine R.slen rfl ?_ | refine R.lss rfl rfl ?_ | refine R.eql rfl rfl ?_ | refine R.neq rfl rfl ?_ | refine R.add rfl rfl (by omega) ?_ | refine R.ixN rfl rfl rfl (by omega) (fun a ha => ?_) | refine R.ixM rfl rfl rfl (by omega) (fun a ha => ?_) | refine R.ixON rfl rfl rfl (by first | omega | (simp; omega)) (fun a' ha' => ?_) | refine R.ixO rfl rfl rfl (by first | omega | (simp; omega)) (fun a' ha' => ?_) | refine R.six rfl rfl (by omega) (fun a ha => ?_) | refine R.pickT rfl rfl ?_ | refine R.pickF rfl rfl ?_ | refine R.not rfl ?_ | refine R.bld rfl rfl ?_ | refine R.condT rfl ?_ | refine R.condF rfl ?_ | refine R.callN1 (bor := false) rfl rfl (hSp) rfl rfl ?_ | refine R.callN1 (bor := true) rfl rfl (hSp) rfl rfl ?_ | refine R.callN (bor := false) rfl rfl (hSp) rfl rfl rfl rfl rfl ?_ | refine R.callN (bor := true) rfl rfl (hSp) rfl rfl rfl rfl rfl ?_ | refine R.callX (bor := false) [(12000, pin 0)] rfl hrv rfl rfl rfl rfl rfl ?_ | refine R.cond rfl (fun hc => ?_) (fun hc => ?_) | refine R.condN rfl (fun hc => ?_) (fun hc => ?_) | refine R.condB rfl (fun hc => ?_) (fun hc => ?_) | refine R.gP rfl (fun hc => ?_) (fun hc => ?_) | refine R.gN rfl (fun hc => ?_) (fun hc => ?_) | refine R.gB rfl (fun hc => ?_) (fun hc => ?_))
  have hsz2 : ∀ r ∈ rows.reverse, r.size ≤ 1048576 := fun r hr => hsz r (List.mem_reverse.1 hr)
  refine R.loop (G := Nat) (fun m => [(0, pvA (.string s)), (5, .v (.c (.own 900001))), (13, rdA kSx (rows.reverse.map enSx)), (14, pvA (.int .i64 rows.length)), (15, pvA (.int .i64 m))]) (fun m => [(900001, .arr kPoint ((ptsM rows.reverse m).map enPoint) [])]) (fun m => m ≤ rows.length) (fun m => rows.length - m) 0 (Nat.zero_le _) (Weak.trans (Weak.freeze 12000 rfl rfl) (Weak.trans (Weak.reify 5 900001 kPoint rfl rfl) (Weak.frame _ _ ⟨rfl, rfl, rfl, (congrArg (fun z => pvA (.int .i64 z)) (by rw [hrl])), rfl, trivial⟩ ⟨rfl, trivial⟩ rfl rfl))) fun m hm => ?_
  have hml2 := ptsM_len hsz2 m
  have hml3 : m * 1048576 ≤ 1000001 * 1048576 := Nat.mul_le_mul_right _ (by omega)
  by_cases hml : m < rows.length
  case neg =>
    obtain rfl : m = rows.length := by omega
    rw [hq]
    repeat' (first | refine R.mv rfl ?_ | refine R.reg ?_ | refine R.nil ?_ | refine R.seq ?_ | refine R.nseq ?_ | refine R.nblk ?_ | refine R.skip ?_ | refine R.blk ?_ | refine R.exit rfl ?_ | refine R.gRun rfl ?_ | refine R.gSkip rfl ?_ | refine R.gSkip0 rfl ?_ | refine R.gUndef rfl ?_ | refine R.gUndef0 rfl ?_ | refine R.ldEp rfl rfl (by assumption) rfl rfl ?_ | refine R.ldaEp rfl rfl (by assumption) (Nat.le_of_ble_eq_true rfl) rfl rfl ?_ | refine R.ld rfl rfl rfl ?_ | refine R.lda rfl rfl (Nat.le_of_ble_eq_true rfl) rfl ?_ | refine R.lenM rfl ?_ | refine R.lenO rfl rfl ?_ | refine R.len rfl rfl ?_ | refine R.slen rfl ?_ | refine R.lss rfl rfl ?_ | refine R.eql rfl rfl ?_ | refine R.neq rfl rfl ?_ | refine R.add rfl rfl (by omega) ?_ | refine R.ixN rfl rfl rfl (by omega) (fun a ha => ?_) | refine R.ixM rfl rfl rfl (by omega) (fun a ha => ?_) | refine R.ixON rfl rfl rfl (by first | omega | (simp; omega)) (fun a' ha' => ?_) | refine R.ixO rfl rfl rfl (by first | omega | (simp; omega)) (fun a' ha' => ?_) | refine R.six rfl rfl (by omega) (fun a ha => ?_) | refine R.pickT rfl rfl ?_ | refine R.pickF rfl rfl ?_ | refine R.not rfl ?_ | refine R.bld rfl rfl ?_ | refine R.condT rfl ?_ | refine R.condF rfl ?_ | refine R.call (bor := false) rfl rfl (hV) rfl rfl rfl ?_ | refine R.call (bor := true) rfl rfl (hV) rfl rfl rfl ?_ | refine R.fcal (bor := false) rfl rfl (hV) rfl rfl rfl ?_ | refine R.fcal (bor := true) rfl rfl (hV) rfl rfl rfl ?_ | refine R.call (bor := false) rfl rfl (hT) rfl rfl rfl ?_ | refine R.call (bor := true) rfl rfl (hT) rfl rfl rfl ?_ | refine R.fcal (bor := false) rfl rfl (hT) rfl rfl rfl ?_ | refine R.fcal (bor := true) rfl rfl (hT) rfl rfl rfl ?_ | refine R.neqS rfl rfl ?_ | refine R.cond rfl (fun hc => ?_) (fun hc => ?_) | refine R.condN rfl (fun hc => ?_) (fun hc => ?_) | refine R.condB rfl (fun hc => ?_) (fun hc => ?_) | refine R.gP rfl (fun hc => ?_) (fun hc => ?_) | refine R.gN rfl (fun hc => ?_) (fun hc => ?_) | refine R.gB rfl (fun hc => ?_) (fun hc => ?_))
    all_goals first | (exfalso; simp_all; done) | skip
    exact R.ret ⟨.inr rfl, R.outW (Weak.freeze 900001 rfl rfl) (R.outR rfl (.cons (R.tmp rfl) (.cons (R.tmp rfl) .nil)) rfl rfl rfl ⟨by show ¬ (2 = 1); omega, rfl⟩)⟩
  obtain ⟨r, hr⟩ : ∃ r, rows.reverse[m]? = some r := ⟨_, List.getElem?_eq_getElem (by simpa using hml)⟩
  have hrz := hsz2 r (List.mem_of_getElem? hr)
  repeat' (first | refine R.ixK r hr rfl rfl rfl ?_ | refine R.mv rfl ?_ | refine R.reg ?_ | refine R.nil ?_ | refine R.seq ?_ | refine R.nseq ?_ | refine R.nblk ?_ | refine R.skip ?_ | refine R.blk ?_ | refine R.exit rfl ?_ | refine R.gRun rfl ?_ | refine R.gSkip rfl ?_ | refine R.gSkip0 rfl ?_ | refine R.gUndef rfl ?_ | refine R.gUndef0 rfl ?_ | refine R.ldEp rfl rfl (by assumption) rfl rfl ?_ | refine R.ldaEp rfl rfl (by assumption) (Nat.le_of_ble_eq_true rfl) rfl rfl ?_ | refine R.ld rfl rfl rfl ?_ | refine R.lda rfl rfl (Nat.le_of_ble_eq_true rfl) rfl ?_ | refine R.lenM rfl ?_ | refine R.lenO rfl rfl ?_ | refine R.len rfl rfl ?_ | refine R.slen rfl ?_ | refine R.lss rfl rfl ?_ | refine R.eql rfl rfl ?_ | refine R.neq rfl rfl ?_ | refine R.add rfl rfl (by omega) ?_ | refine R.ixN rfl rfl rfl (by omega) (fun a ha => ?_) | refine R.ixM rfl rfl rfl (by omega) (fun a ha => ?_) | refine R.ixON rfl rfl rfl (by first | omega | (simp; omega)) (fun a' ha' => ?_) | refine R.ixO rfl rfl rfl (by first | omega | (simp; omega)) (fun a' ha' => ?_) | refine R.six rfl rfl (by omega) (fun a ha => ?_) | refine R.pickT rfl rfl ?_ | refine R.pickF rfl rfl ?_ | refine R.not rfl ?_ | refine R.bld rfl rfl ?_ | refine R.condT rfl ?_ | refine R.condF rfl ?_ | refine R.cond rfl (fun hc => ?_) (fun hc => ?_) | refine R.condN rfl (fun hc => ?_) (fun hc => ?_) | refine R.condB rfl (fun hc => ?_) (fun hc => ?_) | refine R.gP rfl (fun hc => ?_) (fun hc => ?_) | refine R.gN rfl (fun hc => ?_) (fun hc => ?_) | refine R.gB rfl (fun hc => ?_) (fun hc => ?_))
  all_goals first | (exfalso; omega) | skip
  refine R.loop (G := Nat) (fun x => [(0, pvA (.string s)), (5, .v (.c (.own 900001))), (6, pvA (.int .i64 m)), (7, pvA (.string r)), (13, rdA kSx (rows.reverse.map enSx)), (14, pvA (.int .i64 rows.length)), (15, pvA (.int .i64 m)), (21, pvA (.int .i64 r.size)), (22, pvA (.int .i64 x))]) (fun x => [(900001, .arr kPoint ((ptsM rows.reverse m ++ ptsR r (m : Int) x).map enPoint) [])]) (fun x => x ≤ r.size) (fun x => r.size - x) 0 (Nat.zero_le _) (Weak.frame _ _ ⟨rfl, rfl, rfl, rfl, rfl, rfl, rfl, rfl, rfl, trivial⟩ ⟨arr_eq (by rw [ptsR, List.append_nil]), trivial⟩ rfl rfl) fun x hx => ?_
  by_cases hxl : x < r.size
  · obtain ⟨b, hb⟩ : ∃ b, r[x]? = some b := ⟨_, getElem?_pos r x hxl⟩
    have hpl := ptsR_len r (m : Int) x
    by_cases hb35 : b = 35
    · have hst : ptsR r (m : Int) (x + 1) = ptsR r (m : Int) x ++ [(⟨(x : Int), (m : Int)⟩ : TPoint)] := by
        rw [ptsR, if_pos (by rw [hb, hb35])]
      have hb2 : b.toNat = 35 := by rw [hb35]; rfl
      repeat' (first | refine R.sixL b hb rfl rfl ?_ | refine R.mv rfl ?_ | refine R.reg ?_ | refine R.nil ?_ | refine R.seq ?_ | refine R.nseq ?_ | refine R.nblk ?_ | refine R.skip ?_ | refine R.blk ?_ | refine R.exit rfl ?_ | refine R.gRun rfl ?_ | refine R.gSkip rfl ?_ | refine R.gSkip0 rfl ?_ | refine R.gUndef rfl ?_ | refine R.gUndef0 rfl ?_ | refine R.ldEp rfl rfl (by assumption) rfl rfl ?_ | refine R.ldaEp rfl rfl (by assumption) (Nat.le_of_ble_eq_true rfl) rfl rfl ?_ | refine R.ld rfl rfl rfl ?_ | refine R.lda rfl rfl (Nat.le_of_ble_eq_true rfl) rfl ?_ | refine R.lenM rfl ?_ | refine R.lenO rfl rfl ?_ | refine R.len rfl rfl ?_ | refine R.slen rfl ?_ | refine R.lss rfl rfl ?_ | refine R.eql rfl rfl ?_ | refine R.neq rfl rfl ?_ | refine R.add rfl rfl (by omega) ?_ | refine R.ixN rfl rfl rfl (by omega) (fun a ha => ?_) | refine R.ixM rfl rfl rfl (by omega) (fun a ha => ?_) | refine R.ixON rfl rfl rfl (by first | omega | (simp; omega)) (fun a' ha' => ?_) | refine R.ixO rfl rfl rfl (by first | omega | (simp; omega)) (fun a' ha' => ?_) | refine R.six rfl rfl (by omega) (fun a ha => ?_) | refine R.pickT rfl rfl ?_ | refine R.pickF rfl rfl ?_ | refine R.not rfl ?_ | refine R.bld rfl rfl ?_ | refine R.condT rfl ?_ | refine R.condF rfl ?_ | refine R.bsl (f := enPoint) [(⟨(x : Int), (m : Int)⟩ : TPoint)] rfl rfl rfl rfl rfl ?_ | refine R.app (f := enPoint) (fun _ => rfl) rfl rfl rfl rfl rfl ⟨by simp only [List.length_append, List.length_singleton]; omega, by simp only [List.length_append, List.length_singleton]; omega⟩ ?_ | refine R.cond rfl (fun hc => ?_) (fun hc => ?_) | refine R.condN rfl (fun hc => ?_) (fun hc => ?_) | refine R.condB rfl (fun hc => ?_) (fun hc => ?_) | refine R.gP rfl (fun hc => ?_) (fun hc => ?_) | refine R.gN rfl (fun hc => ?_) (fun hc => ?_) | refine R.gB rfl (fun hc => ?_) (fun hc => ?_))
      all_goals first
        | (exfalso; omega)
        | exact R.nloop (R.again (x + 1) (by omega) (by omega) ⟨rfl, rfl, rfl, rfl, rfl, rfl, rfl, rfl, rfl, trivial⟩ ⟨arr_eq (by rw [hst, List.append_assoc]), trivial⟩ rfl rfl)
        | skip
    · have hst : ptsR r (m : Int) (x + 1) = ptsR r (m : Int) x := by
        rw [ptsR, if_neg (by rw [hb]; intro e; exact hb35 (Option.some.inj e)), List.append_nil]
      have hb2 : b.toNat ≠ 35 := fun e => hb35 (UInt8.toNat_inj.1 e)
      repeat' (first | refine R.sixL b hb rfl rfl ?_ | refine R.mv rfl ?_ | refine R.reg ?_ | refine R.nil ?_ | refine R.seq ?_ | refine R.nseq ?_ | refine R.nblk ?_ | refine R.skip ?_ | refine R.blk ?_ | refine R.exit rfl ?_ | refine R.gRun rfl ?_ | refine R.gSkip rfl ?_ | refine R.gSkip0 rfl ?_ | refine R.gUndef rfl ?_ | refine R.gUndef0 rfl ?_ | refine R.ldEp rfl rfl (by assumption) rfl rfl ?_ | refine R.ldaEp rfl rfl (by assumption) (Nat.le_of_ble_eq_true rfl) rfl rfl ?_ | refine R.ld rfl rfl rfl ?_ | refine R.lda rfl rfl (Nat.le_of_ble_eq_true rfl) rfl ?_ | refine R.lenM rfl ?_ | refine R.lenO rfl rfl ?_ | refine R.len rfl rfl ?_ | refine R.slen rfl ?_ | refine R.lss rfl rfl ?_ | refine R.eql rfl rfl ?_ | refine R.neq rfl rfl ?_ | refine R.add rfl rfl (by omega) ?_ | refine R.ixN rfl rfl rfl (by omega) (fun a ha => ?_) | refine R.ixM rfl rfl rfl (by omega) (fun a ha => ?_) | refine R.ixON rfl rfl rfl (by first | omega | (simp; omega)) (fun a' ha' => ?_) | refine R.ixO rfl rfl rfl (by first | omega | (simp; omega)) (fun a' ha' => ?_) | refine R.six rfl rfl (by omega) (fun a ha => ?_) | refine R.pickT rfl rfl ?_ | refine R.pickF rfl rfl ?_ | refine R.not rfl ?_ | refine R.bld rfl rfl ?_ | refine R.condT rfl ?_ | refine R.condF rfl ?_ | refine R.cond rfl (fun hc => ?_) (fun hc => ?_) | refine R.condN rfl (fun hc => ?_) (fun hc => ?_) | refine R.condB rfl (fun hc => ?_) (fun hc => ?_) | refine R.gP rfl (fun hc => ?_) (fun hc => ?_) | refine R.gN rfl (fun hc => ?_) (fun hc => ?_) | refine R.gB rfl (fun hc => ?_) (fun hc => ?_))
      all_goals first
        | (exfalso; omega)
        | exact R.nloop (R.again (x + 1) (by omega) (by omega) ⟨rfl, rfl, rfl, rfl, rfl, rfl, rfl, rfl, rfl, trivial⟩ ⟨arr_eq (by rw [hst]), trivial⟩ rfl rfl)
        | skip
  obtain rfl : x = r.size := by omega
  repeat' (first | refine R.mv rfl ?_ | refine R.reg ?_ | refine R.nil ?_ | refine R.seq ?_ | refine R.nseq ?_ | refine R.nblk ?_ | refine R.skip ?_ | refine R.blk ?_ | refine R.exit rfl ?_ | refine R.gRun rfl ?_ | refine R.gSkip rfl ?_ | refine R.gSkip0 rfl ?_ | refine R.gUndef rfl ?_ | refine R.gUndef0 rfl ?_ | refine R.ldEp rfl rfl (by assumption) rfl rfl ?_ | refine R.ldaEp rfl rfl (by assumption) (Nat.le_of_ble_eq_true rfl) rfl rfl ?_ | refine R.ld rfl rfl rfl ?_ | refine R.lda rfl rfl (Nat.le_of_ble_eq_true rfl) rfl ?_ | refine R.lenM rfl ?_ | refine R.lenO rfl rfl ?_ | refine R.len rfl rfl ?_ | refine R.slen rfl ?_ | refine R.lss rfl rfl ?_ | refine R.eql rfl rfl ?_ | refine R.neq rfl rfl ?_ | refine R.add rfl rfl (by omega) ?_ | refine R.ixN rfl rfl rfl (by omega) (fun a ha => ?_) | refine R.ixM rfl rfl rfl (by omega) (fun a ha => ?_) | refine R.ixON rfl rfl rfl (by first | omega | (simp; omega)) (fun a' ha' => ?_) | refine R.ixO rfl rfl rfl (by first | omega | (simp; omega)) (fun a' ha' => ?_) | refine R.six rfl rfl (by omega) (fun a ha => ?_) | refine R.pickT rfl rfl ?_ | refine R.pickF rfl rfl ?_ | refine R.not rfl ?_ | refine R.bld rfl rfl ?_ | refine R.condT rfl ?_ | refine R.condF rfl ?_ | refine R.cond rfl (fun hc => ?_) (fun hc => ?_) | refine R.condN rfl (fun hc => ?_) (fun hc => ?_) | refine R.condB rfl (fun hc => ?_) (fun hc => ?_) | refine R.gP rfl (fun hc => ?_) (fun hc => ?_) | refine R.gN rfl (fun hc => ?_) (fun hc => ?_) | refine R.gB rfl (fun hc => ?_) (fun hc => ?_))
  all_goals first
    | (exfalso; omega)
    | exact R.nloop (R.again (m + 1) (by omega) (by omega) ⟨rfl, rfl, rfl, rfl, rfl, trivial⟩ ⟨arr_eq (ptsM_succ hr).symm, trivial⟩ rfl rfl)
    | skip
theorem sorted_ext : ∀ a b : List TPoint, a.Pairwise ltP → b.Pairwise ltP → (∀ p, p ∈ a ↔ p ∈ b) → a = b
  | [], [], _, _, _ => rfl
  | [], y :: b, _, _, h => by have := (h y).2 (by simp); simp at this
  | x :: a, [], _, _, h => by have := (h x).1 (by simp); simp at this
  | x :: a, y :: b, ha, hb, h => by
    obtain ⟨ha1, ha2⟩ := List.pairwise_cons.1 ha
    obtain ⟨hb1, hb2⟩ := List.pairwise_cons.1 hb
    have hxy : x = y := by
      rcases List.mem_cons.1 ((h x).1 (by simp)) with e | e
      · exact e
      · rcases List.mem_cons.1 ((h y).2 (by simp)) with e' | e'
        · exact e'.symm
        · exact absurd (ltP_trans (hb1 x e) (ha1 y e')) (ltP_irrefl _)
    subst hxy
    rw [sorted_ext a b ha2 hb2 fun p => ?_]
    constructor
    · intro hp
      rcases List.mem_cons.1 ((h p).1 (by simp [hp])) with e | e
      · subst e; exact absurd (ha1 p hp) (ltP_irrefl _)
      · exact e
    · intro hp
      rcases List.mem_cons.1 ((h p).2 (by simp [hp])) with e | e
      · subst e; exact absurd (hb1 p hp) (ltP_irrefl _)
      · exact e
theorem ord_pairwise {l : List TPoint} (h : ordTo l l.length) : l.Pairwise ltP := by
  rw [List.pairwise_iff_getElem]
  intro i j hi hj hij
  exact pt_lt h hij (List.getElem?_eq_getElem hi) (List.getElem?_eq_getElem hj)
theorem mem_ptsR {r : ByteArray} {y : Int} {p : TPoint} : ∀ {k : Nat}, p ∈ ptsR r y k ↔ p.fY = y ∧ ∃ j : Nat, j < k ∧ p.fX = j ∧ r[j]? = some 35
  | 0 => by simp [ptsR]
  | k + 1 => by
    unfold ptsR
    rw [List.mem_append, mem_ptsR (k := k)]
    constructor
    · rintro (⟨h1, j, h2, h3, h4⟩ | h)
      · exact ⟨h1, j, by omega, h3, h4⟩
      · split at h
        · rename_i hk
          rw [List.mem_singleton.1 h]
          exact ⟨rfl, k, by omega, rfl, hk⟩
        · cases h
    · rintro ⟨h1, j, h2, h3, h4⟩
      rcases Nat.lt_or_ge j k with h | h
      · exact .inl ⟨h1, j, h, h3, h4⟩
      · obtain rfl : j = k := by omega
        rw [if_pos h4]
        exact .inr (List.mem_singleton.2 (pt_ext h3 h1))
theorem ptsR_pw (r : ByteArray) (y : Int) : ∀ k, (ptsR r y k).Pairwise ltP
  | 0 => .nil
  | k + 1 => by
    unfold ptsR
    rw [List.pairwise_append]
    refine ⟨ptsR_pw r y k, ?_, fun a ha b hb => ?_⟩
    · split <;> simp
    · split at hb
      · rw [List.mem_singleton.1 hb]
        obtain ⟨h1, j, h2, h3, _⟩ := mem_ptsR.1 ha
        right
        exact ⟨h1, by rw [h3]; show (j : Int) < (k : Int); omega⟩
      · cases hb
theorem mem_ptsM {rows : List ByteArray} {p : TPoint} : ∀ {m : Nat}, p ∈ ptsM rows m ↔ ∃ i : Nat, i < m ∧ p.fY = i ∧ ∃ r, rows[i]? = some r ∧ ∃ j : Nat, j < r.size ∧ p.fX = j ∧ r[j]? = some 35
  | 0 => by simp [ptsM]
  | m + 1 => by
    unfold ptsM
    rw [List.mem_append, mem_ptsM (m := m)]
    constructor
    · rintro (⟨i, h1, h2⟩ | h)
      · exact ⟨i, by omega, h2⟩
      · split at h
        · rename_i r hr
          obtain ⟨h1, h2⟩ := mem_ptsR.1 h
          exact ⟨m, by omega, h1, r, hr, h2⟩
        · cases h
    · rintro ⟨i, h1, h2, r, hr, h3⟩
      rcases Nat.lt_or_ge i m with h | h
      · exact .inl ⟨i, h, h2, r, hr, h3⟩
      · obtain rfl : i = m := by omega
        rw [hr]
        exact .inr (mem_ptsR.2 ⟨h2, h3⟩)
theorem ptsM_pw (rows : List ByteArray) : ∀ m, (ptsM rows m).Pairwise ltP
  | 0 => .nil
  | m + 1 => by
    unfold ptsM
    rw [List.pairwise_append]
    refine ⟨ptsM_pw rows m, ?_, fun a ha b hb => ?_⟩
    · split
      · exact ptsR_pw _ _ _
      · exact .nil
    · split at hb
      · obtain ⟨i, h1, h2, _⟩ := mem_ptsM.1 ha
        obtain ⟨h3, _⟩ := mem_ptsR.1 hb
        left
        rw [h2, h3]
        omega
      · cases hb
theorem bnd_unique {S : List TPoint} {q q' : TPoint × TPoint} (h : BndOk S q) (h' : BndOk S q') : q.1 = q'.1 ∧ q.2 = q'.2 := by
  obtain ⟨p1, m1, e1⟩ := h.x0
  obtain ⟨p2, m2, e2⟩ := h.x1
  obtain ⟨p3, m3, e3⟩ := h.y0
  obtain ⟨p4, m4, e4⟩ := h.y1
  obtain ⟨r1, n1, f1⟩ := h'.x0
  obtain ⟨r2, n2, f2⟩ := h'.x1
  obtain ⟨r3, n3, f3⟩ := h'.y0
  obtain ⟨r4, n4, f4⟩ := h'.y1
  have a1 := h'.all p1 m1
  have a2 := h'.all p2 m2
  have a3 := h'.all p3 m3
  have a4 := h'.all p4 m4
  have b1 := h.all r1 n1
  have b2 := h.all r2 n2
  have b3 := h.all r3 n3
  have b4 := h.all r4 n4
  exact ⟨pt_ext (by omega) (by omega), pt_ext (by omega) (by omega)⟩
theorem mem_home {l : List TPoint} {p : TPoint} : p ∈ homeL l ↔ (⟨p.fX + (lowP l).fX, p.fY + (lowP l).fY⟩ : TPoint) ∈ l := by
  unfold homeL
  rw [List.mem_map]
  constructor
  · rintro ⟨q, hq, rfl⟩
    have : (⟨(mvP (lowP l) q).fX + (lowP l).fX, (mvP (lowP l) q).fY + (lowP l).fY⟩ : TPoint) = q := pt_ext (by show q.fX - _ + _ = _; omega) (by show q.fY - _ + _ = _; omega)
    rw [this]; exact hq
  · intro h
    exact ⟨_, h, pt_ext (by show p.fX + _ - _ = _; omega) (by show p.fY + _ - _ = _; omega)⟩
theorem home_bnd {l : List TPoint} (h : okSh l) : lowP (homeL l) = ⟨0, 0⟩ ∧ highP (homeL l) = ⟨(highP l).fX - (lowP l).fX, (highP l).fY - (lowP l).fY⟩ := by
  have hb := sh_bnd (sh_ne h)
  have hne : homeL l ≠ [] := by
    have := sh_ne h
    unfold homeL
    simpa using this
  have hb2 := sh_bnd hne
  have hb3 : BndOk (homeL l) (⟨0, 0⟩, ⟨(highP l).fX - (lowP l).fX, (highP l).fY - (lowP l).fY⟩) := by
    have pick : ∀ (f : TPoint → Int) (g : TPoint → Int) (n n' : Int), (∃ p ∈ l, f p = n) → (∀ p, f p = n → g (mvP (lowP l) p) = n') → ∃ p ∈ homeL l, g p = n' := fun f g n n' ⟨p, hp, he⟩ hf => ⟨_, List.mem_map.2 ⟨p, hp, rfl⟩, hf p he⟩
    refine ⟨fun p hp => ?_, pick _ _ _ _ hb.x0 fun p e => ?_, pick _ _ _ _ hb.x1 fun p e => ?_, pick _ _ _ _ hb.y0 fun p e => ?_, pick _ _ _ _ hb.y1 fun p e => ?_⟩
    · obtain ⟨q, hq, rfl⟩ := List.mem_map.1 hp
      have := hb.all q hq
      simp only [mvP] at this ⊢
      omega
    all_goals (simp only [mvP] at e ⊢; omega)
  exact bnd_unique hb2 hb3
/-- A shape near the origin stays one when it is moved there. -/
theorem home_ok {l : List TPoint} (h : okSh l) (hs : ∀ p ∈ l, (-30 ≤ p.fX ∧ p.fX ≤ 30) ∧ (-30 ≤ p.fY ∧ p.fY ≤ 30)) : okSh (homeL l) := by
  have hl := h.1
  have hb := sh_bnd (sh_ne h)
  have hlo : (-30 ≤ (lowP l).fX ∧ (lowP l).fX ≤ 30) ∧ (-30 ≤ (lowP l).fY ∧ (lowP l).fY ≤ 30) := by
    obtain ⟨p1, m1, e1⟩ := hb.x0
    obtain ⟨p3, m3, e3⟩ := hb.y0
    have h1 := hs p1 m1
    have h3 := hs p3 m3
    simp only at e1 e3
    omega
  have hg : ∀ (i : Nat) t, (homeL l)[i]? = some t → ∃ q, l[i]? = some q ∧ t = mvP (lowP l) q := fun i t ht => by
    unfold homeL at ht
    rw [List.getElem?_map] at ht
    cases hq : l[i]? with
    | none => rw [hq] at ht; cases ht
    | some q => rw [hq] at ht; cases ht; exact ⟨q, rfl, rfl⟩
  refine ⟨by unfold homeL; rw [List.length_map]; exact hl, fun i t hi ht => ?_⟩
  obtain ⟨q, hq, rfl⟩ := hg i t ht
  have hq2 := hs q (List.mem_of_getElem? hq)
  have ha := hb.all q (List.mem_of_getElem? hq)
  refine ⟨?_, fun s h0 hs' => ?_⟩
  · unfold okP
    simp only [mvP] at ha ⊢
    omega
  · obtain ⟨r, hr, rfl⟩ := hg (i - 1) s hs'
    have hlt := (h.2 i q (List.getElem?_eq_some_iff.1 hq).1 hq).2 r h0 hr
    unfold ltP at hlt ⊢
    simp only [mvP]
    omega
theorem rowT_no (l : List TPoint) (y : Int) (k : Nat) : (47 : UInt8) ∉ rowT l y k := fun h => by
  obtain ⟨j, _, e⟩ := List.mem_map.1 h
  unfold chT at e
  split at e <;> cases e
theorem rows_cut {l : List TPoint} (h : okSh l) : splB 47 (fST l) = rowsT l (hgtT l) := by
  obtain ⟨_, ⟨hh, _⟩, _⟩ := wid_ok h
  refine joinB_cut rfl (fun e => ?_) fun x hx => ?_
  · have := congrArg List.length e
    rw [rowsT_len] at this
    simp at this
    omega
  · obtain ⟨i, _, rfl⟩ := List.mem_map.1 hx
    rw [List.toList_toArray]
    exact rowT_no _ _ _
theorem rows_rev {l : List TPoint} (h : okSh l) {m : Nat} (hm : m < hgtT l) : (rowsT l (hgtT l)).reverse[m]? = some (mkB (rowT l ((lowP l).fY + m) (widT l))) := by
  obtain ⟨_, _, _, hhe⟩ := wid_ok h
  rw [List.getElem?_reverse (by rw [rowsT_len]; exact hm), rowsT_len]
  unfold rowsT
  rw [List.getElem?_map, List.getElem?_range (by omega)]
  simp only [Option.map_some]
  rw [show (highP l).fY - ((hgtT l - 1 - m : Nat) : Int) = (lowP l).fY + m by omega]
theorem mkB_get {x : List UInt8} {j : Nat} (hj : j < x.length) : (mkB x)[j]? = some x[j] := by
  have hs : j < (mkB x).size := by show j < (x.toArray).size; simpa using hj
  rw [getElem?_pos (mkB x) j hs]
  rfl
theorem rowT_get {l : List TPoint} {y : Int} {k j : Nat} (h : j < (rowT l y k).length) : (rowT l y k)[j] = chT l ((lowP l).fX + j) y := by simp [rowT]
theorem read_back {l : List TPoint} (h : okSh l) (h2 : okSh (homeL l)) : ptsM (splB 47 (fST l)).reverse (splB 47 (fST l)).length = homeL l := by
  obtain ⟨_, _, hwe, hhe⟩ := wid_ok h
  have hb := sh_bnd (sh_ne h)
  rw [rows_cut h, rowsT_len]
  refine sorted_ext _ _ (ptsM_pw _ _) (ord_pairwise h2.2) fun p => ?_
  rw [mem_ptsM, mem_home]
  constructor
  · rintro ⟨i, hi, hy, r, hr, j, hj, hx, hc⟩
    rw [rows_rev h hi] at hr
    cases hr
    have hjw : j < (rowT l ((lowP l).fY + i) (widT l)).length := by
      have : (mkB (rowT l ((lowP l).fY + i) (widT l))).size = (rowT l ((lowP l).fY + i) (widT l)).length := by show (List.toArray _).size = _; simp
      omega
    rw [mkB_get hjw] at hc
    have hc := Option.some.inj hc
    rw [rowT_get] at hc
    unfold chT at hc
    split at hc
    · rename_i hin
      rw [hx, hy, Int.add_comm (j : Int), Int.add_comm (i : Int)]
      exact hin
    · cases hc
  · intro hp
    have ha := hb.all _ hp
    simp only at ha
    obtain ⟨j, hj⟩ : ∃ j : Nat, p.fX = j := ⟨p.fX.toNat, by omega⟩
    obtain ⟨i, hi⟩ : ∃ i : Nat, p.fY = i := ⟨p.fY.toNat, by omega⟩
    have hil : i < hgtT l := by omega
    have hjl : j < widT l := by omega
    have hjw : j < (rowT l ((lowP l).fY + i) (widT l)).length := by rw [rowT_len]; exact hjl
    refine ⟨i, hil, hi, _, rows_rev h hil, j, ?_, hj, ?_⟩
    · show j < (List.toArray _).size
      simpa using hjw
    · rw [mkB_get hjw, rowT_get]
      rw [hj, hi, Int.add_comm (j : Int), Int.add_comm (i : Int)] at hp
      exact congrArg some (if_pos hp)
theorem text_home {l : List TPoint} (h : okSh l) : fST (homeL l) = fST l := by
  obtain ⟨hlo, hhi⟩ := home_bnd h
  have hw : widT (homeL l) = widT l := by
    unfold widT
    rw [hlo, hhi]
    show ((highP l).fX - (lowP l).fX - 0 + 1).toNat = _
    congr 1
    omega
  have hh : hgtT (homeL l) = hgtT l := by
    unfold hgtT
    rw [hlo, hhi]
    show ((highP l).fY - (lowP l).fY - 0 + 1).toNat = _
    congr 1
    omega
  have hr : ∀ (i : Nat), rowT (homeL l) ((highP (homeL l)).fY - i) (widT (homeL l)) = rowT l ((highP l).fY - i) (widT l) := fun i => by
    unfold rowT
    rw [hw]
    refine List.map_congr_left fun j _ => ?_
    rw [hlo, hhi]
    unfold chT
    have e : ((⟨0 + (j : Int), (highP l).fY - (lowP l).fY - i⟩ : TPoint) ∈ homeL l) ↔ (⟨(lowP l).fX + (j : Int), (highP l).fY - i⟩ : TPoint) ∈ l := by
      rw [mem_home]
      have : (⟨0 + (j : Int) + (lowP l).fX, (highP l).fY - (lowP l).fY - i + (lowP l).fY⟩ : TPoint) = ⟨(lowP l).fX + (j : Int), (highP l).fY - i⟩ := pt_ext (by show 0 + (j : Int) + _ = _ + (j : Int); omega) (by show (highP l).fY - (lowP l).fY - i + (lowP l).fY = (highP l).fY - i; omega)
      rw [this]
    by_cases hin : (⟨(lowP l).fX + (j : Int), (highP l).fY - i⟩ : TPoint) ∈ l
    · rw [if_pos hin, if_pos (e.2 hin)]
    · rw [if_neg hin, if_neg fun h => hin (e.1 h)]
  unfold fST rowsT
  rw [hh]
  congr 1
  refine List.map_congr_left fun i _ => ?_
  rw [hr i]
theorem text_ne {l : List TPoint} (h : okSh l) : fST l ≠ ⟨#[]⟩ := fun e => by
  obtain ⟨⟨hw, _⟩, ⟨hh, _⟩, _⟩ := wid_ok h
  have hc := rows_cut h
  rw [e] at hc
  have h1 : splB 47 ⟨#[]⟩ = [⟨#[]⟩] := rfl
  rw [h1] at hc
  have h2 := congrArg List.length hc
  rw [rowsT_len] at h2
  have h3 : rowsT l (hgtT l) = [mkB (rowT l ((highP l).fY - ((0 : Nat) : Int)) (widT l))] := by
    rw [show hgtT l = 1 by simpa using h2.symm]
    rfl
  rw [h3] at hc
  have h4 := congrArg ByteArray.size (List.head_eq_of_cons_eq hc)
  have h5 : (mkB (rowT l ((highP l).fY - ((0 : Nat) : Int)) (widT l))).size = widT l := by show (List.toArray _).size = _; simp [rowT_len]
  rw [h5] at h4
  have h6 : (⟨#[]⟩ : ByteArray).size = 0 := rfl
  omega
theorem text_size {l : List TPoint} (h : okSh l) : (fST l).size ≤ 1048576 := by
  show ((Lib.join ((rowsT l (hgtT l)).map (·.data.toList)) [47]).toArray).size ≤ _
  rw [List.size_toArray]
  exact Nat.le_trans (rowsT_join h) (by decide)
end Go.Proofs.YtnadbadljbfbbaaDoor
