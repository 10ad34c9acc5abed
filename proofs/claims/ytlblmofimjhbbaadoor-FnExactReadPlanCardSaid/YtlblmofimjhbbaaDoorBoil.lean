/- What the laws do beside the functions: sizes, copies, comparisons, marks. Numbers, Bools, rows of numbers. -/
import Derived.Test.YtlblmofimjhbbaaDoorBasic
namespace Go.Proofs.YtlblmofimjhbbaaDoor
open Go.RowKit
set_option maxRecDepth 100000 in
def S.s54 : SC := (.seq (.reg [⟨(.some 4), .none, .false, (.mv (.const (Go.Value.int Go.IntKind.i64 0)))⟩]) (.seq (.seq (.reg [⟨(.some 5), .none, .false, (.mv (.const (Go.Value.int Go.IntKind.i64 0)))⟩]) (.block 0 (.loop (.seq (.seq (.reg [⟨(.some 6), .none, .false, (.mv (.tmp 5))⟩, ⟨(.some 7), .none, .false, (.mv (.tmp 0))⟩, ⟨(.some 8), .none, .false, (.len (.tmp 7))⟩, ⟨(.some 9), .none, .false, (.bin .lss (.tmp 6) (.tmp 8))⟩]) (.cond (.tmp 9) .skip (.exit 0))) (.seq (.block 1 (.seq (.reg [⟨(.some 12), .none, .false, (.mv (.tmp 0))⟩, ⟨(.some 13), .none, .false, (.mv (.tmp 5))⟩, ⟨(.some 14), .none, .false, (.mv (.tmp 1))⟩, ⟨(.some 15), .none, .false, (.ix (.mk 2 1) (.tmp 12) (.tmp 13))⟩, ⟨.none, .none, .false, (.sto 1 (.tmp 15) (.tmp 14))⟩]) (.reg [⟨(.some 16), .none, .false, (.mv (.tmp 1))⟩, ⟨(.some 17), .none, .false, (.bin .add (.tmp 16) (.const (Go.Value.int Go.IntKind.i64 1)))⟩, ⟨(.some 1), .none, .false, (.mv (.tmp 17))⟩]))) (.reg [⟨(.some 10), .none, .false, (.mv (.tmp 5))⟩, ⟨(.some 11), .none, .false, (.bin .add (.tmp 10) (.const (Go.Value.int Go.IntKind.i64 1)))⟩, ⟨(.some 5), .none, .false, (.mv (.tmp 11))⟩])))))) (.seq (.reg [⟨(.some 18), .none, .false, (.mv (.tmp 1))⟩, ⟨(.some 4), .none, .false, (.mv (.tmp 18))⟩]) .ret)))
set_option maxRecDepth 100000 in
theorem S.ok54 : stripF Tryd.prog Tryd.f54 = some S.s54 := by kernel_rfl
set_option maxRecDepth 100000 in
def S.s56 : SC := (.seq (.reg [⟨(.some 4), .none, .false, (.mv (.const (Go.Value.int Go.IntKind.i64 0)))⟩]) (.seq (.seq (.reg [⟨(.some 5), .none, .false, (.mv (.const (Go.Value.int Go.IntKind.i64 0)))⟩]) (.block 0 (.loop (.seq (.seq (.reg [⟨(.some 6), .none, .false, (.mv (.tmp 5))⟩, ⟨(.some 7), .none, .false, (.mv (.tmp 0))⟩, ⟨(.some 8), .none, .false, (.len (.tmp 7))⟩, ⟨(.some 9), .none, .false, (.bin .lss (.tmp 6) (.tmp 8))⟩]) (.cond (.tmp 9) .skip (.exit 0))) (.seq (.block 1 (.seq (.seq (.reg [⟨(.some 12), .none, .false, (.mv (.tmp 0))⟩, ⟨(.some 13), .none, .false, (.mv (.tmp 5))⟩, ⟨(.some 14), .none, .false, (.ix (.mk 2 1) (.tmp 12) (.tmp 13))⟩, ⟨(.some 15), .none, .false, (.ld .false 1 (.tmp 14))⟩, ⟨(.some 16), .none, .false, (.mv (.tmp 1))⟩, ⟨(.some 17), .none, .false, (.bin .neq (.tmp 15) (.tmp 16))⟩]) (.cond (.tmp 17) (.seq (.reg [⟨(.some 4), .none, .false, (.mv (.const (Go.Value.int Go.IntKind.i64 (-1))))⟩]) .ret) .skip)) (.reg [⟨(.some 18), .none, .false, (.mv (.tmp 1))⟩, ⟨(.some 19), .none, .false, (.bin .add (.tmp 18) (.const (Go.Value.int Go.IntKind.i64 1)))⟩, ⟨(.some 1), .none, .false, (.mv (.tmp 19))⟩]))) (.reg [⟨(.some 10), .none, .false, (.mv (.tmp 5))⟩, ⟨(.some 11), .none, .false, (.bin .add (.tmp 10) (.const (Go.Value.int Go.IntKind.i64 1)))⟩, ⟨(.some 5), .none, .false, (.mv (.tmp 11))⟩])))))) (.seq (.reg [⟨(.some 20), .none, .false, (.mv (.tmp 1))⟩, ⟨(.some 4), .none, .false, (.mv (.tmp 20))⟩]) .ret)))
set_option maxRecDepth 100000 in
theorem S.ok56 : stripF Tryd.prog Tryd.f56 = some S.s56 := by kernel_rfl
set_option maxRecDepth 100000 in
def S.s71 : SC := (.seq (.reg [⟨(.some 4), .none, .false, (.mv (.const (Go.Value.bool false)))⟩]) (.seq (.seq (.reg [⟨(.some 6), .none, .false, (.mv (.tmp 0))⟩, ⟨(.some 7), .none, .false, (.len (.tmp 6))⟩, ⟨(.some 8), .none, .false, (.mv (.tmp 1))⟩, ⟨(.some 9), .none, .false, (.len (.tmp 8))⟩, ⟨(.some 10), .none, .false, (.bin .neq (.tmp 7) (.tmp 9))⟩]) (.cond (.tmp 10) (.seq (.reg [⟨(.some 4), .none, .false, (.mv (.const (Go.Value.bool false)))⟩]) .ret) .skip)) (.seq (.seq (.reg [⟨(.some 5), .none, .false, (.mv (.const (Go.Value.int Go.IntKind.i64 0)))⟩]) (.block 0 (.loop (.seq (.seq (.reg [⟨(.some 11), .none, .false, (.mv (.tmp 5))⟩, ⟨(.some 12), .none, .false, (.mv (.tmp 0))⟩, ⟨(.some 13), .none, .false, (.len (.tmp 12))⟩, ⟨(.some 14), .none, .false, (.bin .lss (.tmp 11) (.tmp 13))⟩]) (.cond (.tmp 14) .skip (.exit 0))) (.seq (.block 1 (.seq (.reg [⟨(.some 17), .none, .true, (.mv (.tmp 0))⟩, ⟨(.some 18), .none, .true, (.mv (.tmp 5))⟩, ⟨(.some 19), .none, .true, (.ix (.mk 2 1) (.tmp 17) (.tmp 18))⟩, ⟨(.some 20), .none, .true, (.ld .false 1 (.tmp 19))⟩, ⟨(.some 21), .none, .true, (.mv (.tmp 1))⟩, ⟨(.some 22), .none, .true, (.mv (.tmp 5))⟩, ⟨(.some 23), .none, .true, (.ix (.mk 2 1) (.tmp 21) (.tmp 22))⟩, ⟨(.some 24), .none, .true, (.ld .false 1 (.tmp 23))⟩, ⟨(.some 25), .none, .true, (.bin .neq (.tmp 20) (.tmp 24))⟩]) (.cond (.tmp 25) (.seq (.reg [⟨(.some 4), .none, .false, (.mv (.const (Go.Value.bool false)))⟩]) .ret) .skip))) (.reg [⟨(.some 15), .none, .false, (.mv (.tmp 5))⟩, ⟨(.some 16), .none, .false, (.bin .add (.tmp 15) (.const (Go.Value.int Go.IntKind.i64 1)))⟩, ⟨(.some 5), .none, .false, (.mv (.tmp 16))⟩])))))) (.seq (.reg [⟨(.some 4), .none, .false, (.mv (.const (Go.Value.bool true)))⟩]) .ret))))
set_option maxRecDepth 100000 in
theorem S.ok71 : stripF Tryd.prog Tryd.f71 = some S.s71 := by kernel_rfl
set_option maxRecDepth 10000
set_option maxHeartbeats 4000000
-- sizes
def szV (left n : Int) : Int := if left - n < 0 then -1 else left - n
def szSq (s1 s2 : Int → Int) (left : Int) : Int := if s1 left < 0 then -1 else s2 (s1 left)
def szLp {α : Type} (sz : α → Int → Int) : List α → Int → Int
  | [], left => left
  | a :: l, left => if sz a left < 0 then -1 else szLp sz l (sz a left)
def szS {α : Type} (sz : α → Int → Int) (l : List α) (left : Int) : Int := if szV left l.length < 0 then -1 else szLp sz l (szV left l.length)
def rng (left : Int) : Prop := -1 ≤ left ∧ left ≤ 1048576
theorem rng_V {left : Int} {n : Nat} (h : rng left) : rng (szV left n) := by unfold rng szV at *; split <;> omega
theorem rng_Sq {s1 s2 : Int → Int} {left : Int} (h1 : ∀ q, rng q → rng (s1 q)) (h2 : ∀ q, rng q → rng (s2 q)) (h : rng left) : rng (szSq s1 s2 left) := by
  unfold szSq
  split
  · exact ⟨by omega, by omega⟩
  · exact h2 _ (h1 _ h)
theorem rng_Lp {α : Type} {sz : α → Int → Int} (h1 : ∀ a q, rng q → rng (sz a q)) : ∀ {l : List α} {left : Int}, rng left → rng (szLp sz l left)
  | [], _, h => h
  | a :: l, left, h => by
    unfold szLp
    split
    · exact ⟨by omega, by omega⟩
    · exact rng_Lp h1 (h1 _ _ h)
theorem rng_S {α : Type} {sz : α → Int → Int} {l : List α} {left : Int} (h1 : ∀ a q, rng q → rng (sz a q)) (h : rng left) : rng (szS sz l left) := by
  unfold szS
  split
  · exact ⟨by omega, by omega⟩
  · exact rng_Lp h1 (rng_V h)
theorem gd_V {left : Int} {n : Nat} (h : rng left) (h0 : 0 ≤ szV left n) : n ≤ 1048576 := by unfold rng szV at *; split at h0 <;> omega
theorem gd_Sq {s1 s2 : Int → Int} {left : Int} (h : 0 ≤ szSq s1 s2 left) : 0 ≤ s1 left ∧ 0 ≤ s2 (s1 left) := by
  unfold szSq at h
  split at h
  · omega
  · exact ⟨by omega, h⟩
theorem gd_Lp {α : Type} {sz : α → Int → Int} {bd : α → Prop} (hr : ∀ a q, rng q → rng (sz a q)) (hb : ∀ a q, rng q → 0 ≤ sz a q → bd a) : ∀ {l : List α} {left : Int}, rng left → 0 ≤ szLp sz l left → ∀ a ∈ l, bd a
  | [], _, _, _, a, ha => by cases ha
  | b :: l, left, h, h0, a, ha => by
    unfold szLp at h0
    split at h0
    · omega
    · rcases List.mem_cons.1 ha with rfl | ha
      · exact hb _ _ h (by omega)
      · exact gd_Lp hr hb (hr _ _ h) h0 a ha
def bdS {α : Type} (bd : α → Prop) (l : List α) : Prop := l.length ≤ 1048576 ∧ ∀ a ∈ l, bd a
theorem gd_S {α : Type} {sz : α → Int → Int} {bd : α → Prop} {l : List α} {left : Int} (hr : ∀ a q, rng q → rng (sz a q)) (hb : ∀ a q, rng q → 0 ≤ sz a q → bd a) (h : rng left) (h0 : 0 ≤ szS sz l left) : bdS bd l := by
  unfold szS at h0
  split at h0
  · omega
  · exact ⟨gd_V h (by omega), gd_Lp hr hb (rng_V h) h0⟩
theorem szLp_step {α : Type} {sz : α → Int → Int} {l : List α} {i : Nat} {a : α} {cur r : Int} (ha : l[i]? = some a) (h : r = szLp sz (l.drop i) cur) : r = if sz a cur < 0 then -1 else szLp sz (l.drop (i + 1)) (sz a cur) := by
  obtain ⟨hi, hx⟩ := List.getElem?_eq_some_iff.1 ha
  rw [h, List.drop_eq_getElem_cons hi, hx]
  rfl
-- marks
def mkS0 {α : Type} (m : α → Int → α) (c : α → Nat) : List α → Int → List α
  | [], _ => []
  | a :: l, k => m a k :: mkS0 m c l (k + c a)
@[irreducible] def mkS {α : Type} (m : α → Int → α) (c : α → Nat) (l : List α) (k : Int) : List α := mkS0 m c l k
@[irreducible] def cnt {α : Type} (c : α → Nat) (l : List α) : Nat := (l.map c).sum
theorem mkS_nil {α : Type} {m : α → Int → α} {c : α → Nat} {k : Int} : mkS m c [] k = [] := by unfold mkS; rfl
theorem mkS_cons {α : Type} {m : α → Int → α} {c : α → Nat} {a : α} {l : List α} {k : Int} : mkS m c (a :: l) k = m a k :: mkS m c l (k + c a) := by unfold mkS; rfl
theorem cnt_nil {α : Type} {c : α → Nat} : cnt c [] = 0 := by unfold cnt; rfl
theorem cnt_cons {α : Type} {c : α → Nat} {a : α} {l : List α} : cnt c (a :: l) = c a + cnt c l := by unfold cnt; simp
theorem mkS_length {α : Type} {m : α → Int → α} {c : α → Nat} : ∀ {l : List α} {k : Int}, (mkS m c l k).length = l.length
  | [], _ => by rw [mkS_nil]
  | a :: l, k => by simp [mkS_cons, mkS_length]
theorem cnt_take {α : Type} {c : α → Nat} {l : List α} {i : Nat} {a : α} (h : l[i]? = some a) : cnt c (l.take (i + 1)) = cnt c (l.take i) + c a := by
  unfold cnt
  rw [take_snoc h]
  simp
theorem cnt_le {α : Type} {c : α → Nat} {l : List α} (i : Nat) : cnt c (l.take i) ≤ cnt c l := by
  unfold cnt
  conv => rhs; rw [← List.take_append_drop i l]
  rw [List.map_append, List.sum_append]
  omega
theorem cnt_mem {α : Type} {c : α → Nat} {l : List α} {i : Nat} {a : α} (h : l[i]? = some a) : cnt c (l.take i) + c a ≤ cnt c l := by
  rw [← cnt_take h]; exact cnt_le _
theorem mkS_get {α : Type} {m : α → Int → α} {c : α → Nat} : ∀ {l : List α} {k : Int} {i : Nat} {a : α}, l[i]? = some a → (mkS m c l k)[i]? = some (m a (k + cnt c (l.take i)))
  | [], _, _, _, h => by simp at h
  | b :: l, k, 0, a, h => by simp at h; subst h; simp [mkS_cons, cnt_nil]
  | b :: l, k, i + 1, a, h => by
    have := mkS_get (m := m) (c := c) (k := k + c b) (i := i) (a := a) (l := l) (by simpa using h)
    simp only [mkS_cons, List.getElem?_cons_succ, this, List.take_succ_cons, cnt_cons]
    congr 2
    omega
theorem mkS_snoc {α : Type} {m : α → Int → α} {c : α → Nat} : ∀ {l : List α} {k : Int} {a : α}, mkS m c (l ++ [a]) k = mkS m c l k ++ [m a (k + cnt c l)]
  | [], k, a => by simp [mkS_cons, mkS_nil, cnt_nil]
  | b :: l, k, a => by
    simp only [List.cons_append, mkS_cons, mkS_snoc, cnt_cons]
    congr 4
    omega
/-- One more element is marked. -/
theorem mk_fill {α : Type} {m : α → Int → α} {c : α → Nat} {l : List α} {i : Nat} {a : α} {k : Int} (h : l[i]? = some a) : (mkS m c (l.take i) k ++ l.drop i).set i (m a (k + cnt c (l.take i))) = mkS m c (l.take (i + 1)) k ++ l.drop (i + 1) := by
  obtain ⟨hi, hx⟩ := List.getElem?_eq_some_iff.1 h
  have hl : (mkS m c (l.take i) k).length = i := by rw [mkS_length, List.length_take]; omega
  rw [take_snoc h, mkS_snoc, List.set_append, if_neg (by omega), hl, Nat.sub_self, List.drop_eq_getElem_cons hi, hx]
  simp
theorem mk_get {α : Type} {m : α → Int → α} {c : α → Nat} {l : List α} {i : Nat} {k : Int} (hi : i < l.length) : ∃ a, l[i]? = some a ∧ (mkS m c (l.take i) k ++ l.drop i)[i]? = some a := by
  have hl : (mkS m c (l.take i) k).length = i := by rw [mkS_length, List.length_take]; omega
  refine ⟨l[i], List.getElem?_eq_getElem hi, ?_⟩
  rw [List.getElem?_append_right (by omega), hl, Nat.sub_self, List.getElem?_drop]
  exact List.getElem?_eq_getElem hi
theorem mk_len {α : Type} {m : α → Int → α} {c : α → Nat} {l : List α} {i : Nat} {k : Int} (hi : i ≤ l.length) : (mkS m c (l.take i) k ++ l.drop i).length = l.length := by
  rw [List.length_append, mkS_length, List.length_take, List.length_drop]
  omega
abbrev pin (i : Nat) : Nat := 1000000 + i
def c1 {α : Type} (_ : α) : Nat := 1
theorem againW {G : Type} {E : G → List (Nat × AV)} {O : G → List (Nat × Ob)} {F : G → Prop} {m : G → Nat} {g : G} {st st' : St} (hw : Weak st st') (h : ∃ g', F g' ∧ m g' < m g ∧ Weak st' ⟨frE (E g'), frO (O g')⟩) : ∃ g', F g' ∧ m g' < m g ∧ Weak st ⟨frE (E g'), frO (O g')⟩ := by
  obtain ⟨g', h1, h2, h3⟩ := h
  exact ⟨g', h1, h2, hw.trans h3⟩
def mI (_ k : Int) : Int := k
theorem eqI_ok (l : List Int) : Spec Tryd.prog 71 [vL kI (ints l), vL kI (ints l)] (oB true) := by
  refine Spec.walk T.mixed Tryd.func71 S.ok71 (by simp [Tryd.f71]) fun hk => ?_
  have hlen := (K.c hk 0 rfl).lenM
  unfold S.s71
  repeat' (first | refine R.mv rfl ?_ | refine R.reg ?_ | refine R.nil ?_ | refine R.seq ?_ | refine R.nseq ?_ | refine R.nblk ?_ | refine R.skip ?_ | refine R.blk ?_ | refine R.exit rfl ?_ | refine R.ldEp rfl rfl (by assumption) rfl rfl ?_ | refine R.ldaEp rfl rfl (by assumption) (Nat.le_of_ble_eq_true rfl) rfl rfl ?_ | refine R.ld rfl rfl rfl ?_ | refine R.lda rfl rfl (Nat.le_of_ble_eq_true rfl) rfl ?_ | refine R.lenM rfl ?_ | refine R.lenO rfl rfl ?_ | refine R.len rfl rfl ?_ | refine R.lss rfl rfl ?_ | refine R.neq rfl rfl ?_ | refine R.add rfl rfl (by omega) ?_ | refine R.ixN rfl rfl rfl (by omega) (fun a ha => ?_) | refine R.ixM rfl rfl rfl (by omega) (fun a ha => ?_) | refine R.ixON rfl rfl rfl (by first | omega | (simp; omega)) (fun a' ha' => ?_) | refine R.ixO rfl rfl rfl (by first | omega | (simp; omega)) (fun a' ha' => ?_) | refine R.condT rfl ?_ | refine R.condF rfl ?_ | refine R.cond rfl (fun hc => ?_) (fun hc => ?_) | refine R.condN rfl (fun hc => ?_) (fun hc => ?_) | refine R.condB rfl (fun hc => ?_) (fun hc => ?_))
  all_goals first | (exfalso; omega) | skip
  refine R.loop (G := Nat) (fun i => [(0, rdA kI (ints l)), (1, rdA kI (ints l)), (5, pvA (.int .i64 i))]) (fun _ => []) (fun i => i ≤ l.length) (fun i => l.length - i) 0 (by omega) (Weak.frame _ _ ⟨rfl, rfl, rfl, trivial⟩ trivial rfl rfl) fun i hi => ?_
  repeat' (first | refine R.mv rfl ?_ | refine R.reg ?_ | refine R.nil ?_ | refine R.seq ?_ | refine R.nseq ?_ | refine R.nblk ?_ | refine R.skip ?_ | refine R.blk ?_ | refine R.exit rfl ?_ | refine R.ldEp rfl rfl (by assumption) rfl rfl ?_ | refine R.ldaEp rfl rfl (by assumption) (Nat.le_of_ble_eq_true rfl) rfl rfl ?_ | refine R.ld rfl rfl rfl ?_ | refine R.lda rfl rfl (Nat.le_of_ble_eq_true rfl) rfl ?_ | refine R.lenM rfl ?_ | refine R.lenO rfl rfl ?_ | refine R.len rfl rfl ?_ | refine R.lss rfl rfl ?_ | refine R.neq rfl rfl ?_ | refine R.add rfl rfl (by omega) ?_ | refine R.ixN rfl rfl rfl (by omega) (fun a ha => ?_) | refine R.ixM rfl rfl rfl (by omega) (fun a ha => ?_) | refine R.ixON rfl rfl rfl (by first | omega | (simp; omega)) (fun a' ha' => ?_) | refine R.ixO rfl rfl rfl (by first | omega | (simp; omega)) (fun a' ha' => ?_) | refine R.condT rfl ?_ | refine R.condF rfl ?_ | refine R.cond rfl (fun hc => ?_) (fun hc => ?_) | refine R.condN rfl (fun hc => ?_) (fun hc => ?_) | refine R.condB rfl (fun hc => ?_) (fun hc => ?_))
  all_goals first | (exfalso; simp_all; done) | exact R.nloop (R.again (i + 1) (by omega) (by omega) ⟨rfl, rfl, rfl, trivial⟩ trivial rfl rfl) | exact R.ret ⟨.inr rfl, R.outB rfl rfl rfl⟩
theorem markI_ok (l : List Int) (k : Int) (hk0 : 0 ≤ k ∧ k + cnt c1 l ≤ 4611686018427387904) : SpecM Tryd.prog 54 [.c (.own (pin 0)), .c (.d (iD k))] [(pin 0, .arr kI (ints l) [])] (oI (k + cnt c1 l)).av [(pin 0, .arr kI (ints (mkS mI c1 l k)) [])] := by
  refine SpecM.walk T.mixed Tryd.func54 S.ok54 (by simp [Tryd.f54]) fun hk => ?_
  have hlen := (K.o hk (pin 0) rfl).lenM
  unfold S.s54
  repeat' (first | refine R.mv rfl ?_ | refine R.reg ?_ | refine R.nil ?_ | refine R.seq ?_ | refine R.nseq ?_ | refine R.nblk ?_ | refine R.skip ?_ | refine R.blk ?_ | refine R.exit rfl ?_ | refine R.lenM rfl ?_ | refine R.lenO rfl rfl ?_ | refine R.len rfl rfl ?_ | refine R.lss rfl rfl ?_ | refine R.add rfl rfl (by omega) ?_ | refine R.ixN rfl rfl rfl (by omega) (fun a ha => ?_) | refine R.ixM rfl rfl rfl (by omega) (fun a ha => ?_) | refine R.ixON rfl rfl rfl (by first | omega | (simp; omega)) (fun a' ha' => ?_) | refine R.ixO rfl rfl rfl (by first | omega | (simp; omega)) (fun a' ha' => ?_) | refine R.stoB rfl rfl rfl rfl ⟨rfl, rfl, Nat.le_of_ble_eq_true rfl⟩ rfl ?_ | refine R.stoE _ rfl rfl rfl rfl rfl (by assumption) rfl ⟨rfl, rfl, Nat.le_of_ble_eq_true rfl⟩ ?_ | refine R.condT rfl ?_ | refine R.condF rfl ?_ | refine R.cond rfl (fun hc => ?_) (fun hc => ?_) | refine R.condN rfl (fun hc => ?_) (fun hc => ?_) | refine R.condB rfl (fun hc => ?_) (fun hc => ?_))
  refine R.loop (G := Nat) (fun i => [(0, .v (.c (.own (pin 0)))), (1, pvA (.int .i64 (k + cnt c1 (l.take i)))), (5, pvA (.int .i64 i))]) (fun i => [(pin 0, .arr kI (ints (mkS mI c1 (l.take i) k ++ l.drop i)) [])]) (fun i => i ≤ l.length) (fun i => l.length - i) 0 (by omega) (Weak.frame _ _ ⟨rfl, by simp [cnt_nil]; rfl, rfl, trivial⟩ ⟨by simp [mkS_nil]; rfl, trivial⟩ rfl rfl) fun i hi => ?_
  have hl2 := mk_len (m := mI) (c := c1) (k := k) hi
  have hc2 := cnt_le (c := c1) (l := l) i
  repeat' (first | refine R.mv rfl ?_ | refine R.reg ?_ | refine R.nil ?_ | refine R.seq ?_ | refine R.nseq ?_ | refine R.nblk ?_ | refine R.skip ?_ | refine R.blk ?_ | refine R.exit rfl ?_ | refine R.lenM rfl ?_ | refine R.lenO rfl rfl ?_ | refine R.len rfl rfl ?_ | refine R.lss rfl rfl ?_ | refine R.add rfl rfl (by omega) ?_ | refine R.ixN rfl rfl rfl (by omega) (fun a ha => ?_) | refine R.ixM rfl rfl rfl (by omega) (fun a ha => ?_) | refine R.ixON rfl rfl rfl (by first | omega | (simp; omega)) (fun a' ha' => ?_) | refine R.ixO rfl rfl rfl (by first | omega | (simp; omega)) (fun a' ha' => ?_) | refine R.stoB rfl rfl rfl rfl ⟨rfl, rfl, Nat.le_of_ble_eq_true rfl⟩ rfl ?_ | refine R.stoE _ rfl rfl rfl rfl rfl (by assumption) rfl ⟨rfl, rfl, Nat.le_of_ble_eq_true rfl⟩ ?_ | refine R.condT rfl ?_ | refine R.condF rfl ?_ | refine R.cond rfl (fun hc => ?_) (fun hc => ?_) | refine R.condN rfl (fun hc => ?_) (fun hc => ?_) | refine R.condB rfl (fun hc => ?_) (fun hc => ?_))
  · obtain ⟨a, ha, hb⟩ := mk_get (m := mI) (c := c1) (k := k) (show i < l.length by omega)
    have hc3 : cnt c1 (l.take (i + 1)) = cnt c1 (l.take i) + 1 := cnt_take ha
    exact R.nloop (R.again (i + 1) (by omega) (by omega) ⟨rfl, (by rw [hc3]; simp [Int.add_assoc]; rfl), rfl, trivial⟩ ⟨arr_eq (mk_fill ha), trivial⟩ rfl rfl)
  · obtain rfl : i = l.length := by omega
    rw [List.take_length, List.drop_length, List.append_nil]
    exact R.ret ⟨.inr rfl, R.outR rfl (.cons (R.tmp rfl) .nil) rfl rfl rfl rfl⟩
theorem heldI_ok (l : List Int) (k : Int) (hk0 : 0 ≤ k ∧ k + cnt c1 l ≤ 4611686018427387904) : Spec Tryd.prog 56 [vL kI (ints (mkS mI c1 l k)), vI k] (oI (k + cnt c1 l)) := by
  refine Spec.walk T.mixed Tryd.func56 S.ok56 (by simp [Tryd.f56]) fun hk => ?_
  have hlen := (K.c hk 0 rfl).lenM
  unfold S.s56
  repeat' (first | refine R.mv rfl ?_ | refine R.reg ?_ | refine R.nil ?_ | refine R.seq ?_ | refine R.nseq ?_ | refine R.nblk ?_ | refine R.skip ?_ | refine R.blk ?_ | refine R.exit rfl ?_ | refine R.ldEp rfl rfl (by assumption) rfl rfl ?_ | refine R.ldaEp rfl rfl (by assumption) (Nat.le_of_ble_eq_true rfl) rfl rfl ?_ | refine R.ld rfl rfl rfl ?_ | refine R.lda rfl rfl (Nat.le_of_ble_eq_true rfl) rfl ?_ | refine R.lenM rfl ?_ | refine R.lenO rfl rfl ?_ | refine R.len rfl rfl ?_ | refine R.lss rfl rfl ?_ | refine R.neq rfl rfl ?_ | refine R.add rfl rfl (by omega) ?_ | refine R.ixN rfl rfl rfl (by omega) (fun a ha => ?_) | refine R.ixM rfl rfl rfl (by omega) (fun a ha => ?_) | refine R.ixON rfl rfl rfl (by first | omega | (simp; omega)) (fun a' ha' => ?_) | refine R.ixO rfl rfl rfl (by first | omega | (simp; omega)) (fun a' ha' => ?_) | refine R.condT rfl ?_ | refine R.condF rfl ?_ | refine R.cond rfl (fun hc => ?_) (fun hc => ?_) | refine R.condN rfl (fun hc => ?_) (fun hc => ?_) | refine R.condB rfl (fun hc => ?_) (fun hc => ?_))
  refine R.loop (G := Nat) (fun i => [(0, rdA kI (ints (mkS mI c1 l k))), (1, pvA (.int .i64 (k + cnt c1 (l.take i)))), (5, pvA (.int .i64 i))]) (fun _ => []) (fun i => i ≤ l.length) (fun i => l.length - i) 0 (by omega) (Weak.frame _ _ ⟨rfl, by simp [cnt_nil]; rfl, rfl, trivial⟩ trivial rfl rfl) fun i hi => ?_
  have hl2 : (mkS mI c1 l k).length = l.length := mkS_length
  have hc2 := cnt_le (c := c1) (l := l) i
  repeat' (first | refine R.mv rfl ?_ | refine R.reg ?_ | refine R.nil ?_ | refine R.seq ?_ | refine R.nseq ?_ | refine R.nblk ?_ | refine R.skip ?_ | refine R.blk ?_ | refine R.exit rfl ?_ | refine R.ldEp rfl rfl (by assumption) rfl rfl ?_ | refine R.ldaEp rfl rfl (by assumption) (Nat.le_of_ble_eq_true rfl) rfl rfl ?_ | refine R.ld rfl rfl rfl ?_ | refine R.lda rfl rfl (Nat.le_of_ble_eq_true rfl) rfl ?_ | refine R.lenM rfl ?_ | refine R.lenO rfl rfl ?_ | refine R.len rfl rfl ?_ | refine R.lss rfl rfl ?_ | refine R.neq rfl rfl ?_ | refine R.add rfl rfl (by omega) ?_ | refine R.ixN rfl rfl rfl (by omega) (fun a ha => ?_) | refine R.ixM rfl rfl rfl (by omega) (fun a ha => ?_) | refine R.ixON rfl rfl rfl (by first | omega | (simp; omega)) (fun a' ha' => ?_) | refine R.ixO rfl rfl rfl (by first | omega | (simp; omega)) (fun a' ha' => ?_) | refine R.condT rfl ?_ | refine R.condF rfl ?_ | refine R.cond rfl (fun hc => ?_) (fun hc => ?_) | refine R.condN rfl (fun hc => ?_) (fun hc => ?_) | refine R.condB rfl (fun hc => ?_) (fun hc => ?_))
  · obtain ⟨a, ha⟩ : ∃ a, l[i]? = some a := ⟨_, List.getElem?_eq_getElem (by omega)⟩
    have hc3 : cnt c1 (l.take (i + 1)) = cnt c1 (l.take i) + 1 := cnt_take ha
    exact R.nloop (R.again (i + 1) (by omega) (by omega) ⟨rfl, (by rw [hc3]; simp [Int.add_assoc]; rfl), rfl, trivial⟩ trivial rfl rfl)
  · exfalso
    obtain ⟨b, hb⟩ : ∃ b, l[i]? = some b := ⟨_, List.getElem?_eq_getElem (by omega)⟩
    rw [mkS_get hb] at ha
    cases ha
    exact hc rfl
  · obtain rfl : i = l.length := by omega
    refine R.ret ⟨.inr rfl, R.outI rfl rfl ?_⟩
    rw [List.take_length]
end Go.Proofs.YtlblmofimjhbbaaDoor
