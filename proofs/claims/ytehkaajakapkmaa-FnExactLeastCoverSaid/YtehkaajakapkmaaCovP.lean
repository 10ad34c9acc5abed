/- Prime cubes cover the ones of a table; sets of inputs as bits. No program is named here. -/
import Derived.Test.YtehkaajakapkmaaPrimL
import Derived.Test.YtehkaajakapkmaaSea0
namespace Go.Proofs.Ytehkaajakapkmaa
open Go.RowKit
set_option maxRecDepth 10000
def ctx (ps : List TCube) (k i : Nat) : Bool := match ps[k]? with
  | some c => hasQ c i
  | none => false
/-- Some of the chosen primes has this input. -/
def anyQ (ps : List TCube) (x : List Nat) (i : Nat) : Bool := x.any fun k => ctx ps k i
def oneQ (l : List Int) (i : Nat) : Bool := decide (l[i]? = some 1)
/-- The chosen primes cover the ones of a table. -/
def cvQ (l : List Int) (ps : List TCube) (x : List Nat) : Prop := ∀ i : Nat, i < l.length → oneQ l i = true → anyQ ps x i = true
instance (l : List Int) (ps : List TCube) : DecidablePred (cvQ l ps) := fun x => inferInstanceAs (Decidable (∀ i : Nat, i < l.length → oneQ l i = true → anyQ ps x i = true))
/-- How many inputs a cube names. -/
def costQ (ps : List TCube) : List Nat → Int := cstL fun k => (ps.getD k ⟨0, 0⟩).fCare
/-- Bits below n. -/
def bitsF : Nat → (Nat → Bool) → Nat
  | 0, _ => 0
  | n + 1, p => bitsF n p ||| (if p n then 2 ^ n else 0)
theorem bitsF_test (p : Nat → Bool) : ∀ (n i : Nat), (bitsF n p).testBit i = (decide (i < n) && p i)
  | 0, i => by simp [bitsF]
  | n + 1, i => by
    rw [bitsF, Nat.testBit_or, bitsF_test p n i]
    by_cases hi : i = n
    · subst hi
      by_cases hp : p i = true
      · simp [hp]
      · simp [hp]
    · by_cases hp : p n = true
      · rw [if_pos hp, Nat.testBit_two_pow]
        have : (n = i) = False := eq_false fun h => hi h.symm
        have h2 : decide (i < n + 1) = decide (i < n) := by
          by_cases h : i < n
          · simp [h]; omega
          · simp [h]; omega
        simp [this, h2]
      · rw [if_neg hp]
        have h2 : decide (i < n + 1) = decide (i < n) := by
          by_cases h : i < n
          · simp [h]; omega
          · simp [h]; omega
        simp [h2]
theorem bitsF_lt (p : Nat → Bool) (n : Nat) : bitsF n p < 2 ^ n := by
  refine Nat.lt_pow_two_of_testBit _ fun i hi => ?_
  rw [bitsF_test]
  have : ¬ i < n := by omega
  simp [this]
theorem bitsF_or (p q : Nat → Bool) (n : Nat) : bitsF n p ||| bitsF n q = bitsF n (fun i => p i || q i) := by
  refine Nat.eq_of_testBit_eq fun i => ?_
  rw [Nat.testBit_or, bitsF_test, bitsF_test, bitsF_test]
  cases decide (i < n) <;> simp
theorem bitsF_eq (p q : Nat → Bool) (n : Nat) : bitsF n p = bitsF n q ↔ ∀ i, i < n → p i = q i := by
  constructor
  · intro h i hi
    have h1 := congrArg (·.testBit i) h
    simp only [bitsF_test] at h1
    simpa [hi] using h1
  · intro h
    refine Nat.eq_of_testBit_eq fun i => ?_
    rw [bitsF_test, bitsF_test]
    by_cases hi : i < n
    · simp [hi, h i hi]
    · simp [hi]
theorem bitsF_congr {p q : Nat → Bool} {n : Nat} (h : ∀ i, i < n → p i = q i) : bitsF n p = bitsF n q := (bitsF_eq p q n).2 h
theorem bitsF_false (n : Nat) : bitsF n (fun _ => false) = 0 := by
  refine Nat.eq_of_testBit_eq fun i => ?_
  rw [bitsF_test]
  simp
theorem anyQ_snoc (ps : List TCube) (x : List Nat) (k i : Nat) : anyQ ps (x ++ [k]) i = (anyQ ps x i || ctx ps k i) := by simp [anyQ]
theorem anyQ_nil (ps : List TCube) (i : Nat) : anyQ ps [] i = false := rfl
/-- The least care of a prime within a cube. -/
theorem fact1 : ∀ c : Fin 16, ∀ j : Fin 4, andI (c.val : Int) (2 ^ j.val) ≠ 0 → (∃ d : Fin 16, d.val < c.val ∧ andNotI (c.val : Int) (2 ^ j.val) = (d.val : Int)) := by decide
theorem fact2 : ∀ c : Fin 16, ∀ j : Fin 4, ∀ i : Fin 16, andI (i.val : Int) (andNotI (c.val : Int) (2 ^ j.val)) = andNotI (andI (i.val : Int) (c.val : Int)) (2 ^ j.val) := by decide
theorem fact3 : ∀ c : Fin 16, ∀ i : Fin 16, ∃ v : Fin 16, v.val ≤ c.val ∧ andI (i.val : Int) (c.val : Int) = (v.val : Int) ∧ andI (v.val : Int) (c.val : Int) = (v.val : Int) := by decide
theorem fact4 : ∀ n : Fin 5, ∀ i : Fin 16, i.val < 2 ^ n.val → andI (i.val : Int) (2 ^ n.val - 1) = (i.val : Int) := by decide
theorem tabQ_mem {n : Nat} {l : List Int} {c v : Nat} (hp : okPr n l ⟨c, v⟩) (hv : v ≤ c) : ∀ C, c < C → (⟨c, v⟩ : TCube) ∈ tabQ n l C
  | 0, h => by omega
  | C + 1, h => by
    rw [tabQ]
    refine List.mem_append.2 ?_
    by_cases hc : c = C
    · subst hc
      refine .inr ?_
      have hr : ∀ V, v < V → (⟨c, v⟩ : TCube) ∈ rowQ n l c V := by
        intro V
        induction V with
        | zero => intro h; omega
        | succ V ih =>
          intro h
          rw [rowQ]
          refine List.mem_append.2 ?_
          by_cases hV : v = V
          · subst hV
            refine .inr ?_
            unfold gQ
            rw [if_pos hp]
            simp
          · exact .inl (ih (by omega))
      exact hr (c + 1) (by omega)
    · exact .inl (tabQ_mem hp hv C (by omega))
theorem rowQ_ok {n : Nat} {l : List Int} {c : Nat} : ∀ {V : Nat} {q : TCube}, q ∈ rowQ n l c V → okPr n l q ∧ q.fCare = c ∧ ∃ v : Nat, v < V ∧ q.fValue = v
  | 0, q, h => by simp [rowQ] at h
  | V + 1, q, h => by
    rw [rowQ] at h
    rcases List.mem_append.1 h with h | h
    · obtain ⟨h1, h2, v, h3, h4⟩ := rowQ_ok h
      exact ⟨h1, h2, v, by omega, h4⟩
    · unfold gQ at h
      split at h
      · rename_i hp
        obtain rfl := List.mem_singleton.1 h
        exact ⟨hp, rfl, V, by omega, rfl⟩
      · cases h
theorem tabQ_ok {n : Nat} {l : List Int} : ∀ {C : Nat} {q : TCube}, q ∈ tabQ n l C → okPr n l q ∧ ∃ c v : Nat, c < C ∧ v ≤ c ∧ q = ⟨c, v⟩
  | 0, q, h => by simp [tabQ] at h
  | C + 1, q, h => by
    rw [tabQ] at h
    rcases List.mem_append.1 h with h | h
    · obtain ⟨h1, c, v, h2, h3, h4⟩ := tabQ_ok h
      exact ⟨h1, c, v, by omega, h3, h4⟩
    · obtain ⟨h1, h2, v, h3, h4⟩ := rowQ_ok h
      refine ⟨h1, C, v, by omega, by omega, ?_⟩
      cases q
      simp_all
theorem tabQ_covers {n : Nat} {l : List Int} (hn : 1 ≤ n ∧ n ≤ 4) (hlen : l.length = 2 ^ n) {i : Nat} (hi : i < l.length) (h1 : oneQ l i = true) : ∃ q ∈ tabQ n l (2 ^ n), hasQ q i = true := by
  have hp := p16 hn
  have h1' : l[i]? = some 1 := of_decide_eq_true h1
  have main : ∀ N c v : Nat, c ≤ N → c < 2 ^ n → v ≤ c → andI (v : Int) (c : Int) = v → covQ l ⟨c, v⟩ → andI (i : Int) (c : Int) = v → ∃ q ∈ tabQ n l (2 ^ n), hasQ q i = true := by
    intro N
    induction N with
    | zero =>
      intro c v hcN hc hv ha hcov hh
      obtain rfl : c = 0 := by omega
      refine ⟨⟨(0 : Nat), v⟩, tabQ_mem ⟨ha, hcov, fun j hj h => h.1 ?_⟩ hv _ hc, decide_eq_true hh⟩
      have : ∀ j : Fin 4, andI ((0 : Nat) : Int) (2 ^ j.val) = 0 := by decide
      exact this ⟨j, by omega⟩
    | succ N ih =>
      intro c v hcN hc hv ha hcov hh
      by_cases hpr : primTo l ⟨c, v⟩ n
      · exact ⟨⟨c, v⟩, tabQ_mem ⟨ha, hcov, hpr⟩ hv _ hc, decide_eq_true hh⟩
      · obtain ⟨j, hj⟩ : ∃ j, ¬ (j < n → ¬ (andI (c : Int) (2 ^ j) ≠ 0 ∧ covQ l (lessQ ⟨c, v⟩ j))) := Classical.not_forall.1 hpr
        have hjn : j < n := Classical.byContradiction fun h => hj fun h' => absurd h' h
        obtain ⟨hb, hcv⟩ : andI (c : Int) (2 ^ j) ≠ 0 ∧ covQ l (lessQ ⟨c, v⟩ j) := Classical.byContradiction fun h => hj fun _ => h
        obtain ⟨d, hd1, hd2⟩ := fact1 ⟨c, by omega⟩ ⟨j, by omega⟩ hb
        have f2 := fact2 ⟨c, by omega⟩ ⟨j, by omega⟩ ⟨i, by omega⟩
        dsimp only at f2 hd1 hd2
        rw [hh, hd2] at f2
        obtain ⟨v', hv1, hv2, hv3⟩ := fact3 d ⟨i, by omega⟩
        dsimp only at hv1 hv2 hv3
        rw [hv2] at f2
        have he : lessQ ⟨c, v⟩ j = ⟨(d.val : Int), (v'.val : Int)⟩ := by
          show TCube.mk (andNotI (c : Int) (2 ^ j)) (andNotI (v : Int) (2 ^ j)) = _
          rw [hd2, ← f2]
        rw [he] at hcv
        exact ih d.val v'.val (by omega) (by omega) hv1 hv3 hcv hv2
  have hc := p16c (n := n)
  have hf := fact4 ⟨n, by omega⟩ ⟨i, by omega⟩ (by show i < 2 ^ n; omega)
  dsimp only at hf
  have hcast : ((2 ^ n - 1 : Nat) : Int) = 2 ^ n - 1 := by omega
  refine main (2 ^ n) (2 ^ n - 1) i (by omega) (by omega) (by omega) (by rw [hcast]; exact hf) ?_ (by rw [hcast]; exact hf)
  intro i' v hi' hv h0
  refine Bool.eq_false_iff.2 fun hb => ?_
  have h2 : andI (i' : Int) ((2 ^ n - 1 : Nat) : Int) = i := of_decide_eq_true hb
  have hf' := fact4 ⟨n, by omega⟩ ⟨i', by omega⟩ (by show i' < 2 ^ n; omega)
  dsimp only at hf'
  rw [hcast, hf'] at h2
  obtain rfl : i' = i := by omega
  rw [h1'] at hv
  cases hv
  cases h0
theorem rise_range : ∀ (f a b : Nat), a + f ≤ b → rise a b (List.range' a f)
  | 0, _, _, _ => trivial
  | f + 1, a, b, h => ⟨Nat.le_refl _, by omega, rise_range f (a + 1) b (by omega)⟩
/-- All primes together cover. -/
theorem all_cover {n : Nat} {l : List Int} (hn : 1 ≤ n ∧ n ≤ 4) (hlen : l.length = 2 ^ n) : cvQ l (tabQ n l (2 ^ n)) (List.range' 0 (tabQ n l (2 ^ n)).length) := by
  intro i hi h1
  obtain ⟨q, hq, hh⟩ := tabQ_covers hn hlen hi h1
  obtain ⟨k, hk, he⟩ := List.getElem_of_mem hq
  refine List.any_eq_true.2 ⟨k, ?_, ?_⟩
  · rw [List.mem_range'_1]; omega
  · unfold ctx
    rw [List.getElem?_eq_getElem hk, he]
    exact hh
/-- The bits of the chosen are those of the whole: the chosen cover. -/
theorem bits_cover {n : Nat} {l : List Int} {x : List Nat} (h01 : ∀ (i : Nat) (v : Int), l[i]? = some v → v = 0 ∨ v = 1) : bitsF l.length (anyQ (tabQ n l (2 ^ n)) x) = bitsF l.length (oneQ l) ↔ cvQ l (tabQ n l (2 ^ n)) x := by
  rw [bitsF_eq]
  constructor
  · intro h i hi h1
    rw [h i hi, h1]
  · intro h i hi
    cases ho : oneQ l i
    · refine Bool.eq_false_iff.2 fun ha => ?_
      obtain ⟨k, _, hk⟩ := List.any_eq_true.1 ha
      unfold ctx at hk
      split at hk
      · rename_i c hc
        have hm := (tabQ_ok (List.mem_of_getElem? hc)).1.2.1
        have hv : l[i]? = some l[i] := List.getElem?_eq_getElem hi
        rcases h01 i _ hv with h0 | h1
        · have := hm i _ hi hv h0
          rw [hk] at this
          cases this
        · rw [h1] at hv
          simp [oneQ, hv] at ho
      · cases hk
    · exact h i hi ho
/-- The least cover, by numbers of primes. -/
theorem least_cover {n : Nat} {l : List Int} (hn : 1 ≤ n ∧ n ≤ 4) (hlen : l.length = 2 ^ n) : ∃ (m : Nat) (x : List Nat), m ≤ (tabQ n l (2 ^ n)).length ∧ (∀ m', m' < m → srch (cvQ l (tabQ n l (2 ^ n))) (costQ (tabQ n l (2 ^ n))) (tabQ n l (2 ^ n)).length m' 0 [] none = none) ∧ srch (cvQ l (tabQ n l (2 ^ n))) (costQ (tabQ n l (2 ^ n))) (tabQ n l (2 ^ n)).length m 0 [] none = some x ∧ tryB (cvQ l (tabQ n l (2 ^ n))) (costQ (tabQ n l (2 ^ n))) (tabQ n l (2 ^ n)).length 0 [] none = some x ∧ rise 0 (tabQ n l (2 ^ n)).length x ∧ x.length = m := by
  have hall := all_cover hn hlen
  generalize tabQ n l (2 ^ n) = ps at *
  have hex : ∃ m, ∃ x, rise 0 ps.length x ∧ cvQ l ps x ∧ x.length = m := ⟨_, List.range' 0 ps.length, rise_range _ _ _ (by omega), hall, rfl⟩
  have key : ∀ N : Nat, (∃ m, m ≤ N ∧ ∃ x, rise 0 ps.length x ∧ cvQ l ps x ∧ x.length = m) → ∃ m, m ≤ N ∧ (∃ x, rise 0 ps.length x ∧ cvQ l ps x ∧ x.length = m) ∧ ∀ x, rise 0 ps.length x → cvQ l ps x → m ≤ x.length := by
    intro N
    induction N with
    | zero =>
      rintro ⟨m, hm, hx⟩
      exact ⟨m, hm, hx, fun x _ _ => by omega⟩
    | succ N ih =>
      rintro ⟨m, hm, hx⟩
      by_cases h : ∃ m, m ≤ N ∧ ∃ x, rise 0 ps.length x ∧ cvQ l ps x ∧ x.length = m
      · obtain ⟨m, h1, h2⟩ := ih h
        exact ⟨m, by omega, h2⟩
      · refine ⟨m, hm, hx, fun x h1 h2 => ?_⟩
        by_cases hl : x.length ≤ N
        · exact absurd ⟨x.length, hl, x, h1, h2, rfl⟩ h
        · omega
  obtain ⟨m, hm, ⟨y, hy⟩, hmin⟩ := key ps.length ⟨_, by simp, List.range' 0 ps.length, rise_range _ _ _ (by omega), hall, rfl⟩
  obtain ⟨x, h1, h2, h3, h4⟩ := both_find (cvQ l ps) (costQ ps) hmin ⟨y, hy⟩
  exact ⟨m, x, hm, fun m' h => none_found (cvQ l ps) (costQ ps) hmin h, h1, h2, h3, h4⟩
end Go.Proofs.Ytehkaajakapkmaa
