/- Texts of one proof, one behind the other. -/
import Derived.Lib.Hide
import Derived.Maps.AppendAt
import Derived.Lib.AppendZeros
import Derived.Test.YtehkaajakapkmaaGreatFB05
import Derived.Test.YtehkaajakapkmaaGreatFB17
import Derived.Test.YtehkaajakapkmaaGreatFB20
import Derived.Test.YtehkaajakapkmaaGreatFB21
namespace Go.Proofs.YtehkaajakapkmaaGreat
section
def combs : Nat → Nat → Nat → List (List Nat)
  | _, 0, _ => [[]]
  | 0, _ + 1, _ => []
  | f + 1, m + 1, a => (combs f m (a + 1)).map (a :: ·) ++ combs f (m + 1) (a + 1)
def rise : Nat → Nat → List Nat → Prop
  | _, _, [] => True
  | a, b, k :: l => a ≤ k ∧ k < b ∧ rise (k + 1) b l
theorem combs_zero (f a : Nat) : combs f 0 a = [[]] := by cases f <;> rfl
theorem combs_few : ∀ {f m a : Nat}, f < m → combs f m a = []
  | 0, m + 1, a, _ => rfl
  | f + 1, m + 1, a, h => by
    rw [combs, combs_few (f := f) (m := m) (by omega), combs_few (f := f) (m := m + 1) (by omega)]
    rfl
theorem rise_weak : ∀ {l : List Nat} {a a' b : Nat}, rise a b l → a' ≤ a → rise a' b l
  | [], _, _, _, _, _ => trivial
  | _ :: _, _, _, _, ⟨h1, h2, h3⟩, h => ⟨by omega, h2, h3⟩
theorem combs_rise : ∀ {f m a : Nat} {l : List Nat}, l ∈ combs f m a → rise a (a + f) l ∧ l.length = m
  | f, 0, a, l, h => by
    rw [combs_zero] at h
    obtain rfl := List.mem_singleton.1 h
    exact ⟨trivial, rfl⟩
  | 0, m + 1, a, l, h => by simp [combs] at h
  | f + 1, m + 1, a, l, h => by
    rw [combs] at h
    rcases List.mem_append.1 h with h | h
    · obtain ⟨k, hk, rfl⟩ := List.mem_map.1 h
      obtain ⟨h1, h2⟩ := combs_rise hk
      exact ⟨⟨Nat.le_refl _, by omega, by rw [show a + (f + 1) = a + 1 + f by omega]; exact h1⟩, by simp [h2]⟩
    · obtain ⟨h1, h2⟩ := combs_rise h
      exact ⟨by rw [show a + (f + 1) = a + 1 + f by omega]; exact rise_weak h1 (by omega), h2⟩
theorem rise_combs : ∀ {f a : Nat} {l : List Nat}, rise a (a + f) l → l ∈ combs f l.length a
  | f, a, [], _ => by rw [List.length_nil, combs_zero]; simp
  | 0, a, k :: l, ⟨h1, h2, h3⟩ => by omega
  | f + 1, a, k :: l, ⟨h1, h2, h3⟩ => by
    rw [List.length_cons, combs, List.mem_append]
    by_cases hk : k = a
    · subst hk
      exact .inl (List.mem_map.2 ⟨l, rise_combs (by rw [show k + 1 + f = k + (f + 1) by omega]; exact h3), rfl⟩)
    · exact .inr (rise_combs (f := f) (a := a + 1) (l := k :: l) ⟨by omega, by omega, by rw [show a + 1 + f = a + (f + 1) by omega]; exact h3⟩)
theorem rise_snoc : ∀ {l : List Nat} {a b k : Nat}, rise a k l → a ≤ k → k < b → rise a b (l ++ [k])
  | [], a, b, k, _, h1, h2 => ⟨h1, h2, trivial⟩
  | x :: l, a, b, k, ⟨h1, h2, h3⟩, _, hb => ⟨h1, by omega, rise_snoc h3 (by omega) hb⟩
theorem rise_up : ∀ {l : List Nat} {a b b' : Nat}, rise a b l → b ≤ b' → rise a b' l
  | [], _, _, _, _, _ => trivial
  | _ :: _, _, _, _, ⟨h1, h2, h3⟩, h => ⟨h1, by omega, rise_up h3 h⟩
section
variable (cv : List Nat → Prop) [DecidablePred cv] (cs : List Nat → Int)
def updI (b : Option (List Nat)) (l : List Nat) : Option (List Nat) :=
  if cv l ∧ (∀ x, b = some x → cs l < cs x) then some l else b
end
instance decSome {b : Option (List Nat)} {p : List Nat → Prop} [DecidablePred p] : Decidable (∀ x, b = some x → p x) :=
  match b with
  | none => .isTrue fun _ h => by cases h
  | some x => if h : p x then .isTrue fun y hy => by cases hy; exact h else .isFalse fun h' => h (h' x rfl)
section
variable (cv : List Nat → Prop) [DecidablePred cv] (cs : List Nat → Int)
def srch (f m a : Nat) (pre : List Nat) (b : Option (List Nat)) : Option (List Nat) := (combs f m a).foldl (fun b l => updI cv cs b (pre ++ l)) b
theorem srch_zero (f a : Nat) (pre : List Nat) (b : Option (List Nat)) : srch cv cs f 0 a pre b = updI cv cs b pre := by
  unfold srch
  rw [combs_zero]
  simp
theorem srch_few {f m a : Nat} {pre : List Nat} {b : Option (List Nat)} (h : f < m) : srch cv cs f m a pre b = b := by
  unfold srch
  rw [combs_few h]
  rfl
theorem srch_succ (f m a : Nat) (pre : List Nat) (b : Option (List Nat)) : srch cv cs (f + 1) (m + 1) a pre b = srch cv cs f (m + 1) (a + 1) pre (srch cv cs f m (a + 1) (pre ++ [a]) b) := by
  unfold srch
  rw [combs, List.foldl_append, List.foldl_map]
  congr 2
  funext b l
  simp
theorem updI_keep {b : Option (List Nat)} {l : List Nat} (h : ¬ cv l) : updI cv cs b l = b := if_neg fun h' => h h'.1
theorem foldI_keep : ∀ {L : List (List Nat)} {b : Option (List Nat)} {pre : List Nat}, (∀ l ∈ L, ¬ cv (pre ++ l)) → L.foldl (fun b l => updI cv cs b (pre ++ l)) b = b
  | [], _, _, _ => rfl
  | l :: L, b, pre, h => by
    rw [List.foldl_cons, updI_keep cv cs (h l (by simp))]
    exact foldI_keep fun l' hl => h l' (by simp [hl])
theorem updI_some {b : Option (List Nat)} {l : List Nat} (h : cv l ∨ ∃ x, b = some x) : ∃ x, updI cv cs b l = some x := by
  unfold updI
  by_cases hc : cv l ∧ (∀ x, b = some x → cs l < cs x)
  · rw [if_pos hc]; exact ⟨l, rfl⟩
  · rw [if_neg hc]
    rcases h with h | h
    · cases b with
      | none => exact absurd ⟨h, fun x hx => by cases hx⟩ hc
      | some x => exact ⟨x, rfl⟩
    · exact h
theorem foldI_some : ∀ {L : List (List Nat)} {b : Option (List Nat)} {pre : List Nat}, ((∃ l ∈ L, cv (pre ++ l)) ∨ ∃ x, b = some x) → ∃ x, L.foldl (fun b l => updI cv cs b (pre ++ l)) b = some x
  | [], b, pre, h => h.elim (fun ⟨l, hl, _⟩ => by cases hl) id
  | l :: L, b, pre, h => by
    rw [List.foldl_cons]
    refine foldI_some ?_
    rcases h with ⟨l', hl, hc⟩ | h
    · rcases List.mem_cons.1 hl with rfl | hl
      · exact .inr (updI_some cv cs (.inl hc))
      · exact .inl ⟨l', hl, hc⟩
    · exact .inr (updI_some cv cs (.inr h))
theorem foldI_mem : ∀ {L : List (List Nat)} {b : Option (List Nat)} {pre x : List Nat}, L.foldl (fun b l => updI cv cs b (pre ++ l)) b = some x → b = some x ∨ ∃ l ∈ L, x = pre ++ l ∧ cv x
  | [], b, pre, x, h => .inl h
  | l :: L, b, pre, x, h => by
    rw [List.foldl_cons] at h
    rcases foldI_mem h with h | ⟨l', hl, h1⟩
    · unfold updI at h
      split at h
      · rename_i hc
        cases h
        exact .inr ⟨l, by simp, rfl, hc.1⟩
      · exact .inl h
    · exact .inr ⟨l', by simp [hl], h1⟩
def updS (b : Option (List Nat)) (l : List Nat) : Option (List Nat) :=
  if ∀ x, b = some x → l.length < x.length ∨ cs l < cs x then some l else b
def finB (ch : List Nat) (b r : Option (List Nat)) : Option (List Nat) :=
  if ∀ x, b = some x → ch.length ≤ x.length then (if cv ch then updS cs b ch else r) else b
def loopB : Nat → Nat → List Nat → Option (List Nat) → Option (List Nat)
  | 0, _, _, b => b
  | f + 1, a, ch, b => loopB f (a + 1) ch (finB cv cs (ch ++ [a]) b (loopB f (a + 1) (ch ++ [a]) b))
def tryB (f a : Nat) (ch : List Nat) (b : Option (List Nat)) : Option (List Nat) := finB cv cs ch b (loopB cv cs f a ch b)
def gd (m : Nat) (b : Option (List Nat)) : Option (List Nat) := match b with
  | some x => if x.length = m then some x else none
  | none => none
def invB (m : Nat) (b : Option (List Nat)) : Prop := ∀ x, b = some x → m ≤ x.length
theorem gd_some {m : Nat} {b : Option (List Nat)} {x : List Nat} (h : gd m b = some x) : b = some x := by
  unfold gd at h
  split at h
  · split at h
    · exact h
    · cases h
  · cases h
theorem gd_long {m : Nat} {x : List Nat} (h : m < x.length) : gd m (some x) = none := by
  show (if x.length = m then some x else none) = none
  rw [if_neg (by omega)]
theorem gd_is {m : Nat} {x : List Nat} (h : x.length = m) : gd m (some x) = some x := if_pos h
theorem updS_inv {m : Nat} {b : Option (List Nat)} {l : List Nat} (h : invB m b) (hl : m ≤ l.length) : invB m (updS cs b l) := by
  unfold updS
  split
  · intro x hx; cases hx; exact hl
  · exact h
theorem updS_long {m : Nat} {b : Option (List Nat)} {l : List Nat} (hl : m < l.length) (hp : ∀ x, b = some x → l.length ≤ x.length) : gd m (updS cs b l) = gd m b := by
  unfold updS
  split
  · rw [gd_long hl]
    cases b with
    | none => rfl
    | some x => rw [gd_long (by have := hp x rfl; omega)]
  · rfl
theorem updS_least {m : Nat} {b : Option (List Nat)} {l : List Nat} (h : invB m b) (hl : l.length = m) (hc : cv l) : gd m (updS cs b l) = updI cv cs (gd m b) l := by
  cases b with
  | none =>
    have h1 : updS cs none l = some l := if_pos fun x hx => by cases hx
    have h2 : updI cv cs (gd m none) l = some l := if_pos ⟨hc, fun x hx => by cases hx⟩
    rw [h1, h2, gd_is hl]
  | some y =>
    have hy := h y rfl
    by_cases hym : y.length = m
    · rw [gd_is hym]
      unfold updS updI
      by_cases hlt : cs l < cs y
      · rw [if_pos fun x hx => (by cases hx; exact .inr hlt), if_pos ⟨hc, fun x hx => by cases hx; exact hlt⟩, gd_is hl]
      · rw [if_neg fun hh => (hh y rfl).elim (fun h => by omega) hlt, if_neg fun hh => hlt (hh.2 y rfl), gd_is hym]
    · rw [gd_long (by omega)]
      have h1 : updS cs (some y) l = some l := if_pos fun x hx => by cases hx; exact .inl (by omega)
      have h2 : updI cv cs none l = some l := if_pos ⟨hc, fun x hx => by cases hx⟩
      rw [h1, h2, gd_is hl]
theorem loopB_long {m : Nat} : ∀ (f a : Nat) (ch : List Nat) (b : Option (List Nat)), m ≤ ch.length → invB m b → gd m (loopB cv cs f a ch b) = gd m b ∧ invB m (loopB cv cs f a ch b)
  | 0, _, _, _, _, h => ⟨rfl, h⟩
  | f + 1, a, ch, b, hm, h => by
    have hl : m < (ch ++ [a]).length := by simp; omega
    obtain ⟨i1, i2⟩ := loopB_long f (a + 1) (ch ++ [a]) b (by omega) h
    have hf : gd m (finB cv cs (ch ++ [a]) b (loopB cv cs f (a + 1) (ch ++ [a]) b)) = gd m b ∧ invB m (finB cv cs (ch ++ [a]) b (loopB cv cs f (a + 1) (ch ++ [a]) b)) := by
      unfold finB
      split
      · rename_i hp
        split
        · exact ⟨updS_long cs hl hp, updS_inv cs h (by omega)⟩
        · exact ⟨i1, i2⟩
      · exact ⟨rfl, h⟩
    obtain ⟨j1, j2⟩ := loopB_long f (a + 1) ch _ hm hf.2
    exact ⟨j1.trans hf.1, j2⟩
theorem loopB_short {m n : Nat} (hmin : ∀ l, rise 0 n l → cv l → m ≤ l.length) : ∀ (f a : Nat) (ch : List Nat) (b : Option (List Nat)), a + f = n → rise 0 a ch → ch.length < m → invB m b → gd m (loopB cv cs f a ch b) = srch cv cs f (m - ch.length) a ch (gd m b) ∧ invB m (loopB cv cs f a ch b)
  | 0, a, ch, b, _, _, hl, h => by
    refine ⟨?_, h⟩
    rw [srch_few cv cs (by omega)]
    rfl
  | f + 1, a, ch, b, hn, hr, hl, h => by
    have hr2 : rise 0 (a + 1) (ch ++ [a]) := rise_snoc hr (by omega) (by omega)
    have hlen : (ch ++ [a]).length = ch.length + 1 := by simp
    obtain ⟨k, hk⟩ : ∃ k, m - ch.length = k + 1 := ⟨m - ch.length - 1, by omega⟩
    have hf : gd m (finB cv cs (ch ++ [a]) b (loopB cv cs f (a + 1) (ch ++ [a]) b)) = srch cv cs f k (a + 1) (ch ++ [a]) (gd m b) ∧ invB m (finB cv cs (ch ++ [a]) b (loopB cv cs f (a + 1) (ch ++ [a]) b)) := by
      have hp : ∀ x, b = some x → (ch ++ [a]).length ≤ x.length := fun x hx => by have := h x hx; omega
      unfold finB
      rw [if_pos hp]
      by_cases hkz : k = 0
      · subst hkz
        rw [srch_zero]
        split
        · rename_i hc
          exact ⟨updS_least cv cs h (by omega) hc, updS_inv cs h (by omega)⟩
        · rename_i hc
          obtain ⟨i1, i2⟩ := loopB_long cv cs (m := m) f (a + 1) (ch ++ [a]) b (by omega) h
          exact ⟨by rw [i1, updI_keep cv cs hc], i2⟩
      · have hc : ¬ cv (ch ++ [a]) := fun hc => by
          have := hmin _ (rise_up hr2 (by omega)) hc
          omega
        rw [if_neg hc]
        obtain ⟨i1, i2⟩ := loopB_short hmin f (a + 1) (ch ++ [a]) b (by omega) hr2 (by omega) h
        rw [show m - (ch ++ [a]).length = k by omega] at i1
        exact ⟨i1, i2⟩
    obtain ⟨j1, j2⟩ := loopB_short hmin f (a + 1) ch _ (by omega) (rise_up hr (by omega)) hl hf.2
    refine ⟨?_, j2⟩
    rw [hk] at j1 ⊢
    rw [srch_succ, ← hf.1, ← j1]
    rfl
theorem both_find {m n : Nat} (hmin : ∀ l, rise 0 n l → cv l → m ≤ l.length) (hex : ∃ l, rise 0 n l ∧ cv l ∧ l.length = m) : ∃ x, srch cv cs n m 0 [] none = some x ∧ tryB cv cs n 0 [] none = some x ∧ rise 0 n x ∧ x.length = m := by
  obtain ⟨l, h1, h2, h3⟩ := hex
  have hin : l ∈ combs n m 0 := by rw [← h3]; exact rise_combs (by simpa using h1)
  obtain ⟨x, hx⟩ : ∃ x, srch cv cs n m 0 [] none = some x := foldI_some cv cs (.inl ⟨l, hin, by simpa using h2⟩)
  have hxr : rise 0 n x ∧ x.length = m := by
    rcases foldI_mem cv cs hx with h | ⟨l', hl, rfl, _⟩
    · cases h
    · have := combs_rise hl
      simpa using this
  refine ⟨x, hx, ?_, hxr⟩
  unfold tryB finB
  rw [if_pos fun y hy => by cases hy]
  by_cases hm : m = 0
  · subst hm
    obtain rfl : l = [] := List.eq_nil_of_length_eq_zero h3
    rw [if_pos h2]
    rw [srch_zero] at hx
    have h4 : updI cv cs none [] = some [] := if_pos ⟨h2, fun x hx => by cases hx⟩
    rw [h4] at hx
    cases hx
    exact if_pos fun x hx => by cases hx
  · have hc : ¬ cv [] := fun hc => hm (by have := hmin [] trivial hc; simpa using this)
    rw [if_neg hc]
    have := (loopB_short cv cs hmin n 0 [] none (by omega) trivial (by simp; omega) (fun x hx => by cases hx)).1
    rw [List.length_nil, Nat.sub_zero] at this
    exact gd_some (this.trans hx)
theorem none_found {m m' n : Nat} (hmin : ∀ l, rise 0 n l → cv l → m ≤ l.length) (h : m' < m) : srch cv cs n m' 0 [] none = none := by
  refine foldI_keep cv cs fun l hl hc => ?_
  obtain ⟨h1, h2⟩ := combs_rise hl
  have := hmin l (by simpa using h1) (by simpa using hc)
  omega
end
end
section
open Go.RowKit Go.Lib
set_option maxRecDepth 100000
set_option maxHeartbeats 2000000
def natV (k : Nat) : Value := .int .i64 k
def popI (c : Int) : Int := c % 2 + c / 2 % 2 + c / 4 % 2 + c / 8 % 2
def setL (st : Nat → Nat) : List Nat → Nat
  | [] => 0
  | k :: x => st k ||| setL st x
theorem setL_snoc (st : Nat → Nat) : ∀ (x : List Nat) (k : Nat), setL st (x ++ [k]) = setL st x ||| st k
  | [], k => by simp [setL]
  | y :: x, k => by
    rw [List.cons_append, setL, setL_snoc st x k, setL, Nat.or_assoc]
theorem setL_lt {st : Nat → Nat} (h : ∀ k, st k < 2 ^ 63) : ∀ x : List Nat, setL st x < 2 ^ 63
  | [] => Nat.pow_pos (by decide)
  | k :: x => Nat.or_lt_two_pow (h k) (setL_lt h x)
def cstL (care : Nat → Int) : List Nat → Int
  | [] => 0
  | k :: x => popI (care k) + cstL care x
theorem cstL_snoc (care : Nat → Int) : ∀ (x : List Nat) (k : Nat), cstL care (x ++ [k]) = cstL care x + popI (care k)
  | [], k => by simp [cstL]
  | y :: x, k => by
    rw [List.cons_append, cstL, cstL_snoc care x k, cstL]
    omega
theorem popI_bd (c : Int) : 0 ≤ popI c ∧ popI c ≤ 4 := by
  unfold popI
  omega
theorem cstL_bd (care : Nat → Int) : ∀ x : List Nat, 0 ≤ cstL care x ∧ cstL care x ≤ 4 * x.length
  | [] => by simp [cstL]
  | k :: x => by
    have h1 := cstL_bd care x
    have h2 := popI_bd (care k)
    rw [cstL, List.length_cons]
    omega
theorem infoInt : (Tryz.prog.info? 3).map (fun i => (i.zero, i.size, i.bytes)) = some (some (.int .i64 0), 1, 8) := by kernel_rfl
theorem pop1 (c : Nat) (hc : c < 16) (w : World) : Calls Tryz.prog 104 #[.int .u64 c] w fun e w' => e = .returned (.int .i64 (popI c)) ∧ Below w.heap.size w w' := by
  have h : c = 0 ∨ c = 1 ∨ c = 2 ∨ c = 3 ∨ c = 4 ∨ c = 5 ∨ c = 6 ∨ c = 7 ∨ c = 8 ∨ c = 9 ∨ c = 10 ∨ c = 11 ∨ c = 12 ∨ c = 13 ∨ c = 14 ∨ c = 15 := by omega
  rcases h with rfl | rfl | rfl | rfl | rfl | rfl | rfl | rfl | rfl | rfl | rfl | rfl | rfl | rfl | rfl | rfl
  all_goals
    go_enter Tryz.func104, Tryz.ntmps104
    go_wp2
    go_ret
    exact ⟨by kernel_rfl, Below.refl _ _⟩
end
section
open Go.RowKit
set_option maxRecDepth 10000
def ctx (ps : List TCube) (k i : Nat) : Bool := match ps[k]? with
  | some c => hasQ c i
  | none => false
def anyQ (ps : List TCube) (x : List Nat) (i : Nat) : Bool := x.any fun k => ctx ps k i
def oneQ (l : List Int) (i : Nat) : Bool := decide (l[i]? = some 1)
def cvQ (l : List Int) (ps : List TCube) (x : List Nat) : Prop := ∀ i : Nat, i < l.length → oneQ l i = true → anyQ ps x i = true
instance (l : List Int) (ps : List TCube) : DecidablePred (cvQ l ps) := fun x => inferInstanceAs (Decidable (∀ i : Nat, i < l.length → oneQ l i = true → anyQ ps x i = true))
def costQ (ps : List TCube) : List Nat → Int := cstL fun k => (ps.getD k ⟨0, 0⟩).fCare
def bitsF : Nat → (Nat → Bool) → Nat
  | 0, _ => 0
  | n + 1, p => bitsF n p ||| (if p n then 2 ^ n else 0)
theorem bitsF_test (p : Nat → Bool) : ∀ (n i : Nat), (bitsF n p).testBit i = (decide (i < n) && p i)
  | 0, i => by simp [bitsF]
  | n + 1, i => by
    rw [bitsF, Nat.testBit_or, bitsF_test p n i]
    by_cases hi : i = n
    · subst hi
      by_cases hp : p i = true
      · simp [hp]
      · simp [hp]
    · by_cases hp : p n = true
      · rw [if_pos hp, Nat.testBit_two_pow]
        have : (n = i) = False := eq_false fun h => hi h.symm
        have h2 : decide (i < n + 1) = decide (i < n) := by
          by_cases h : i < n
          · simp [h]; omega
          · simp [h]; omega
        simp [this, h2]
      · rw [if_neg hp]
        have h2 : decide (i < n + 1) = decide (i < n) := by
          by_cases h : i < n
          · simp [h]; omega
          · simp [h]; omega
        simp [h2]
theorem bitsF_lt (p : Nat → Bool) (n : Nat) : bitsF n p < 2 ^ n := by
  refine Nat.lt_pow_two_of_testBit _ fun i hi => ?_
  rw [bitsF_test]
  have : ¬ i < n := by omega
  simp [this]
theorem bitsF_or (p q : Nat → Bool) (n : Nat) : bitsF n p ||| bitsF n q = bitsF n (fun i => p i || q i) := by
  refine Nat.eq_of_testBit_eq fun i => ?_
  rw [Nat.testBit_or, bitsF_test, bitsF_test, bitsF_test]
  cases decide (i < n) <;> simp
theorem bitsF_eq (p q : Nat → Bool) (n : Nat) : bitsF n p = bitsF n q ↔ ∀ i, i < n → p i = q i := by
  constructor
  · intro h i hi
    have h1 := congrArg (·.testBit i) h
    simp only [bitsF_test] at h1
    simpa [hi] using h1
  · intro h
    refine Nat.eq_of_testBit_eq fun i => ?_
    rw [bitsF_test, bitsF_test]
    by_cases hi : i < n
    · simp [hi, h i hi]
    · simp [hi]
theorem bitsF_congr {p q : Nat → Bool} {n : Nat} (h : ∀ i, i < n → p i = q i) : bitsF n p = bitsF n q := (bitsF_eq p q n).2 h
theorem bitsF_false (n : Nat) : bitsF n (fun _ => false) = 0 := by
  refine Nat.eq_of_testBit_eq fun i => ?_
  rw [bitsF_test]
  simp
theorem fact1 : ∀ c : Fin 16, ∀ j : Fin 4, andI (c.val : Int) (2 ^ j.val) ≠ 0 → (∃ d : Fin 16, d.val < c.val ∧ andNotI (c.val : Int) (2 ^ j.val) = (d.val : Int)) := by decide
theorem fact2 : ∀ c : Fin 16, ∀ j : Fin 4, ∀ i : Fin 16, andI (i.val : Int) (andNotI (c.val : Int) (2 ^ j.val)) = andNotI (andI (i.val : Int) (c.val : Int)) (2 ^ j.val) := by decide
theorem fact3 : ∀ c : Fin 16, ∀ i : Fin 16, ∃ v : Fin 16, v.val ≤ c.val ∧ andI (i.val : Int) (c.val : Int) = (v.val : Int) ∧ andI (v.val : Int) (c.val : Int) = (v.val : Int) := by decide
theorem fact4 : ∀ n : Fin 5, ∀ i : Fin 16, i.val < 2 ^ n.val → andI (i.val : Int) (2 ^ n.val - 1) = (i.val : Int) := by decide
theorem tabQ_mem {n : Nat} {l : List Int} {c v : Nat} (hp : okPr n l ⟨c, v⟩) (hv : v ≤ c) : ∀ C, c < C → (⟨c, v⟩ : TCube) ∈ tabQ n l C
  | 0, h => by omega
  | C + 1, h => by
    rw [tabQ]
    refine List.mem_append.2 ?_
    by_cases hc : c = C
    · subst hc
      refine .inr ?_
      have hr : ∀ V, v < V → (⟨c, v⟩ : TCube) ∈ rowQ n l c V := by
        intro V
        induction V with
        | zero => intro h; omega
        | succ V ih =>
          intro h
          rw [rowQ]
          refine List.mem_append.2 ?_
          by_cases hV : v = V
          · subst hV
            refine .inr ?_
            unfold gQ
            rw [if_pos hp]
            simp
          · exact .inl (ih (by omega))
      exact hr (c + 1) (by omega)
    · exact .inl (tabQ_mem hp hv C (by omega))
theorem rowQ_ok {n : Nat} {l : List Int} {c : Nat} : ∀ {V : Nat} {q : TCube}, q ∈ rowQ n l c V → okPr n l q ∧ q.fCare = c ∧ ∃ v : Nat, v < V ∧ q.fValue = v
  | 0, q, h => by simp [rowQ] at h
  | V + 1, q, h => by
    rw [rowQ] at h
    rcases List.mem_append.1 h with h | h
    · obtain ⟨h1, h2, v, h3, h4⟩ := rowQ_ok h
      exact ⟨h1, h2, v, by omega, h4⟩
    · unfold gQ at h
      split at h
      · rename_i hp
        obtain rfl := List.mem_singleton.1 h
        exact ⟨hp, rfl, V, by omega, rfl⟩
      · cases h
theorem tabQ_ok {n : Nat} {l : List Int} : ∀ {C : Nat} {q : TCube}, q ∈ tabQ n l C → okPr n l q ∧ ∃ c v : Nat, c < C ∧ v ≤ c ∧ q = ⟨c, v⟩
  | 0, q, h => by simp [tabQ] at h
  | C + 1, q, h => by
    rw [tabQ] at h
    rcases List.mem_append.1 h with h | h
    · obtain ⟨h1, c, v, h2, h3, h4⟩ := tabQ_ok h
      exact ⟨h1, c, v, by omega, h3, h4⟩
    · obtain ⟨h1, h2, v, h3, h4⟩ := rowQ_ok h
      refine ⟨h1, C, v, by omega, by omega, ?_⟩
      cases q
      simp_all
theorem tabQ_covers {n : Nat} {l : List Int} (hn : 1 ≤ n ∧ n ≤ 4) (hlen : l.length = 2 ^ n) {i : Nat} (hi : i < l.length) (h1 : oneQ l i = true) : ∃ q ∈ tabQ n l (2 ^ n), hasQ q i = true := by
  have hp := p16 hn
  have h1' : l[i]? = some 1 := of_decide_eq_true h1
  have main : ∀ N c v : Nat, c ≤ N → c < 2 ^ n → v ≤ c → andI (v : Int) (c : Int) = v → covQ l ⟨c, v⟩ → andI (i : Int) (c : Int) = v → ∃ q ∈ tabQ n l (2 ^ n), hasQ q i = true := by
    intro N
    induction N with
    | zero =>
      intro c v hcN hc hv ha hcov hh
      obtain rfl : c = 0 := by omega
      refine ⟨⟨(0 : Nat), v⟩, tabQ_mem ⟨ha, hcov, fun j hj h => h.1 ?_⟩ hv _ hc, decide_eq_true hh⟩
      have : ∀ j : Fin 4, andI ((0 : Nat) : Int) (2 ^ j.val) = 0 := by decide
      exact this ⟨j, by omega⟩
    | succ N ih =>
      intro c v hcN hc hv ha hcov hh
      by_cases hpr : primTo l ⟨c, v⟩ n
      · exact ⟨⟨c, v⟩, tabQ_mem ⟨ha, hcov, hpr⟩ hv _ hc, decide_eq_true hh⟩
      · obtain ⟨j, hj⟩ : ∃ j, ¬ (j < n → ¬ (andI (c : Int) (2 ^ j) ≠ 0 ∧ covQ l (lessQ ⟨c, v⟩ j))) := Classical.not_forall.1 hpr
        have hjn : j < n := Classical.byContradiction fun h => hj fun h' => absurd h' h
        obtain ⟨hb, hcv⟩ : andI (c : Int) (2 ^ j) ≠ 0 ∧ covQ l (lessQ ⟨c, v⟩ j) := Classical.byContradiction fun h => hj fun _ => h
        obtain ⟨d, hd1, hd2⟩ := fact1 ⟨c, by omega⟩ ⟨j, by omega⟩ hb
        have f2 := fact2 ⟨c, by omega⟩ ⟨j, by omega⟩ ⟨i, by omega⟩
        dsimp only at f2 hd1 hd2
        rw [hh, hd2] at f2
        obtain ⟨v', hv1, hv2, hv3⟩ := fact3 d ⟨i, by omega⟩
        dsimp only at hv1 hv2 hv3
        rw [hv2] at f2
        have he : lessQ ⟨c, v⟩ j = ⟨(d.val : Int), (v'.val : Int)⟩ := by
          show TCube.mk (andNotI (c : Int) (2 ^ j)) (andNotI (v : Int) (2 ^ j)) = _
          rw [hd2, ← f2]
        rw [he] at hcv
        exact ih d.val v'.val (by omega) (by omega) hv1 hv3 hcv hv2
  have hc := p16c (n := n)
  have hf := fact4 ⟨n, by omega⟩ ⟨i, by omega⟩ (by show i < 2 ^ n; omega)
  dsimp only at hf
  have hcast : ((2 ^ n - 1 : Nat) : Int) = 2 ^ n - 1 := by omega
  refine main (2 ^ n) (2 ^ n - 1) i (by omega) (by omega) (by omega) (by rw [hcast]; exact hf) ?_ (by rw [hcast]; exact hf)
  intro i' v hi' hv h0
  refine Bool.eq_false_iff.2 fun hb => ?_
  have h2 : andI (i' : Int) ((2 ^ n - 1 : Nat) : Int) = i := of_decide_eq_true hb
  have hf' := fact4 ⟨n, by omega⟩ ⟨i', by omega⟩ (by show i' < 2 ^ n; omega)
  dsimp only at hf'
  rw [hcast, hf'] at h2
  obtain rfl : i' = i := by omega
  rw [h1'] at hv
  cases hv
  cases h0
theorem rise_range : ∀ (f a b : Nat), a + f ≤ b → rise a b (List.range' a f)
  | 0, _, _, _ => trivial
  | f + 1, a, b, h => ⟨Nat.le_refl _, by omega, rise_range f (a + 1) b (by omega)⟩
theorem all_cover {n : Nat} {l : List Int} (hn : 1 ≤ n ∧ n ≤ 4) (hlen : l.length = 2 ^ n) : cvQ l (tabQ n l (2 ^ n)) (List.range' 0 (tabQ n l (2 ^ n)).length) := by
  intro i hi h1
  obtain ⟨q, hq, hh⟩ := tabQ_covers hn hlen hi h1
  obtain ⟨k, hk, he⟩ := List.getElem_of_mem hq
  refine List.any_eq_true.2 ⟨k, ?_, ?_⟩
  · rw [List.mem_range'_1]; omega
  · unfold ctx
    rw [List.getElem?_eq_getElem hk, he]
    exact hh
theorem bits_cover {n : Nat} {l : List Int} {x : List Nat} (h01 : ∀ (i : Nat) (v : Int), l[i]? = some v → v = 0 ∨ v = 1) : bitsF l.length (anyQ (tabQ n l (2 ^ n)) x) = bitsF l.length (oneQ l) ↔ cvQ l (tabQ n l (2 ^ n)) x := by
  rw [bitsF_eq]
  constructor
  · intro h i hi h1
    rw [h i hi, h1]
  · intro h i hi
    cases ho : oneQ l i
    · refine Bool.eq_false_iff.2 fun ha => ?_
      obtain ⟨k, _, hk⟩ := List.any_eq_true.1 ha
      unfold ctx at hk
      split at hk
      · rename_i c hc
        have hm := (tabQ_ok (List.mem_of_getElem? hc)).1.2.1
        have hv : l[i]? = some l[i] := List.getElem?_eq_getElem hi
        rcases h01 i _ hv with h0 | h1
        · have := hm i _ hi hv h0
          rw [hk] at this
          cases this
        · rw [h1] at hv
          simp [oneQ, hv] at ho
      · cases hk
    · exact h i hi ho
theorem least_cover {n : Nat} {l : List Int} (hn : 1 ≤ n ∧ n ≤ 4) (hlen : l.length = 2 ^ n) : ∃ (m : Nat) (x : List Nat), m ≤ (tabQ n l (2 ^ n)).length ∧ (∀ m', m' < m → srch (cvQ l (tabQ n l (2 ^ n))) (costQ (tabQ n l (2 ^ n))) (tabQ n l (2 ^ n)).length m' 0 [] none = none) ∧ srch (cvQ l (tabQ n l (2 ^ n))) (costQ (tabQ n l (2 ^ n))) (tabQ n l (2 ^ n)).length m 0 [] none = some x ∧ tryB (cvQ l (tabQ n l (2 ^ n))) (costQ (tabQ n l (2 ^ n))) (tabQ n l (2 ^ n)).length 0 [] none = some x ∧ rise 0 (tabQ n l (2 ^ n)).length x ∧ x.length = m := by
  have hall := all_cover hn hlen
  generalize tabQ n l (2 ^ n) = ps at *
  have hex : ∃ m, ∃ x, rise 0 ps.length x ∧ cvQ l ps x ∧ x.length = m := ⟨_, List.range' 0 ps.length, rise_range _ _ _ (by omega), hall, rfl⟩
  have key : ∀ N : Nat, (∃ m, m ≤ N ∧ ∃ x, rise 0 ps.length x ∧ cvQ l ps x ∧ x.length = m) → ∃ m, m ≤ N ∧ (∃ x, rise 0 ps.length x ∧ cvQ l ps x ∧ x.length = m) ∧ ∀ x, rise 0 ps.length x → cvQ l ps x → m ≤ x.length := by
    intro N
    induction N with
    | zero =>
      rintro ⟨m, hm, hx⟩
      exact ⟨m, hm, hx, fun x _ _ => by omega⟩
    | succ N ih =>
      rintro ⟨m, hm, hx⟩
      by_cases h : ∃ m, m ≤ N ∧ ∃ x, rise 0 ps.length x ∧ cvQ l ps x ∧ x.length = m
      · obtain ⟨m, h1, h2⟩ := ih h
        exact ⟨m, by omega, h2⟩
      · refine ⟨m, hm, hx, fun x h1 h2 => ?_⟩
        by_cases hl : x.length ≤ N
        · exact absurd ⟨x.length, hl, x, h1, h2, rfl⟩ h
        · omega
  obtain ⟨m, hm, ⟨y, hy⟩, hmin⟩ := key ps.length ⟨_, by simp, List.range' 0 ps.length, rise_range _ _ _ (by omega), hall, rfl⟩
  obtain ⟨x, h1, h2, h3, h4⟩ := both_find (cvQ l ps) (costQ ps) hmin ⟨y, hy⟩
  exact ⟨m, x, hm, fun m' h => none_found (cvQ l ps) (costQ ps) hmin h, h1, h2, h3, h4⟩
end
section
open Go.RowKit
set_option maxRecDepth 100000 in
def S.s97 : SC := (.seq (.reg [⟨(.some 2), .none, .false, (.mv (.const (Go.Value.int Go.IntKind.i64 0)))⟩]) (.seq (.reg [⟨(.some 3), .none, .false, (.mv (.const (Go.Value.int Go.IntKind.i64 0)))⟩]) (.seq (.seq (.reg [⟨(.some 4), .none, .false, (.mv (.const (Go.Value.int Go.IntKind.i64 0)))⟩]) (.block 0 (.loop (.seq (.seq (.reg [⟨(.some 6), .none, .false, (.mv (.tmp 4))⟩, ⟨(.some 7), .none, .false, (.mv (.tmp 0))⟩, ⟨(.some 8), .none, .false, (.len (.tmp 7))⟩, ⟨(.some 9), .none, .false, (.bin .lss (.tmp 6) (.tmp 8))⟩]) (.cond (.tmp 9) .skip (.exit 0))) (.seq (.block 1 (.seq (.reg [⟨(.some 5), .none, .false, (.mv (.const (Go.Value.int Go.IntKind.i64 0)))⟩]) (.block 2 (.loop (.seq (.seq (.reg [⟨(.some 12), .none, .false, (.mv (.tmp 5))⟩, ⟨(.some 13), .none, .false, (.bin .lss (.tmp 12) (.const (Go.Value.int Go.IntKind.i64 4)))⟩]) (.cond (.tmp 13) .skip (.exit 2))) (.seq (.block 3 (.reg [⟨(.some 16), .none, .false, (.mv (.tmp 3))⟩, ⟨(.some 17), .none, .false, (.mv (.tmp 0))⟩, ⟨(.some 18), .none, .false, (.mv (.tmp 4))⟩, ⟨(.some 19), .none, .false, (.ix (.mk 56 2) (.tmp 17) (.tmp 18))⟩, ⟨(.some 20), .none, .false, (.fa 0 (.tmp 19))⟩, ⟨(.some 21), .none, .false, (.ld .false 1 (.tmp 20))⟩, ⟨(.some 22), .none, .false, (.mv (.tmp 5))⟩, ⟨(.some 23), .none, .false, (.bin .shr (.tmp 21) (.tmp 22))⟩, ⟨(.some 24), .none, .false, (.bin .and (.tmp 23) (.const (Go.Value.int Go.IntKind.i64 1)))⟩, ⟨(.some 25), .none, .false, (.bin .add (.tmp 16) (.tmp 24))⟩, ⟨(.some 3), .none, .false, (.mv (.tmp 25))⟩])) (.reg [⟨(.some 14), .none, .false, (.mv (.tmp 5))⟩, ⟨(.some 15), .none, .false, (.bin .add (.tmp 14) (.const (Go.Value.int Go.IntKind.i64 1)))⟩, ⟨(.some 5), .none, .false, (.mv (.tmp 15))⟩]))))))) (.reg [⟨(.some 10), .none, .false, (.mv (.tmp 4))⟩, ⟨(.some 11), .none, .false, (.bin .add (.tmp 10) (.const (Go.Value.int Go.IntKind.i64 1)))⟩, ⟨(.some 4), .none, .false, (.mv (.tmp 11))⟩])))))) (.seq (.reg [⟨(.some 26), .none, .false, (.mv (.tmp 3))⟩, ⟨(.some 2), .none, .false, (.mv (.tmp 26))⟩]) .ret))))
set_option maxRecDepth 100000 in
theorem S.ok97 : stripF Tryz.prog Tryz.f97 = some S.s97 := by kernel_rfl
set_option maxRecDepth 10000
set_option maxHeartbeats 4000000
def cubs (ps : List TCube) (x : List Nat) : List TCube := x.map fun k => ps.getD k ⟨0, 0⟩
theorem cubs_len (ps : List TCube) (x : List Nat) : (cubs ps x).length = x.length := by simp [cubs]
theorem cubs_snoc (ps : List TCube) (x : List Nat) (k : Nat) : cubs ps (x ++ [k]) = cubs ps x ++ [ps.getD k ⟨0, 0⟩] := by simp [cubs]
def popT (c : Int) : Nat → Int
  | 0 => 0
  | k + 1 => popT c k + andI (c / 2 ^ k) 1
def litS : List TCube → Int
  | [] => 0
  | c :: l => popI c.fCare + litS l
theorem litS_snoc : ∀ (l : List TCube) (c : TCube), litS (l ++ [c]) = litS l + popI c.fCare
  | [], c => by simp [litS]
  | d :: l, c => by
    rw [List.cons_append, litS, litS_snoc l c, litS]
    omega
theorem litS_cubs (ps : List TCube) : ∀ x : List Nat, litS (cubs ps x) = costQ ps x
  | [] => rfl
  | k :: x => by
    show popI _ + litS (cubs ps x) = popI _ + costQ ps x
    rw [litS_cubs ps x]
theorem litS_bd : ∀ l : List TCube, 0 ≤ litS l ∧ litS l ≤ 4 * l.length
  | [] => by simp [litS]
  | c :: l => by
    have h1 := litS_bd l
    have h2 := popI_bd c.fCare
    rw [litS, List.length_cons]
    omega
def careOk (l : List TCube) : Prop := ∀ c ∈ l, 0 ≤ c.fCare ∧ c.fCare ≤ 15
theorem pT4 : ∀ c : Fin 16, popT (c.val : Nat) 4 = popI (c.val : Nat) := by decide
theorem pT_bd : ∀ c : Fin 16, ∀ k : Fin 5, 0 ≤ popT (c.val : Nat) k.val ∧ popT (c.val : Nat) k.val ≤ 4 := by decide
theorem bit_bd : ∀ c : Fin 16, ∀ k : Fin 4, 0 ≤ andI ((c.val : Nat) / 2 ^ k.val) 1 ∧ andI ((c.val : Nat) / 2 ^ k.val) 1 ≤ 1 := by decide
theorem take_snocC {l : List TCube} {i : Nat} {c : TCube} (h : l[i]? = some c) : l.take (i + 1) = l.take i ++ [c] := take_snoc h
theorem sLits (l : List TCube) (hl : l.length ≤ 10000) (hc : careOk l) : Spec Tryz.prog 97 [vL kCube (l.map enCube)] (oI (litS l)) := by
  refine Spec.walk T.mixed Tryz.func97 S.ok97 (by simp [Tryz.f97]) fun hk => ?_
  clear hk
  unfold S.s97
  repeat' (first|refine R.mv rfl ?_|refine R.reg ?_|refine R.nil ?_|refine R.seq ?_|refine R.nseq ?_|refine R.blk ?_)
  refine R.loop (G := Nat) (fun i => [(0, rdA kCube (l.map enCube)), (3, pvA (.int .i64 (litS (l.take i)))), (4, pvA (.int .i64 i))]) (fun _ => []) (fun i => i ≤ l.length) (fun i => l.length - i) 0 (by omega) (Weak.frame _ _ ⟨rfl, rfl, rfl, trivial⟩ trivial rfl rfl) fun i hi => ?_
  have hb := litS_bd (l.take i)
  have htl : (l.take i).length ≤ i := by rw [List.length_take]; omega
  by_cases hil : i < l.length
  · obtain ⟨q, hq⟩ : ∃ q, l[i]? = some q := ⟨_, List.getElem?_eq_getElem hil⟩
    obtain ⟨h0, h15⟩ := hc q (List.mem_of_getElem? hq)
    obtain ⟨c, hcc⟩ : ∃ c : Nat, q.fCare = c := ⟨q.fCare.toNat, by omega⟩
    have hc16 : c < 16 := by omega
    repeat' (first|refine R.mv rfl ?_|refine R.reg ?_|refine R.nil ?_|refine R.seq ?_|refine R.nseq ?_|refine R.skip ?_|refine R.blk ?_|refine R.exit rfl ?_|refine R.lenM rfl ?_|refine R.lss rfl rfl ?_|refine R.cond rfl (fun hc => ?_) (fun hc => ?_))
    all_goals first | (exfalso; omega) | skip
    refine R.loop (G := Nat) (fun k => [(0, rdA kCube (l.map enCube)), (3, pvA (.int .i64 (litS (l.take i) + popT q.fCare k))), (4, pvA (.int .i64 i)), (5, pvA (.int .i64 k))]) (fun _ => []) (fun k => k ≤ 4) (fun k => 4 - k) 0 (by omega) (Weak.frame _ _ ⟨rfl, by rw [show litS (l.take i) + popT q.fCare 0 = litS (l.take i) by simp [popT]]; rfl, rfl, rfl, trivial⟩ trivial rfl rfl) fun k hk4 => ?_
    have hpb := pT_bd ⟨c, hc16⟩ ⟨k, by omega⟩
    dsimp only at hpb
    rw [← hcc] at hpb
    by_cases hk : k < 4
    · have hbb := bit_bd ⟨c, hc16⟩ ⟨k, hk⟩
      dsimp only at hbb
      rw [← hcc] at hbb
      have hbb2 : 0 ≤ andI (q.fCare / 2 ^ ((k : Nat) : Int).toNat) 1 ∧ andI (q.fCare / 2 ^ ((k : Nat) : Int).toNat) 1 ≤ 1 := by rw [Int.toNat_natCast]; exact hbb
      repeat' (first|refine R.ixK q hq rfl rfl rfl ?_|refine R.mv rfl ?_|refine R.reg ?_|refine R.nil ?_|refine R.seq ?_|refine R.nseq ?_|refine R.nblk ?_|refine R.skip ?_|refine R.blk ?_|refine R.exit rfl ?_|refine R.ld rfl rfl rfl ?_|refine R.fa rfl rfl ?_|refine R.lss rfl rfl ?_|refine R.add rfl rfl (by omega) ?_|refine R.and rfl rfl ?_|refine R.shr rfl rfl (by omega) ?_|refine R.cond rfl (fun hc => ?_) (fun hc => ?_))
      all_goals first
        | (exfalso; omega)
        | exact R.nloop (R.again (k + 1) (by omega) (by omega) ⟨rfl, by rw [show litS (l.take i) + popT q.fCare (k + 1) = litS (l.take i) + popT q.fCare k + andI (q.fCare / 2 ^ k) 1 by rw [popT]; omega]; rfl, rfl, rfl, trivial⟩ trivial rfl rfl)
        | skip
    obtain rfl : k = 4 := by omega
    have hp4 := pT4 ⟨c, hc16⟩
    dsimp only at hp4
    rw [← hcc] at hp4
    repeat' (first|refine R.mv rfl ?_|refine R.reg ?_|refine R.nil ?_|refine R.seq ?_|refine R.nseq ?_|refine R.nblk ?_|refine R.exit rfl ?_|refine R.lss rfl rfl ?_|refine R.add rfl rfl (by omega) ?_|refine R.condF rfl ?_)
    all_goals first
      | (exfalso; omega)
      | exact R.nloop (R.again (i + 1) (by omega) (by omega) ⟨rfl, by rw [take_snocC hq, litS_snoc, ← hp4]; rfl, rfl, trivial⟩ trivial rfl rfl)
      | skip
  obtain rfl : i = l.length := by omega
  rw [List.take_length]
  repeat' (first|refine R.mv rfl ?_|refine R.reg ?_|refine R.nil ?_|refine R.seq ?_|refine R.nseq ?_|refine R.skip ?_|refine R.blk ?_|refine R.exit rfl ?_|refine R.lenM rfl ?_|refine R.lss rfl rfl ?_|refine R.cond rfl (fun hc => ?_) (fun hc => ?_))
  all_goals first
    | (exfalso; omega)
    | exact R.ret ⟨.inr rfl, R.outI rfl rfl rfl⟩
    | skip
theorem rise_lt : ∀ {l : List Nat} {a b : Nat}, rise a b l → ∀ k ∈ l, k < b
  | [], _, _, _, k, hk => by cases hk
  | x :: l, a, b, ⟨_, h2, h3⟩, k, hk => by
    rcases List.mem_cons.1 hk with rfl | hk
    · exact h2
    · exact rise_lt h3 k hk
theorem rise_len : ∀ {l : List Nat} {a b : Nat}, rise a b l → l.length ≤ b - a
  | [], _, _, _ => by simp
  | x :: l, a, b, ⟨h1, h2, h3⟩ => by
    have := rise_len h3
    rw [List.length_cons]
    omega
theorem anyQ_cubs {ps : List TCube} {i : Nat} : ∀ {x : List Nat}, (∀ k ∈ x, k < ps.length) → anyQ ps x i = (cubs ps x).any fun c => hasQ c i
  | [], _ => rfl
  | k :: x, h => by
    have hk := h k (by simp)
    have ih := anyQ_cubs (ps := ps) (i := i) (x := x) fun k hk => h k (by simp [hk])
    show (ctx ps k i || anyQ ps x i) = (hasQ (ps.getD k ⟨0, 0⟩) i || (cubs ps x).any fun c => hasQ c i)
    rw [ih]
    congr 1
    unfold ctx
    rw [List.getElem?_eq_getElem hk, List.getD_eq_getElem?_getD, List.getElem?_eq_getElem hk]
    rfl
def inJ (q : List TCube) (v : Int) (i j : Nat) : Bool := ((q.take j).any fun c => hasQ c i) || decide (v = 0)
theorem inJ_succ {q : List TCube} {v : Int} {i j : Nat} {c : TCube} (h : q[j]? = some c) : inJ q v i (j + 1) = (inJ q v i j || hasQ c i) := by
  unfold inJ
  rw [take_snocC h, List.any_append]
  simp only [List.any_cons, List.any_nil, Bool.or_false]
  cases ((q.take j).any fun c => hasQ c i) <;> cases decide (v = 0) <;> cases hasQ c i <;> rfl
theorem cubs_ok {ps : List TCube} (h : careOk ps) (x : List Nat) : careOk (cubs ps x) := fun c hc => by
  obtain ⟨k, _, rfl⟩ := List.mem_map.1 hc
  by_cases hk : k < ps.length
  · rw [List.getD_eq_getElem?_getD, List.getElem?_eq_getElem hk]
    exact h _ (List.getElem_mem hk)
  · rw [List.getD_eq_getElem?_getD, List.getElem?_eq_none (by omega)]
    exact ⟨by show (0 : Int) ≤ 0; omega, by show (0 : Int) ≤ 15; omega⟩
abbrev bb (ps : List TCube) (b : Option (List Nat)) : B := .d (.rd kCube ((cubs ps (b.getD [])).map enCube))
abbrev boxT (tb : List Int) (ps : List TCube) (b : Option (List Nat)) : List B := [.d (.rd kI (ints tb)), .d (.rd kCube (ps.map enCube)), bb ps b, .d (.pv (.bool b.isSome))]
def okB (ps : List TCube) (b : Option (List Nat)) : Prop := ∀ x, b = some x → rise 0 ps.length x
section
variable (cv : List Nat → Prop) [DecidablePred cv] (cs : List Nat → Int)
theorem fin_ok {ps : List TCube} {ch : List Nat} {b r : Option (List Nat)} (hb : okB ps b) (hr : okB ps r) (hc : rise 0 ps.length ch) : okB ps (finB cv cs ch b r) := by
  unfold finB updS
  split
  · split
    · split
      · intro x hx; cases hx; exact hc
      · exact hb
    · exact hr
  · exact hb
theorem loop_ok {ps : List TCube} : ∀ (f a : Nat) (ch : List Nat) (b : Option (List Nat)), a + f = ps.length → rise 0 a ch → okB ps b → okB ps (loopB cv cs f a ch b)
  | 0, _, _, _, _, _, hb => hb
  | f + 1, a, ch, b, hf, hc, hb => by
    have h2 := rise_snoc (b := a + 1) hc (by omega) (by omega)
    exact loop_ok f (a + 1) ch _ (by omega) (rise_up hc (by omega)) (fin_ok cv cs hb (loop_ok f (a + 1) _ b (by omega) h2 hb) (rise_up h2 (by omega)))
theorem try_ok {ps : List TCube} (f a : Nat) (ch : List Nat) (b : Option (List Nat)) (hf : a + f = ps.length) (hc : rise 0 a ch) (hb : okB ps b) : okB ps (tryB cv cs f a ch b) := fin_ok cv cs hb (loop_ok cv cs f a ch b hf hc hb) (rise_up hc (by omega))
end
end
end Go.Proofs.YtehkaajakapkmaaGreat
