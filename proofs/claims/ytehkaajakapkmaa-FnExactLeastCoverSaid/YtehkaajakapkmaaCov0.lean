/- The least cover: two searches find the same. No program is named here. -/
import Derived.Test.YtehkaajakapkmaaBase
namespace Go.Proofs.Ytehkaajakapkmaa
/-- All rising lists of m numbers out of the f numbers from a on, in their order. -/
def combs : Nat → Nat → Nat → List (List Nat)
  | _, 0, _ => [[]]
  | 0, _ + 1, _ => []
  | f + 1, m + 1, a => (combs f m (a + 1)).map (a :: ·) ++ combs f (m + 1) (a + 1)
/-- A rising list of numbers from a on, below b. -/
def rise : Nat → Nat → List Nat → Prop
  | _, _, [] => True
  | a, b, k :: l => a ≤ k ∧ k < b ∧ rise (k + 1) b l
theorem combs_zero (f a : Nat) : combs f 0 a = [[]] := by cases f <;> rfl
theorem combs_few : ∀ {f m a : Nat}, f < m → combs f m a = []
  | 0, m + 1, a, _ => rfl
  | f + 1, m + 1, a, h => by
    rw [combs, combs_few (f := f) (m := m) (by omega), combs_few (f := f) (m := m + 1) (by omega)]
    rfl
theorem rise_weak : ∀ {l : List Nat} {a a' b : Nat}, rise a b l → a' ≤ a → rise a' b l
  | [], _, _, _, _, _ => trivial
  | _ :: _, _, _, _, ⟨h1, h2, h3⟩, h => ⟨by omega, h2, h3⟩
theorem combs_rise : ∀ {f m a : Nat} {l : List Nat}, l ∈ combs f m a → rise a (a + f) l ∧ l.length = m
  | f, 0, a, l, h => by
    rw [combs_zero] at h
    obtain rfl := List.mem_singleton.1 h
    exact ⟨trivial, rfl⟩
  | 0, m + 1, a, l, h => by simp [combs] at h
  | f + 1, m + 1, a, l, h => by
    rw [combs] at h
    rcases List.mem_append.1 h with h | h
    · obtain ⟨k, hk, rfl⟩ := List.mem_map.1 h
      obtain ⟨h1, h2⟩ := combs_rise hk
      exact ⟨⟨Nat.le_refl _, by omega, by rw [show a + (f + 1) = a + 1 + f by omega]; exact h1⟩, by simp [h2]⟩
    · obtain ⟨h1, h2⟩ := combs_rise h
      exact ⟨by rw [show a + (f + 1) = a + 1 + f by omega]; exact rise_weak h1 (by omega), h2⟩
theorem rise_combs : ∀ {f a : Nat} {l : List Nat}, rise a (a + f) l → l ∈ combs f l.length a
  | f, a, [], _ => by rw [List.length_nil, combs_zero]; simp
  | 0, a, k :: l, ⟨h1, h2, h3⟩ => by omega
  | f + 1, a, k :: l, ⟨h1, h2, h3⟩ => by
    rw [List.length_cons, combs, List.mem_append]
    by_cases hk : k = a
    · subst hk
      exact .inl (List.mem_map.2 ⟨l, rise_combs (by rw [show k + 1 + f = k + (f + 1) by omega]; exact h3), rfl⟩)
    · exact .inr (rise_combs (f := f) (a := a + 1) (l := k :: l) ⟨by omega, by omega, by rw [show a + 1 + f = a + (f + 1) by omega]; exact h3⟩)
theorem rise_snoc : ∀ {l : List Nat} {a b k : Nat}, rise a k l → a ≤ k → k < b → rise a b (l ++ [k])
  | [], a, b, k, _, h1, h2 => ⟨h1, h2, trivial⟩
  | x :: l, a, b, k, ⟨h1, h2, h3⟩, _, hb => ⟨h1, by omega, rise_snoc h3 (by omega) hb⟩
theorem rise_up : ∀ {l : List Nat} {a b b' : Nat}, rise a b l → b ≤ b' → rise a b' l
  | [], _, _, _, _, _ => trivial
  | _ :: _, _, _, _, ⟨h1, h2, h3⟩, h => ⟨h1, by omega, rise_up h3 h⟩
section
variable (cv : List Nat → Prop) [DecidablePred cv] (cs : List Nat → Int)
/-- The first search: all lists of one length. -/
def updI (b : Option (List Nat)) (l : List Nat) : Option (List Nat) :=
  if cv l ∧ (∀ x, b = some x → cs l < cs x) then some l else b
end
instance decSome {b : Option (List Nat)} {p : List Nat → Prop} [DecidablePred p] : Decidable (∀ x, b = some x → p x) :=
  match b with
  | none => .isTrue fun _ h => by cases h
  | some x => if h : p x then .isTrue fun y hy => by cases hy; exact h else .isFalse fun h' => h (h' x rfl)
section
variable (cv : List Nat → Prop) [DecidablePred cv] (cs : List Nat → Int)
def srch (f m a : Nat) (pre : List Nat) (b : Option (List Nat)) : Option (List Nat) := (combs f m a).foldl (fun b l => updI cv cs b (pre ++ l)) b
theorem srch_zero (f a : Nat) (pre : List Nat) (b : Option (List Nat)) : srch cv cs f 0 a pre b = updI cv cs b pre := by
  unfold srch
  rw [combs_zero]
  simp
theorem srch_few {f m a : Nat} {pre : List Nat} {b : Option (List Nat)} (h : f < m) : srch cv cs f m a pre b = b := by
  unfold srch
  rw [combs_few h]
  rfl
theorem srch_succ (f m a : Nat) (pre : List Nat) (b : Option (List Nat)) : srch cv cs (f + 1) (m + 1) a pre b = srch cv cs f (m + 1) (a + 1) pre (srch cv cs f m (a + 1) (pre ++ [a]) b) := by
  unfold srch
  rw [combs, List.foldl_append, List.foldl_map]
  congr 2
  funext b l
  simp
theorem updI_keep {b : Option (List Nat)} {l : List Nat} (h : ¬ cv l) : updI cv cs b l = b := if_neg fun h' => h h'.1
theorem foldI_keep : ∀ {L : List (List Nat)} {b : Option (List Nat)} {pre : List Nat}, (∀ l ∈ L, ¬ cv (pre ++ l)) → L.foldl (fun b l => updI cv cs b (pre ++ l)) b = b
  | [], _, _, _ => rfl
  | l :: L, b, pre, h => by
    rw [List.foldl_cons, updI_keep cv cs (h l (by simp))]
    exact foldI_keep fun l' hl => h l' (by simp [hl])
theorem updI_some {b : Option (List Nat)} {l : List Nat} (h : cv l ∨ ∃ x, b = some x) : ∃ x, updI cv cs b l = some x := by
  unfold updI
  by_cases hc : cv l ∧ (∀ x, b = some x → cs l < cs x)
  · rw [if_pos hc]; exact ⟨l, rfl⟩
  · rw [if_neg hc]
    rcases h with h | h
    · cases b with
      | none => exact absurd ⟨h, fun x hx => by cases hx⟩ hc
      | some x => exact ⟨x, rfl⟩
    · exact h
theorem foldI_some : ∀ {L : List (List Nat)} {b : Option (List Nat)} {pre : List Nat}, ((∃ l ∈ L, cv (pre ++ l)) ∨ ∃ x, b = some x) → ∃ x, L.foldl (fun b l => updI cv cs b (pre ++ l)) b = some x
  | [], b, pre, h => h.elim (fun ⟨l, hl, _⟩ => by cases hl) id
  | l :: L, b, pre, h => by
    rw [List.foldl_cons]
    refine foldI_some ?_
    rcases h with ⟨l', hl, hc⟩ | h
    · rcases List.mem_cons.1 hl with rfl | hl
      · exact .inr (updI_some cv cs (.inl hc))
      · exact .inl ⟨l', hl, hc⟩
    · exact .inr (updI_some cv cs (.inr h))
theorem foldI_mem : ∀ {L : List (List Nat)} {b : Option (List Nat)} {pre x : List Nat}, L.foldl (fun b l => updI cv cs b (pre ++ l)) b = some x → b = some x ∨ ∃ l ∈ L, x = pre ++ l ∧ cv x
  | [], b, pre, x, h => .inl h
  | l :: L, b, pre, x, h => by
    rw [List.foldl_cons] at h
    rcases foldI_mem h with h | ⟨l', hl, h1⟩
    · unfold updI at h
      split at h
      · rename_i hc
        cases h
        exact .inr ⟨l, by simp, rfl, hc.1⟩
      · exact .inl h
    · exact .inr ⟨l', by simp [hl], h1⟩
/-- The second search: deeper until the list covers. -/
def updS (b : Option (List Nat)) (l : List Nat) : Option (List Nat) :=
  if ∀ x, b = some x → l.length < x.length ∨ cs l < cs x then some l else b
def finB (ch : List Nat) (b r : Option (List Nat)) : Option (List Nat) :=
  if ∀ x, b = some x → ch.length ≤ x.length then (if cv ch then updS cs b ch else r) else b
def loopB : Nat → Nat → List Nat → Option (List Nat) → Option (List Nat)
  | 0, _, _, b => b
  | f + 1, a, ch, b => loopB f (a + 1) ch (finB cv cs (ch ++ [a]) b (loopB f (a + 1) (ch ++ [a]) b))
def tryB (f a : Nat) (ch : List Nat) (b : Option (List Nat)) : Option (List Nat) := finB cv cs ch b (loopB cv cs f a ch b)
/-- Of those found, one of the least length. -/
def gd (m : Nat) (b : Option (List Nat)) : Option (List Nat) := match b with
  | some x => if x.length = m then some x else none
  | none => none
def invB (m : Nat) (b : Option (List Nat)) : Prop := ∀ x, b = some x → m ≤ x.length
theorem gd_some {m : Nat} {b : Option (List Nat)} {x : List Nat} (h : gd m b = some x) : b = some x := by
  unfold gd at h
  split at h
  · split at h
    · exact h
    · cases h
  · cases h
theorem gd_long {m : Nat} {x : List Nat} (h : m < x.length) : gd m (some x) = none := by
  show (if x.length = m then some x else none) = none
  rw [if_neg (by omega)]
theorem gd_is {m : Nat} {x : List Nat} (h : x.length = m) : gd m (some x) = some x := if_pos h
theorem updS_inv {m : Nat} {b : Option (List Nat)} {l : List Nat} (h : invB m b) (hl : m ≤ l.length) : invB m (updS cs b l) := by
  unfold updS
  split
  · intro x hx; cases hx; exact hl
  · exact h
theorem updS_long {m : Nat} {b : Option (List Nat)} {l : List Nat} (hl : m < l.length) (hp : ∀ x, b = some x → l.length ≤ x.length) : gd m (updS cs b l) = gd m b := by
  unfold updS
  split
  · rw [gd_long hl]
    cases b with
    | none => rfl
    | some x => rw [gd_long (by have := hp x rfl; omega)]
  · rfl
theorem updS_least {m : Nat} {b : Option (List Nat)} {l : List Nat} (h : invB m b) (hl : l.length = m) (hc : cv l) : gd m (updS cs b l) = updI cv cs (gd m b) l := by
  cases b with
  | none =>
    have h1 : updS cs none l = some l := if_pos fun x hx => by cases hx
    have h2 : updI cv cs (gd m none) l = some l := if_pos ⟨hc, fun x hx => by cases hx⟩
    rw [h1, h2, gd_is hl]
  | some y =>
    have hy := h y rfl
    by_cases hym : y.length = m
    · rw [gd_is hym]
      unfold updS updI
      by_cases hlt : cs l < cs y
      · rw [if_pos fun x hx => (by cases hx; exact .inr hlt), if_pos ⟨hc, fun x hx => by cases hx; exact hlt⟩, gd_is hl]
      · rw [if_neg fun hh => (hh y rfl).elim (fun h => by omega) hlt, if_neg fun hh => hlt (hh.2 y rfl), gd_is hym]
    · rw [gd_long (by omega)]
      have h1 : updS cs (some y) l = some l := if_pos fun x hx => by cases hx; exact .inl (by omega)
      have h2 : updI cv cs none l = some l := if_pos ⟨hc, fun x hx => by cases hx⟩
      rw [h1, h2, gd_is hl]
theorem loopB_long {m : Nat} : ∀ (f a : Nat) (ch : List Nat) (b : Option (List Nat)), m ≤ ch.length → invB m b → gd m (loopB cv cs f a ch b) = gd m b ∧ invB m (loopB cv cs f a ch b)
  | 0, _, _, _, _, h => ⟨rfl, h⟩
  | f + 1, a, ch, b, hm, h => by
    have hl : m < (ch ++ [a]).length := by simp; omega
    obtain ⟨i1, i2⟩ := loopB_long f (a + 1) (ch ++ [a]) b (by omega) h
    have hf : gd m (finB cv cs (ch ++ [a]) b (loopB cv cs f (a + 1) (ch ++ [a]) b)) = gd m b ∧ invB m (finB cv cs (ch ++ [a]) b (loopB cv cs f (a + 1) (ch ++ [a]) b)) := by
      unfold finB
      split
      · rename_i hp
        split
        · exact ⟨updS_long cs hl hp, updS_inv cs h (by omega)⟩
        · exact ⟨i1, i2⟩
      · exact ⟨rfl, h⟩
    obtain ⟨j1, j2⟩ := loopB_long f (a + 1) ch _ hm hf.2
    exact ⟨j1.trans hf.1, j2⟩
theorem loopB_short {m n : Nat} (hmin : ∀ l, rise 0 n l → cv l → m ≤ l.length) : ∀ (f a : Nat) (ch : List Nat) (b : Option (List Nat)), a + f = n → rise 0 a ch → ch.length < m → invB m b → gd m (loopB cv cs f a ch b) = srch cv cs f (m - ch.length) a ch (gd m b) ∧ invB m (loopB cv cs f a ch b)
  | 0, a, ch, b, _, _, hl, h => by
    refine ⟨?_, h⟩
    rw [srch_few cv cs (by omega)]
    rfl
  | f + 1, a, ch, b, hn, hr, hl, h => by
    have hr2 : rise 0 (a + 1) (ch ++ [a]) := rise_snoc hr (by omega) (by omega)
    have hlen : (ch ++ [a]).length = ch.length + 1 := by simp
    obtain ⟨k, hk⟩ : ∃ k, m - ch.length = k + 1 := ⟨m - ch.length - 1, by omega⟩
    have hf : gd m (finB cv cs (ch ++ [a]) b (loopB cv cs f (a + 1) (ch ++ [a]) b)) = srch cv cs f k (a + 1) (ch ++ [a]) (gd m b) ∧ invB m (finB cv cs (ch ++ [a]) b (loopB cv cs f (a + 1) (ch ++ [a]) b)) := by
      have hp : ∀ x, b = some x → (ch ++ [a]).length ≤ x.length := fun x hx => by have := h x hx; omega
      unfold finB
      rw [if_pos hp]
      by_cases hkz : k = 0
      · subst hkz
        rw [srch_zero]
        split
        · rename_i hc
          exact ⟨updS_least cv cs h (by omega) hc, updS_inv cs h (by omega)⟩
        · rename_i hc
          obtain ⟨i1, i2⟩ := loopB_long cv cs (m := m) f (a + 1) (ch ++ [a]) b (by omega) h
          exact ⟨by rw [i1, updI_keep cv cs hc], i2⟩
      · have hc : ¬ cv (ch ++ [a]) := fun hc => by
          have := hmin _ (rise_up hr2 (by omega)) hc
          omega
        rw [if_neg hc]
        obtain ⟨i1, i2⟩ := loopB_short hmin f (a + 1) (ch ++ [a]) b (by omega) hr2 (by omega) h
        rw [show m - (ch ++ [a]).length = k by omega] at i1
        exact ⟨i1, i2⟩
    obtain ⟨j1, j2⟩ := loopB_short hmin f (a + 1) ch _ (by omega) (rise_up hr (by omega)) hl hf.2
    refine ⟨?_, j2⟩
    rw [hk] at j1 ⊢
    rw [srch_succ, ← hf.1, ← j1]
    rfl
/-- Both find the same. -/
theorem both_find {m n : Nat} (hmin : ∀ l, rise 0 n l → cv l → m ≤ l.length) (hex : ∃ l, rise 0 n l ∧ cv l ∧ l.length = m) : ∃ x, srch cv cs n m 0 [] none = some x ∧ tryB cv cs n 0 [] none = some x ∧ rise 0 n x ∧ x.length = m := by
  obtain ⟨l, h1, h2, h3⟩ := hex
  have hin : l ∈ combs n m 0 := by rw [← h3]; exact rise_combs (by simpa using h1)
  obtain ⟨x, hx⟩ : ∃ x, srch cv cs n m 0 [] none = some x := foldI_some cv cs (.inl ⟨l, hin, by simpa using h2⟩)
  have hxr : rise 0 n x ∧ x.length = m := by
    rcases foldI_mem cv cs hx with h | ⟨l', hl, rfl, _⟩
    · cases h
    · have := combs_rise hl
      simpa using this
  refine ⟨x, hx, ?_, hxr⟩
  unfold tryB finB
  rw [if_pos fun y hy => by cases hy]
  by_cases hm : m = 0
  · subst hm
    obtain rfl : l = [] := List.eq_nil_of_length_eq_zero h3
    rw [if_pos h2]
    rw [srch_zero] at hx
    have h4 : updI cv cs none [] = some [] := if_pos ⟨h2, fun x hx => by cases hx⟩
    rw [h4] at hx
    cases hx
    exact if_pos fun x hx => by cases hx
  · have hc : ¬ cv [] := fun hc => hm (by have := hmin [] trivial hc; simpa using this)
    rw [if_neg hc]
    have := (loopB_short cv cs hmin n 0 [] none (by omega) trivial (by simp; omega) (fun x hx => by cases hx)).1
    rw [List.length_nil, Nat.sub_zero] at this
    exact gd_some (this.trans hx)
/-- With fewer than these the first search finds none. -/
theorem none_found {m m' n : Nat} (hmin : ∀ l, rise 0 n l → cv l → m ≤ l.length) (h : m' < m) : srch cv cs n m' 0 [] none = none := by
  refine foldI_keep cv cs fun l hl hc => ?_
  obtain ⟨h1, h2⟩ := combs_rise hl
  have := hmin l (by simpa using h1) (by simpa using hc)
  omega
end
end Go.Proofs.Ytehkaajakapkmaa
