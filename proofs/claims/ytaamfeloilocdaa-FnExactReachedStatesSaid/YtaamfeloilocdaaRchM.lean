/- The states that a machine reaches: plain lists. -/
import Derived.Test.YtaamfeloilocdaaBase
namespace Go.Proofs.Ytaamfeloilocdaa
def putN : List Int → Int → List Int
  | [], n => [n]
  | x :: xs, n => if x < n then x :: putN xs n else if x = n then x :: xs else n :: x :: xs
theorem putN_snoc_lt {n : Int} : ∀ {l : List Int}, (∀ y ∈ l, y < n) → putN l n = l ++ [n]
  | [], _ => rfl
  | x :: xs, h => by
    have h1 := h x (by simp)
    rw [putN, if_pos h1, putN_snoc_lt fun y hy => h y (by simp [hy])]
    rfl
theorem putN_first {n x : Int} (hx : n ≤ x) : ∀ {l : List Int}, (∀ y ∈ l, y < n) → putN (l ++ [x]) n = if n < x then l ++ [n, x] else l ++ [x]
  | [], _ => by
    show putN [x] n = _
    rw [putN, if_neg (by omega)]
    by_cases h : x = n
    · rw [if_pos h, if_neg (by omega)]; simp
    · rw [if_neg h, if_pos (by omega)]; simp
  | y :: ys, h => by
    have h1 := h y (by simp)
    rw [List.cons_append, putN, if_pos h1, putN_first hx fun z hz => h z (by simp [hz])]
    by_cases h2 : n < x
    · simp [h2]
    · simp [h2]
theorem putN_later {n x : Int} : ∀ {l : List Int}, (∃ y ∈ l, n ≤ y) → putN (l ++ [x]) n = putN l n ++ [x]
  | [], ⟨_, hy, _⟩ => by cases hy
  | z :: zs, ⟨y, hy, hn⟩ => by
    rw [List.cons_append, putN, putN]
    by_cases h1 : z < n
    · have hy2 : y ∈ zs := by
        rcases List.mem_cons.1 hy with rfl | hy
        · omega
        · exact hy
      rw [if_pos h1, if_pos h1, putN_later ⟨y, hy2, hn⟩]
      rfl
    · rw [if_neg h1, if_neg h1]
      by_cases h2 : z = n
      · rw [if_pos h2, if_pos h2]; rfl
      · rw [if_neg h2, if_neg h2]; rfl
theorem putN_mem {n x : Int} : ∀ {l : List Int}, x ∈ putN l n ↔ x = n ∨ x ∈ l
  | [] => by simp [putN]
  | y :: ys => by
    rw [putN]
    split
    · rw [List.mem_cons, putN_mem, List.mem_cons]
      constructor
      · rintro (h | h | h)
        · exact .inr (.inl h)
        · exact .inl h
        · exact .inr (.inr h)
      · rintro (h | h | h)
        · exact .inr (.inl h)
        · exact .inl h
        · exact .inr (.inr h)
    · split
      · rename_i h
        rw [List.mem_cons]
        constructor
        · intro h; exact .inr h
        · rintro (h2 | h2)
          · exact .inl (by omega)
          · exact h2
      · simp only [List.mem_cons]
abbrev Asc (l : List Int) : Prop := l.Pairwise (· < ·)
theorem putN_asc {n : Int} : ∀ {l : List Int}, Asc l → Asc (putN l n)
  | [], _ => by simp [putN, Asc]
  | y :: ys, h => by
    obtain ⟨h1, h2⟩ := List.pairwise_cons.1 h
    rw [putN]
    split
    · refine List.pairwise_cons.2 ⟨fun z hz => ?_, putN_asc h2⟩
      rcases putN_mem.1 hz with rfl | hz
      · assumption
      · exact h1 z hz
    · split
      · exact h
      · refine List.pairwise_cons.2 ⟨fun z hz => ?_, h⟩
        rcases List.mem_cons.1 hz with rfl | hz
        · omega
        · have := h1 z hz; omega
/-- What is there is not put anew. -/
theorem putN_same {n : Int} : ∀ {l : List Int}, Asc l → n ∈ l → putN l n = l
  | [], _, h => by cases h
  | y :: ys, ha, h => by
    obtain ⟨h1, h2⟩ := List.pairwise_cons.1 ha
    rw [putN]
    rcases List.mem_cons.1 h with rfl | h
    · rw [if_neg (by omega), if_pos rfl]
    · have := h1 n h
      rw [if_pos this, putN_same h2 h]
theorem putN_len {n : Int} : ∀ {l : List Int}, n ∉ l → (putN l n).length = l.length + 1
  | [], _ => rfl
  | y :: ys, h => by
    have h1 : n ≠ y := fun e => h (by simp [e])
    have h2 : n ∉ ys := fun e => h (by simp [e])
    rw [putN]
    split
    · rw [List.length_cons, putN_len h2, List.length_cons]
    · rw [if_neg (by omega)]
      simp
theorem asc_len {s : Int} : ∀ {l : List Int} {a : Int}, Asc l → (∀ x ∈ l, a ≤ x ∧ x < s) → (l.length : Int) ≤ s - a ∨ l = []
  | [], _, _, _ => .inr rfl
  | y :: ys, a, h, hb => by
    obtain ⟨h1, h2⟩ := List.pairwise_cons.1 h
    have hy := hb y (by simp)
    have h3 := asc_len (a := y + 1) h2 fun x hx => ⟨by have := h1 x hx; omega, (hb x (by simp [hx])).2⟩
    left
    rw [List.length_cons]
    rcases h3 with h3 | rfl
    · omega
    · show ((0 + 1 : Nat) : Int) ≤ _
      omega
theorem asc_ext : ∀ {l m : List Int}, Asc l → Asc m → (∀ x, x ∈ l ↔ x ∈ m) → l = m
  | [], [], _, _, _ => rfl
  | [], y :: ys, _, _, h => by have := (h y).2 (by simp); cases this
  | y :: ys, [], _, _, h => by have := (h y).1 (by simp); cases this
  | x :: xs, y :: ys, h1, h2, h => by
    obtain ⟨p1, p2⟩ := List.pairwise_cons.1 h1
    obtain ⟨q1, q2⟩ := List.pairwise_cons.1 h2
    have hxy : x = y := by
      rcases List.mem_cons.1 ((h x).1 (by simp)) with e | e
      · exact e
      · rcases List.mem_cons.1 ((h y).2 (by simp)) with e2 | e2
        · exact e2.symm
        · have := q1 x e
          have := p1 y e2
          omega
    subst hxy
    congr 1
    refine asc_ext p2 q2 fun z => ?_
    constructor
    · intro hz
      rcases List.mem_cons.1 ((h z).1 (by simp [hz])) with rfl | e
      · have := p1 z hz; omega
      · exact e
    · intro hz
      rcases List.mem_cons.1 ((h z).2 (by simp [hz])) with rfl | e
      · have := q1 z hz; omega
      · exact e
/-- What is reached from 0. -/
inductive Rch (ms : List (Int × Int)) : Int → Prop
  | zero : Rch ms 0
  | step {s t : Int} (h : Rch ms s) (hm : (s, t) ∈ ms) : Rch ms t
def Cls (ms : List (Int × Int)) (l : List Int) : Prop := ∀ s t, (s, t) ∈ ms → s ∈ l → t ∈ l
theorem Rch.mem {ms : List (Int × Int)} {l : List Int} (h0 : (0 : Int) ∈ l) (hc : Cls ms l) {x : Int} (h : Rch ms x) : x ∈ l := by
  induction h with
  | zero => exact h0
  | step _ hm ih => exact hc _ _ hm ih
def stS (l : List Int) (v : Int × Int) : List Int := if v.1 ∈ l then putN l v.2 else l
def rnd (ms : List (Int × Int)) (l : List Int) : List Int := ms.foldl stS l
theorem stS_mono {l : List Int} {v : Int × Int} {x : Int} (h : x ∈ l) : x ∈ stS l v := by
  unfold stS; split
  · exact putN_mem.2 (.inr h)
  · exact h
theorem stS_asc {l : List Int} {v : Int × Int} (h : Asc l) : Asc (stS l v) := by
  unfold stS; split
  · exact putN_asc h
  · exact h
theorem stS_grow {l : List Int} {v : Int × Int} (h : Asc l) : stS l v = l ∨ l.length + 1 ≤ (stS l v).length := by
  unfold stS; split
  · by_cases hm : v.2 ∈ l
    · exact .inl (putN_same h hm)
    · right; rw [putN_len hm]; exact Nat.le_refl _
  · exact .inl rfl
theorem rnd_mono {x : Int} : ∀ {ms : List (Int × Int)} {l : List Int}, x ∈ l → x ∈ rnd ms l
  | [], _, h => h
  | v :: ms, l, h => rnd_mono (ms := ms) (l := stS l v) (stS_mono h)
theorem rnd_asc : ∀ {ms : List (Int × Int)} {l : List Int}, Asc l → Asc (rnd ms l)
  | [], _, h => h
  | v :: ms, l, h => rnd_asc (ms := ms) (l := stS l v) (stS_asc h)
theorem rnd_len : ∀ {ms : List (Int × Int)} {l : List Int}, Asc l → l.length ≤ (rnd ms l).length
  | [], _, _ => Nat.le_refl _
  | v :: ms, l, h => by
    have h2 := rnd_len (ms := ms) (stS_asc (v := v) h)
    rcases stS_grow (v := v) h with e | e
    · rw [e] at h2
      show _ ≤ (rnd ms (stS l v)).length
      rw [e]; exact h2
    · exact Nat.le_trans (by omega) h2
theorem rnd_grow : ∀ {ms : List (Int × Int)} {l : List Int}, Asc l → rnd ms l = l ∨ l.length + 1 ≤ (rnd ms l).length
  | [], _, _ => .inl rfl
  | v :: ms, l, h => by
    rcases stS_grow (v := v) h with e | e
    · show rnd ms (stS l v) = l ∨ _ ≤ (rnd ms (stS l v)).length
      rw [e]
      exact rnd_grow h
    · exact .inr (Nat.le_trans e (rnd_len (ms := ms) (stS_asc h)))
theorem rnd_reach {x : Int} {M : List (Int × Int)} : ∀ {ms : List (Int × Int)} {l : List Int}, (∀ v ∈ ms, v ∈ M) → (∀ y ∈ l, Rch M y) → x ∈ rnd ms l → Rch M x
  | [], _, _, h, hx => h x hx
  | v :: ms, l, hm, h, hx => by
    refine rnd_reach (ms := ms) (l := stS l v) (fun u hu => hm u (by simp [hu])) (fun y hy => ?_) hx
    unfold stS at hy
    split at hy
    · rename_i hv
      rcases putN_mem.1 hy with rfl | hy
      · exact .step (h _ hv) (hm v (by simp))
      · exact h y hy
    · exact h y hy
theorem rnd_adds {s t : Int} : ∀ {ms : List (Int × Int)} {l : List Int}, (s, t) ∈ ms → s ∈ l → t ∈ rnd ms l
  | [], _, h, _ => by cases h
  | v :: ms, l, h, hs => by
    rcases List.mem_cons.1 h with rfl | h
    · refine rnd_mono (ms := ms) (l := stS l (s, t)) ?_
      unfold stS
      rw [if_pos hs]
      exact putN_mem.2 (.inl rfl)
    · exact rnd_adds (ms := ms) (l := stS l v) h (stS_mono hs)
def itR (ms : List (Int × Int)) : Nat → List Int
  | 0 => [0]
  | k + 1 => rnd ms (itR ms k)
theorem itR_asc {ms : List (Int × Int)} : ∀ k, Asc (itR ms k)
  | 0 => by simp [itR, Asc]
  | k + 1 => rnd_asc (itR_asc k)
theorem itR_zero {ms : List (Int × Int)} : ∀ k, (0 : Int) ∈ itR ms k
  | 0 => by simp [itR]
  | k + 1 => rnd_mono (itR_zero k)
theorem itR_reach {ms : List (Int × Int)} : ∀ k, ∀ x ∈ itR ms k, Rch ms x
  | 0, x, h => by
    simp [itR] at h
    subst h
    exact .zero
  | k + 1, x, h => rnd_reach (fun _ h => h) (itR_reach k) h
theorem itR_grow {ms : List (Int × Int)} : ∀ k, rnd ms (itR ms k) = itR ms k ∨ k + 1 ≤ (itR ms k).length
  | 0 => .inr (by simp [itR])
  | k + 1 => by
    rcases itR_grow k with e | e
    · left
      rw [itR, e, e]
    · rcases rnd_grow (ms := ms) (itR_asc k) with e2 | e2
      · left
        rw [itR, e2, e2]
      · right
        rw [itR]
        omega
theorem Rch.bd {ms : List (Int × Int)} {s : Int} (hs : 0 < s) (hb : ∀ v ∈ ms, 0 ≤ v.2 ∧ v.2 < s) {x : Int} (h : Rch ms x) : 0 ≤ x ∧ x < s := by
  cases h with
  | zero => omega
  | step _ hm => exact hb _ hm
/-- So many rounds reach all. -/
theorem itR_all {ms : List (Int × Int)} {s : Nat} (hs : 0 < s) (hb : ∀ v ∈ ms, 0 ≤ v.2 ∧ v.2 < (s : Int)) (x : Int) : x ∈ itR ms s ↔ Rch ms x := by
  refine ⟨itR_reach s x, fun h => h.mem (itR_zero s) fun u v hm hu => ?_⟩
  have hl : (itR ms s).length ≤ s := by
    rcases asc_len (s := s) (a := 0) (itR_asc s) (fun y hy => (itR_reach s y hy).bd (by omega) hb) with h | h
    · omega
    · rw [h]; simp
  rcases itR_grow (ms := ms) s with e | e
  · have := rnd_adds (l := itR ms s) hm hu
    rwa [e] at this
  · omega
/-- A sorted list of all that is reached is that list. -/
theorem sorted_all {ms : List (Int × Int)} {s : Nat} (hs : 0 < s) (hb : ∀ v ∈ ms, 0 ≤ v.2 ∧ v.2 < (s : Int)) {l : List Int} (hn : l.Nodup) (h0 : (0 : Int) ∈ l) (hr : ∀ x ∈ l, Rch ms x) (hc : Cls ms l) : l.mergeSort (fun x y => decide (x ≤ y)) = itR ms s := by
  have hp := List.mergeSort_perm l (fun x y => decide (x ≤ y))
  have hle := List.pairwise_mergeSort (le := fun x y : Int => decide (x ≤ y)) (fun a b c h1 h2 => by simp at h1 h2 ⊢; omega) (fun a b => by simp; omega) l
  have hnd : (l.mergeSort (fun x y => decide (x ≤ y))).Nodup := hp.nodup_iff.2 hn
  refine asc_ext ?_ (itR_asc s) fun x => ?_
  · have := List.pairwise_and_iff.2 ⟨hle, hnd⟩
    exact this.imp fun {a b} h => by
      have h1 : a ≤ b := by simpa using h.1
      have h2 := h.2
      omega
  · rw [hp.mem_iff, itR_all hs hb]
    exact ⟨hr x, fun h => h.mem h0 hc⟩
theorem nodup_len {s : Nat} {l : List Int} (hn : l.Nodup) (hb : ∀ x ∈ l, 0 ≤ x ∧ x < (s : Int)) : l.length ≤ s := by
  have hp := List.mergeSort_perm l (fun x y => decide (x ≤ y))
  have hle := List.pairwise_mergeSort (le := fun x y : Int => decide (x ≤ y)) (fun a b c h1 h2 => by simp at h1 h2 ⊢; omega) (fun a b => by simp; omega) l
  have hnd : (l.mergeSort (fun x y => decide (x ≤ y))).Nodup := hp.nodup_iff.2 hn
  have ha : Asc (l.mergeSort (fun x y => decide (x ≤ y))) := (List.pairwise_and_iff.2 ⟨hle, hnd⟩).imp fun {a b} h => by
    have h1 : a ≤ b := by simpa using h.1
    have h2 := h.2
    omega
  rw [← hp.length_eq]
  rcases asc_len (s := s) (a := 0) ha (fun y hy => hb y (hp.mem_iff.1 hy)) with h | h
  · omega
  · rw [h]; simp
/-- A pass over the moves for one state. -/
def psI (s : Int) (l : List Int) (ms : List (Int × Int)) : List Int := ms.foldl (fun l v => if v.1 = s ∧ v.2 ∉ l then l ++ [v.2] else l) l
theorem psI_snoc {s : Int} {l : List Int} {ms : List (Int × Int)} {v : Int × Int} : psI s l (ms ++ [v]) = if v.1 = s ∧ v.2 ∉ psI s l ms then psI s l ms ++ [v.2] else psI s l ms := by
  unfold psI; rw [List.foldl_append]; rfl
theorem psI_pre {s : Int} {ms : List (Int × Int)} : ∀ {l : List Int}, ∃ r, psI s l ms = l ++ r := by
  induction ms with
  | nil => exact fun {l} => ⟨[], by simp [psI]⟩
  | cons v ms ih =>
    intro l
    show ∃ r, psI s (if v.1 = s ∧ v.2 ∉ l then l ++ [v.2] else l) ms = _
    split
    · obtain ⟨r, hr⟩ := ih (l := l ++ [v.2])
      exact ⟨v.2 :: r, by rw [hr]; simp⟩
    · exact ih
theorem psI_nodup {s : Int} {ms : List (Int × Int)} : ∀ {l : List Int}, l.Nodup → (psI s l ms).Nodup := by
  induction ms with
  | nil => exact fun {l} h => h
  | cons v ms ih =>
    intro l h
    show (psI s (if v.1 = s ∧ v.2 ∉ l then l ++ [v.2] else l) ms).Nodup
    split
    · rename_i hv
      refine ih ?_
      rw [List.nodup_append]
      refine ⟨h, by simp, fun a ha b hb e => ?_⟩
      simp at hb
      subst hb
      subst e
      exact hv.2 ha
    · exact ih h
theorem psI_reach {s : Int} {M : List (Int × Int)} (hs : Rch M s) {ms : List (Int × Int)} : ∀ {l : List Int}, (∀ v ∈ ms, v ∈ M) → (∀ x ∈ l, Rch M x) → ∀ x ∈ psI s l ms, Rch M x := by
  induction ms with
  | nil => exact fun {l} _ h => h
  | cons v ms ih =>
    intro l hm h
    show ∀ x ∈ psI s (if v.1 = s ∧ v.2 ∉ l then l ++ [v.2] else l) ms, Rch M x
    refine ih (fun u hu => hm u (by simp [hu])) ?_
    split
    · rename_i hv
      intro x hx
      rcases List.mem_append.1 hx with hx | hx
      · exact h x hx
      · simp at hx
        subst hx
        exact .step hs (by rw [← hv.1]; exact hm v (by simp))
    · exact h
theorem psI_adds {s t : Int} {ms : List (Int × Int)} : ∀ {l : List Int}, (s, t) ∈ ms → t ∈ psI s l ms := by
  induction ms with
  | nil => exact fun {l} h => by cases h
  | cons v ms ih =>
    intro l h
    show t ∈ psI s (if v.1 = s ∧ v.2 ∉ l then l ++ [v.2] else l) ms
    rcases List.mem_cons.1 h with rfl | h
    · obtain ⟨r, hr⟩ := psI_pre (s := s) (ms := ms) (l := if s = s ∧ t ∉ l then l ++ [t] else l)
      show t ∈ psI s (if s = s ∧ t ∉ l then l ++ [t] else l) ms
      rw [hr]
      refine List.mem_append.2 (.inl ?_)
      by_cases ht : t ∈ l
      · rw [if_neg fun h => h.2 ht]; exact ht
      · rw [if_pos ⟨rfl, ht⟩]; simp
    · exact ih h
end Go.Proofs.Ytaamfeloilocdaa
