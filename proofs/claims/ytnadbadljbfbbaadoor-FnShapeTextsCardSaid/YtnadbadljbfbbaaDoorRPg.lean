/- Txt1 and SplP and SpT. -/
import Derived.Test.YtnadbadljbfbbaaDoorBel
import Derived.Test.YtnadbadljbfbbaaDoorShT
import Derived.Sort.Grow
import Derived.Lib.SplitLaws
import Derived.Lib.Split
import Derived.Lib.Join
namespace Go.Proofs.YtnadbadljbfbbaaDoor
open Go.RowKit
set_option maxRecDepth 20000
set_option maxHeartbeats 8000000
open Go.RowKit Go.Sort
def joinB (l : List ByteArray) (sep : ByteArray) : ByteArray := ⟨(Lib.join (l.map (·.data.toList)) sep.data.toList).toArray⟩
theorem lib_join (l : List ByteArray) (sep : ByteArray) (hN : l.length ≤ 1048576) (hlen : (Lib.join (l.map (·.data.toList)) sep.data.toList).length ≤ 140737488355328) : Spec Tryd.prog 48 [.c (.rd ⟨9, 1⟩ (l.map fun b => [sD b])), .c (sD sep)] (.v (.c (.fz (sD (joinB l sep))))) := by
  refine ⟨fun vs w => by kernel_rfl, fun w R ι φ vs hR hF ho => ?_⟩
  cases hF with | cons h1 h2 =>
  cases h2 with | cons h2 h3 =>
  cases h3
  rename_i v v2
  have h1 : RD w R v (.rd ⟨9, 1⟩ (l.map fun b => [sD b])) := h1
  have h2 : RD w R v2 (sD sep) := h2
  cases h2
  have hcalls : Calls Tryd.prog 48 #[v, .string sep] w (fun e w1 => e = .returned (.string (joinB l sep)) ∧ Below w.heap.size w w1) := by
    unfold joinB
    generalize hxs : (l.map fun b => [sD b]) = xs at h1
    cases h1 with
    | nil =>
      obtain rfl : l = [] := List.map_eq_nil_iff.1 hxs
      exact (Tryd.strings_Join_none _ _ _ w).mono fun e w1 ⟨he, hw⟩ => ⟨he, by rw [hw]; exact Below.refl _ _⟩
    | rd c g0 g1 g2 gR gk gc gr =>
      have hl : xs.length = l.length := by rw [← hxs]; simp
      rw [hl]
      have hJ := fun b off cap h1 h2 h3 h4 => Tryd.strings_Join b off cap l sep w h1 h2 h3 h4 hlen
      clear hlen
      refine hJ _ _ _ (fun j x hx => ?_) (hR _ gR) (by omega) (by omega)
      have e0 : xs[j]? = some [sD x] := by rw [← hxs, List.getElem?_map, hx]; rfl
      have e1 := gc j _ 0 e0 (Nat.zero_lt_one)
      have e2 := gr j _ 0 _ e0 rfl
      generalize c j 0 = u at e1 e2
      cases e2
      rw [Nat.mul_one, Nat.add_zero] at e1
      exact e1
  refine hcalls.mono ?_
  rintro e w1 ⟨rfl, hbl⟩
  have hn : ∀ o x, frO [] o = some x → False := fun o x h => by simp [frO] at h
  have hO : ObjsOk w1 R ι φ (frO []) := ⟨fun o x h => (hn o x h).elim, fun o x h => (hn o x h).elim, fun o p x y g h => (hn o x h).elim, ho.2.2.2.keep (fun _ h => h) fun b hb => hbl.block b (hR b hb)⟩
  have hsz : okI (.string (joinB l sep)) := by
    show ((Lib.join (l.map (·.data.toList)) sep.data.toList).toArray).size ≤ maxLen
    rw [List.size_toArray]
    unfold maxLen
    omega
  refine ⟨.string (joinB l sep), rfl, R, ι, φ, BelowM.of_below hbl, fun b h => h, fun b h => Nat.lt_of_lt_of_le (hR b h) hbl.size, fun b h _ => .inl h, RA.of_pv rfl hsz, hO, fun g h => ?_, fun o h => rfl⟩
  obtain ⟨o, x, h, _⟩ := h
  exact (hn o x h).elim
abbrev kSt : Ky := ⟨9, 1⟩
abbrev strs (l : List ByteArray) : List (List D) := l.map fun b => [sD b]
abbrev srt (l : List ByteArray) : List ByteArray := l.reverse
theorem ET.ofStrs {W : World} : ∀ {l : List ByteArray} {vs : List Value} {S1 : List Nat}, ET W vs (l.map sD) S1 → vs = l.map Value.string ∧ S1 = [] ∧ ∀ n ∈ l, okI (.string n)
  | [], _, _, h => by cases h; exact ⟨rfl, rfl, fun n h => by cases h⟩
  | n :: l, _, _, h => by
    cases h with
    | pv h1 hi h2 =>
      obtain ⟨rfl, rfl, h3⟩ := ET.ofStrs h2
      exact ⟨rfl, rfl, fun m hm => by
        rcases List.mem_cons.1 hm with rfl | hm
        · exact hi
        · exact h3 m hm⟩
theorem ET.toStrs {W : World} : ∀ {l : List ByteArray}, (∀ n ∈ l, okI (.string n)) → ET W (l.map Value.string) (l.map sD) []
  | [], _ => .nil
  | n :: l, h => .pv rfl (h n (by simp)) (ET.toStrs fun m hm => h m (by simp [hm]))
theorem flat_strs : ∀ l : List ByteArray, (strs l).flatten = l.map sD
  | [] => rfl
  | n :: l => by
    show [sD n] ++ (strs l).flatten = _
    rw [flat_strs l]; rfl
theorem frO1 {i o : Nat} {x y : Ob} (h : frO [(i, x)] o = some y) : o = i ∧ y = x := by
  unfold frO upd at h
  split at h
  · rename_i e
    cases h
    exact ⟨e, rfl⟩
  · cases h
theorem lib_revS (l : List ByteArray) (hl : l.length ≤ 1048576) : SpecM Tryd.prog 39 [.c (.own (pin 0))] [(pin 0, .arr kSt (strs l) [])] (.tup []) [(pin 0, .arr kSt (strs (srt l)) [])] := by
  refine ⟨fun vs w => by kernel_rfl, fun w R ι φ vs hR hF ho => ?_⟩
  cases hF with
  | cons hv hF =>
  cases hF
  rename_i v
  obtain ⟨hdom, hv⟩ := hv
  have hX : frO [(pin 0, Ob.arr kSt (strs l) [])] (pin 0) = some (.arr kSt (strs l) []) := rfl
  obtain ⟨hk, xs, S1, how, heh, hS, hnd⟩ := ho.1 _ _ hX
  have heh : EH w ι (domO (frO [(pin 0, Ob.arr kSt (strs l) [])])) xs ((strs l).flatten.map .d) S1 := heh
  have het := EH.to_ET heh
  rw [flat_strs] at het
  obtain ⟨rfl, rfl, hok⟩ := ET.ofStrs het
  have hlen : (strs l).length = l.length := by simp [strs]
  rw [← hv, hlen] at how
  obtain ⟨_, ⟨hv0, hn⟩ | ⟨g, cap, cur, rfl, _, hg, hnc, hcm, hcs, htake⟩⟩ := how
  · obtain rfl : l = [] := List.eq_nil_of_length_eq_zero hn
    subst hv0
    refine (Tryd.slices_Reverse_empty (α := ByteArray) none 0 w).mono fun e w' => ?_
    rintro ⟨rfl, rfl⟩
    exact ⟨_, rfl, R, ι, φ, BelowM.refl _ _, fun b h => h, hR, fun b h _ => .inl h, ⟨[], rfl, .nil⟩, ho, fun b hb => .inl hb, fun _ _ => rfl⟩
  have hgs : g < w.heap.size := by
    rcases Nat.lt_or_ge g w.heap.size with h | h
    · exact h
    · rw [Array.getElem?_eq_none h] at hg; cases hg
  rw [← hv] at hS
  have hφ : φ (pin 0) = [g] := hS
  have hcur : ∀ j, j < l.length → cur[j]? = some (Value.string l[j]!) := fun j hj => by
    have h1 : (cur.toList.take (l.length * 1))[j]? = (l.map (Value.string))[j]? := by rw [htake]
    rw [List.getElem?_take_of_lt (by omega), Array.getElem?_toList, List.getElem?_map, List.getElem?_eq_getElem hj] at h1
    rw [h1, getElem!_pos l j hj]
    rfl
  have hH : Holds (Value.string) w g 0 l.toArray := fun j hj => by
    have hj' : j < l.length := by simpa using hj
    refine ⟨?_, ?_⟩
    · show w.cell? ⟨g, 0 + j, none⟩ = _
      unfold World.cell?
      rw [hg, Nat.zero_add]
      show cur[j]? = _
      rw [hcur j hj']
      simp
    · show w.frozen? ⟨g, 0 + j, none⟩ = false
      unfold World.frozen?
      rw [hg]
      simp
  have hp := List.reverse_perm l
  have hsl : (srt l).length = l.length := hp.length_eq
  refine (Tryd.slices_Reverse Value.string (fun _ => rfl) g 0 cap l w hH (by omega)).mono fun e w' => ?_
  rintro ⟨rfl, n, rfl⟩
  obtain ⟨os, hos⟩ : ∃ os : Array Obj, os = #[] := ⟨_, rfl⟩
  rw [← grow_empty (putRow Value.string (Sort.ahead w n) g 0 l.reverse.toArray), ← hos]
  clear hos
  have hsz : (putRow (Value.string) (Sort.ahead w n) g 0 (srt l).toArray).heap.size = w.heap.size := by simp [putRow, mapBlock, Sort.ahead]
  have hold : ∀ k, k < w.heap.size → (grow (putRow (Value.string) (Sort.ahead w n) g 0 (srt l).toArray) os).heap[k]? = (putRow (Value.string) (Sort.ahead w n) g 0 (srt l).toArray).heap[k]? := fun k hk => by
    unfold grow
    exact Array.getElem?_append_left (by rw [hsz]; exact hk)
  have hgn : (grow (putRow (Value.string) (Sort.ahead w n) g 0 (srt l).toArray) os).heap[g]? = some (.cells (putCells (Value.string) 0 (srt l).toArray cur) 9 (0, 0)) := by
    rw [hold g hgs]
    simp only [putRow, mapBlock, Sort.ahead, Array.getElem?_modify, if_true, hg, Option.map_some, onCells]
  have hsize : w.heap.size ≤ (grow (putRow (Value.string) (Sort.ahead w n) g 0 (srt l).toArray) os).heap.size := by
    unfold grow
    simp only [Array.size_append, hsz]
    omega
  have hblk : ∀ k, k < w.heap.size → k ≠ g → (grow (putRow (Value.string) (Sort.ahead w n) g 0 (srt l).toArray) os).heap[k]? = w.heap[k]? := fun k hk hne => by
    rw [hold k hk]
    simp only [putRow, mapBlock, Sort.ahead, Array.getElem?_modify]
    rw [if_neg fun h => hne h.symm]
  have hmine := ho.2.1 _ _ hX
  refine ⟨_, rfl, R, ι, φ, ⟨rfl, rfl, rfl, hsize, fun k hk hM => hblk k hk fun e => hM ⟨pin 0, _, hX, by rw [hφ, e]; simp⟩⟩, fun b h => h, fun b h => Nat.lt_of_lt_of_le (hR b h) hsize, fun b h _ => .inl h, ⟨[], rfl, .nil⟩, ⟨?_, ?_, ?_, ho.2.2.2.keep (fun _ h => h) fun b hb => hblk b (hR b hb) fun e => (ho.2.1 _ _ hX g (by rw [hφ]; simp)).1 (e ▸ hb)⟩, ?_, fun _ _ => rfl⟩
  · intro o x hx
    obtain ⟨rfl, rfl⟩ := frO1 hx
    refine ⟨fun es hes => by obtain ⟨m, _, rfl⟩ := List.mem_map.1 hes; rfl, (srt l).map (Value.string), [], ?_, ?_, ?_, by rw [hφ]; simp⟩
    · rw [← hv]
      have hlen2 : (strs (srt l)).length = l.length := by simp [strs]
      rw [hlen2]
      refine ⟨by simp, .inr ⟨g, cap, _, rfl, Nat.zero_le _, hgn, hnc, hcm, by simp [putCells, hcs], ?_⟩⟩
      show (putCells (Value.string) 0 (srt l).toArray cur).toList.take (l.length * 1) = (srt l).map (Value.string)
      have hcs : cur.size = cap * 1 := hcs
      apply List.ext_getElem?
      intro j
      by_cases hj : j < l.length
      · have hc := hcur j hj
        obtain ⟨hj2, _⟩ := Array.getElem?_eq_some_iff.1 hc
        rw [List.getElem?_take_of_lt (by omega), Array.getElem?_toList, List.getElem?_map, List.getElem?_eq_getElem (by omega)]
        unfold putCells
        rw [Array.getElem?_mapIdx, hc]
        have hj3 : j < (srt l).toArray.size := by simp [hj]
        simp only [Option.map_some]
        rw [if_pos ⟨Nat.zero_le _, by omega⟩, Nat.sub_zero, getElem!_pos (srt l).toArray j hj3]
        simp
      · rw [List.getElem?_eq_none (by simp; omega), List.getElem?_eq_none (by simp; omega)]
    · show EH _ ι _ _ ((strs (srt l)).flatten.map .d) []
      rw [flat_strs]
      exact EH.of_ET (ET.toStrs fun m hm => hok m (hp.mem_iff.1 hm))
    · rw [← hv, hφ]; rfl
  · intro o x hx b hb
    obtain ⟨rfl, rfl⟩ := frO1 hx
    exact ⟨(hmine b hb).1, Nat.lt_of_lt_of_le (hmine b hb).2 hsize⟩
  · intro o p x y b h1 h2 _ _
    rw [(frO1 h1).1, (frO1 h2).1]
  · rintro b ⟨o, x, hx, hb⟩
    obtain ⟨rfl, rfl⟩ := frO1 hx
    exact .inl ⟨pin 0, _, hX, hb⟩
/-- The parts of a text between the bytes c. -/
def spl (c : UInt8) : List UInt8 → List (List UInt8)
  | [] => [[]]
  | b :: r => if b = c then [] :: spl c r else match spl c r with
    | [] => [[b]]
    | x :: xs => (b :: x) :: xs
theorem spl_ne (c : UInt8) : ∀ s, spl c s ≠ []
  | [] => by simp [spl]
  | b :: r => by
    unfold spl
    split
    · simp
    · split <;> simp
theorem spl_one (c : UInt8) (b : UInt8) (h : b ≠ c) (r : List UInt8) : ∃ x xs, spl c r = x :: xs ∧ spl c (b :: r) = (b :: x) :: xs := by
  cases hs : spl c r with
  | nil => exact (spl_ne c r hs).elim
  | cons x xs => exact ⟨x, xs, rfl, by rw [spl, if_neg h, hs]⟩
theorem spl_eq (c : UInt8) (r : List UInt8) : spl c (c :: r) = [] :: spl c r := by rw [spl, if_pos rfl]
theorem spl_app {c : UInt8} : ∀ {a : List UInt8}, c ∉ a → ∀ {s x xs}, spl c s = x :: xs → spl c (a ++ s) = (a ++ x) :: xs
  | [], _, s, x, xs, hs => by simpa using hs
  | b :: a, h, s, x, xs, hs => by
    have ih := spl_app (a := a) (fun e => h (by simp [e])) hs
    obtain ⟨y, ys, h1, h2⟩ := spl_one c b (fun e => h (by simp [e])) (a ++ s)
    rw [ih] at h1
    cases h1
    simpa using h2
theorem spl_none {c : UInt8} {s : List UInt8} (h : c ∉ s) : spl c s = [s] := by
  have := spl_app h (s := []) (x := []) (xs := []) rfl
  simpa using this
theorem spl_hit {c : UInt8} {a : List UInt8} (h : c ∉ a) (r : List UInt8) : spl c (a ++ c :: r) = a :: spl c r := by
  have := spl_app h (spl_eq c r)
  simpa using this
theorem cut_at (c : UInt8) : ∀ s : List UInt8, c ∉ s ∨ ∃ a r, s = a ++ c :: r ∧ c ∉ a
  | [] => .inl (by simp)
  | b :: s => by
    by_cases hb : b = c
    · subst hb; exact .inr ⟨[], s, rfl, by simp⟩
    · rcases cut_at c s with h | ⟨a, r, rfl, h⟩
      · exact .inl (by simp [h, Ne.symm hb])
      · exact .inr ⟨b :: a, r, rfl, by simp [h, Ne.symm hb]⟩
theorem join_cons3 (x sep : List UInt8) : ∀ r : List (List UInt8), r ≠ [] → Lib.join (x :: r) sep = x ++ (sep ++ Lib.join r sep)
  | [], h => (h rfl).elim
  | y :: r, _ => by rw [Lib.join_cons, Lib.join_cons]; simp [Lib.joinTail]
theorem join_spl (c : UInt8) : ∀ s, Lib.join (spl c s) [c] = s
  | [] => by simp [spl, Lib.join_one]
  | b :: r => by
    by_cases hb : b = c
    · subst hb
      rw [spl_eq, join_cons3 _ _ _ (spl_ne _ _), join_spl b r]
      rfl
    · obtain ⟨x, xs, h1, h2⟩ := spl_one c b hb r
      have ih := join_spl c r
      rw [h1] at ih
      rw [h2]
      rw [Lib.join_cons] at ih ⊢
      rw [List.cons_append, ih]
theorem spl_mem (c : UInt8) : ∀ s, ∀ r ∈ spl c s, c ∉ r
  | [], r, hr => by simp [spl] at hr; simp [hr]
  | b :: s, r, hr => by
    by_cases hb : b = c
    · subst hb
      rw [spl_eq] at hr
      rcases List.mem_cons.1 hr with rfl | hr
      · simp
      · exact spl_mem b s r hr
    · obtain ⟨x, xs, h1, h2⟩ := spl_one c b hb s
      rw [h2] at hr
      rcases List.mem_cons.1 hr with rfl | hr
      · have := spl_mem c s x (by rw [h1]; simp)
        simp [this, Ne.symm hb]
      · exact spl_mem c s r (by rw [h1]; simp [hr])
theorem spl_join {c : UInt8} : ∀ l : List (List UInt8), l ≠ [] → (∀ r ∈ l, c ∉ r) → spl c (Lib.join l [c]) = l
  | [], h, _ => (h rfl).elim
  | [x], _, h => by rw [Lib.join_one]; exact spl_none (h x (by simp))
  | x :: y :: l, _, h => by
    rw [join_cons3 _ _ _ (by simp), List.singleton_append, spl_hit (h x (by simp)), spl_join (y :: l) (by simp) fun r hr => h r (by simp [hr])]
theorem index_none1 {c : UInt8} : ∀ {s : List UInt8}, c ∉ s → Lib.index s [c] = -1
  | [], _ => rfl
  | b :: s, h => by
    have ih := index_none1 (s := s) (fun e => h (List.mem_cons_of_mem _ e))
    have hb : (c == b) = false := beq_eq_false_iff_ne.2 fun e => h (by simp [e])
    simp [Lib.index, List.isPrefixOf, hb, ih]
theorem index_hit1 {c : UInt8} (r : List UInt8) : ∀ {a : List UInt8}, c ∉ a → Lib.index (a ++ c :: r) [c] = (a.length : Int)
  | [], _ => by simp [Lib.index, List.isPrefixOf]
  | b :: a, h => by
    have ih := index_hit1 r (a := a) (fun e => h (List.mem_cons_of_mem _ e))
    have hb : (c == b) = false := beq_eq_false_iff_ne.2 fun e => h (by simp [e])
    simp only [List.cons_append, Lib.index, List.isPrefixOf, hb, Bool.false_and, Bool.false_eq_true, if_false, ih]
    rw [if_neg (by simp)]
    simp
theorem splitK_spl (c : UInt8) : ∀ (k : Nat) (s : List UInt8), Lib.count s [c] = k → Lib.splitK [c] 0 k s = spl c s := by
  intro k
  induction k with
  | zero =>
    intro s h
    rcases cut_at c s with hn | ⟨a, r, rfl, ha⟩
    · rw [spl_none hn]; rfl
    · rw [Lib.count_hit (by simp) (index_hit1 r ha)] at h
      omega
  | succ k ih =>
    intro s h
    rcases cut_at c s with hn | ⟨a, r, rfl, ha⟩
    · rw [Lib.count_miss (index_none1 hn)] at h
      omega
    · have hi := index_hit1 r ha
      rw [Lib.count_hit (by simp) hi] at h
      have hd : (a ++ c :: r).drop (a.length + [c].length) = r := by
        rw [← List.drop_drop, List.drop_left]
        rfl
      rw [hd] at h
      unfold Lib.splitK
      rw [if_neg (by rw [hi]; simp), hi, spl_hit ha, Int.toNat_natCast, hd, ih r (by omega), Nat.add_zero, List.take_left]
/-- A list of bytes as a string. -/
abbrev mkB (l : List UInt8) : ByteArray := ⟨l.toArray⟩
theorem mkB_data (b : ByteArray) : mkB b.data.toList = b := by cases b; simp [mkB]
/-- The parts of a text. -/
def splB (c : UInt8) (s : ByteArray) : List ByteArray := (spl c s.data.toList).map mkB
theorem splitB_spl (c : UInt8) (s : ByteArray) : Lib.splitB ⟨#[c]⟩ 0 (Lib.countB s ⟨#[c]⟩) s = splB c s := by
  have h := Lib.splitB_data ⟨#[c]⟩ 0 (Lib.countB s ⟨#[c]⟩) s
  rw [show (ByteArray.mk #[c]).data.toList = [c] from rfl, splitK_spl c _ _ rfl] at h
  unfold splB
  rw [← h, List.map_map]
  have : (mkB ∘ fun (x : ByteArray) => x.data.toList) = id := by funext b; exact mkB_data b
  rw [this, List.map_id]
theorem splB_len (c : UInt8) (s : ByteArray) : (splB c s).length = Lib.countB s ⟨#[c]⟩ + 1 := by
  rw [← splitB_spl]
  exact Lib.splitB_all ⟨#[c]⟩ (Nat.le_refl 1) 0 _ s rfl
theorem spl_len_le (c : UInt8) : ∀ s, (spl c s).length ≤ s.length + 1
  | [] => by simp [spl]
  | b :: r => by
    have := spl_len_le c r
    by_cases hb : b = c
    · subst hb; rw [spl_eq]; simp; omega
    · obtain ⟨x, xs, h1, h2⟩ := spl_one c b hb r
      rw [h1] at this
      rw [h2]
      simp at this ⊢
      omega
theorem spl_lens (c : UInt8) : ∀ s, ((spl c s).map List.length).sum ≤ s.length
  | [] => by simp [spl]
  | b :: r => by
    have := spl_lens c r
    by_cases hb : b = c
    · subst hb; rw [spl_eq]; simp; omega
    · obtain ⟨x, xs, h1, h2⟩ := spl_one c b hb r
      rw [h1] at this
      rw [h2]
      simp at this ⊢
      omega
theorem specT_args {W : World} {R : Nat → Prop} {vs : List Value} {args : List VD} (h : F2 (RVD W R) vs args) : F2 (RV1 W R (fun _ => undef) (domO (frO []))) vs (args.map VD.v1) := by
  induction h with
  | nil => exact .nil
  | cons h1 _ ih =>
    refine .cons ?_ ih
    rename_i v x _ _ _
    cases x with
    | c y => exact h1
    | agg ys => obtain ⟨us, e, h2⟩ := h1; exact ⟨us, e, F2.map_right (f := B.d) (fun _ _ h => h) h2⟩
/-- The library's variables stand in a world. -/
def TabsOk (w : World) : Prop := ∀ x ∈ tabG, tabAt w x.1 x.2
theorem TabsOk.keep {n : Nat} {w w' : World} (h : TabsOk w) (hn : w.heap.size ≤ n) (hb : Below n w w') : TabsOk w' := fun x hx => (h x hx).keep (hb.block _ (Nat.lt_of_lt_of_le (h x hx).lt hn))
theorem TabsOk.below {w w' : World} (h : TabsOk w) (hb : Below w.heap.size w w') : TabsOk w' := h.keep (Nat.le_refl _) hb
/-- A contract whose result is data, at a world. -/
theorem specT_call {P : Program} {k : FuncId} {args : List VD} {d : D} (h : Spec P k args (.v (.c (.fz d)))) {W : World} {R : Nat → Prop} {vs : List Value} (hT : TabsOk W) (hR : ∀ b, R b → b < W.heap.size) (hF : F2 (RVD W (fun b => R b ∨ ∃ x ∈ tabG, x.1 = b)) vs args) :
    Calls P k vs.toArray W fun e W' => ∃ v, e = .returned v ∧ Below W.heap.size W W' ∧ ∃ R' : Nat → Prop, RD W' R' v d := by
  have hR' : ∀ b, (R b ∨ ∃ x ∈ tabG, x.1 = b) → b < W.heap.size := fun b hb => by
    rcases hb with hb | ⟨x, hx, rfl⟩
    · exact hR b hb
    · exact (hT x hx).lt
  refine (h.2 W _ (fun _ => undef) (fun _ => []) vs hR' (specT_args hF) ⟨fun o x h => (by cases h), fun o x h => (by cases h), fun o p x y g h => (by cases h), fun x hx => ⟨.inr ⟨x, hx, rfl⟩, hT x hx⟩⟩).mono fun e W' => ?_
  rintro ⟨v, rfl, R', ι', φ', hb, hs, hz, _, hra, _⟩
  exact ⟨v, rfl, hb.below (fun g ⟨o, x, h, _⟩ => by cases h), R', hra⟩
theorem specT_B {P : Program} {k : FuncId} {args : List VD} {b : Bool} (h : Spec P k args (oB b)) {W : World} {R : Nat → Prop} {vs : List Value} (hT : TabsOk W) (hR : ∀ b, R b → b < W.heap.size) (hF : F2 (RVD W (fun b => R b ∨ ∃ x ∈ tabG, x.1 = b)) vs args) :
    Calls P k vs.toArray W fun e W' => e = .returned (.bool b) ∧ Below W.heap.size W W' :=
  (specT_call h hT hR hF).mono fun e W' ⟨v, he, hb, R', hd⟩ => by cases hd; exact ⟨he, hb⟩
theorem specT_S {P : Program} {k : FuncId} {args : List VD} {b : ByteArray} (h : Spec P k args (oS b)) {W : World} {R : Nat → Prop} {vs : List Value} (hT : TabsOk W) (hR : ∀ b, R b → b < W.heap.size) (hF : F2 (RVD W (fun b => R b ∨ ∃ x ∈ tabG, x.1 = b)) vs args) :
    Calls P k vs.toArray W fun e W' => e = .returned (.string b) ∧ Below W.heap.size W W' :=
  (specT_call h hT hR hF).mono fun e W' ⟨v, he, hb, R', hd⟩ => by cases hd; exact ⟨he, hb⟩
/-- A row of numbers that somebody owns, read as data. -/
theorem RD_row {W : World} {R : Nat → Prop} {t n₀ : Nat} {v : Value} {cs : List Int} (h : W.ownsRow n₀ t 1 v cs.length (cs.map (Value.int .i64))) (hR : ∀ g, v.ownBlock = some g → R g) (hi : ∀ c ∈ cs, okI (.int .i64 c)) : RD W R v (.rd kI (cs.map enI)) := by
  rcases h.2 with ⟨rfl, h0⟩ | ⟨g, cap, cur, rfl, _, hg, hnc, hcm, hcs, htake⟩
  · obtain rfl : cs = [] := List.eq_nil_of_length_eq_zero h0
    exact .nil
  · by_cases hz : cs.length = 0
    · obtain rfl : cs = [] := List.eq_nil_of_length_eq_zero hz
      exact .nil
    · have hl : cs.length = (cs.map enI).length := by simp
      rw [hl]
      refine .rd (fun i _ => .int .i64 (cs.getD i 0)) (by simp; omega) (by simpa using hnc) hcm (hR g rfl) (fun i es hi => ?_) (fun i es j hi hj => ?_) (fun i es j d hi' hd => ?_)
      · rw [List.getElem?_map] at hi
        cases hc : cs[i]? with
        | none => rw [hc] at hi; cases hi
        | some c => rw [hc] at hi; cases hi; rfl
      · have hj0 : j = 0 := by have : j < 1 := hj; omega
        subst hj0
        rw [List.getElem?_map] at hi
        cases hc : cs[i]? with
        | none => rw [hc] at hi; cases hi
        | some c =>
          have hil := (List.getElem?_eq_some_iff.1 hc).1
          have h1 : (cur.toList.take (cs.length * 1))[i]? = (cs.map (Value.int .i64))[i]? := by rw [htake]
          rw [List.getElem?_take_of_lt (by omega), Array.getElem?_toList, List.getElem?_map, hc] at h1
          have e3 : 0 + i * kI.k + 0 = i := by show 0 + i * 1 + 0 = i; omega
          unfold World.cell?
          rw [hg, e3]
          simpa [List.getD, hc] using h1
      · rw [List.getElem?_map] at hi'
        cases hc : cs[i]? with
        | none => rw [hc] at hi'; cases hi'
        | some c =>
          rw [hc] at hi'
          cases hi'
          cases j with
          | zero =>
            cases hd
            simp only [List.getD, hc, Option.getD_some]
            exact .pv rfl (hi c (List.mem_of_getElem? hc))
          | succ j => cases hd
end Go.Proofs.YtnadbadljbfbbaaDoor
