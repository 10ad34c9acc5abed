/- slices.Sort on numbers, as a contract on an array of the call's own. -/
import Derived.Test.YtlblmofimjhbbaaDoorBel
import Derived.Test.YtlblmofimjhbbaaDoorSh
namespace Go.Proofs.YtlblmofimjhbbaaDoor
open Go.RowKit Go.Sort
set_option maxRecDepth 10000
set_option maxHeartbeats 4000000
theorem ET.ofInts {W : World} : ∀ {l : List Int} {vs : List Value} {S1 : List Nat}, ET W vs (l.map iD) S1 → vs = l.map (Value.int .i64) ∧ S1 = [] ∧ ∀ n ∈ l, okI (.int .i64 n)
  | [], _, _, h => by cases h; exact ⟨rfl, rfl, fun n h => by cases h⟩
  | n :: l, _, _, h => by
    cases h with
    | pv h1 hi h2 =>
      obtain ⟨rfl, rfl, h3⟩ := ET.ofInts h2
      exact ⟨rfl, rfl, fun m hm => by
        rcases List.mem_cons.1 hm with rfl | hm
        · exact hi
        · exact h3 m hm⟩
theorem ET.toInts {W : World} : ∀ {l : List Int}, (∀ n ∈ l, okI (.int .i64 n)) → ET W (l.map (Value.int .i64)) (l.map iD) []
  | [], _ => .nil
  | n :: l, h => .pv rfl (h n (by simp)) (ET.toInts fun m hm => h m (by simp [hm]))
theorem flat_ints : ∀ l : List Int, (ints l).flatten = l.map iD
  | [] => rfl
  | n :: l => by
    show [iD n] ++ (ints l).flatten = _
    rw [flat_ints l]; rfl
theorem frO1s {i o : Nat} {x y : Ob} (h : frO [(i, x)] o = some y) : o = i ∧ y = x := by
  unfold frO upd at h
  split at h
  · rename_i e
    cases h
    exact ⟨e, rfl⟩
  · cases h
abbrev srt (l : List Int) : List Int := l.mergeSort fun x y => decide (x ≤ y)
theorem lib_sort (l : List Int) (h0 : 0 < l.length) (hl : l.length ≤ 1048576) : SpecM Tryd.prog 49 [.c (.own (pin 0))] [(pin 0, .arr kI (ints l) [])] (.tup []) [(pin 0, .arr kI (ints (srt l)) [])] := by
  refine ⟨fun vs w => by kernel_rfl, fun w R ι φ vs hR hF ho => ?_⟩
  cases hF with
  | cons hv hF =>
  cases hF
  rename_i v
  obtain ⟨hdom, hv⟩ := hv
  have hX : frO [(pin 0, Ob.arr kI (ints l) [])] (pin 0) = some (.arr kI (ints l) []) := rfl
  obtain ⟨hk, xs, S1, how, heh, hS, hnd⟩ := ho.1 _ _ hX
  have heh : EH w ι (domO (frO [(pin 0, Ob.arr kI (ints l) [])])) xs ((ints l).flatten.map .d) S1 := heh
  have het := EH.to_ET heh
  rw [flat_ints] at het
  obtain ⟨rfl, rfl, hok⟩ := ET.ofInts het
  have hlen : (ints l).length = l.length := by simp [ints]
  rw [← hv, hlen] at how
  obtain ⟨_, ⟨_, hn⟩ | ⟨g, cap, cur, rfl, _, hg, hnc, hcm, hcs, htake⟩⟩ := how
  · omega
  have hgs : g < w.heap.size := by
    rcases Nat.lt_or_ge g w.heap.size with h | h
    · exact h
    · rw [Array.getElem?_eq_none h] at hg; cases hg
  rw [← hv] at hS
  have hφ : φ (pin 0) = [g] := hS
  have hcur : ∀ j, j < l.length → cur[j]? = some (Value.int .i64 l[j]!) := fun j hj => by
    have h1 : (cur.toList.take (l.length * 1))[j]? = (l.map (Value.int .i64))[j]? := by rw [htake]
    rw [List.getElem?_take_of_lt (by omega), Array.getElem?_toList, List.getElem?_map, List.getElem?_eq_getElem hj] at h1
    rw [h1, getElem!_pos l j hj]
    rfl
  have hH : Holds (Value.int .i64) w g 0 l.toArray := fun j hj => by
    have hj' : j < l.length := by simpa using hj
    refine ⟨?_, ?_⟩
    · show w.cell? ⟨g, 0 + j, none⟩ = _
      unfold World.cell?
      rw [hg, Nat.zero_add]
      show cur[j]? = _
      rw [hcur j hj']
      simp
    · show w.frozen? ⟨g, 0 + j, none⟩ = false
      unfold World.frozen?
      rw [hg]
      simp
  have hp := List.mergeSort_perm l (fun x y => decide (x ≤ y))
  have hsl : (srt l).length = l.length := hp.length_eq
  refine (Tryd.slices_Sort_int g 0 cap l w hH hgs (by omega)).mono fun e w' => ?_
  rintro ⟨rfl, n, os, rfl⟩
  have hsz : (putRow (Value.int .i64) (Sort.ahead w n) g 0 (srt l).toArray).heap.size = w.heap.size := by simp [putRow, mapBlock, Sort.ahead]
  have hold : ∀ k, k < w.heap.size → (grow (putRow (Value.int .i64) (Sort.ahead w n) g 0 (srt l).toArray) os).heap[k]? = (putRow (Value.int .i64) (Sort.ahead w n) g 0 (srt l).toArray).heap[k]? := fun k hk => by
    unfold grow
    exact Array.getElem?_append_left (by rw [hsz]; exact hk)
  have hgn : (grow (putRow (Value.int .i64) (Sort.ahead w n) g 0 (srt l).toArray) os).heap[g]? = some (.cells (putCells (Value.int .i64) 0 (srt l).toArray cur) 2 (0, 0)) := by
    rw [hold g hgs]
    simp only [putRow, mapBlock, Sort.ahead, Array.getElem?_modify, if_true, hg, Option.map_some, onCells]
  have hsize : w.heap.size ≤ (grow (putRow (Value.int .i64) (Sort.ahead w n) g 0 (srt l).toArray) os).heap.size := by
    unfold grow
    simp only [Array.size_append, hsz]
    omega
  have hblk : ∀ k, k < w.heap.size → k ≠ g → (grow (putRow (Value.int .i64) (Sort.ahead w n) g 0 (srt l).toArray) os).heap[k]? = w.heap[k]? := fun k hk hne => by
    rw [hold k hk]
    simp only [putRow, mapBlock, Sort.ahead, Array.getElem?_modify]
    rw [if_neg fun h => hne h.symm]
  have hmine := ho.2.1 _ _ hX
  refine ⟨_, rfl, R, ι, φ, ⟨rfl, rfl, rfl, hsize, fun k hk hM => hblk k hk fun e => hM ⟨pin 0, _, hX, by rw [hφ, e]; simp⟩⟩, fun b h => h, fun b h => Nat.lt_of_lt_of_le (hR b h) hsize, fun b h _ => .inl h, ⟨[], rfl, .nil⟩, ⟨?_, ?_, ?_, ho.2.2.2.keep (fun _ h => h) fun b hb => hblk b (hR b hb) fun e => (ho.2.1 _ _ hX g (by rw [hφ]; simp)).1 (e ▸ hb)⟩, ?_, fun _ _ => rfl⟩
  · intro o x hx
    obtain ⟨rfl, rfl⟩ := frO1s hx
    refine ⟨fun es hes => by obtain ⟨m, _, rfl⟩ := List.mem_map.1 hes; rfl, (srt l).map (Value.int .i64), [], ?_, ?_, ?_, by rw [hφ]; simp⟩
    · rw [← hv]
      have hlen2 : (ints (srt l)).length = l.length := by simp [ints, hsl]
      rw [hlen2]
      refine ⟨by simp [hsl], .inr ⟨g, cap, _, rfl, Nat.zero_le _, hgn, hnc, hcm, by simp [putCells, hcs], ?_⟩⟩
      show (putCells (Value.int .i64) 0 (srt l).toArray cur).toList.take (l.length * 1) = (srt l).map (Value.int .i64)
      have hcs : cur.size = cap * 1 := hcs
      apply List.ext_getElem?
      intro j
      by_cases hj : j < l.length
      · have hc := hcur j hj
        obtain ⟨hj2, _⟩ := Array.getElem?_eq_some_iff.1 hc
        rw [List.getElem?_take_of_lt (by omega), Array.getElem?_toList, List.getElem?_map, List.getElem?_eq_getElem (by omega)]
        unfold putCells
        rw [Array.getElem?_mapIdx, hc]
        have hj3 : j < (srt l).toArray.size := by simp [hsl, hj]
        simp only [Option.map_some]
        rw [if_pos ⟨Nat.zero_le _, by omega⟩, Nat.sub_zero, getElem!_pos (srt l).toArray j hj3]
        simp
      · rw [List.getElem?_eq_none (by simp; omega), List.getElem?_eq_none (by simp [hsl]; omega)]
    · show EH _ ι _ _ ((ints (srt l)).flatten.map .d) []
      rw [flat_ints]
      exact EH.of_ET (ET.toInts fun m hm => hok m (hp.mem_iff.1 hm))
    · rw [← hv, hφ]; rfl
  · intro o x hx b hb
    obtain ⟨rfl, rfl⟩ := frO1s hx
    exact ⟨(hmine b hb).1, Nat.lt_of_lt_of_le (hmine b hb).2 hsize⟩
  · intro o p x y b h1 h2 _ _
    rw [(frO1s h1).1, (frO1s h2).1]
  · rintro b ⟨o, x, hx, hb⟩
    obtain ⟨rfl, rfl⟩ := frO1s hx
    exact .inl ⟨pin 0, _, hX, hb⟩
end Go.Proofs.YtlblmofimjhbbaaDoor
