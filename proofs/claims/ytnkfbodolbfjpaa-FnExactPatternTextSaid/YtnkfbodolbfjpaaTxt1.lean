/- strings.Join, handed over as a contract. -/
import Derived.Test.YtnkfbodolbfjpaaBel
import Derived.Test.YtnkfbodolbfjpaaShT
import Derived.Sort.Grow
namespace Go.Proofs.Ytnkfbodolbfjpaa
open Go.RowKit Go.Sort
set_option maxRecDepth 10000
set_option maxHeartbeats 400000
def joinB (l : List ByteArray) (sep : ByteArray) : ByteArray := ⟨(Lib.join (l.map (·.data.toList)) sep.data.toList).toArray⟩
theorem lib_join (l : List ByteArray) (sep : ByteArray) (hN : l.length ≤ 1048576) (hlen : (Lib.join (l.map (·.data.toList)) sep.data.toList).length ≤ 140737488355328) : Spec Try.prog 159 [.c (.rd ⟨9, 1⟩ (l.map fun b => [sD b])), .c (sD sep)] (.v (.c (.fz (sD (joinB l sep))))) := by
  refine ⟨fun vs w => by kernel_rfl, fun w R ι φ vs hR hF ho => ?_⟩
  cases hF with | cons h1 h2 =>
  cases h2 with | cons h2 h3 =>
  cases h3
  rename_i v v2
  have h1 : RD w R v (.rd ⟨9, 1⟩ (l.map fun b => [sD b])) := h1
  have h2 : RD w R v2 (sD sep) := h2
  cases h2
  have hcalls : Calls Try.prog 159 #[v, .string sep] w (fun e w1 => e = .returned (.string (joinB l sep)) ∧ Below w.heap.size w w1) := by
    unfold joinB
    generalize hxs : (l.map fun b => [sD b]) = xs at h1
    cases h1 with
    | nil =>
      obtain rfl : l = [] := List.map_eq_nil_iff.1 hxs
      exact (Try.strings_Join_none _ _ _ w).mono fun e w1 ⟨he, hw⟩ => ⟨he, by rw [hw]; exact Below.refl _ _⟩
    | rd c g0 g1 g2 gR gk gc gr =>
      have hl : xs.length = l.length := by rw [← hxs]; simp
      rw [hl]
      have hJ := fun b off cap h1 h2 h3 h4 => Try.strings_Join b off cap l sep w h1 h2 h3 h4 hlen
      clear hlen
      refine hJ _ _ _ (fun j x hx => ?_) (hR _ gR) (by omega) (by omega)
      have e0 : xs[j]? = some [sD x] := by rw [← hxs, List.getElem?_map, hx]; rfl
      have e1 := gc j _ 0 e0 (Nat.zero_lt_one)
      have e2 := gr j _ 0 _ e0 rfl
      generalize c j 0 = u at e1 e2
      cases e2
      rw [Nat.mul_one, Nat.add_zero] at e1
      exact e1
  refine hcalls.mono ?_
  rintro e w1 ⟨rfl, hbl⟩
  have hn : ∀ o x, frO [] o = some x → False := fun o x h => by simp [frO] at h
  have hO : ObjsOk w1 R ι φ (frO []) := ⟨fun o x h => (hn o x h).elim, fun o x h => (hn o x h).elim, fun o p x y g h => (hn o x h).elim, ho.2.2.2.keep (fun _ h => h) fun b hb => hbl.block b (hR b hb)⟩
  have hsz : okI (.string (joinB l sep)) := by
    show ((Lib.join (l.map (·.data.toList)) sep.data.toList).toArray).size ≤ maxLen
    rw [List.size_toArray]
    unfold maxLen
    omega
  refine ⟨.string (joinB l sep), rfl, R, ι, φ, BelowM.of_below hbl, fun b h => h, fun b h => Nat.lt_of_lt_of_le (hR b h) hbl.size, fun b h _ => .inl h, RA.of_pv rfl hsz, hO, fun g h => ?_, fun o h => rfl⟩
  obtain ⟨o, x, h, _⟩ := h
  exact (hn o x h).elim
abbrev kSt : Ky := ⟨9, 1⟩
abbrev strs (l : List ByteArray) : List (List D) := l.map fun b => [sD b]
abbrev srt (l : List ByteArray) : List ByteArray := l.reverse
theorem ET.ofStrs {W : World} : ∀ {l : List ByteArray} {vs : List Value} {S1 : List Nat}, ET W vs (l.map sD) S1 → vs = l.map Value.string ∧ S1 = [] ∧ ∀ n ∈ l, okI (.string n)
  | [], _, _, h => by cases h; exact ⟨rfl, rfl, fun n h => by cases h⟩
  | n :: l, _, _, h => by
    cases h with
    | pv h1 hi h2 =>
      obtain ⟨rfl, rfl, h3⟩ := ET.ofStrs h2
      exact ⟨rfl, rfl, fun m hm => by
        rcases List.mem_cons.1 hm with rfl | hm
        · exact hi
        · exact h3 m hm⟩
theorem ET.toStrs {W : World} : ∀ {l : List ByteArray}, (∀ n ∈ l, okI (.string n)) → ET W (l.map Value.string) (l.map sD) []
  | [], _ => .nil
  | n :: l, h => .pv rfl (h n (by simp)) (ET.toStrs fun m hm => h m (by simp [hm]))
theorem flat_strs : ∀ l : List ByteArray, (strs l).flatten = l.map sD
  | [] => rfl
  | n :: l => by
    show [sD n] ++ (strs l).flatten = _
    rw [flat_strs l]; rfl
theorem frO1 {i o : Nat} {x y : Ob} (h : frO [(i, x)] o = some y) : o = i ∧ y = x := by
  unfold frO upd at h
  split at h
  · rename_i e
    cases h
    exact ⟨e, rfl⟩
  · cases h
theorem lib_revS (l : List ByteArray) (hl : l.length ≤ 1048576) : SpecM Try.prog 158 [.c (.own (pin 0))] [(pin 0, .arr kSt (strs l) [])] (.tup []) [(pin 0, .arr kSt (strs (srt l)) [])] := by
  refine ⟨fun vs w => by kernel_rfl, fun w R ι φ vs hR hF ho => ?_⟩
  cases hF with
  | cons hv hF =>
  cases hF
  rename_i v
  obtain ⟨hdom, hv⟩ := hv
  have hX : frO [(pin 0, Ob.arr kSt (strs l) [])] (pin 0) = some (.arr kSt (strs l) []) := rfl
  obtain ⟨hk, xs, S1, how, heh, hS, hnd⟩ := ho.1 _ _ hX
  have heh : EH w ι (domO (frO [(pin 0, Ob.arr kSt (strs l) [])])) xs ((strs l).flatten.map .d) S1 := heh
  have het := EH.to_ET heh
  rw [flat_strs] at het
  obtain ⟨rfl, rfl, hok⟩ := ET.ofStrs het
  have hlen : (strs l).length = l.length := by simp [strs]
  rw [← hv, hlen] at how
  obtain ⟨_, ⟨hv0, hn⟩ | ⟨g, cap, cur, rfl, _, hg, hnc, hcm, hcs, htake⟩⟩ := how
  · obtain rfl : l = [] := List.eq_nil_of_length_eq_zero hn
    subst hv0
    refine (Try.slices_Reverse_empty (α := ByteArray) none 0 w).mono fun e w' => ?_
    rintro ⟨rfl, rfl⟩
    exact ⟨_, rfl, R, ι, φ, BelowM.refl _ _, fun b h => h, hR, fun b h _ => .inl h, ⟨[], rfl, .nil⟩, ho, fun b hb => .inl hb, fun _ _ => rfl⟩
  have hgs : g < w.heap.size := by
    rcases Nat.lt_or_ge g w.heap.size with h | h
    · exact h
    · rw [Array.getElem?_eq_none h] at hg; cases hg
  rw [← hv] at hS
  have hφ : φ (pin 0) = [g] := hS
  have hcur : ∀ j, j < l.length → cur[j]? = some (Value.string l[j]!) := fun j hj => by
    have h1 : (cur.toList.take (l.length * 1))[j]? = (l.map (Value.string))[j]? := by rw [htake]
    rw [List.getElem?_take_of_lt (by omega), Array.getElem?_toList, List.getElem?_map, List.getElem?_eq_getElem hj] at h1
    rw [h1, getElem!_pos l j hj]
    rfl
  have hH : Holds (Value.string) w g 0 l.toArray := fun j hj => by
    have hj' : j < l.length := by simpa using hj
    refine ⟨?_, ?_⟩
    · show w.cell? ⟨g, 0 + j, none⟩ = _
      unfold World.cell?
      rw [hg, Nat.zero_add]
      show cur[j]? = _
      rw [hcur j hj']
      simp
    · show w.frozen? ⟨g, 0 + j, none⟩ = false
      unfold World.frozen?
      rw [hg]
      simp
  have hp := List.reverse_perm l
  have hsl : (srt l).length = l.length := hp.length_eq
  refine (Try.slices_Reverse Value.string (fun _ => rfl) g 0 cap l w hH (by omega)).mono fun e w' => ?_
  rintro ⟨rfl, n, rfl⟩
  obtain ⟨os, hos⟩ : ∃ os : Array Obj, os = #[] := ⟨_, rfl⟩
  rw [← grow_empty (putRow Value.string (Sort.ahead w n) g 0 l.reverse.toArray), ← hos]
  clear hos
  have hsz : (putRow (Value.string) (Sort.ahead w n) g 0 (srt l).toArray).heap.size = w.heap.size := by simp [putRow, mapBlock, Sort.ahead]
  have hold : ∀ k, k < w.heap.size → (grow (putRow (Value.string) (Sort.ahead w n) g 0 (srt l).toArray) os).heap[k]? = (putRow (Value.string) (Sort.ahead w n) g 0 (srt l).toArray).heap[k]? := fun k hk => by
    unfold grow
    exact Array.getElem?_append_left (by rw [hsz]; exact hk)
  have hgn : (grow (putRow (Value.string) (Sort.ahead w n) g 0 (srt l).toArray) os).heap[g]? = some (.cells (putCells (Value.string) 0 (srt l).toArray cur) 9 (0, 0)) := by
    rw [hold g hgs]
    simp only [putRow, mapBlock, Sort.ahead, Array.getElem?_modify, if_true, hg, Option.map_some, onCells]
  have hsize : w.heap.size ≤ (grow (putRow (Value.string) (Sort.ahead w n) g 0 (srt l).toArray) os).heap.size := by
    unfold grow
    simp only [Array.size_append, hsz]
    omega
  have hblk : ∀ k, k < w.heap.size → k ≠ g → (grow (putRow (Value.string) (Sort.ahead w n) g 0 (srt l).toArray) os).heap[k]? = w.heap[k]? := fun k hk hne => by
    rw [hold k hk]
    simp only [putRow, mapBlock, Sort.ahead, Array.getElem?_modify]
    rw [if_neg fun h => hne h.symm]
  have hmine := ho.2.1 _ _ hX
  refine ⟨_, rfl, R, ι, φ, ⟨rfl, rfl, rfl, hsize, fun k hk hM => hblk k hk fun e => hM ⟨pin 0, _, hX, by rw [hφ, e]; simp⟩⟩, fun b h => h, fun b h => Nat.lt_of_lt_of_le (hR b h) hsize, fun b h _ => .inl h, ⟨[], rfl, .nil⟩, ⟨?_, ?_, ?_, ho.2.2.2.keep (fun _ h => h) fun b hb => hblk b (hR b hb) fun e => (ho.2.1 _ _ hX g (by rw [hφ]; simp)).1 (e ▸ hb)⟩, ?_, fun _ _ => rfl⟩
  · intro o x hx
    obtain ⟨rfl, rfl⟩ := frO1 hx
    refine ⟨fun es hes => by obtain ⟨m, _, rfl⟩ := List.mem_map.1 hes; rfl, (srt l).map (Value.string), [], ?_, ?_, ?_, by rw [hφ]; simp⟩
    · rw [← hv]
      have hlen2 : (strs (srt l)).length = l.length := by simp [strs]
      rw [hlen2]
      refine ⟨by simp, .inr ⟨g, cap, _, rfl, Nat.zero_le _, hgn, hnc, hcm, by simp [putCells, hcs], ?_⟩⟩
      show (putCells (Value.string) 0 (srt l).toArray cur).toList.take (l.length * 1) = (srt l).map (Value.string)
      have hcs : cur.size = cap * 1 := hcs
      apply List.ext_getElem?
      intro j
      by_cases hj : j < l.length
      · have hc := hcur j hj
        obtain ⟨hj2, _⟩ := Array.getElem?_eq_some_iff.1 hc
        rw [List.getElem?_take_of_lt (by omega), Array.getElem?_toList, List.getElem?_map, List.getElem?_eq_getElem (by omega)]
        unfold putCells
        rw [Array.getElem?_mapIdx, hc]
        have hj3 : j < (srt l).toArray.size := by simp [hj]
        simp only [Option.map_some]
        rw [if_pos ⟨Nat.zero_le _, by omega⟩, Nat.sub_zero, getElem!_pos (srt l).toArray j hj3]
        simp
      · rw [List.getElem?_eq_none (by simp; omega), List.getElem?_eq_none (by simp; omega)]
    · show EH _ ι _ _ ((strs (srt l)).flatten.map .d) []
      rw [flat_strs]
      exact EH.of_ET (ET.toStrs fun m hm => hok m (hp.mem_iff.1 hm))
    · rw [← hv, hφ]; rfl
  · intro o x hx b hb
    obtain ⟨rfl, rfl⟩ := frO1 hx
    exact ⟨(hmine b hb).1, Nat.lt_of_lt_of_le (hmine b hb).2 hsize⟩
  · intro o p x y b h1 h2 _ _
    rw [(frO1 h1).1, (frO1 h2).1]
  · rintro b ⟨o, x, hx, hb⟩
    obtain ⟨rfl, rfl⟩ := frO1 hx
    exact .inl ⟨pin 0, _, hX, hb⟩
end Go.Proofs.Ytnkfbodolbfjpaa
