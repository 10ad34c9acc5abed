/- slices.SortFunc at placed tiles that lie at places of their own, as a contract on an array of the call's own. -/
import Derived.Test.YtnkfbodolbfjpaaClo1
import Derived.Test.YtnkfbodolbfjpaaScl01
import Derived.Shelf.SlSortCmp.NoneTotal
namespace Go.Proofs.Ytnkfbodolbfjpaa
open Go.RowKit Go.Sort
set_option maxRecDepth 10000
set_option maxHeartbeats 4000000
instance : Inhabited TPlaced := ⟨⟨⟨0, 0⟩, 0⟩⟩
def flatI (l : List TPlaced) : List Int := l.flatMap fun t => [t.fAt.fX, t.fAt.fY, t.fTile]
theorem flat_en (l : List TPlaced) : (l.map enPlaced).flatten = (flatI l).map iD := by
  induction l with
  | nil => rfl
  | cons t l ih =>
    show enPlaced t ++ (l.map enPlaced).flatten = ([t.fAt.fX, t.fAt.fY, t.fTile] ++ flatI l).map iD
    rw [ih, List.map_append]; rfl
theorem flat_cells (l : List TPlaced) : (l.map cellsP).flatten = (flatI l).map (Value.int .i64) := by
  induction l with
  | nil => rfl
  | cons t l ih =>
    show cellsP t ++ (l.map cellsP).flatten = ([t.fAt.fX, t.fAt.fY, t.fTile] ++ flatI l).map (Value.int .i64)
    rw [ih, List.map_append]; rfl
theorem flatI_len (l : List TPlaced) : (flatI l).length = l.length * 3 := by
  induction l with
  | nil => rfl
  | cons t l ih =>
    show ([t.fAt.fX, t.fAt.fY, t.fTile] ++ flatI l).length = _
    rw [List.length_append, ih, List.length_cons]
    simp; omega
theorem flatK_eq (l : List TPlaced) : flatK cellsP 3 l.toArray = ((flatI l).map (Value.int .i64)).toArray := by
  rw [← flat_cells]
  have hl : ∀ es ∈ l.map cellsP, es.length = 3 := fun es h => by obtain ⟨t, _, rfl⟩ := List.mem_map.1 h; rfl
  have hlen : (l.map cellsP).flatten.length = l.length * 3 := by rw [flatten_len hl, List.length_map]
  refine ext_get! (by rw [size_flatK]; simp only [List.size_toArray]; rw [hlen]) fun t ht => ?_
  rw [size_flatK] at ht
  have ht' : t < l.length * 3 := by simpa using ht
  rw [get_flatK _ _ _ _ ht]
  obtain ⟨x, hx⟩ : ∃ x, l[t / 3]? = some x := ⟨_, List.getElem?_eq_getElem (by omega)⟩
  have h1 := flatten_get (xs := l.map cellsP) (i := t / 3) (j := t % 3) (es := cellsP x) hl (by rw [List.getElem?_map, hx]; rfl) (by omega)
  rw [show t / 3 * 3 + t % 3 = t by omega] at h1
  have h2 : l.toArray[t / 3]! = x := by
    rw [List.getElem!_toArray, List.getElem!_eq_getElem?_getD, hx]; rfl
  rw [h2, List.getElem!_toArray, List.getElem!_eq_getElem?_getD, List.getElem!_eq_getElem?_getD, h1]
theorem ET.ofI {W : World} : ∀ {l : List Int} {vs : List Value} {S1 : List Nat}, ET W vs (l.map iD) S1 → vs = l.map (Value.int .i64) ∧ S1 = [] ∧ ∀ n ∈ l, okI (.int .i64 n)
  | [], _, _, h => by cases h; exact ⟨rfl, rfl, fun n h => by cases h⟩
  | n :: l, _, _, h => by
    cases h with
    | pv h1 hi h2 =>
      obtain ⟨rfl, rfl, h3⟩ := ET.ofI h2
      exact ⟨rfl, rfl, fun m hm => by
        rcases List.mem_cons.1 hm with rfl | hm
        · exact hi
        · exact h3 m hm⟩
theorem ET.toI {W : World} : ∀ {l : List Int}, (∀ n ∈ l, okI (.int .i64 n)) → ET W (l.map (Value.int .i64)) (l.map iD) []
  | [], _ => .nil
  | n :: l, h => .pv rfl (h n (by simp)) (ET.toI fun m hm => h m (by simp [hm]))
theorem frO1 {i o : Nat} {x y : Ob} (h : frO [(i, x)] o = some y) : o = i ∧ y = x := by
  unfold frO upd at h
  split at h
  · rename_i e
    cases h
    exact ⟨e, rfl⟩
  · cases h
def cfP (t s : TPlaced) : Int := cmpP t.fAt s.fAt
theorem ltOfP (t s : TPlaced) : ltOf cfP t s = decide (ltP t.fAt s.fAt) := by
  unfold ltOf cfP
  rw [decide_eq_decide]
  exact cmpP_lt
theorem swoP : SWO (ltOf cfP) where
  irrefl x := by rw [ltOfP]; exact decide_eq_false (ltP_irrefl _)
  trans x y z h1 h2 := by rw [ltOfP, decide_eq_true_eq] at *; exact ltP_trans h1 h2
  ntrans x y z h1 h2 := by rw [ltOfP, decide_eq_false_iff_not] at *; unfold ltP at *; omega
theorem cmpLaysP (blk off size : Nat) (w : World) : CmpLays Try.prog 169 #[] cellsP 3 cfP blk off size w :=
  fun _ _ _ _ x y => closeP x y _
theorem lib_sortPlaced (l : List TPlaced) (hl : l.length ≤ 1048576) (hne : l.Pairwise neA) : SpecM Try.prog 168 [.c (.own (pin 0)), .c (.d (.fn 169 []))] [(pin 0, .arr kPlaced (l.map enPlaced) [])] (.tup []) [(pin 0, .arr kPlaced ((insL l).map enPlaced) [])] := by
  refine ⟨fun vs w => by kernel_rfl, fun w R ι φ vs hR hF ho => ?_⟩
  cases hF with
  | cons hv hF =>
  cases hF with
  | cons hv2 hF =>
  cases hF
  rename_i v v2
  have hv2 : RD w R v2 (.fn 169 []) := hv2
  cases hv2
  rename_i us hul hur
  obtain rfl : us = [] := List.eq_nil_of_length_eq_zero hul
  obtain ⟨hdom, hv⟩ := hv
  have hX : frO [(pin 0, Ob.arr kPlaced (l.map enPlaced) [])] (pin 0) = some (.arr kPlaced (l.map enPlaced) []) := rfl
  obtain ⟨hk, xs, S1, how, heh, hS, hnd⟩ := ho.1 _ _ hX
  have heh : EH w ι (domO (frO [(pin 0, Ob.arr kPlaced (l.map enPlaced) [])])) xs ((l.map enPlaced).flatten.map .d) S1 := heh
  have het := EH.to_ET heh
  rw [flat_en] at het
  obtain ⟨rfl, rfl, hok⟩ := ET.ofI het
  have hlen : (l.map enPlaced).length = l.length := List.length_map ..
  rw [← hv, hlen] at how
  have hp := insL_perm l
  have hmem : ∀ n ∈ flatI (insL l), okI (.int .i64 n) := fun n hn => hok n (by
    unfold flatI at hn ⊢
    obtain ⟨t, ht, hn⟩ := List.mem_flatMap.1 hn
    exact List.mem_flatMap.2 ⟨t, hp.mem_iff.1 ht, hn⟩)
  have hsl : (insL l).length = l.length := insL_len
  have hmine := ho.2.1 _ _ hX
  obtain ⟨_, ⟨hv0, hn⟩ | ⟨g, cap, cur, rfl, hlc, hg, hnc, hcm, hcs, htake⟩⟩ := how
  · obtain rfl : l = [] := List.eq_nil_of_length_eq_zero hn
    subst hv0
    refine (AnyF.slices_SortFunc_none { Try.laysSlF06_f168 with } none 0 _ w).mono fun e w' => ?_
    rintro ⟨rfl, rfl⟩
    exact ⟨_, rfl, R, ι, φ, BelowM.refl _ _, fun b h => h, hR, fun b h _ => .inl h, ⟨[], rfl, .nil⟩, ho, fun b hb => .inl hb, fun _ _ => rfl⟩
  have hgs : g < w.heap.size := by
    rcases Nat.lt_or_ge g w.heap.size with h | h
    · exact h
    · rw [Array.getElem?_eq_none h] at hg; cases hg
  rw [← hv] at hS
  have hφ : φ (pin 0) = [g] := hS
  have hfl := flatI_len l
  have hfl2 := flatI_len (insL l)
  have hcur : ∀ j, j < l.length * 3 → cur[j]? = ((flatI l).map (Value.int .i64))[j]? := fun j hj => by
    have h1 : (cur.toList.take (l.length * 3))[j]? = ((flatI l).map (Value.int .i64))[j]? := by rw [htake]
    rwa [List.getElem?_take_of_lt hj, Array.getElem?_toList] at h1
  have hH : HoldsK cellsP 3 w g 0 l.toArray := by
    unfold HoldsK
    rw [flatK_eq]
    intro j hj
    have hj' : j < l.length * 3 := by simpa [hfl] using hj
    obtain ⟨n, hn⟩ : ∃ n, (flatI l)[j]? = some n := ⟨_, List.getElem?_eq_getElem (by omega)⟩
    have h1 := hcur j hj'
    rw [List.getElem?_map, hn] at h1
    have h2 : ((flatI l).map (Value.int .i64)).toArray[j]! = .int .i64 n := by
      rw [List.getElem!_toArray, List.getElem!_eq_getElem?_getD, List.getElem?_map, hn]; rfl
    refine ⟨?_, ?_⟩
    · show w.cell? ⟨g, 0 + j, none⟩ = some (id _)
      unfold World.cell?
      rw [hg, Nat.zero_add, h2]
      exact h1
    · show w.frozen? ⟨g, 0 + j, none⟩ = false
      unfold World.frozen?
      rw [hg]
      simp
  have hcon := AnyQ.slices_SortFunc Try.laysSlF06_f168 3 Try.isAgg153 Try.sizeOf153 cellsP (fun _ => rfl) (fun x v hv => by simp [cellsP] at hv; rcases hv with rfl | rfl | rfl <;> rfl) cfP swoP 169 #[] g 0 cap l.toArray w (enters_of Try.func169 (by kernel_rfl) rfl) (cmpLaysP g 0 l.toArray.size w) hH hgs (by simp; omega)
  refine hcon.mono fun e w' => ?_
  rintro ⟨rfl, d', n, os, hpm, hso, rfl⟩
  have hds : d'.size = l.length := by simpa using hpm.1
  have hml : d'.toList = insL l := by
    refine insL_uniq hne ?_ (List.pairwise_iff_getElem.2 fun i j hi hj hij hlt => ?_)
    · have h3 := hpm.2.2
      have e1 : d'.extract 0 l.toArray.size = d' := by simp [← hds]
      have e2 : l.toArray.extract 0 l.toArray.size = l.toArray := by simp
      rw [e1, e2] at h3
      simpa using h3
    · have h4 := hso i j (Nat.zero_le _) hij (by simpa [hds] using hj)
      rw [ltOfP, decide_eq_false_iff_not] at h4
      have ei : d'[i]! = d'.toList[i] := by rw [getElem!_pos d' i (by simpa using hi)]; simp
      have ej : d'[j]! = d'.toList[j] := by rw [getElem!_pos d' j (by simpa using hj)]; simp
      rw [ei, ej] at h4
      exact h4 hlt
  obtain rfl : d' = (insL l).toArray := by rw [← hml]
  clear hpm hso hds hml hcon hH
  have hwd : sortWorldK cellsP 3 w g 0 n (insL l).toArray os = grow (putRow id (Sort.ahead w n) g 0 ((flatI (insL l)).map (Value.int .i64)).toArray) os := by
    unfold sortWorldK putRowK
    rw [flatK_eq]
  rw [hwd]
  have hsz : (putRow id (Sort.ahead w n) g 0 ((flatI (insL l)).map (Value.int .i64)).toArray).heap.size = w.heap.size := by simp [putRow, mapBlock, Sort.ahead]
  have hold : ∀ k, k < w.heap.size → (grow (putRow id (Sort.ahead w n) g 0 ((flatI (insL l)).map (Value.int .i64)).toArray) os).heap[k]? = (putRow id (Sort.ahead w n) g 0 ((flatI (insL l)).map (Value.int .i64)).toArray).heap[k]? := fun k hk => by
    unfold grow
    exact Array.getElem?_append_left (by rw [hsz]; exact hk)
  have hgn : (grow (putRow id (Sort.ahead w n) g 0 ((flatI (insL l)).map (Value.int .i64)).toArray) os).heap[g]? = some (.cells (putCells id 0 ((flatI (insL l)).map (Value.int .i64)).toArray cur) 153 (0, 0)) := by
    rw [hold g hgs]
    simp only [putRow, mapBlock, Sort.ahead, Array.getElem?_modify, if_true, hg, Option.map_some, onCells]
  have hsize : w.heap.size ≤ (grow (putRow id (Sort.ahead w n) g 0 ((flatI (insL l)).map (Value.int .i64)).toArray) os).heap.size := by
    unfold grow
    simp only [Array.size_append, hsz]
    omega
  have hblk : ∀ k, k < w.heap.size → k ≠ g → (grow (putRow id (Sort.ahead w n) g 0 ((flatI (insL l)).map (Value.int .i64)).toArray) os).heap[k]? = w.heap[k]? := fun k hk hne => by
    rw [hold k hk]
    simp only [putRow, mapBlock, Sort.ahead, Array.getElem?_modify]
    rw [if_neg fun h => hne h.symm]
  refine ⟨_, rfl, R, ι, φ, ⟨rfl, rfl, rfl, hsize, fun k hk hM => hblk k hk fun e => hM ⟨pin 0, _, hX, by rw [hφ, e]; simp⟩⟩, fun b h => h, fun b h => Nat.lt_of_lt_of_le (hR b h) hsize, fun b h _ => .inl h, ⟨[], rfl, .nil⟩, ⟨?_, ?_, ?_, ho.2.2.2.keep (fun _ h => h) fun b hb => hblk b (hR b hb) fun e => (ho.2.1 _ _ hX g (by rw [hφ]; simp)).1 (e ▸ hb)⟩, ?_, fun _ _ => rfl⟩
  · intro o x hx
    obtain ⟨rfl, rfl⟩ := frO1 hx
    refine ⟨fun es hes => by obtain ⟨m, _, rfl⟩ := List.mem_map.1 hes; rfl, (flatI (insL l)).map (Value.int .i64), [], ?_, ?_, ?_, by rw [hφ]; simp⟩
    · rw [← hv]
      have hlen2 : ((insL l).map enPlaced).length = l.length := by rw [List.length_map, hsl]
      rw [hlen2]
      refine ⟨by rw [List.length_map, hfl2, hsl], .inr ⟨g, cap, _, rfl, hlc, hgn, hnc, hcm, by simp [putCells, hcs], ?_⟩⟩
      show (putCells id 0 ((flatI (insL l)).map (Value.int .i64)).toArray cur).toList.take (l.length * 3) = (flatI (insL l)).map (Value.int .i64)
      apply List.ext_getElem?
      intro j
      by_cases hj : j < l.length * 3
      · obtain ⟨m, hm⟩ : ∃ m, (flatI (insL l))[j]? = some m := ⟨_, List.getElem?_eq_getElem (by omega)⟩
        obtain ⟨m0, hm0⟩ : ∃ m, (flatI l)[j]? = some m := ⟨_, List.getElem?_eq_getElem (by omega)⟩
        have hc := hcur j hj
        rw [List.getElem?_map, hm0] at hc
        have hj3 : j < ((flatI (insL l)).map (Value.int .i64)).toArray.size := by simp; omega
        have h2 : ((flatI (insL l)).map (Value.int .i64)).toArray[j]! = .int .i64 m := by
          rw [List.getElem!_toArray, List.getElem!_eq_getElem?_getD, List.getElem?_map, hm]; rfl
        rw [List.getElem?_take_of_lt hj, Array.getElem?_toList, List.getElem?_map, hm]
        unfold putCells
        rw [Array.getElem?_mapIdx, hc]
        simp only [Option.map_some]
        rw [if_pos ⟨Nat.zero_le _, by omega⟩, Nat.sub_zero, h2]
        rfl
      · rw [List.getElem?_eq_none (by rw [List.length_take]; omega), List.getElem?_eq_none (by rw [List.length_map]; omega)]
    · show EH _ ι _ _ (((insL l).map enPlaced).flatten.map .d) []
      rw [flat_en]
      exact EH.of_ET (ET.toI hmem)
    · rw [← hv, hφ]; rfl
  · intro o x hx b hb
    obtain ⟨rfl, rfl⟩ := frO1 hx
    exact ⟨(hmine b hb).1, Nat.lt_of_lt_of_le (hmine b hb).2 hsize⟩
  · intro o p x y b h1 h2 _ _
    rw [(frO1 h1).1, (frO1 h2).1]
  · rintro b ⟨o, x, hx, hb⟩
    obtain ⟨rfl, rfl⟩ := frO1 hx
    exact .inl ⟨pin 0, _, hX, hb⟩
end Go.Proofs.Ytnkfbodolbfjpaa
