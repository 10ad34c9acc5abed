/- Texts of one proof, one behind the other. -/
import Derived.WalkLawsBesides
import Derived.WalkSpells
import Derived.Outline
import Derived.BigQuiet
import Derived.Deep.QuietTactic
import Derived.Test.YtehkaajakapkmaaGreatFA13
import Derived.Test.YtehkaajakapkmaaGreatFA16
import Derived.Test.YtehkaajakapkmaaGreatFA17
import Derived.Test.YtehkaajakapkmaaGreatFA28
namespace Go.Proofs.YtehkaajakapkmaaGreat
section
open Go.RowKit Go.Sort
set_option maxRecDepth 10000
set_option maxHeartbeats 4000000
theorem ET.ofInts {W : World} : ∀ {l : List Int} {vs : List Value} {S1 : List Nat}, ET W vs (l.map iD) S1 → vs = l.map (Value.int .i64) ∧ S1 = [] ∧ ∀ n ∈ l, okI (.int .i64 n)
  | [], _, _, h => by cases h; exact ⟨rfl, rfl, fun n h => by cases h⟩
  | n :: l, _, _, h => by
    cases h with
    | pv h1 hi h2 =>
      obtain ⟨rfl, rfl, h3⟩ := ET.ofInts h2
      exact ⟨rfl, rfl, fun m hm => by
        rcases List.mem_cons.1 hm with rfl | hm
        · exact hi
        · exact h3 m hm⟩
theorem ET.toInts {W : World} : ∀ {l : List Int}, (∀ n ∈ l, okI (.int .i64 n)) → ET W (l.map (Value.int .i64)) (l.map iD) []
  | [], _ => .nil
  | n :: l, h => .pv rfl (h n (by simp)) (ET.toInts fun m hm => h m (by simp [hm]))
theorem flat_ints : ∀ l : List Int, (ints l).flatten = l.map iD
  | [] => rfl
  | n :: l => by
    show [iD n] ++ (ints l).flatten = _
    rw [flat_ints l]; rfl
theorem frO1s {i o : Nat} {x y : Ob} (h : frO [(i, x)] o = some y) : o = i ∧ y = x := by
  unfold frO upd at h
  split at h
  · rename_i e
    cases h
    exact ⟨e, rfl⟩
  · cases h
abbrev srt (l : List Int) : List Int := l.mergeSort fun x y => decide (x ≤ y)
theorem lib_sort (l : List Int) (h0 : 0 < l.length) (hl : l.length ≤ 1048576) : SpecM Tryz.prog 75 [.c (.own (pin 0))] [(pin 0, .arr kI (ints l) [])] (.tup []) [(pin 0, .arr kI (ints (srt l)) [])] := by
  refine ⟨fun vs w => by kernel_rfl, fun w R ι φ vs hR hF ho => ?_⟩
  cases hF with
  | cons hv hF =>
  cases hF
  rename_i v
  obtain ⟨hdom, hv⟩ := hv
  have hX : frO [(pin 0, Ob.arr kI (ints l) [])] (pin 0) = some (.arr kI (ints l) []) := rfl
  obtain ⟨hk, xs, S1, how, heh, hS, hnd⟩ := ho.1 _ _ hX
  have heh : EH w ι (domO (frO [(pin 0, Ob.arr kI (ints l) [])])) xs ((ints l).flatten.map .d) S1 := heh
  have het := EH.to_ET heh
  rw [flat_ints] at het
  obtain ⟨rfl, rfl, hok⟩ := ET.ofInts het
  have hlen : (ints l).length = l.length := by simp [ints]
  rw [← hv, hlen] at how
  obtain ⟨_, ⟨_, hn⟩ | ⟨g, cap, cur, rfl, _, hg, hnc, hcm, hcs, htake⟩⟩ := how
  · omega
  have hgs : g < w.heap.size := by
    rcases Nat.lt_or_ge g w.heap.size with h | h
    · exact h
    · rw [Array.getElem?_eq_none h] at hg; cases hg
  rw [← hv] at hS
  have hφ : φ (pin 0) = [g] := hS
  have hcur : ∀ j, j < l.length → cur[j]? = some (Value.int .i64 l[j]!) := fun j hj => by
    have h1 : (cur.toList.take (l.length * 1))[j]? = (l.map (Value.int .i64))[j]? := by rw [htake]
    rw [List.getElem?_take_of_lt (by omega), Array.getElem?_toList, List.getElem?_map, List.getElem?_eq_getElem hj] at h1
    rw [h1, getElem!_pos l j hj]
    rfl
  have hH : Holds (Value.int .i64) w g 0 l.toArray := fun j hj => by
    have hj' : j < l.length := by simpa using hj
    refine ⟨?_, ?_⟩
    · show w.cell? ⟨g, 0 + j, none⟩ = _
      unfold World.cell?
      rw [hg, Nat.zero_add]
      show cur[j]? = _
      rw [hcur j hj']
      simp
    · show w.frozen? ⟨g, 0 + j, none⟩ = false
      unfold World.frozen?
      rw [hg]
      simp
  have hp := List.mergeSort_perm l (fun x y => decide (x ≤ y))
  have hsl : (srt l).length = l.length := hp.length_eq
  refine (Tryz.slices_Sort_int g 0 cap l w hH hgs (by omega)).mono fun e w' => ?_
  rintro ⟨rfl, n, os, rfl⟩
  have hsz : (putRow (Value.int .i64) (Sort.ahead w n) g 0 (srt l).toArray).heap.size = w.heap.size := by simp [putRow, mapBlock, Sort.ahead]
  have hold : ∀ k, k < w.heap.size → (grow (putRow (Value.int .i64) (Sort.ahead w n) g 0 (srt l).toArray) os).heap[k]? = (putRow (Value.int .i64) (Sort.ahead w n) g 0 (srt l).toArray).heap[k]? := fun k hk => by
    unfold grow
    exact Array.getElem?_append_left (by rw [hsz]; exact hk)
  have hgn : (grow (putRow (Value.int .i64) (Sort.ahead w n) g 0 (srt l).toArray) os).heap[g]? = some (.cells (putCells (Value.int .i64) 0 (srt l).toArray cur) 2 (0, 0)) := by
    rw [hold g hgs]
    simp only [putRow, mapBlock, Sort.ahead, Array.getElem?_modify, if_true, hg, Option.map_some, onCells]
  have hsize : w.heap.size ≤ (grow (putRow (Value.int .i64) (Sort.ahead w n) g 0 (srt l).toArray) os).heap.size := by
    unfold grow
    simp only [Array.size_append, hsz]
    omega
  have hblk : ∀ k, k < w.heap.size → k ≠ g → (grow (putRow (Value.int .i64) (Sort.ahead w n) g 0 (srt l).toArray) os).heap[k]? = w.heap[k]? := fun k hk hne => by
    rw [hold k hk]
    simp only [putRow, mapBlock, Sort.ahead, Array.getElem?_modify]
    rw [if_neg fun h => hne h.symm]
  have hmine := ho.2.1 _ _ hX
  refine ⟨_, rfl, R, ι, φ, ⟨rfl, rfl, rfl, hsize, fun k hk hM => hblk k hk fun e => hM ⟨pin 0, _, hX, by rw [hφ, e]; simp⟩⟩, fun b h => h, fun b h => Nat.lt_of_lt_of_le (hR b h) hsize, fun b h _ => .inl h, ⟨[], rfl, .nil⟩, ⟨?_, ?_, ?_, ho.2.2.2.keep (fun _ h => h) fun b hb => hblk b (hR b hb) fun e => (ho.2.1 _ _ hX g (by rw [hφ]; simp)).1 (e ▸ hb)⟩, ?_, fun _ _ => rfl⟩
  · intro o x hx
    obtain ⟨rfl, rfl⟩ := frO1s hx
    refine ⟨fun es hes => by obtain ⟨m, _, rfl⟩ := List.mem_map.1 hes; rfl, (srt l).map (Value.int .i64), [], ?_, ?_, ?_, by rw [hφ]; simp⟩
    · rw [← hv]
      have hlen2 : (ints (srt l)).length = l.length := by simp [ints, hsl]
      rw [hlen2]
      refine ⟨by simp [hsl], .inr ⟨g, cap, _, rfl, Nat.zero_le _, hgn, hnc, hcm, by simp [putCells, hcs], ?_⟩⟩
      show (putCells (Value.int .i64) 0 (srt l).toArray cur).toList.take (l.length * 1) = (srt l).map (Value.int .i64)
      have hcs : cur.size = cap * 1 := hcs
      apply List.ext_getElem?
      intro j
      by_cases hj : j < l.length
      · have hc := hcur j hj
        obtain ⟨hj2, _⟩ := Array.getElem?_eq_some_iff.1 hc
        rw [List.getElem?_take_of_lt (by omega), Array.getElem?_toList, List.getElem?_map, List.getElem?_eq_getElem (by omega)]
        unfold putCells
        rw [Array.getElem?_mapIdx, hc]
        have hj3 : j < (srt l).toArray.size := by simp [hsl, hj]
        simp only [Option.map_some]
        rw [if_pos ⟨Nat.zero_le _, by omega⟩, Nat.sub_zero, getElem!_pos (srt l).toArray j hj3]
        simp
      · rw [List.getElem?_eq_none (by simp; omega), List.getElem?_eq_none (by simp [hsl]; omega)]
    · show EH _ ι _ _ ((ints (srt l)).flatten.map .d) []
      rw [flat_ints]
      exact EH.of_ET (ET.toInts fun m hm => hok m (hp.mem_iff.1 hm))
    · rw [← hv, hφ]; rfl
  · intro o x hx b hb
    obtain ⟨rfl, rfl⟩ := frO1s hx
    exact ⟨(hmine b hb).1, Nat.lt_of_lt_of_le (hmine b hb).2 hsize⟩
  · intro o p x y b h1 h2 _ _
    rw [(frO1s h1).1, (frO1s h2).1]
  · rintro b ⟨o, x, hx, hb⟩
    obtain ⟨rfl, rfl⟩ := frO1s hx
    exact .inl ⟨pin 0, _, hX, hb⟩
end
section
open Go.RowKit
set_option maxRecDepth 100000 in
def S.s75 : SC := (.seq (.reg [⟨(.some 3), .none, .false, (.mv (.tmp 0))⟩, ⟨(.some 4), .none, .false, (.len (.tmp 3))⟩, ⟨(.some 2), .none, .false, (.mv (.tmp 4))⟩]) (.reg [⟨(.some 5), .none, .false, (.mv (.tmp 0))⟩, ⟨(.some 6), .none, .false, (.mv (.tmp 2))⟩, ⟨(.some 7), .none, .false, (.mv (.tmp 2))⟩, ⟨(.some 8), .none, .false, (.cv .u64 (.tmp 7))⟩, ⟨(.some 9), .none, .false, (.call (.func 100) [(.tmp 8)])⟩, ⟨(.some 10), .none, .false, (.call (.func 101) [(.tmp 5), (.const (Go.Value.int Go.IntKind.i64 0)), (.tmp 6), (.tmp 9)])⟩]))
set_option maxRecDepth 100000 in
theorem S.ok75 : stripF Tryz.prog Tryz.f75 = some S.s75 := by kernel_rfl
set_option maxRecDepth 100000 in
def S.s100 : SC := (.seq (.reg [⟨(.some 2), .none, .false, (.mv (.const (Go.Value.int Go.IntKind.i64 0)))⟩]) (.seq (.cond (.const (Go.Value.bool false)) (.seq (.reg [⟨(.some 3), .none, .false, (.mv (.tmp 0))⟩, ⟨(.some 4), .none, .false, (.cv .u32 (.tmp 3))⟩, ⟨(.some 5), .none, .false, (.call (.func 113) [(.tmp 4)])⟩, ⟨(.some 2), .none, .false, (.mv (.tmp 5))⟩]) .ret) .skip) (.seq (.reg [⟨(.some 6), .none, .false, (.mv (.tmp 0))⟩, ⟨(.some 7), .none, .false, (.call (.func 114) [(.tmp 6)])⟩, ⟨(.some 2), .none, .false, (.mv (.tmp 7))⟩]) .ret)))
set_option maxRecDepth 100000 in
theorem S.ok100 : stripF Tryz.prog Tryz.f100 = some S.s100 := by kernel_rfl
set_option maxRecDepth 100000 in
def S.s114 : SC := (.seq (.reg [⟨(.some 2), .none, .false, (.mv (.const (Go.Value.int Go.IntKind.i64 0)))⟩]) (.seq (.seq (.reg [⟨(.some 3), .none, .false, (.mv (.tmp 0))⟩, ⟨(.some 4), .none, .false, (.bin .geq (.tmp 3) (.const (Go.Value.int Go.IntKind.u64 4294967296)))⟩]) (.cond (.tmp 4) (.seq (.reg [⟨(.some 5), .none, .false, (.mv (.tmp 0))⟩, ⟨(.some 6), .none, .false, (.bin .shr (.tmp 5) (.const (Go.Value.int Go.IntKind.u64 32)))⟩, ⟨(.some 0), .none, .false, (.mv (.tmp 6))⟩]) (.reg [⟨(.some 2), .none, .false, (.mv (.const (Go.Value.int Go.IntKind.i64 32)))⟩])) .skip)) (.seq (.seq (.reg [⟨(.some 7), .none, .false, (.mv (.tmp 0))⟩, ⟨(.some 8), .none, .false, (.bin .geq (.tmp 7) (.const (Go.Value.int Go.IntKind.u64 65536)))⟩]) (.cond (.tmp 8) (.seq (.reg [⟨(.some 9), .none, .false, (.mv (.tmp 0))⟩, ⟨(.some 10), .none, .false, (.bin .shr (.tmp 9) (.const (Go.Value.int Go.IntKind.u64 16)))⟩, ⟨(.some 0), .none, .false, (.mv (.tmp 10))⟩]) (.reg [⟨(.some 11), .none, .false, (.mv (.tmp 2))⟩, ⟨(.some 12), .none, .false, (.bin .add (.tmp 11) (.const (Go.Value.int Go.IntKind.i64 16)))⟩, ⟨(.some 2), .none, .false, (.mv (.tmp 12))⟩])) .skip)) (.seq (.seq (.reg [⟨(.some 13), .none, .false, (.mv (.tmp 0))⟩, ⟨(.some 14), .none, .false, (.bin .geq (.tmp 13) (.const (Go.Value.int Go.IntKind.u64 256)))⟩]) (.cond (.tmp 14) (.seq (.reg [⟨(.some 15), .none, .false, (.mv (.tmp 0))⟩, ⟨(.some 16), .none, .false, (.bin .shr (.tmp 15) (.const (Go.Value.int Go.IntKind.u64 8)))⟩, ⟨(.some 0), .none, .false, (.mv (.tmp 16))⟩]) (.reg [⟨(.some 17), .none, .false, (.mv (.tmp 2))⟩, ⟨(.some 18), .none, .false, (.bin .add (.tmp 17) (.const (Go.Value.int Go.IntKind.i64 8)))⟩, ⟨(.some 2), .none, .false, (.mv (.tmp 18))⟩])) .skip)) (.seq (.reg [⟨(.some 19), .none, .false, (.mv (.tmp 2))⟩, ⟨(.some 20), .none, .false, (.mv (.tmp 0))⟩, ⟨(.some 21), .none, .false, (.cv .u8 (.tmp 20))⟩, ⟨(.some 22), .none, .false, (.six (.const (Go.Value.string { data := (([0, 1, 2, 2, 3, 3, 3, 3, 4, 4, 4, 4, 4, 4, 4, 4, 5, 5, 5, 5, 5, 5, 5, 5, 5, 5, 5, 5, 5, 5, 5, 5, 6, 6, 6, 6, 6, 6, 6, 6, 6, 6, 6, 6, 6, 6, 6, 6, 6, 6, 6, 6, 6, 6, 6, 6, 6, 6, 6, 6, 6, 6, 6, 6].append [7, 7, 7, 7, 7, 7, 7, 7, 7, 7, 7, 7, 7, 7, 7, 7, 7, 7, 7, 7, 7, 7, 7, 7, 7, 7, 7, 7, 7, 7, 7, 7, 7, 7, 7, 7, 7, 7, 7, 7, 7, 7, 7, 7, 7, 7, 7, 7, 7, 7, 7, 7, 7, 7, 7, 7, 7, 7, 7, 7, 7, 7, 7, 7]).append ([8, 8, 8, 8, 8, 8, 8, 8, 8, 8, 8, 8, 8, 8, 8, 8, 8, 8, 8, 8, 8, 8, 8, 8, 8, 8, 8, 8, 8, 8, 8, 8, 8, 8, 8, 8, 8, 8, 8, 8, 8, 8, 8, 8, 8, 8, 8, 8, 8, 8, 8, 8, 8, 8, 8, 8, 8, 8, 8, 8, 8, 8, 8, 8].append [8, 8, 8, 8, 8, 8, 8, 8, 8, 8, 8, 8, 8, 8, 8, 8, 8, 8, 8, 8, 8, 8, 8, 8, 8, 8, 8, 8, 8, 8, 8, 8, 8, 8, 8, 8, 8, 8, 8, 8, 8, 8, 8, 8, 8, 8, 8, 8, 8, 8, 8, 8, 8, 8, 8, 8, 8, 8, 8, 8, 8, 8, 8, 8])).toArray })) (.tmp 21))⟩, ⟨(.some 23), .none, .false, (.cv .i64 (.tmp 22))⟩, ⟨(.some 24), .none, .false, (.bin .add (.tmp 19) (.tmp 23))⟩, ⟨(.some 2), .none, .false, (.mv (.tmp 24))⟩]) .ret)))))
set_option maxRecDepth 100000 in
theorem S.ok114 : stripF Tryz.prog Tryz.f114 = some S.s114 := by kernel_rfl
set_option maxRecDepth 10000
set_option maxHeartbeats 4000000
theorem iLen64 : Spec Tryz.prog 114 [.c (.pv (.int .u64 0))] (oI 0) := by
  refine Spec.walk T.mixed Tryz.func114 S.ok114 (by simp [Tryz.f114]) fun hk => ?_
  clear hk
  unfold S.s114
  repeat' (first|refine R.six rfl rfl ⟨Int.le_refl _, by decide⟩ (fun y hy => ?_); obtain rfl : y = 0 := Option.some.inj (hy.symm.trans (by decide))|refine R.mv rfl ?_|refine R.reg ?_|refine R.nil ?_|refine R.seq ?_|refine R.nseq ?_|refine R.nblk ?_|refine R.skip ?_|refine R.blk ?_|refine R.exit rfl ?_|refine R.geq rfl rfl ?_|refine R.add rfl rfl (by omega) ?_|refine R.six rfl rfl (by omega) (fun a ha => ?_)|refine R.cv64 rfl (by omega) ?_|refine R.shr rfl rfl (by omega) ?_|refine R.shrU1 rfl rfl ?_|refine R.shrU rfl rfl (by omega) ?_|refine R.cvU rfl (by omega) ?_|refine R.condT rfl ?_|refine R.condF rfl ?_|refine R.cv (k' := .u8) rfl ?_|refine R.cv64 rfl ⟨by decide, by decide⟩ ?_|refine R.add rfl rfl ⟨by decide, by decide⟩ ?_|refine R.cond rfl (fun hc => ?_) (fun hc => ?_)|refine R.condN rfl (fun hc => ?_) (fun hc => ?_)|refine R.condB rfl (fun hc => ?_) (fun hc => ?_))
  all_goals first | (exfalso; omega) | exact R.ret ⟨.inr rfl, R.outI rfl rfl rfl⟩ | skip
theorem iLen0 : Spec Tryz.prog 100 [.c (.pv (.int .u64 0))] (oI 0) := by
  have h := iLen64
  refine Spec.walk T.mixed Tryz.func100 S.ok100 (by simp [Tryz.f100]) fun hk => ?_
  clear hk
  unfold S.s100
  repeat' (first|refine R.mv rfl ?_|refine R.reg ?_|refine R.nil ?_|refine R.seq ?_|refine R.nseq ?_|refine R.nblk ?_|refine R.skip ?_|refine R.blk ?_|refine R.exit rfl ?_|refine R.cv64 rfl (by omega) ?_|refine R.cvU rfl (by omega) ?_|refine R.condT rfl ?_|refine R.condF rfl ?_|refine R.call (bor := false) rfl rfl (h) rfl rfl rfl ?_|refine R.call (bor := true) rfl rfl (h) rfl rfl rfl ?_|refine R.cond rfl (fun hc => ?_) (fun hc => ?_)|refine R.condN rfl (fun hc => ?_) (fun hc => ?_)|refine R.condB rfl (fun hc => ?_) (fun hc => ?_))
  all_goals first | (exfalso; omega) | exact R.ret ⟨.inr rfl, R.outI rfl rfl rfl⟩ | skip
theorem ins0 (a : Option Addr) (cap : Nat) (w : World) : Calls Tryz.prog 115 #[.slice a 0 cap, .int .i64 0, .int .i64 0] w fun e w' => e = .returned (.tuple #[]) ∧ Below w.heap.size w w' := by
  have hb := Below.refl w.heap.size w
  go_enter Tryz.func115, Tryz.ntmps115
  go_wp2_with fail
  go_loopw [6] (fun v wr => v = .int .i64 1 ∧ wr = w) (fun _ _ => 0)
  case atStart => exact ⟨rfl, rfl⟩
  case round =>
    obtain ⟨rfl, rfl⟩ := hrel
    go_wp2_with fail
    exact bodyPost_end (v := .tuple #[]) (by simp [results, Tryz.results115, go_sem] <;> rfl) rfl ⟨rfl, hb⟩
theorem pdq0 (a : Option Addr) (cap : Nat) (w : World) : Calls Tryz.prog 101 #[.slice a 0 cap, .int .i64 0, .int .i64 0, .int .i64 0] w fun e w' => e = .returned (.tuple #[]) ∧ Below w.heap.size w w' := by
  have hi := ins0 a cap w
  go_enter Tryz.func101, Tryz.ntmps101
  go_wp2_with fail
  go_loopw [1, 2] (fun v u wr => v = .int .i64 0 ∧ u = .int .i64 0 ∧ wr = w) (fun _ _ _ => 0)
  case atStart => exact ⟨rfl, rfl, rfl⟩
  case round =>
    obtain ⟨rfl, rfl, rfl⟩ := hrel
    go_wp2_with fail
    refine hi.mono ?_
    rintro e w' ⟨rfl, hb⟩
    go_wp2_with fail
    exact bodyPost_ret (v := .tuple #[]) (by simp [results, Tryz.results101, go_sem] <;> rfl) rfl ⟨rfl, hb⟩
theorem lib_pdq0 : Spec Tryz.prog 101 [vL kI (ints []), vI 0, vI 0, vI 0] (.tup []) := by
  refine ⟨callFunc_enter Tryz.func101 rfl (by simp [Tryz.f101]), fun w R ι φ vs hR hF ho => ?_⟩
  cases hF with | cons h1 hF => cases hF with | cons h2 hF => cases hF with | cons h3 hF => cases hF with | cons h4 hF =>
  cases hF
  rename_i v1 v2 v3 v4
  have h1 : RD w R v1 (.rd kI []) := h1
  cases h2; cases h3; cases h4
  obtain ⟨a, cap, rfl⟩ : ∃ a cap, v1 = .slice a 0 cap := by
    cases h1 with
    | nil => exact ⟨_, _, rfl⟩
    | rd c h0 => cases h0
  refine (pdq0 a cap w).mono ?_
  rintro e w1 ⟨rfl, hbl⟩
  have hn : ∀ o x, frO [] o = some x → False := fun o x h => by simp [frO] at h
  have hO : ObjsOk w1 R ι φ (frO []) := ⟨fun o x h => (hn o x h).elim, fun o x h => (hn o x h).elim, fun o p x y g h => (hn o x h).elim, ho.2.2.2.keep (fun _ h => h) fun b hb => hbl.block b (hR b hb)⟩
  refine ⟨_, rfl, R, ι, φ, BelowM.of_below hbl, fun b h => h, fun b h => Nat.lt_of_lt_of_le (hR b h) hbl.size, fun b h _ => .inl h, ⟨[], rfl, .nil⟩, hO, fun g h => ?_, fun o h => rfl⟩
  obtain ⟨o, x, h, _⟩ := h
  exact (hn o x h).elim
theorem lib_sort0 : Spec Tryz.prog 75 [vL kI (ints [])] (.tup []) := by
  have h := lib_pdq0
  have h2 := iLen0
  refine Spec.walk T.mixed Tryz.func75 S.ok75 (by simp [Tryz.f75]) fun hk => ?_
  clear hk
  unfold S.s75
  repeat' (first|refine R.mv rfl ?_|refine R.reg ?_|refine R.nil ?_|refine R.seq ?_|refine R.nseq ?_|refine R.nblk ?_|refine R.skip ?_|refine R.blk ?_|refine R.exit rfl ?_|refine R.lenM rfl ?_|refine R.lenO rfl rfl ?_|refine R.len rfl rfl ?_|refine R.cv64 rfl (by omega) ?_|refine R.cvU rfl (by omega) ?_|refine R.condT rfl ?_|refine R.condF rfl ?_|refine R.call (bor := false) rfl rfl (h) rfl rfl rfl ?_|refine R.call (bor := true) rfl rfl (h) rfl rfl rfl ?_|refine R.call (bor := false) rfl rfl (h2) rfl rfl rfl ?_|refine R.call (bor := true) rfl rfl (h2) rfl rfl rfl ?_|refine R.cvU rfl ⟨by decide, by decide⟩ ?_|refine R.cond rfl (fun hc => ?_) (fun hc => ?_)|refine R.condN rfl (fun hc => ?_) (fun hc => ?_)|refine R.condB rfl (fun hc => ?_) (fun hc => ?_))
  all_goals first | (exfalso; omega) | exact R.nend ⟨.inl rfl, R.outR rfl .nil rfl rfl rfl ⟨by show ¬ (0 = 1); omega, rfl⟩⟩ | skip
end
end Go.Proofs.YtehkaajakapkmaaGreat
