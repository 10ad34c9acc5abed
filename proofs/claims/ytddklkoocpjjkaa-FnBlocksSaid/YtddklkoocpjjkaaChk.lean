/- The blocks of two cells: a range over slices.Chunk that appends. -/
import Derived.Test.YtddklkoocpjjkaaRgIn
import Derived.Test.YtddklkoocpjjkaaBoil
import Derived.RangeFuncNested
import Derived.RangeFuncBound
import Derived.RangeFuncCalls
import Derived.RangeFuncLeaves
import Derived.Shelf.RegionOpen
import Derived.WalkKit
import Derived.OwnWalkIn
import Derived.TacticsInMore
import Derived.LoopNIn
import Derived.LoopIn
import Derived.Maps.AppendAt
import Derived.Lib.Hide
namespace Go.Proofs.Ytddklkoocpjjkaa
open Go.RowKit
set_option maxRecDepth 100000
set_option maxHeartbeats 4000000
attribute [local go_sem] Oper.semAt_some
/-- The cells of a slice of numbers in a world. -/
def ICells (W : World) (b off : Nat) (l : List Int) : Prop := ∀ (i : Nat) (n : Int), l[i]? = some n → W.cell? ⟨b, off + i, none⟩ = some (.int .i64 n)
/-- These blocks lie as they lay. -/
def KpC (n b : Nat) (W W' : World) : Prop := W.heap.size ≤ W'.heap.size ∧ ∀ k, (k < n ∨ k = b ∨ k = b + 1) → k < W.heap.size → W'.heap[k]? = W.heap[k]?
theorem KpC.refl (n b : Nat) (W : World) : KpC n b W W := ⟨Nat.le_refl _, fun _ _ _ => rfl⟩
theorem KpC.trans {n b : Nat} {W1 W2 W3 : World} (h : KpC n b W1 W2) (k : KpC n b W2 W3) : KpC n b W1 W3 :=
  ⟨Nat.le_trans h.1 k.1, fun i hi hl => (k.2 i hi (Nat.lt_of_lt_of_le hl h.1)).trans (h.2 i hi hl)⟩
theorem KpC.cell {n b : Nat} {W W' : World} (h : KpC n b W W') {p : Addr} {v : Value} (hp : p.block < n ∨ p.block = b ∨ p.block = b + 1) (hv : W.cell? p = some v) : W'.cell? p = some v := by
  have hl : p.block < W.heap.size := by
    obtain ⟨o, ho, _⟩ := cells_of_cell hv
    exact (Array.getElem?_eq_some_iff.1 ho).1
  exact (World.cell?_of_block (h.2 _ hp hl)).trans hv
theorem intOf_int (x : Int) : intOf (.int .i64 x) = x := rfl
theorem chunk1 (l Bs n₀ b off cap h n : Nat) (hcs : n = 2 * h) (hlen : n ≤ cap) (hcap : cap ≤ maxLen) (J Jx : List {k : Nat // k < h} → World → Prop) (hJd : ∀ pre W, J pre W → J pre W.drew)
    (hY : ∀ pre (x : {k : Nat // k < h}) W, J pre W → pre.length < h → YieldAt Fence.wide 8 Try.prog l #[.slice (some ⟨b, off + 2 * x.1, none⟩) 2 2] W fun e W' =>
      (e = .returned (.bool true) ∧ J (pre ++ [x]) W' ∧ KpC n₀ Bs W W') ∨ (e = .returned (.bool false) ∧ Jx (pre ++ [x]) W'))
    (W : World) (hBs : W.cell? ⟨Bs, 0, none⟩ = some (.slice (some ⟨b, off, none⟩) n cap)) (hB2 : W.cell? ⟨Bs + 1, 0, none⟩ = some (.int .i64 2)) (h0 : J [] W) :
    CallsIn Fence.wide 9 Try.prog 56 #[.func (.yield l) #[] #[], .pointer (some ⟨Bs, 0, none⟩), .pointer (some ⟨Bs + 1, 0, none⟩)] W fun e W' => (∃ v, e = .returned v) ∧
      ((∃ ys, ys.map (·.1) = List.range h ∧ J ys W') ∨ (∃ pre, True ∧ Jx pre W')) := by
  refine callsIn_of_wp Try.func56 rfl trivial ?_ rfl
  simp only [Try.ntmps56, List.size_toArray, List.length_cons, List.length_nil, Nat.reduceAdd, Nat.reduceSub, Array.replicate_succ, Array.replicate_zero, List.push_toArray, List.append_toArray, List.nil_append, List.cons_append]
  have hm : n ≤ maxLen := by omega
  gi_wp2
  gi_loopw [4] (fun i wr => ∃ (k : Nat) (z : Nat), k ≤ h ∧ z = 2 * k ∧ i = .int .i64 z ∧ (∃ pre : List {k : Nat // k < h}, pre.map (·.1) = List.range k ∧ J pre wr) ∧ KpC n₀ Bs W wr)
    (fun i _ => (n - intOf i).toNat)
  case atStart => exact ⟨0, 0, Nat.zero_le _, rfl, rfl, ⟨[], rfl, h0⟩, KpC.refl _ _ _⟩
  case round =>
    obtain ⟨k, z, hk, hz, rfl, ⟨pre, hpre, hJs⟩, hnx⟩ := hrel
    have dB := hnx.cell (p := ⟨Bs, 0, none⟩) (.inr (.inl rfl)) hBs
    have dN := hnx.cell (p := ⟨Bs + 1, 0, none⟩) (.inr (.inr rfl)) hB2
    by_cases hkh : k < h
    · have hlt : z < n := by omega
      have hlp : pre.length < h := by
        have := congrArg List.length hpre
        simp at this
        omega
      have hle2 : z ≤ n := by omega
      have hc1 : z + 2 ≤ cap := by omega
      have hc2 : z + 2 ≤ n := by omega
      have hmin : (2 : Int) ≤ ((n - z : Nat) : Int) := by omega
      have hw2 : RowKit.wrap64 ((z : Int) + 2) = ((z + 2 : Nat) : Int) := IntWalk.wrap64_in _ (by unfold maxLen at hm; omega)
      obtain ⟨fn, tmps, assign, body, hy, hR⟩ := hY pre ⟨k, hkh⟩ wr.drew (hJd _ _ hJs) hlp
      dsimp only at hy
      rw [show off + 2 * k = off + z by rw [hz]] at hy
      have HZ := Lib.hid (show z + 2 = 2 * (k + 1) ∧ k + 1 ≤ h by omega)
      clear hz hcs
      clear hm hcap
      gi_wp2
      gi_region
      gi_wp2
      refine hR.mono ?_
      rintro e W3 (⟨rfl, hJ3, hk3⟩ | ⟨rfl, hJx3⟩)
      · have hk4 : KpC n₀ Bs wr W3 := hk3
        have dN3 := hk4.cell (p := ⟨Bs + 1, 0, none⟩) (.inr (.inr rfl)) dN
        gi_wp2
        go_roundw
        case rel => exact ⟨k + 1, z + 2, HZ.out.2, HZ.out.1, by rw [hw2], ⟨_, by rw [List.map_append, hpre, List.range_succ]; rfl, hJ3⟩, hnx.trans hk4⟩
        case measure =>
          show ((n : Int) - intOf (Value.int .i64 (RowKit.wrap64 ((z : Int) + 2)))).toNat < ((n : Int) - intOf (Value.int .i64 (z : Int))).toNat
          rw [intOf_int, intOf_int, hw2]
          clear hmin hw2
          omega
      · gi_wp2
        refine bodyPost_ret (results_none rfl _ _ _) rfl ?_
        exact ⟨⟨_, rfl⟩, .inr ⟨_, trivial, hJx3⟩⟩
    · have hlt : z = n := by omega
      subst hlt
      obtain rfl : k = h := by omega
      clear hcap hm
      gi_wp2
      go_end0
      exact ⟨⟨_, rfl⟩, .inl ⟨pre, hpre, hJs⟩⟩
theorem chunk0 (l Bs : Nat) (a : Option Addr) (cap h : Nat) (hh : h = 0) (J : List {k : Nat // k < h} → World → Prop)
    (W : World) (hBs : W.cell? ⟨Bs, 0, none⟩ = some (.slice a 0 cap)) (h0 : J [] W) :
    CallsIn Fence.wide 9 Try.prog 56 #[.func (.yield l) #[] #[], .pointer (some ⟨Bs, 0, none⟩), .pointer (some ⟨Bs + 1, 0, none⟩)] W fun e W' => (∃ v, e = .returned v) ∧
      (∃ ys, ys.map (·.1) = List.range h ∧ J ys W') := by
  refine callsIn_of_wp Try.func56 rfl trivial ?_ rfl
  simp only [Try.ntmps56, List.size_toArray, List.length_cons, List.length_nil, Nat.reduceAdd, Nat.reduceSub, Array.replicate_succ, Array.replicate_zero, List.push_toArray, List.append_toArray, List.nil_append, List.cons_append]
  gi_wp2
  gi_loopw [4] (fun i wr => i = .int .i64 0 ∧ J [] wr ∧ wr.cell? ⟨Bs, 0, none⟩ = some (.slice a 0 cap)) (fun i _ => 0)
  case atStart => exact ⟨rfl, h0, hBs⟩
  case round =>
    obtain ⟨rfl, hJs, hB⟩ := hrel
    gi_wp2
    go_end0
    exact ⟨⟨_, rfl⟩, ⟨[], by rw [hh]; rfl, hJs⟩⟩
theorem chunk_in (a : Option Addr) (len cap : Nat) (w : World) :
    CallsIn Fence.wide 9 Try.prog 50 #[.slice a len cap, .int .i64 2] w fun e w' => e = .returned (.func (.func 56) #[] #[.pointer (some ⟨w.heap.size, 0, none⟩), .pointer (some ⟨w.heap.size + 1, 0, none⟩)]) ∧ w' = (w.alloc (.cells #[.slice a len cap] 33)).alloc (.cells #[.int .i64 2] 3) := by
  refine callsIn_of_wp Try.func50 rfl trivial ?_ rfl
  simp only [Try.ntmps50, List.size_toArray, List.length_cons, List.length_nil, Nat.reduceAdd, Nat.reduceSub, Array.replicate_succ, Array.replicate_zero, List.push_toArray, List.append_toArray, List.nil_append, List.cons_append]
  gi_wp2
  go_ret
  exact ⟨rfl, rfl⟩
/-- The slice holds these numbers, in a block below n₀, or there are none. -/
def ISl (W : World) (n₀ : Nat) (v : Value) (cs : List Int) (b off : Nat) : Prop :=
  (cs = [] ∧ ∃ a cap, v = .slice a 0 cap) ∨ ∃ cap, v = .slice (some ⟨b, off, none⟩) cs.length cap ∧ b < n₀ ∧ cs.length ≤ cap ∧ cap ≤ maxLen ∧ ICells W b off cs
theorem chunk_stops (Bs n₀ h b off : Nat) (sv : Value) (cs : List Int) (hcs : cs.length = 2 * h) (w : World) (hBs : Bs + 1 < w.heap.size)
    (hc : w.cell? ⟨Bs, 0, none⟩ = some sv) (hc2 : w.cell? ⟨Bs + 1, 0, none⟩ = some (.int .i64 2)) (hI : ISl w n₀ sv cs b off) :
    SeqStopsK Fence.wide 9 Try.prog 56 #[.pointer (some ⟨Bs, 0, none⟩), .pointer (some ⟨Bs + 1, 0, none⟩)] (fun x : {k : Nat // k < h} => #[Value.slice (some ⟨b, off + 2 * x.1, none⟩) 2 2]) (KpC n₀ Bs) (fun ys => ys.map (·.1) = List.range h) (fun _ => True) h w := fun l J Jx W hW hJ _ hY h0 => by
  have hc' := (hW.cell (p := ⟨Bs, 0, none⟩) (Nat.lt_of_succ_lt hBs)).trans hc
  have hc2' := (hW.cell (p := ⟨Bs + 1, 0, none⟩) hBs).trans hc2
  rcases hI with ⟨hp, a, cap, rfl⟩ | ⟨cap, rfl, _, h1, h2, _⟩
  · exact (chunk0 l Bs a cap h (by rw [hp] at hcs; simp at hcs; omega) J W hc' h0).mono fun e W' ⟨he, hj⟩ => ⟨he, .inl hj⟩
  · exact chunk1 l Bs n₀ b off cap h cs.length hcs h1 h2 J Jx (fun pre W hj => hJ pre W W.drew none hj ⟨rfl, rfl, rfl, Nat.le_refl _, fun _ _ _ => rfl⟩ (fun r e => by cases e)) hY W hc' hc2' h0
/-- The number of a block. -/
def blkN (cs : List Int) (k : Nat) : Int := 2 * cs.getD (2 * k) 0 + cs.getD (2 * k + 1) 0
theorem infoI64 : (Try.prog.info? 2).map (fun i => (i.zero, i.size, i.bytes)) = some (some (.int .i64 0), 1, 8) := by kernel_rfl
theorem wpList_tl {P : Program} {l : List Oper} {n : Nat} {ops : Array Oper} {Q : Exit → Act → World → Prop} {a : Act} {w : World} (h : rgTl l n = l.drop n) (k : wpList P ops Q (l.drop n) a w) : wpList P ops Q (rgTl l n) a w := h ▸ k
theorem blocks1 (sv : Value) (a : Option Addr) (len cap : Nat) (hsv : sv = .slice a len cap) (cs : List Int) (h b off : Nat) (hcs : cs.length = 2 * h) (hbits : ∀ c ∈ cs, 0 ≤ c ∧ c ≤ 1) (hlen : cs.length ≤ 1048576) (w : World) (hI : ISl w w.heap.size sv cs b off) :
    CallsIn Fence.wide 10 Try.prog 35 #[sv] w fun e W' => ∃ v, e = .returned v ∧ W'.ownsRow w.heap.size 2 1 v h ((List.range h).map fun k => Value.int .i64 (blkN cs k)) ∧ Below w.heap.size w W' := by
  subst hsv
  refine callsIn_of_wp_marks Try.func35 rfl trivial ?_ rfl
  simp only [Try.ntmps35, List.size_toArray, List.length_cons, List.length_nil, Nat.reduceAdd, Nat.reduceSub, Array.replicate_succ, Array.replicate_zero, List.push_toArray, List.append_toArray, List.nil_append, List.cons_append]
  gi_wp2_with (refine ⟨trivial, ?_⟩; gi_at_call 50; refine (chunk_in _ _ _ _).mono ?_; rintro e w' ⟨rfl, rfl⟩)
  have bO := Boxed.new w 33 (.slice none 0 0)
  have bS := Boxed.new (w.alloc (.cells #[.slice none 0 0] 33)) 33 (.slice a len cap)
  have bN := Boxed.new ((w.alloc (.cells #[.slice none 0 0] 33)).alloc (.cells #[.slice a len cap] 33)) 3 (.int .i64 2)
  simp only [World.size_alloc] at bS bN
  have hB0 : Below w.heap.size w (((w.alloc (.cells #[.slice none 0 0] 33)).alloc (.cells #[.slice a len cap] 33)).alloc (.cells #[.int .i64 2] 3)) := (((Below.refl _ w).alloc (Nat.le_refl _) _).alloc (by simp) _).alloc (by simp; omega) _
  have hsz : (((w.alloc (.cells #[.slice none 0 0] 33)).alloc (.cells #[.slice a len cap] 33)).alloc (.cells #[.int .i64 2] 3)).heap.size = w.heap.size + 3 := by simp
  have bO2 := (bO.alloc (.cells #[.slice a len cap] 33)).alloc (.cells #[.int .i64 2] 3)
  have bS2 := bS.alloc (.cells #[.int .i64 2] 3)
  have hI2 : ISl (((w.alloc (.cells #[.slice none 0 0] 33)).alloc (.cells #[.slice a len cap] 33)).alloc (.cells #[.int .i64 2] 3)) w.heap.size (.slice a len cap) cs b off := by
    rcases hI with ⟨hp, a', cap', h⟩ | ⟨cap', h, hb, h1, h2, h3⟩
    · exact .inl ⟨hp, a', cap', h⟩
    · exact .inr ⟨cap', h, hb, h1, h2, fun i n hn => (hB0.cell (p := ⟨b, _, none⟩) hb).trans (h3 i n hn)⟩
  generalize ((w.alloc (.cells #[.slice none 0 0] 33)).alloc (.cells #[.slice a len cap] 33)).alloc (.cells #[.int .i64 2] 3) = W0 at bO2 bS2 bN hB0 hsz hI2 ⊢
  clear bO bS
  obtain ⟨i0, hi, hz0, hz1, hz2⟩ := info_parts infoI64
  refine wpIn_rangeFunc_ownG rfl (by decide) (gf := 56) (lb := #[.pointer (some ⟨w.heap.size + 1, 0, none⟩), .pointer (some ⟨w.heap.size + 1 + 1, 0, none⟩)]) rfl trivial (enters_of Try.func56 (by kernel_rfl) rfl)
    (chunk_stops (w.heap.size + 1) w.heap.size h b off (.slice a len cap) cs hcs W0 (by omega) bS2.cell bN.cell hI2) (fun h k => h.trans k)
    (fun W l o o' hl _ _ _ => ⟨by simp, fun k hk _ => World.putObj_heap_other (by omega)⟩) (Below.refl _ _) (fun _ => rfl)
    (fun pre W => ((∃ v, Boxed W w.heap.size 33 v ∧ W.ownsRow W0.heap.size 2 1 v pre.length (pre.map fun x => Value.int .i64 (blkN cs x.1)) ∧ True) ∧ Below w.heap.size w W) ∧ W0.heap.size ≤ W.heap.size)
    (fun _ _ _ => False)
    (OwnFrom.and (OwnFrom.and (Own.from (holdsRow_own W0.heap.size w.heap.size 33 2 1 (fun pre : List {k : Nat // k < h} => pre.length) (fun pre => pre.map fun x => Value.int .i64 (blkN cs x.1)) (fun _ _ => True)) _) (ownFrom_below (Nat.le_refl _) (by omega))) (fun s X Y row hs hg _ => Nat.le_trans hs hg.size))
    (fun _ _ _ _ _ hs _ _ => hs)
    ⟨⟨⟨_, bO2, World.ownsRow_nil _ _ _ _, trivial⟩, hB0⟩, Nat.le_refl _⟩
    (fun x => { tmps := #[.slice a len cap, undef, .slice none 0 0, .pointer (some ⟨w.heap.size, 0, none⟩), .slice (some ⟨b, off + 2 * x.1, none⟩) 2 2, .slice a len cap, .func (.func 56) #[] #[.pointer (some ⟨w.heap.size + 1, 0, none⟩), .pointer (some ⟨w.heap.size + 1 + 1, 0, none⟩)], .slice (some ⟨b, off + 2 * x.1, none⟩) 2 2, undef, undef, undef, undef, undef, undef, undef, undef, undef, undef, undef, undef], defers := [] }) ?assign ?body ?done ?stop
  case assign =>
    intro l x W K hK
    gi_wp2
    exact hK
  case body =>
    rintro l pre x W1 ⟨⟨⟨u, hv, hrow, _⟩, hB1⟩, hWs⟩ hlt
    have hx2 := x.2
    rcases hI2 with ⟨hp, _⟩ | ⟨cap', _, hbl0, _, _, hcells⟩
    · rw [hp] at hcs
      simp at hcs
      omega
    obtain ⟨c0, e0⟩ : ∃ c, cs[2 * x.1]? = some c := ⟨_, List.getElem?_eq_getElem (by omega)⟩
    obtain ⟨c1, e1⟩ : ∃ c, cs[2 * x.1 + 1]? = some c := ⟨_, List.getElem?_eq_getElem (by omega)⟩
    have hb0 := hbits c0 (List.mem_of_getElem? e0)
    have hb1 := hbits c1 (List.mem_of_getElem? e1)
    have hblk : blkN cs x.1 = 2 * c0 + c1 := by simp [blkN, List.getD, e0, e1]
    have hbl : b < W1.heap.size := Nat.lt_of_lt_of_le hbl0 hB1.size
    have hbl00 : b < W0.heap.size := by omega
    have hc0 : W1.cell? ⟨b, off + 2 * x.1, none⟩ = some (.int .i64 c0) := (hB1.cell (p := ⟨b, _, none⟩) hbl0).trans (((hB0.cell (p := ⟨b, _, none⟩) hbl0).symm).trans (hcells _ _ e0))
    have hc1 : W1.cell? ⟨b, off + 2 * x.1 + 1, none⟩ = some (.int .i64 c1) := (hB1.cell (p := ⟨b, _, none⟩) hbl0).trans (((hB0.cell (p := ⟨b, _, none⟩) hbl0).symm).trans (hcells _ _ e1))
    have hw0 : RowKit.wrap64 (2 * c0) = 2 * c0 := IntWalk.wrap64_in _ (by omega)
    have hw1 : RowKit.wrap64 (2 * c0 + c1) = 2 * c0 + c1 := IntWalk.wrap64_in _ (by omega)
    have hmx1 : pre.length + 1 ≤ maxLen := by unfold maxLen; omega
    have hmx2 : (pre.length + 1) * 8 ≤ 140737488355328 := by omega
    clear hcells hI e0 e1 hb0 hb1 hbits hlen hlt hx2
    gi_wp2
    refine wpIn_region_rgl 10 [(fun v W => v = u), (fun v W => v = .slice (some ⟨b, off + 2 * x.1, none⟩) 2 2), (fun v W => v = .pointer (some ⟨b, off + 2 * x.1, none⟩)), (fun v W => v = .int .i64 c0), (fun v W => v = .int .i64 (2 * c0)), (fun v W => v = .slice (some ⟨b, off + 2 * x.1, none⟩) 2 2), (fun v W => v = .pointer (some ⟨b, off + 2 * x.1 + 1, none⟩)), (fun v W => v = .int .i64 c1), (fun v W => v = .int .i64 (2 * c0 + c1)), (fun v W => ∃ g, v = .slice (some ⟨g, 0, none⟩) 1 1 ∧ W1.heap.size ≤ g ∧ W.heap[g]? = some (.cells #[.int .i64 (2 * c0 + c1)] 2 (0, 0)))] (fun i o ho c hc => by rcases i with _ | _ | _ | _ | _ | _ | _ | _ | _ | _ | _ | _ | i <;> (simp at ho; try (subst ho; cases hc))) (by kernel_rfl) (fun ⟨_, _, h⟩ => h) (fun _ _ _ _ _ h => h) (by kernel_rfl) (by kernel_rfl) ⟨StabI.val _, StabI.val _, StabI.val _, StabI.val _, StabI.val _, StabI.val _, StabI.val _, StabI.val _, StabI.val _, (fun v w w1 hb h => by obtain ⟨g, e, h1, h2⟩ := h; exact ⟨g, e, h1, (hb.block g (Array.getElem?_eq_some_iff.1 h2).1).trans h2⟩), trivial⟩ ⟨?_, ?_, ?_, ?_, ?_, ?_, ?_, ?_, ?_, ?_, ?_, ?_, trivial⟩ ?_
    · intro _ v w1 G hb hG hd
      clear hd; simp only [rgPut, rgDst, Act.put, List.getElem?_cons_zero, List.getElem?_cons_succ, Option.bind_some, List.setIfInBounds_toArray, List.set_cons_zero, List.set_cons_succ]
      have eB := (Below.cell hb (p := ⟨w.heap.size, 0, none⟩) hv.lt).trans hv.cell
      have e0 := (Below.cell hb (p := ⟨b, off + 2 * x.1, none⟩) hbl).trans hc0
      have e1 := (Below.cell hb (p := ⟨b, off + 2 * x.1 + 1, none⟩) hbl).trans hc1
      go_wp2
      exact ⟨rfl, Below.refl _ _, rfl, fun g hg => (by cases hg)⟩
    · intro _ v w1 G hb hG hd
      clear hd; simp only [rgPut, rgDst, Act.put, List.getElem?_cons_zero, List.getElem?_cons_succ, Option.bind_some, List.setIfInBounds_toArray, List.set_cons_zero, List.set_cons_succ]
      have eB := (Below.cell hb (p := ⟨w.heap.size, 0, none⟩) hv.lt).trans hv.cell
      have e0 := (Below.cell hb (p := ⟨b, off + 2 * x.1, none⟩) hbl).trans hc0
      have e1 := (Below.cell hb (p := ⟨b, off + 2 * x.1 + 1, none⟩) hbl).trans hc1
      go_wp2
      exact ⟨rfl, Below.refl _ _, rfl, fun g hg => (by cases hg)⟩
    · intro _ v w1 G hb hG hd
      have d1 : (fun (v : Value) (W : World) => v = .slice (some ⟨b, off + 2 * x.1, none⟩) 2 2) (v 1) w1 := hd 1 (by kernel_rfl)
      dsimp only at d1
      clear hd; simp only [rgPut, rgDst, Act.put, List.getElem?_cons_zero, List.getElem?_cons_succ, Option.bind_some, List.setIfInBounds_toArray, List.set_cons_zero, List.set_cons_succ, d1]
      have eB := (Below.cell hb (p := ⟨w.heap.size, 0, none⟩) hv.lt).trans hv.cell
      have e0 := (Below.cell hb (p := ⟨b, off + 2 * x.1, none⟩) hbl).trans hc0
      have e1 := (Below.cell hb (p := ⟨b, off + 2 * x.1 + 1, none⟩) hbl).trans hc1
      go_wp2
      exact ⟨rfl, Below.refl _ _, rfl, fun g hg => (by cases hg)⟩
    · intro _ v w1 G hb hG hd
      have d2 : (fun (v : Value) (W : World) => v = .pointer (some ⟨b, off + 2 * x.1, none⟩)) (v 2) w1 := hd 2 (by kernel_rfl)
      dsimp only at d2
      clear hd; simp only [rgPut, rgDst, Act.put, List.getElem?_cons_zero, List.getElem?_cons_succ, Option.bind_some, List.setIfInBounds_toArray, List.set_cons_zero, List.set_cons_succ, d2]
      have eB := (Below.cell hb (p := ⟨w.heap.size, 0, none⟩) hv.lt).trans hv.cell
      have e0 := (Below.cell hb (p := ⟨b, off + 2 * x.1, none⟩) hbl).trans hc0
      have e1 := (Below.cell hb (p := ⟨b, off + 2 * x.1 + 1, none⟩) hbl).trans hc1
      go_wp2
      exact ⟨rfl, Below.refl _ _, rfl, fun g hg => (by cases hg)⟩
    · intro _ v w1 G hb hG hd
      have d3 : (fun (v : Value) (W : World) => v = .int .i64 c0) (v 3) w1 := hd 3 (by kernel_rfl)
      dsimp only at d3
      clear hd; simp only [rgPut, rgDst, Act.put, List.getElem?_cons_zero, List.getElem?_cons_succ, Option.bind_some, List.setIfInBounds_toArray, List.set_cons_zero, List.set_cons_succ, d3]
      have eB := (Below.cell hb (p := ⟨w.heap.size, 0, none⟩) hv.lt).trans hv.cell
      have e0 := (Below.cell hb (p := ⟨b, off + 2 * x.1, none⟩) hbl).trans hc0
      have e1 := (Below.cell hb (p := ⟨b, off + 2 * x.1 + 1, none⟩) hbl).trans hc1
      go_wp2
      exact ⟨rfl, Below.refl _ _, (show Value.int .i64 (RowKit.wrap64 (2 * c0)) = .int .i64 (2 * c0) by rw [hw0]), fun g hg => (by cases hg)⟩
    · intro _ v w1 G hb hG hd
      clear hd; simp only [rgPut, rgDst, Act.put, List.getElem?_cons_zero, List.getElem?_cons_succ, Option.bind_some, List.setIfInBounds_toArray, List.set_cons_zero, List.set_cons_succ]
      have eB := (Below.cell hb (p := ⟨w.heap.size, 0, none⟩) hv.lt).trans hv.cell
      have e0 := (Below.cell hb (p := ⟨b, off + 2 * x.1, none⟩) hbl).trans hc0
      have e1 := (Below.cell hb (p := ⟨b, off + 2 * x.1 + 1, none⟩) hbl).trans hc1
      go_wp2
      exact ⟨rfl, Below.refl _ _, rfl, fun g hg => (by cases hg)⟩
    · intro _ v w1 G hb hG hd
      have d5 : (fun (v : Value) (W : World) => v = .slice (some ⟨b, off + 2 * x.1, none⟩) 2 2) (v 5) w1 := hd 5 (by kernel_rfl)
      dsimp only at d5
      clear hd; simp only [rgPut, rgDst, Act.put, List.getElem?_cons_zero, List.getElem?_cons_succ, Option.bind_some, List.setIfInBounds_toArray, List.set_cons_zero, List.set_cons_succ, d5]
      have eB := (Below.cell hb (p := ⟨w.heap.size, 0, none⟩) hv.lt).trans hv.cell
      have e0 := (Below.cell hb (p := ⟨b, off + 2 * x.1, none⟩) hbl).trans hc0
      have e1 := (Below.cell hb (p := ⟨b, off + 2 * x.1 + 1, none⟩) hbl).trans hc1
      go_wp2
      exact ⟨rfl, Below.refl _ _, rfl, fun g hg => (by cases hg)⟩
    · intro _ v w1 G hb hG hd
      have d6 : (fun (v : Value) (W : World) => v = .pointer (some ⟨b, off + 2 * x.1 + 1, none⟩)) (v 6) w1 := hd 6 (by kernel_rfl)
      dsimp only at d6
      clear hd; simp only [rgPut, rgDst, Act.put, List.getElem?_cons_zero, List.getElem?_cons_succ, Option.bind_some, List.setIfInBounds_toArray, List.set_cons_zero, List.set_cons_succ, d6]
      have eB := (Below.cell hb (p := ⟨w.heap.size, 0, none⟩) hv.lt).trans hv.cell
      have e0 := (Below.cell hb (p := ⟨b, off + 2 * x.1, none⟩) hbl).trans hc0
      have e1 := (Below.cell hb (p := ⟨b, off + 2 * x.1 + 1, none⟩) hbl).trans hc1
      go_wp2
      exact ⟨rfl, Below.refl _ _, rfl, fun g hg => (by cases hg)⟩
    · intro _ v w1 G hb hG hd
      have d4 : (fun (v : Value) (W : World) => v = .int .i64 (2 * c0)) (v 4) w1 := hd 4 (by kernel_rfl)
      have d7 : (fun (v : Value) (W : World) => v = .int .i64 c1) (v 7) w1 := hd 7 (by kernel_rfl)
      dsimp only at d4 d7
      clear hd; simp only [rgPut, rgDst, Act.put, List.getElem?_cons_zero, List.getElem?_cons_succ, Option.bind_some, List.setIfInBounds_toArray, List.set_cons_zero, List.set_cons_succ, d4, d7]
      have eB := (Below.cell hb (p := ⟨w.heap.size, 0, none⟩) hv.lt).trans hv.cell
      have e0 := (Below.cell hb (p := ⟨b, off + 2 * x.1, none⟩) hbl).trans hc0
      have e1 := (Below.cell hb (p := ⟨b, off + 2 * x.1 + 1, none⟩) hbl).trans hc1
      go_wp2
      exact ⟨rfl, Below.refl _ _, (show Value.int .i64 (RowKit.wrap64 (2 * c0 + c1)) = .int .i64 (2 * c0 + c1) by rw [hw1]), fun g hg => (by cases hg)⟩
    · intro _ v w1 G hb hG hd
      have d8 : (fun (v : Value) (W : World) => v = .int .i64 (2 * c0 + c1)) (v 8) w1 := hd 8 (by kernel_rfl)
      dsimp only at d8
      clear hd; simp only [rgPut, rgDst, Act.put, List.getElem?_cons_zero, List.getElem?_cons_succ, Option.bind_some, List.setIfInBounds_toArray, List.set_cons_zero, List.set_cons_succ, d8]
      have eB := (Below.cell hb (p := ⟨w.heap.size, 0, none⟩) hv.lt).trans hv.cell
      have e0 := (Below.cell hb (p := ⟨b, off + 2 * x.1, none⟩) hbl).trans hc0
      have e1 := (Below.cell hb (p := ⟨b, off + 2 * x.1 + 1, none⟩) hbl).trans hc1
      go_wp2
      exact ⟨rfl, (Below.refl _ _).alloc (Nat.le_refl _) _, ⟨_, rfl, hb.size, World.alloc_heap_new _ _⟩, fun g hg => (by cases hg)⟩
    · (intro hk; exact absurd hk (by decide))
    · (intro hk; exact absurd hk (by decide))
    intro v w1 hb hA
    have a0 : (fun (v : Value) (W : World) => v = u) (v 0) w1 := hA 0 (by decide)
    have a1 : (fun (v : Value) (W : World) => v = .slice (some ⟨b, off + 2 * x.1, none⟩) 2 2) (v 1) w1 := hA 1 (by decide)
    have a2 : (fun (v : Value) (W : World) => v = .pointer (some ⟨b, off + 2 * x.1, none⟩)) (v 2) w1 := hA 2 (by decide)
    have a3 : (fun (v : Value) (W : World) => v = .int .i64 c0) (v 3) w1 := hA 3 (by decide)
    have a4 : (fun (v : Value) (W : World) => v = .int .i64 (2 * c0)) (v 4) w1 := hA 4 (by decide)
    have a5 : (fun (v : Value) (W : World) => v = .slice (some ⟨b, off + 2 * x.1, none⟩) 2 2) (v 5) w1 := hA 5 (by decide)
    have a6 : (fun (v : Value) (W : World) => v = .pointer (some ⟨b, off + 2 * x.1 + 1, none⟩)) (v 6) w1 := hA 6 (by decide)
    have a7 : (fun (v : Value) (W : World) => v = .int .i64 c1) (v 7) w1 := hA 7 (by decide)
    have a8 : (fun (v : Value) (W : World) => v = .int .i64 (2 * c0 + c1)) (v 8) w1 := hA 8 (by decide)
    have a9 : (fun (v : Value) (W : World) => ∃ g, v = .slice (some ⟨g, 0, none⟩) 1 1 ∧ W1.heap.size ≤ g ∧ W.heap[g]? = some (.cells #[.int .i64 (2 * c0 + c1)] 2 (0, 0))) (v 9) w1 := hA 9 (by decide)
    dsimp only at a0 a1 a2 a3 a4 a5 a6 a7 a8 a9
    clear hA; simp only [rgPut, rgDst, Act.put, List.getElem?_cons_zero, List.getElem?_cons_succ, Option.bind_some, List.setIfInBounds_toArray, List.set_cons_zero, List.set_cons_succ, a0, a1, a2, a3, a4, a5, a6, a7, a8]
    (try clear a0 a1 a2 a3 a4 a5 a6 a7 a8)
    obtain ⟨g9, e9, h9, b9⟩ := a9
    simp only [e9]
    clear e9
    have hv1 : Boxed w1 w.heap.size 33 u := (hb.block _ hv.lt).trans hv
    have G1 : W1.grownBy w1 none := ⟨hb.os, hb.tape, hb.output, hb.size, fun k hk _ => hb.block k hk⟩
    have hrow1 := hrow.kept G1 (by cases hu : u.ownBlock <;> simp)
    have hsz1 := hb.size
    refine wpList_tl (by kernel_rfl) ?_
    simp only [List.drop_succ_cons, List.drop_zero]
    refine wpList_append_own_at _ rfl (.tmp 8) (.tmp 17) 33 rfl W0.heap.size 2 i0 (.int .i64 0) 1 8 Try.underlying33 hi hz0 hz1 hz2 rfl (by decide) u pre.length _ rfl hrow1 ⟨g9, 0, none⟩ 1 1 [.int .i64 (2 * c0 + c1)] rfl rfl (fun j y hj => by
      cases j with
      | zero => simp at hj; subst hj; simp [World.cell?, b9, Addr.add]
      | succ j => simp at hj) (by simp [Value.oneCell']) hmx1 hmx2 (Nat.le_trans hWs hsz1) ?_
    intro v' W2 hown' hgrow _ _
    obtain ⟨g', cap', rfl⟩ := ownsRow_succ hown'
    have hv2 : Boxed W2 w.heap.size 33 u := hv1.kept hgrow (hv1.not_row (by decide) hrow1)
    have cB := hv2.cell
    have fB := hv2.frozen
    have hrowne : ∀ j, u.ownBlock = some j → W0.heap.size ≤ j ∧ ∃ o : Obj, w1.heap[j]? = some o ∧ o.isCells = true := fun j ej => by
      rcases hrow1.2 with ⟨rfl, _⟩ | ⟨g, cp, cur, rfl, hg, hgb, _⟩
      · simp [Value.ownBlock] at ej
      · obtain rfl : g = j := by simpa [Value.ownBlock] using ej
        exact ⟨hg, _, hgb, rfl⟩
    clear hv hc0 hc1 hbl hw0 hw1 hmx1 hmx2
    go_wp2
    refine ⟨?_, ?_, ⟨⟨_, hv2.set _, ?_, trivial⟩, ?_⟩, ?_⟩
    · exact (((KeepsOthers.of_grownBy G1 (fun j o e _ => by cases e)).trans (KeepsOthers.of_grownBy hgrow fun j o ej hj => by
        obtain ⟨_, o', ho', hc'⟩ := hrowne j ej
        rw [ho'] at hj; cases hj; exact hc')).trans (KeepsOthers.setCell _ _ _)).from _
    · refine ⟨Nat.le_trans hsz1 (Nat.le_trans hgrow.size (by simp)), fun k hk hl => ?_⟩
      have hk1 : k ≠ w.heap.size := by omega
      refine ((grownBy_setCell' W2 w.heap.size _).block k (Nat.lt_of_lt_of_le hl (Nat.le_trans hsz1 hgrow.size)) (fun e => hk1 (by cases e; rfl))).trans ((hgrow.block k (Nat.lt_of_lt_of_le hl hsz1) (fun e => by have := (hrowne k e.symm).1; omega)).trans (hb.block k hl))
    · have := hown'.kept (grownBy_setCell' W2 w.heap.size (.slice (some ⟨g', 0, none⟩) (pre.length + 1) cap')) (.inr (hv2.not_row (by decide) hown').symm)
      rw [List.length_append, List.map_append, List.map_singleton, hblk]
      exact this
    · exact ((hB1.trans (hb.mono hB1.size)).grown hgrow (Nat.le_trans hB1.size hsz1) (fun k e => by have := (hrowne k e).1; omega)).setCell (p := ⟨w.heap.size, 0, none⟩) (Nat.le_refl _) _
    · exact Nat.le_trans hWs (Nat.le_trans hsz1 (Nat.le_trans hgrow.size (by simp)))
  case done =>
    rintro D ys W hD hys ⟨⟨⟨v, hv, hrow, _⟩, hB1⟩, hWs⟩ hK
    have cO := hv.cell
    gi_wp2
    refine ⟨by simp, .inl ⟨_, _, rfl, run_takeDeferred hK, ?_⟩⟩
    have hlen2 : ys.length = h := by
      have := congrArg List.length hys
      simpa using this
    refine ⟨_, results_tmp rfl _ _ _, v, rfl, ?_, hB1.trans (belowK_b (w := w) (Nat.le_refl _) W D _ _ (by omega) hK rfl rfl)⟩
    have h2 := ownsRow_putObj hrow (.deferred none) hK rfl
    rw [hlen2, show (ys.map fun x => Value.int .i64 (blkN cs x.1)) = (List.range h).map fun k => Value.int .i64 (blkN cs k) by rw [← hys, List.map_map]; rfl] at h2
    refine ⟨h2.1, ?_⟩
    rcases h2.2 with h3 | ⟨g, cp, cur, h3, h4, h5⟩
    · exact .inl h3
    · exact .inr ⟨g, cp, cur, h3, by omega, h5⟩
  case stop =>
    rintro D c pre W _ _ h _
    exact h.elim
theorem ET.intsL {W : World} : ∀ l : List Int, (∀ n ∈ l, okI (.int .i64 n)) → ET W (l.map (Value.int .i64)) (ints l).flatten []
  | [], _ => .nil
  | n :: l, h => .pv rfl (h n (by simp)) (ET.intsL l fun m hm => h m (by simp [hm]))
theorem blkN_bd {cs : List Int} {h k : Nat} (hcs : cs.length = 2 * h) (hbits : ∀ c ∈ cs, 0 ≤ c ∧ c ≤ 1) (hk : k < h) : 0 ≤ blkN cs k ∧ blkN cs k ≤ 3 := by
  obtain ⟨c0, e0⟩ : ∃ c, cs[2 * k]? = some c := ⟨_, List.getElem?_eq_getElem (by omega)⟩
  obtain ⟨c1, e1⟩ : ∃ c, cs[2 * k + 1]? = some c := ⟨_, List.getElem?_eq_getElem (by omega)⟩
  have := hbits c0 (List.mem_of_getElem? e0)
  have := hbits c1 (List.mem_of_getElem? e1)
  have : blkN cs k = 2 * c0 + c1 := by simp [blkN, List.getD, e0, e1]
  omega
theorem blkN_ok {cs : List Int} {h k : Nat} (hcs : cs.length = 2 * h) (hbits : ∀ c ∈ cs, 0 ≤ c ∧ c ≤ 1) (hk : k < h) : okI (.int .i64 (blkN cs k)) := by
  have := blkN_bd hcs hbits hk
  obtain ⟨m, hm⟩ : ∃ m : Nat, blkN cs k = m := ⟨(blkN cs k).toNat, by omega⟩
  rw [hm]
  exact okI_len (by unfold maxLen; omega)
theorem iBlocks (cs : List Int) (h : Nat) (hcs : cs.length = 2 * h) (hbits : ∀ c ∈ cs, 0 ≤ c ∧ c ≤ 1) (hlen : cs.length ≤ 1048576) : Spec Try.prog 35 [vL kI (ints cs)] (oN kI (ints ((List.range h).map (blkN cs)))) := by
  refine ⟨callFunc_enter Try.func35 rfl (by simp [Try.f35]), fun w R ι φ vs hR hF ho => ?_⟩
  cases hF with | cons h1 h2 =>
  cases h2
  rename_i v
  have h1 : RD w R v (.rd kI (ints cs)) := h1
  obtain ⟨a, len, cap, rfl⟩ : ∃ a len cap, v = .slice a len cap := by
    generalize ints cs = xs at h1
    cases h1
    · exact ⟨_, _, _, rfl⟩
    · exact ⟨_, _, _, rfl⟩
  obtain ⟨b, off, hI⟩ : ∃ b off, ISl w w.heap.size (.slice a len cap) cs b off := by
    generalize hxs : ints cs = xs at h1
    cases h1 with
    | nil => exact ⟨0, 0, .inl ⟨List.map_eq_nil_iff.1 hxs, _, _, rfl⟩⟩
    | rd c g0 g1 g2 gR gk gc gr =>
      have hl : xs.length = cs.length := by rw [← hxs]; simp
      refine ⟨_, _, .inr ⟨_, by rw [hl], hR _ gR, by omega, g2, fun i n hn => ?_⟩⟩
      have hx : xs[i]? = some (enI n) := by rw [← hxs, List.getElem?_map, hn]; rfl
      have e1 := gc i _ 0 hx (by decide)
      have e2 := gr i _ 0 _ hx rfl
      generalize c i 0 = u at e1 e2
      cases e2
      have e3 : ∀ o : Nat, o + i * kI.k + 0 = o + i := fun o => by show o + i * 1 + 0 = o + i; omega
      rw [e3] at e1
      exact e1
  refine (callsIn_wide.1 (blocks1 _ a len cap rfl cs h b off hcs hbits hlen w hI)).mono ?_
  rintro e w1 ⟨v, rfl, hrow, hbl⟩
  have hg : ∀ o x, frO ([(0, Ob.arr kI (ints ((List.range h).map (blkN cs))) [])]) o = some x → o = 0 ∧ x = .arr kI (ints ((List.range h).map (blkN cs))) [] := fun o x hf => by
    simp only [frO, upd] at hf
    split at hf
    · cases hf; exact ⟨by assumption, rfl⟩
    · cases hf
  have hown : ∀ g, v.ownBlock = some g → w.heap.size ≤ g ∧ g < w1.heap.size := fun g hg => by
    rcases hrow.2 with ⟨rfl, _⟩ | ⟨g', cp, cur, rfl, h1, h2, _⟩
    · simp [Value.ownBlock] at hg
    · obtain rfl : g' = g := by simpa [Value.ownBlock] using hg
      exact ⟨h1, (Array.getElem?_eq_some_iff.1 h2).1⟩
  refine ⟨_, rfl, R, upd ι 0 v, upd φ 0 v.ownBlock.toList, BelowM.of_below hbl, fun b h => h, fun b h => Nat.lt_of_lt_of_le (hR b h) hbl.size, fun b h _ => .inl h, ?_, ⟨fun o x hf => ?_, fun o x hf g hgm => ?_, fun o p x y g hf hf' _ _ => (hg o x hf).1.trans (hg p y hf').1.symm⟩, fun g hf => ?_, fun o hf => upd_ne _ _ (fun e => by subst e; exact absurd hf (by decide))⟩
  · exact ⟨⟨_, upd_same _ _ _⟩, (upd_same _ _ _).symm⟩
  · obtain ⟨rfl, rfl⟩ := hg o x hf
    rw [upd_same, upd_same]
    refine ⟨fun es he => ?_, _, [], ?_, EH.of_ET (?_ : ET w1 ((List.range h).map fun k => Value.int .i64 (blkN cs k)) (ints ((List.range h).map (blkN cs))).flatten []), by simp, by cases v.ownBlock <;> simp⟩
    · obtain ⟨n, _, rfl⟩ := List.mem_map.1 he
      rfl
    · have hl2 : (ints ((List.range h).map (blkN cs))).length = h := by simp
      rw [hl2]
      refine ⟨hrow.1, ?_⟩
      rcases hrow.2 with h3 | ⟨g, cp, cur, h3, h4, h5⟩
      · exact .inl h3
      · exact .inr ⟨g, cp, cur, h3, Nat.zero_le _, h5⟩
    · have hE := ET.intsL (W := w1) ((List.range h).map (blkN cs)) (fun n hn => by
        obtain ⟨k, hk, rfl⟩ := List.mem_map.1 hn
        exact blkN_ok hcs hbits (List.mem_range.1 hk))
      rw [List.map_map] at hE
      exact hE
  · obtain ⟨rfl, rfl⟩ := hg o x hf
    rw [upd_same] at hgm
    have := hown g (by simpa using hgm)
    exact ⟨fun hr => by have := hR g hr; omega, this.2⟩
  · obtain ⟨o, x, hf, hgm⟩ := hf
    obtain ⟨rfl, rfl⟩ := hg o x hf
    rw [upd_same] at hgm
    exact .inr (hown g (by simpa using hgm)).1
end Go.Proofs.Ytddklkoocpjjkaa
