/- Rp1 and Rp2 and Rp3 and RpP and Rp4. -/
import Derived.Test.YtnadbadljbfbbaaDoorRPg
import Derived.Test.YtnadbadljbfbbaaDoorRPb
import Derived.Test.YtnadbadljbfbbaaDoorBoil
import Derived.RangeFuncNested
import Derived.RangeFuncBound
import Derived.RangeFuncCalls
import Derived.RangeFuncLeaves
import Derived.Shelf.RegionOpen
import Derived.WalkKit
import Derived.OwnWalkIn
import Derived.TacticsInMore
import Derived.LoopNIn
import Derived.LoopIn
import Derived.Maps.AppendAt
import Derived.Lib.Hide
import Derived.Test.YtnadbadljbfbbaaDoorRPc
import Derived.Test.YtnadbadljbfbbaaDoorShS
import Derived.Test.YtnadbadljbfbbaaDoorBel
namespace Go.Proofs.YtnadbadljbfbbaaDoor
open Go.RowKit
set_option maxRecDepth 100000 in
def S.s18 : SC := (.seq (.reg [⟨(.some 4), .none, .false, (.mv (.const (Go.Value.slice none 0 0)))⟩]) (.seq (.reg [⟨(.some 8), .none, .false, (.bsl (.mk 9 1) 0 [])⟩, ⟨(.some 5), .none, .false, (.mv (.tmp 8))⟩]) (.seq (.reg [⟨(.some 6), .none, .false, (.mv (.const (Go.Value.int Go.IntKind.i64 0)))⟩]) (.seq (.seq (.reg [⟨(.some 7), .none, .false, (.mv (.const (Go.Value.int Go.IntKind.i64 0)))⟩]) (.block 0 (.loop (.seq (.seq (.reg [⟨(.some 9), .none, .false, (.mv (.tmp 7))⟩, ⟨(.some 10), .none, .false, (.mv (.tmp 0))⟩, ⟨(.some 11), .none, .false, (.slen (.tmp 10))⟩, ⟨(.some 12), .none, .false, (.bin .lss (.tmp 9) (.tmp 11))⟩]) (.cond (.tmp 12) .skip (.exit 0))) (.seq (.block 1 (.seq (.reg [⟨(.some 15), .none, .false, (.mv (.tmp 0))⟩, ⟨(.some 16), .none, .false, (.mv (.tmp 7))⟩, ⟨(.some 17), .none, .false, (.six (.tmp 15) (.tmp 16))⟩, ⟨(.some 18), .none, .false, (.mv (.tmp 1))⟩, ⟨(.some 19), .none, .false, (.bin .eql (.tmp 17) (.tmp 18))⟩]) (.cond (.tmp 19) (.seq (.reg [⟨(.some 20), .none, .false, (.mv (.tmp 5))⟩, ⟨(.some 21), .none, .false, (.mv (.tmp 0))⟩, ⟨(.some 22), .none, .false, (.mv (.tmp 6))⟩, ⟨(.some 23), .none, .false, (.mv (.tmp 7))⟩, ⟨(.some 24), .none, .false, (.sslc (.tmp 21) (.some (.tmp 22)) (.some (.tmp 23)))⟩, ⟨(.some 25), .none, .false, (.bsl (.mk 9 1) 1 [(0, (.tmp 24))])⟩, ⟨(.some 26), .none, .false, (.app (.mk 9 1) 16 (.tmp 20) (.tmp 25))⟩, ⟨(.some 5), .none, .false, (.mv (.tmp 26))⟩]) (.reg [⟨(.some 27), .none, .false, (.mv (.tmp 7))⟩, ⟨(.some 28), .none, .false, (.bin .add (.tmp 27) (.const (Go.Value.int Go.IntKind.i64 1)))⟩, ⟨(.some 6), .none, .false, (.mv (.tmp 28))⟩])) .skip))) (.reg [⟨(.some 13), .none, .false, (.mv (.tmp 7))⟩, ⟨(.some 14), .none, .false, (.bin .add (.tmp 13) (.const (Go.Value.int Go.IntKind.i64 1)))⟩, ⟨(.some 7), .none, .false, (.mv (.tmp 14))⟩])))))) (.seq (.reg [⟨(.some 29), .none, .false, (.mv (.tmp 5))⟩, ⟨(.some 30), .none, .false, (.mv (.tmp 0))⟩, ⟨(.some 31), .none, .false, (.mv (.tmp 6))⟩, ⟨(.some 32), .none, .false, (.sslc (.tmp 30) (.some (.tmp 31)) .none)⟩, ⟨(.some 33), .none, .false, (.bsl (.mk 9 1) 1 [(0, (.tmp 32))])⟩, ⟨(.some 34), .none, .false, (.app (.mk 9 1) 16 (.tmp 29) (.tmp 33))⟩, ⟨(.some 4), .none, .false, (.mv (.tmp 34))⟩]) .ret)))))
set_option maxRecDepth 100000 in
theorem S.ok18 : stripF Tryd.prog Tryd.f18 = some S.s18 := by kernel_rfl
set_option maxRecDepth 20000
set_option maxHeartbeats 8000000
attribute [local go_sem] Oper.semAt_some
/-- The cells of a slice of strings in a world. -/
def SCells (W : World) (b : Nat) (ps : List ByteArray) : Prop := ∀ (i : Nat) (p : ByteArray), ps[i]? = some p → W.cell? ⟨b, i, none⟩ = some (.string p)
/-- These blocks lie as they lay. -/
def KpS (n b : Nat) (W W' : World) : Prop := W.heap.size ≤ W'.heap.size ∧ ∀ k, (k < n ∨ k = b) → k < W.heap.size → W'.heap[k]? = W.heap[k]?
theorem KpS.refl (n b : Nat) (W : World) : KpS n b W W := ⟨Nat.le_refl _, fun _ _ _ => rfl⟩
theorem KpS.trans {n b : Nat} {W1 W2 W3 : World} (h : KpS n b W1 W2) (k : KpS n b W2 W3) : KpS n b W1 W3 :=
  ⟨Nat.le_trans h.1 k.1, fun i hi hl => (k.2 i hi (Nat.lt_of_lt_of_le hl h.1)).trans (h.2 i hi hl)⟩
theorem KpS.cell {n b : Nat} {W W' : World} (h : KpS n b W W') {p : Addr} {v : Value} (hp : p.block < n ∨ p.block = b) (hv : W.cell? p = some v) : W'.cell? p = some v := by
  have hl : p.block < W.heap.size := by
    obtain ⟨o, ho, _⟩ := cells_of_cell hv
    exact (Array.getElem?_eq_some_iff.1 ho).1
  exact (World.cell?_of_block (h.2 _ hp hl)).trans hv
theorem revS_take {n m : Nat} (h : m < n) : (List.range n).reverse.take (n - m) = (List.range n).reverse.take (n - (m + 1)) ++ [m] := by
  rw [show n - m = (n - (m + 1)) + 1 by omega, List.take_add_one]
  congr 1
  rw [List.getElem?_reverse (by simp; omega), List.length_range, List.getElem?_range (by omega), show n - 1 - (n - (m + 1)) = m by omega]
  rfl
theorem backS1 (l Bs n₀ b cap : Nat) (ps : List ByteArray) (hlen : ps.length ≤ cap) (hcap : cap ≤ maxLen) (hb : b < n₀) (J Jx : List {i : Nat // i < ps.length} → World → Prop)
    (hY : ∀ pre (x : {i : Nat // i < ps.length}) W, J pre W → pre.length < ps.length → YieldAt Fence.wide 8 Tryd.prog l #[.int .i64 x.1, .string ps[x.1]] W fun e W' =>
      (e = .returned (.bool true) ∧ J (pre ++ [x]) W' ∧ KpS n₀ Bs W W') ∨ (e = .returned (.bool false) ∧ Jx (pre ++ [x]) W'))
    (W : World) (hBs : W.cell? ⟨Bs, 0, none⟩ = some (.slice (some ⟨b, 0, none⟩) ps.length cap)) (hc : SCells W b ps) (h0 : J [] W) :
    CallsIn Fence.wide 9 Tryd.prog 42 #[.func (.yield l) #[] #[], .pointer (some ⟨Bs, 0, none⟩)] W fun e W' => (∃ v, e = .returned v) ∧
      ((∃ ys, ys.map (·.1) = (List.range ps.length).reverse ∧ J ys W') ∨ (∃ pre, True ∧ Jx pre W')) := by
  refine callsIn_of_wp Tryd.func42 rfl trivial ?_ rfl
  simp only [Tryd.ntmps42, List.size_toArray, List.length_cons, List.length_nil, Nat.reduceAdd, Nat.reduceSub, Array.replicate_succ, Array.replicate_zero, List.push_toArray, List.append_toArray, List.nil_append, List.cons_append]
  have hm : ps.length ≤ maxLen := by omega
  gi_wp2
  gi_loopw [3] (fun i wr => ∃ (m : Nat) (z : Int), m ≤ ps.length ∧ z = (m : Int) - 1 ∧ i = .int .i64 z ∧ (∃ pre : List {i : Nat // i < ps.length}, pre.map (·.1) = (List.range ps.length).reverse.take (ps.length - m) ∧ J pre wr) ∧ KpS n₀ Bs W wr)
    (fun i _ => (intOf i + 1).toNat)
  case atStart => exact ⟨ps.length, RowKit.wrap64 ((ps.length : Int) - 1), Nat.le_refl _, by unfold maxLen at hm; unfold RowKit.wrap64; omega, rfl, ⟨[], by simp, h0⟩, KpS.refl _ _ _⟩
  case round =>
    obtain ⟨m, z, hm', hz', rfl, ⟨pre, hpre, hJs⟩, hnx⟩ := hrel
    cases m with
    | zero =>
      obtain rfl : z = -1 := by omega
      clear hz'
      gi_wp2
      go_end0
      exact ⟨⟨_, rfl⟩, .inl ⟨pre, by rw [hpre, List.take_of_length_le (by simp)], hJs⟩⟩
    | succ m =>
      obtain rfl : z = (m : Int) := by omega
      clear hz'
      have c0 := hc m ps[m] (List.getElem?_eq_getElem (by omega))
      have dB := hnx.cell (p := ⟨Bs, 0, none⟩) (.inr rfl) hBs
      have d0 := hnx.cell (p := ⟨b, m, none⟩) (.inl hb) c0
      have hlp : pre.length < ps.length := by
        have := congrArg List.length hpre
        simp at this
        omega
      obtain ⟨fn, tmps, assign, body, hy, hR⟩ := hY pre ⟨m, by omega⟩ wr hJs hlp
      dsimp only at hy
      gi_wp2
      refine hR.mono ?_
      rintro e W3 (⟨rfl, hJ3, hk3⟩ | ⟨rfl, hJx3⟩)
      · gi_wp2
        go_roundw
        case rel => exact ⟨m, RowKit.wrap64 ((m : Int) - 1), by omega, by unfold maxLen at hm; unfold RowKit.wrap64; omega, by simp, ⟨_, by rw [List.map_append, hpre, revS_take (m := m) hm']; rfl, hJ3⟩, hnx.trans hk3⟩
        case measure => simp [intOf]; unfold RowKit.wrap64; unfold maxLen at hm; omega
      · gi_wp2
        refine bodyPost_ret (results_none rfl _ _ _) rfl ?_
        exact ⟨⟨_, rfl⟩, .inr ⟨_, trivial, hJx3⟩⟩
theorem backS_in (a : Option Addr) (len cap : Nat) (w : World) :
    CallsIn Fence.wide 9 Tryd.prog 21 #[.slice a len cap] w fun e w' => e = .returned (.func (.func 42) #[] #[.pointer (some ⟨w.heap.size, 0, none⟩)]) ∧ w' = w.alloc (.cells #[.slice a len cap] 39) := by
  refine callsIn_of_wp Tryd.func21 rfl trivial ?_ rfl
  simp only [Tryd.ntmps21, List.size_toArray, List.length_cons, List.length_nil, Nat.reduceAdd, Nat.reduceSub, Array.replicate_succ, Array.replicate_zero, List.push_toArray, List.append_toArray, List.nil_append, List.cons_append]
  gi_wp2
  go_ret
  exact ⟨rfl, rfl⟩
theorem backS_stops (Bs n₀ b cap : Nat) (ps : List ByteArray) (w : World) (hBs : Bs < w.heap.size) (hlen : ps.length ≤ cap) (hcap : cap ≤ maxLen) (hb : b < n₀) (hbw : b < w.heap.size)
    (hc : w.cell? ⟨Bs, 0, none⟩ = some (.slice (some ⟨b, 0, none⟩) ps.length cap)) (hI : SCells w b ps) :
    SeqStopsK Fence.wide 9 Tryd.prog 42 #[.pointer (some ⟨Bs, 0, none⟩)] (fun x : {i : Nat // i < ps.length} => #[Value.int .i64 x.1, Value.string ps[x.1]]) (KpS n₀ Bs) (fun ys => ys.map (·.1) = (List.range ps.length).reverse) (fun _ => True) ps.length w := fun l J Jx W hW _ _ hY h0 =>
  backS1 l Bs n₀ b cap ps hlen hcap hb J Jx hY W ((hW.cell (p := ⟨Bs, 0, none⟩) hBs).trans hc) (fun i p hp => (hW.cell (p := ⟨b, _, none⟩) hbw).trans (hI i p hp)) h0
attribute [local go_sem] Oper.semAt_some
theorem infoI64' : (Tryd.prog.info? 2).map (fun i => (i.zero, i.size, i.bytes)) = some (some (.int .i64 0), 1, 8) := by kernel_rfl
/-- The numbers of a row. -/
def rowC (r : ByteArray) : List Int := r.data.toList.map fun b => (b.toNat : Int) - 97
theorem wpList_tl {P : Program} {l : List Oper} {n : Nat} {ops : Array Oper} {Q : Exit → Act → World → Prop} {a : Act} {w : World} (h : rgTl l n = l.drop n) (k : wpList P ops Q (l.drop n) a w) : wpList P ops Q (rgTl l n) a w := h ▸ k
theorem intOf_int' (x : Int) : intOf (.int .i64 x) = x := rfl
/-- The pattern's box: its sizes, and a row of the call's own. -/
def PBox (W : World) (n₀ B : Nat) (x y : Int) (cs : List Int) : Prop := ∃ v, W.heap[B]? = some (.cells #[.int .i64 x, .int .i64 y, v] 24 (0, 0)) ∧ W.ownsRow n₀ 2 1 v cs.length (cs.map (Value.int .i64))
/-- The result's box. -/
def RBox (W : World) (B : Nat) : Prop := W.heap[B]? = some (.cells #[.int .i64 0, .int .i64 0, .slice none 0 0] 24 (0, 0))
theorem RBox.facts {W : World} {B : Nat} (h : RBox W B) : (W.cell? ⟨B, 0, none⟩ = some (.int .i64 0) ∧ W.cell? ⟨B, 1, none⟩ = some (.int .i64 0) ∧ W.cell? ⟨B, 2, none⟩ = some (.slice none 0 0)) ∧ W.frozen? ⟨B, 0, none⟩ = false ∧ W.frozen? ⟨B, 1, none⟩ = false ∧ W.frozen? ⟨B, 2, none⟩ = false := by
  have h' : W.heap[B]? = _ := h
  simp [World.cell?, World.frozen?, h']
theorem RBox.keep {W W' : World} {B : Nat} (h : RBox W B) (hb : Below W.heap.size W W') : RBox W' B := (hb.block _ (Array.getElem?_eq_some_iff.1 h).1).trans h
theorem rbox_own {β : Type} (B : Nat) : Own (fun (_ : β) W => RBox W B) := by
  rintro s X Y row hv hg hrow
  refine (hg.block B (Array.getElem?_eq_some_iff.1 hv).1 (fun e' => ?_)).trans hv
  obtain ⟨o, ho, hc⟩ := hrow B e'.symm
  rw [hv] at ho; cases ho; cases hc
theorem pbox_own {β : Type} (n₀ B : Nat) (x y : Int) (f : β → List Int) : Own (fun s W => PBox W n₀ B x y (f s)) := by
  rintro s X Y row ⟨v, hv, hr⟩ hg hrow
  refine ⟨v, (hg.block B (Array.getElem?_eq_some_iff.1 hv).1 (fun e' => ?_)).trans hv, hr.kept hg ?_⟩
  · obtain ⟨o, ho, hc⟩ := hrow B e'.symm
    rw [hv] at ho; cases ho; cases hc
  · rcases hr.2 with ⟨rfl, _⟩ | ⟨g, cap, cur, rfl, _, hgb, _⟩
    · exact .inl rfl
    · refine .inr fun e' => ?_
      obtain ⟨o, ho, hc⟩ := hrow g (by simpa [Value.ownBlock] using e'.symm)
      rw [hgb] at ho; cases ho; cases hc
theorem pbox_set {W : World} {B T : Nat} {a b c : Value} (h : W.heap[B]? = some (.cells #[a, b, c] T (0, 0))) (v : Value) : (W.setCell ⟨B, 2, none⟩ v).heap[B]? = some (.cells #[a, b, v] T (0, 0)) := by
  obtain ⟨hlt, hk⟩ := Array.getElem?_eq_some_iff.1 h
  show (W.heap.modify B _)[B]? = _
  rw [Array.getElem?_eq_getElem (by rw [Array.size_modify]; exact hlt), Array.getElem_modify_self, hk]
  rfl
theorem grownBy_setCell2 (W : World) (b o : Nat) (v : Value) : W.grownBy (W.setCell ⟨b, o, none⟩ v) (some b) :=
  ⟨rfl, rfl, rfl, (KeepsWalks.setCell W _ v).size, fun k _ hk => Below.heap_setCell _ _ _ k (fun e => hk (by rw [e]))⟩
theorem results_pat {W : World} {B : Nat} {x y v c : Value} {tmps : Array Value} (hB : tmps[2]? = some (.pointer (some ⟨B, 0, none⟩))) (hc : tmps[3]? = some c)
    (h0 : W.cell? ⟨B, 0, none⟩ = some x) (h1 : W.cell? ⟨B, 1, none⟩ = some y) (h2 : W.cell? ⟨B, 2, none⟩ = some v) :
    (results Tryd.f6 tmps).run Tryd.prog W = .ok (.tuple #[.agg #[x, y, v], c]) W := by
  simp [results, hB, hc, loadVar, asAddr, Tryd.isAgg24, Tryd.sizeOf24, loadCells, loadCellsFrom, h0, h1, h2, go_sem, Addr.add]
theorem box_set {W : World} {B T i : Nat} {cs : Array Value} (h : W.heap[B]? = some (.cells cs T (0, 0))) (v : Value) : (W.setCell ⟨B, i, none⟩ v).heap[B]? = some (.cells (cs.setIfInBounds i v) T (0, 0)) := by
  obtain ⟨hlt, hk⟩ := Array.getElem?_eq_some_iff.1 h
  show (W.heap.modify B _)[B]? = _
  rw [Array.getElem?_eq_getElem (by rw [Array.size_modify]; exact hlt), Array.getElem_modify_self, hk]
  rfl
theorem pat_close {w W : World} {D T : Nat} {a b c : Value} {code : Int} {tmps : Array Value} {a0 b0 c0 : Value} {Q : Ending → World → Prop} (hW : Below w.heap.size w W) (hD : w.heap.size + 4 ≤ D) (hK : W.heap[D]? = some (.deferred (some []))) (hR : W.heap[w.heap.size]? = some (.cells #[a0, b0, c0] T (0, 0)))
    (ht2 : tmps[2]? = some (.pointer (some ⟨w.heap.size, 0, none⟩))) (ht3 : tmps[3]? = some (.int .i64 code)) (hQ : ∀ W3 : World, Below w.heap.size w W3 → W.heap.size ≤ W3.heap.size → (∀ k, k < W.heap.size → k ≠ D → k ≠ w.heap.size → W3.heap[k]? = W.heap[k]?) → Q (.returned (.tuple #[.agg #[a, b, c], .int .i64 code])) W3) :
    bodyPostM Fence.wide 10 Tryd.prog Tryd.f6 Q .ret { tmps := tmps, defers := [{ target := .collected D, args := #[] }] } (((W.setCell ⟨w.heap.size, 0, none⟩ a).setCell ⟨w.heap.size, 1, none⟩ b).setCell ⟨w.heap.size, 2, none⟩ c) := by
  have hb := box_set (box_set (box_set (i := 0) hR a) (i := 1) b) (i := 2) c
  have ho : ∀ k, k ≠ w.heap.size → (((W.setCell ⟨w.heap.size, 0, none⟩ a).setCell ⟨w.heap.size, 1, none⟩ b).setCell ⟨w.heap.size, 2, none⟩ c).heap[k]? = W.heap[k]? := fun k hk =>
    (Below.heap_setCell _ _ _ k hk).trans ((Below.heap_setCell _ _ _ k hk).trans (Below.heap_setCell _ _ _ k hk))
  have hB := ((hW.setCell (p := ⟨w.heap.size, 0, none⟩) (Nat.le_refl _) a).setCell (p := ⟨w.heap.size, 1, none⟩) (Nat.le_refl _) b).setCell (p := ⟨w.heap.size, 2, none⟩) (Nat.le_refl _) c
  have hsz : W.heap.size ≤ (((W.setCell ⟨w.heap.size, 0, none⟩ a).setCell ⟨w.heap.size, 1, none⟩ b).setCell ⟨w.heap.size, 2, none⟩ c).heap.size := by simp
  have hK' := (ho D (by omega)).trans hK
  generalize (((W.setCell ⟨w.heap.size, 0, none⟩ a).setCell ⟨w.heap.size, 1, none⟩ b).setCell ⟨w.heap.size, 2, none⟩ c) = W2 at *
  refine ⟨by simp, .inl ⟨_, _, rfl, run_takeDeferred hK', ?_⟩⟩
  have hb3 : (W2.putObj D (.deferred none)).heap[w.heap.size]? = some (.cells #[a, b, c] T (0, 0)) := (World.putObj_heap_other (by omega)).trans hb
  exact ⟨_, results_pat ht2 ht3 (by simp [World.cell?, hb3]) (by simp [World.cell?, hb3]) (by simp [World.cell?, hb3]), hQ _ (hB.trans (belowK_b (w := w) (Nat.le_refl _) _ D _ _ (by omega) hK' rfl rfl)) (Nat.le_trans hsz (by simp)) fun k hk h1 h2 => (World.putObj_heap_other h1).trans (ho k h2)⟩
theorem flatMap_len {α : Type} (f : α → List Int) (c : Nat) : ∀ l : List α, (∀ x ∈ l, (f x).length ≤ c) → (l.flatMap f).length ≤ l.length * c
  | [], _ => by simp
  | x :: l, h => by
    have h1 := h x (by simp)
    have h2 := flatMap_len f c l fun y hy => h y (by simp [hy])
    rw [List.flatMap_cons, List.length_append, List.length_cons, Nat.succ_mul]
    omega
theorem rowC_len (r : ByteArray) : (rowC r).length = r.size := by simp [rowC]
theorem rowC_get {r : ByteArray} {k : Nat} {b : UInt8} (h : r.data[k]? = some b) : (rowC r)[k]? = some ((b.toNat : Int) - 97) := by
  unfold rowC
  rw [List.getElem?_map, Array.getElem?_toList, h]
  rfl
theorem cells_max (cs r : List Int) (k : Nat) (hc : cs.length ≤ 1048577 * 1048576) (hk : k ≤ 1048576) : (cs ++ r.take k).length + 1 ≤ maxLen ∧ ((cs ++ r.take k).length + 1) * 8 ≤ 140737488355328 := by
  have h1 : (cs ++ r.take k).length ≤ cs.length + k := by
    rw [List.length_append]
    exact Nat.add_le_add_left (List.length_take_le _ _) _
  have h2 : cs.length ≤ 1099512676352 := hc
  unfold maxLen
  constructor
  · omega
  · omega
theorem okI_sm {n : Int} (h : -1000 ≤ n ∧ n ≤ 1000) : okI (.int .i64 n) := by
  show (Lit.int .i64 n).wf = true
  rw [wf_iff]
  simp [IntKind.min, IntKind.max, IntKind.signed, IntKind.bits]
  omega
theorem rowC_ok (r : ByteArray) : ∀ c ∈ rowC r, okI (.int .i64 c) := fun c hc => by
  obtain ⟨b, _, rfl⟩ := List.mem_map.1 hc
  have := b.toNat_lt
  exact okI_sm ⟨by omega, by omega⟩
/-- The pattern as it is read, and the answer. -/
def patR (rows : List ByteArray) : TPattern := ⟨(rows.headD ⟨#[]⟩).size, rows.length, rows.reverse.flatMap rowC⟩
open Classical in
noncomputable def fRP (s : ByteArray) (rows : List ByteArray) : TPattern × Int := if okPat (patR rows) ∧ fPT (patR rows) = s then (patR rows, 0) else (⟨0, 0, []⟩, 6)
theorem flat_idx (rows : List ByteArray) : ∀ (ys : List {i : Nat // i < rows.length}), ys.flatMap (fun x => rowC rows[x.1]) = (ys.map (·.1)).flatMap fun i => rowC (rows.getD i ⟨#[]⟩)
  | [] => rfl
  | y :: ys => by
    rw [List.flatMap_cons, List.map_cons, List.flatMap_cons, flat_idx rows ys]
    congr 2
    rw [List.getD, List.getElem?_eq_getElem y.2]
    rfl
theorem flat_rev (rows : List ByteArray) : (List.range rows.length).reverse.flatMap (fun i => rowC (rows.getD i ⟨#[]⟩)) = rows.reverse.flatMap rowC := by
  have h : (List.range rows.length).map (fun i => rows.getD i ⟨#[]⟩) = rows := by
    apply List.ext_getElem?
    intro i
    by_cases hi : i < rows.length
    · rw [List.getElem?_map, List.getElem?_range hi, List.getElem?_eq_getElem hi]
      simp [List.getD, hi]
    · rw [List.getElem?_eq_none (by simp; omega), List.getElem?_eq_none (by omega)]
  conv => rhs; rw [← h, ← List.map_reverse, List.flatMap_map]
theorem readPat1 (s : ByteArray) (r0 : ByteArray) (rest : List ByteArray) (hlen : (r0 :: rest).length ≤ 1048577) (htot : ∀ r ∈ r0 :: rest, r.size ≤ 1048576) (w : World) (hTb : TabsOk w)
    (hSp : ∀ W : World, Below w.heap.size w W → CallsIn Fence.wide 9 Tryd.prog 20 #[.string s, .string ⟨#[47]⟩] W fun e w' => e = .returned (.slice (some ⟨W.heap.size, 0, none⟩) (rest.length + 1) (rest.length + 1)) ∧ w' = W.alloc (.cells (Value.string r0 :: rest.map Value.string).toArray 9)) :
    CallsIn Fence.wide 10 Tryd.prog 6 #[.string s] w fun e W' => ∃ v, e = .returned (.tuple #[.agg #[.int .i64 (fRP s (r0 :: rest)).1.fWidth, .int .i64 (fRP s (r0 :: rest)).1.fHeight, v], .int .i64 (fRP s (r0 :: rest)).2]) ∧ W'.ownsRow w.heap.size 2 1 v (fRP s (r0 :: rest)).1.fCells.length ((fRP s (r0 :: rest)).1.fCells.map (Value.int .i64)) ∧ Below w.heap.size w W' := by
  refine callsIn_of_wp_marks Tryd.func6 rfl trivial ?_ rfl
  simp only [Tryd.ntmps6, List.size_toArray, List.length_cons, List.length_nil, Nat.reduceAdd, Nat.reduceSub, Array.replicate_succ, Array.replicate_zero, List.push_toArray, List.append_toArray, List.nil_append, List.cons_append]
  have hB1 : Below w.heap.size w (w.alloc (.cells #[.int .i64 0, .int .i64 0, .slice none 0 0] 24)) := (Below.refl _ w).alloc (Nat.le_refl _) _
  have hSp1 := hSp _ hB1
  gi_wp2_with (first | (refine ⟨trivial, ?_⟩; gi_at_call 20; refine hSp1.mono ?_; rintro e w' ⟨rfl, rfl⟩) | (refine ⟨trivial, ?_⟩; gi_at_call 21; refine (backS_in _ _ _ _).mono ?_; rintro e w' ⟨rfl, rfl⟩))
  clear hSp1 hB1
  have hB0 : Below w.heap.size w ((((w.alloc (.cells #[.int .i64 0, .int .i64 0, .slice none 0 0] 24)).alloc (.cells (Value.string r0 :: rest.map Value.string).toArray 9)).alloc (.cells #[.int .i64 r0.size, .int .i64 (rest.length + 1), .slice none 0 0] 24)).alloc (.cells #[.slice (some ⟨w.heap.size + 1, 0, none⟩) (rest.length + 1) (rest.length + 1)] 39)) := ((((Below.refl _ w).alloc (Nat.le_refl _) _).alloc (by simp) _).alloc (by simp; omega) _).alloc (by simp; omega) _
  have hsz : ((((w.alloc (.cells #[.int .i64 0, .int .i64 0, .slice none 0 0] 24)).alloc (.cells (Value.string r0 :: rest.map Value.string).toArray 9)).alloc (.cells #[.int .i64 r0.size, .int .i64 (rest.length + 1), .slice none 0 0] 24)).alloc (.cells #[.slice (some ⟨w.heap.size + 1, 0, none⟩) (rest.length + 1) (rest.length + 1)] 39)).heap.size = w.heap.size + 4 := by simp
  have bP : ((((w.alloc (.cells #[.int .i64 0, .int .i64 0, .slice none 0 0] 24)).alloc (.cells (Value.string r0 :: rest.map Value.string).toArray 9)).alloc (.cells #[.int .i64 r0.size, .int .i64 (rest.length + 1), .slice none 0 0] 24)).alloc (.cells #[.slice (some ⟨w.heap.size + 1, 0, none⟩) (rest.length + 1) (rest.length + 1)] 39)).heap[w.heap.size + 2]? = some (.cells #[.int .i64 r0.size, .int .i64 (rest.length + 1), .slice none 0 0] 24 (0, 0)) := by
    refine (Below.heap_alloc _ _ _ (by simp)).trans ?_
    have := World.alloc_heap_new ((w.alloc (.cells #[.int .i64 0, .int .i64 0, .slice none 0 0] 24)).alloc (.cells (Value.string r0 :: rest.map Value.string).toArray 9)) (.cells #[.int .i64 r0.size, .int .i64 (rest.length + 1), .slice none 0 0] 24)
    simpa using this
  have bS : Boxed ((((w.alloc (.cells #[.int .i64 0, .int .i64 0, .slice none 0 0] 24)).alloc (.cells (Value.string r0 :: rest.map Value.string).toArray 9)).alloc (.cells #[.int .i64 r0.size, .int .i64 (rest.length + 1), .slice none 0 0] 24)).alloc (.cells #[.slice (some ⟨w.heap.size + 1, 0, none⟩) (rest.length + 1) (rest.length + 1)] 39)) (w.heap.size + 3) 39 (.slice (some ⟨w.heap.size + 1, 0, none⟩) (rest.length + 1) (rest.length + 1)) := by
    have := Boxed.new (((w.alloc (.cells #[.int .i64 0, .int .i64 0, .slice none 0 0] 24)).alloc (.cells (Value.string r0 :: rest.map Value.string).toArray 9)).alloc (.cells #[.int .i64 r0.size, .int .i64 (rest.length + 1), .slice none 0 0] 24)) 39 (.slice (some ⟨w.heap.size + 1, 0, none⟩) (rest.length + 1) (rest.length + 1))
    simpa using this
  have bR : ((((w.alloc (.cells #[.int .i64 0, .int .i64 0, .slice none 0 0] 24)).alloc (.cells (Value.string r0 :: rest.map Value.string).toArray 9)).alloc (.cells #[.int .i64 r0.size, .int .i64 (rest.length + 1), .slice none 0 0] 24)).alloc (.cells #[.slice (some ⟨w.heap.size + 1, 0, none⟩) (rest.length + 1) (rest.length + 1)] 39)).heap[w.heap.size]? = some (.cells #[.int .i64 0, .int .i64 0, .slice none 0 0] 24 (0, 0)) :=
    (Below.heap_alloc _ _ _ (by simp; omega)).trans ((Below.heap_alloc _ _ _ (by simp; omega)).trans ((Below.heap_alloc _ _ _ (by simp)).trans (World.alloc_heap_new _ _)))
  have bC : ((((w.alloc (.cells #[.int .i64 0, .int .i64 0, .slice none 0 0] 24)).alloc (.cells (Value.string r0 :: rest.map Value.string).toArray 9)).alloc (.cells #[.int .i64 r0.size, .int .i64 (rest.length + 1), .slice none 0 0] 24)).alloc (.cells #[.slice (some ⟨w.heap.size + 1, 0, none⟩) (rest.length + 1) (rest.length + 1)] 39)).heap[w.heap.size + 1]? = some (.cells (Value.string r0 :: rest.map Value.string).toArray 9 (0, 0)) := by
    refine (Below.heap_alloc _ _ _ (by simp)).trans ((Below.heap_alloc _ _ _ (by simp)).trans ?_)
    have := World.alloc_heap_new (w.alloc (.cells #[.int .i64 0, .int .i64 0, .slice none 0 0] 24)) (.cells (Value.string r0 :: rest.map Value.string).toArray 9)
    simpa using this
  generalize ((((w.alloc (.cells #[.int .i64 0, .int .i64 0, .slice none 0 0] 24)).alloc (.cells (Value.string r0 :: rest.map Value.string).toArray 9)).alloc (.cells #[.int .i64 r0.size, .int .i64 (rest.length + 1), .slice none 0 0] 24)).alloc (.cells #[.slice (some ⟨w.heap.size + 1, 0, none⟩) (rest.length + 1) (rest.length + 1)] 39)) = W0 at hB0 hsz bP bS bR bC ⊢
  have hSC : SCells W0 (w.heap.size + 1) (r0 :: rest) := fun i p hp => by
    have : (Value.string r0 :: rest.map Value.string)[i]? = some (.string p) := by
      rw [← List.map_cons, List.getElem?_map, hp]; rfl
    simp [World.cell?, bC, this]
  have hmx : (r0 :: rest).length ≤ maxLen := by unfold maxLen; omega
  refine wpIn_rangeFunc_ownG rfl (by decide) (gf := 42) (lb := #[.pointer (some ⟨w.heap.size + 1 + 1 + 1, 0, none⟩)]) rfl trivial (enters_of Tryd.func42 (by kernel_rfl) rfl)
    (backS_stops (w.heap.size + 1 + 1 + 1) (w.heap.size + 2) (w.heap.size + 1) (r0 :: rest).length (r0 :: rest) W0 (by omega) (Nat.le_refl _) hmx (by omega) (by omega) bS.cell hSC) (fun h k => h.trans k)
    (fun W l o o' hl _ _ _ => ⟨by simp, fun k hk _ => World.putObj_heap_other (by omega)⟩) (Below.refl _ _) (fun _ => rfl)
    (fun pre W => ((PBox W W0.heap.size (w.heap.size + 2) r0.size (rest.length + 1) (pre.flatMap fun x => rowC (r0 :: rest)[x.1]) ∧ Below w.heap.size w W) ∧ W0.heap.size ≤ W.heap.size) ∧ RBox W w.heap.size)
    (fun _ _ _ => False)
    (OwnFrom.and (OwnFrom.and (OwnFrom.and (Own.from (pbox_own W0.heap.size (w.heap.size + 2) r0.size (rest.length + 1) fun pre : List {i : Nat // i < (r0 :: rest).length} => pre.flatMap fun x => rowC (r0 :: rest)[x.1]) _) (ownFrom_below (Nat.le_refl _) (by omega))) (fun s X Y row hs hg _ => Nat.le_trans hs hg.size)) (Own.from (rbox_own w.heap.size) _))
    (fun _ _ _ _ _ hs _ _ => hs)
    ⟨⟨⟨⟨_, bP, World.ownsRow_nil _ _ _ _⟩, hB0⟩, Nat.le_refl _⟩, bR⟩
    (fun x => { tmps := #[.string s, undef, .pointer (some ⟨w.heap.size, 0, none⟩), .int .i64 0, .slice (some ⟨w.heap.size + 1, 0, none⟩) (rest.length + 1) (rest.length + 1), .pointer (some ⟨w.heap.size + 1 + 1, 0, none⟩), undef, .string (r0 :: rest)[x.1], undef, .string s, .slice (some ⟨w.heap.size + 1, 0, none⟩) (rest.length + 1) (rest.length + 1), .slice (some ⟨w.heap.size + 1, 0, none⟩) (rest.length + 1) (rest.length + 1), .pointer (some ⟨w.heap.size + 1, 0, none⟩), .string r0, .int .i64 r0.size, .slice (some ⟨w.heap.size + 1, 0, none⟩) (rest.length + 1) (rest.length + 1), .int .i64 (rest.length + 1), .agg #[.int .i64 r0.size, .int .i64 (rest.length + 1), .slice none 0 0], .slice (some ⟨w.heap.size + 1, 0, none⟩) (rest.length + 1) (rest.length + 1), .func (.func 42) #[] #[.pointer (some ⟨w.heap.size + 1 + 1 + 1, 0, none⟩)], .int .i64 x.1, .string (r0 :: rest)[x.1], undef, undef, undef, undef, undef, undef, undef, undef, undef, undef, undef, undef, undef, undef, undef, undef, undef, undef, undef, undef, undef, undef, undef, undef, undef, undef, undef], defers := [] }) ?assign ?body ?done ?stop
  case assign =>
    intro l x W K hK
    gi_wp2
    exact hK
  case body =>
    rintro l pre x W1 ⟨⟨⟨hP, hB1⟩, hWs⟩, hRB⟩ hlt
    generalize hrx : (r0 :: rest)[x.1] = row
    have hrz : row.size ≤ 1048576 := by rw [← hrx]; exact htot _ (List.getElem_mem _)
    obtain ⟨cs, hcs⟩ : ∃ cs, (pre.flatMap fun x => rowC (r0 :: rest)[x.1]) = cs := ⟨_, rfl⟩
    have hcl : cs.length ≤ 1048577 * 1048576 := by
      rw [← hcs]
      refine Nat.le_trans (flatMap_len _ 1048576 _ fun y _ => ?_) (Nat.mul_le_mul_right _ (by omega))
      rw [rowC_len]
      exact htot _ (List.getElem_mem _)
    rw [hcs] at hP
    have HI := Lib.hid (And.intro hrx hcs)
    have HW := Lib.hid hWs
    have HC := Lib.hid (And.intro hcl hrz)
    clear hcl hrz
    clear hrx hcs hlt hSC bC bR bP bS hmx htot hlen
    gi_wp2_with fail
    gi_loopw [24] (fun i wr => ∃ k : Nat, k ≤ row.size ∧ i = .int .i64 k ∧ PBox wr W0.heap.size (w.heap.size + 2) r0.size (rest.length + 1) (cs ++ (rowC row).take k) ∧ (KpS (w.heap.size + 2) (w.heap.size + 3) W1 wr ∧ KeepsFrom W0.heap.size W1 wr ∧ Below w.heap.size w wr) ∧ W0.heap.size ≤ wr.heap.size) (fun i _ => (row.size - intOf i).toNat)
    case atStart => exact ⟨0, Nat.zero_le _, rfl, by simpa using hP, ⟨KpS.refl _ _ _, KeepsFrom.refl _ _, hB1⟩, HW.out⟩
    case round =>
      obtain ⟨k, hk, rfl, ⟨u, hu, hrow⟩, ⟨hKp, hKf, hBw⟩, hWs⟩ := hrel
      by_cases hkr : k < row.size
      · obtain ⟨b, hbk⟩ : ∃ b, row.data[k]? = some b := ⟨_, Array.getElem?_eq_getElem hkr⟩
        have hst : (rowC row).take (k + 1) = (rowC row).take k ++ [(b.toNat : Int) - 97] := by rw [List.take_add_one, rowC_get hbk]; rfl
        have hbl := b.toNat_lt
        have hbe : row[k]'hkr = b := by
          have h1 := Array.getElem?_eq_getElem (xs := row.data) hkr
          rw [hbk] at h1
          exact (Option.some.inj h1).symm
        have hkm : k < 1048577 := by
          have h1 := HC.out.2
          omega
        have hw0 : RowKit.wrap64 (b.toNat : Int) = (b.toNat : Int) := IntWalk.wrap64_in _ (by omega)
        have hw1 : RowKit.wrap64 ((b.toNat : Int) - 97) = (b.toNat : Int) - 97 := IntWalk.wrap64_in _ (by omega)
        have hw2 : RowKit.wrap64 ((k : Int) + 1) = ((k + 1 : Nat) : Int) := IntWalk.wrap64_in _ (by omega)
        have hul := (Array.getElem?_eq_some_iff.1 hu).1
        have hmx := cells_max cs (rowC row) k HC.out.1 (Nat.le_trans hk HC.out.2)
        have HM := Lib.hid hmx
        have HK := Lib.hid hk
        clear hmx HC hbl hkm
        gi_wp2
        refine wpIn_region_rgl 8 [(fun v W => v = .pointer (some ⟨w.heap.size + 1 + 1, 2, none⟩)), (fun v W => v = u), (fun v W => v = .string row), (fun v W => v = .int .i64 k), (fun v W => v = .int .u8 b.toNat), (fun v W => v = .int .i64 b.toNat), (fun v W => v = .int .i64 ((b.toNat : Int) - 97)), (fun v W => ∃ g, v = .slice (some ⟨g, 0, none⟩) 1 1 ∧ wr.heap.size ≤ g ∧ W.heap[g]? = some (.cells #[.int .i64 ((b.toNat : Int) - 97)] 2 (0, 0)))] (fun i o ho c hc => by rcases i with _ | _ | _ | _ | _ | _ | _ | _ | _ | _ | _ | i <;> (simp at ho; try (subst ho; cases hc))) (by kernel_rfl) (fun ⟨_, _, h⟩ => h) (fun _ _ _ _ _ h => h) (by kernel_rfl) (by kernel_rfl) ⟨StabI.val _, StabI.val _, StabI.val _, StabI.val _, StabI.val _, StabI.val _, StabI.val _, (fun v w w1 hb h => by obtain ⟨g, e, h1, h2⟩ := h; exact ⟨g, e, h1, (hb.block g (Array.getElem?_eq_some_iff.1 h2).1).trans h2⟩), trivial⟩ ⟨?_, ?_, ?_, ?_, ?_, ?_, ?_, ?_, ?_, ?_, ?_, trivial⟩ ?_
        · intro _ v w1 G hb hG hd
          clear hd; simp only [rgPut, rgDst, Act.put, List.getElem?_cons_zero, List.getElem?_cons_succ, Option.bind_some, List.setIfInBounds_toArray, List.set_cons_zero, List.set_cons_succ]
          go_wp2
          exact ⟨rfl, Below.refl _ _, rfl, fun g hg => (by cases hg)⟩
        · intro _ v w1 G hb hG hd
          have d0 : (fun (v : Value) (W : World) => v = .pointer (some ⟨w.heap.size + 1 + 1, 2, none⟩)) (v 0) w1 := hd 0 (by kernel_rfl)
          dsimp only at d0
          clear hd; simp only [rgPut, rgDst, Act.put, List.getElem?_cons_zero, List.getElem?_cons_succ, Option.bind_some, List.setIfInBounds_toArray, List.set_cons_zero, List.set_cons_succ, d0]
          have eU : w1.cell? ⟨w.heap.size + 1 + 1, 2, none⟩ = some u := by simp [World.cell?, (hb.block _ hul).trans hu]
          go_wp2
          exact ⟨rfl, Below.refl _ _, rfl, fun g hg => (by cases hg)⟩
        · intro _ v w1 G hb hG hd
          clear hd; simp only [rgPut, rgDst, Act.put, List.getElem?_cons_zero, List.getElem?_cons_succ, Option.bind_some, List.setIfInBounds_toArray, List.set_cons_zero, List.set_cons_succ]
          go_wp2
          exact ⟨rfl, Below.refl _ _, rfl, fun g hg => (by cases hg)⟩
        · intro _ v w1 G hb hG hd
          clear hd; simp only [rgPut, rgDst, Act.put, List.getElem?_cons_zero, List.getElem?_cons_succ, Option.bind_some, List.setIfInBounds_toArray, List.set_cons_zero, List.set_cons_succ]
          go_wp2
          exact ⟨rfl, Below.refl _ _, rfl, fun g hg => (by cases hg)⟩
        · intro _ v w1 G hb hG hd
          have d2 : (fun (v : Value) (W : World) => v = .string row) (v 2) w1 := hd 2 (by kernel_rfl)
          have d3 : (fun (v : Value) (W : World) => v = .int .i64 k) (v 3) w1 := hd 3 (by kernel_rfl)
          dsimp only at d2 d3
          clear hd; simp only [rgPut, rgDst, Act.put, List.getElem?_cons_zero, List.getElem?_cons_succ, Option.bind_some, List.setIfInBounds_toArray, List.set_cons_zero, List.set_cons_succ, d2, d3]
          go_wp2
          exact ⟨rfl, Below.refl _ _, (by unfold rgA1; rw [← hbe]; rfl), fun g hg => (by cases hg)⟩
        · intro _ v w1 G hb hG hd
          have d4 : (fun (v : Value) (W : World) => v = .int .u8 b.toNat) (v 4) w1 := hd 4 (by kernel_rfl)
          dsimp only at d4
          clear hd; simp only [rgPut, rgDst, Act.put, List.getElem?_cons_zero, List.getElem?_cons_succ, Option.bind_some, List.setIfInBounds_toArray, List.set_cons_zero, List.set_cons_succ, d4]
          go_wp2
          exact ⟨rfl, Below.refl _ _, (show Value.int .i64 (RowKit.wrap64 _) = .int .i64 _ by rw [hw0]), fun g hg => (by cases hg)⟩
        · intro _ v w1 G hb hG hd
          have d5 : (fun (v : Value) (W : World) => v = .int .i64 b.toNat) (v 5) w1 := hd 5 (by kernel_rfl)
          dsimp only at d5
          clear hd; simp only [rgPut, rgDst, Act.put, List.getElem?_cons_zero, List.getElem?_cons_succ, Option.bind_some, List.setIfInBounds_toArray, List.set_cons_zero, List.set_cons_succ, d5]
          go_wp2
          exact ⟨rfl, Below.refl _ _, (show Value.int .i64 (RowKit.wrap64 _) = .int .i64 _ by rw [hw1]), fun g hg => (by cases hg)⟩
        · intro _ v w1 G hb hG hd
          have d6 : (fun (v : Value) (W : World) => v = .int .i64 ((b.toNat : Int) - 97)) (v 6) w1 := hd 6 (by kernel_rfl)
          dsimp only at d6
          clear hd; simp only [rgPut, rgDst, Act.put, List.getElem?_cons_zero, List.getElem?_cons_succ, Option.bind_some, List.setIfInBounds_toArray, List.set_cons_zero, List.set_cons_succ, d6]
          go_wp2
          exact ⟨rfl, (Below.refl _ _).alloc (Nat.le_refl _) _, ⟨_, rfl, hb.size, World.alloc_heap_new _ _⟩, fun g hg => (by cases hg)⟩
        · (intro hk; exact absurd hk (by decide))
        · (intro hk; exact absurd hk (by decide))
        · (intro hk; exact absurd hk (by decide))
        intro v w1 hb hA
        have a0 : (fun (v : Value) (W : World) => v = .pointer (some ⟨w.heap.size + 1 + 1, 2, none⟩)) (v 0) w1 := hA 0 (by decide)
        have a1 : (fun (v : Value) (W : World) => v = u) (v 1) w1 := hA 1 (by decide)
        have a2 : (fun (v : Value) (W : World) => v = .string row) (v 2) w1 := hA 2 (by decide)
        have a3 : (fun (v : Value) (W : World) => v = .int .i64 k) (v 3) w1 := hA 3 (by decide)
        have a4 : (fun (v : Value) (W : World) => v = .int .u8 b.toNat) (v 4) w1 := hA 4 (by decide)
        have a5 : (fun (v : Value) (W : World) => v = .int .i64 b.toNat) (v 5) w1 := hA 5 (by decide)
        have a6 : (fun (v : Value) (W : World) => v = .int .i64 ((b.toNat : Int) - 97)) (v 6) w1 := hA 6 (by decide)
        have a7 : (fun (v : Value) (W : World) => ∃ g, v = .slice (some ⟨g, 0, none⟩) 1 1 ∧ wr.heap.size ≤ g ∧ W.heap[g]? = some (.cells #[.int .i64 ((b.toNat : Int) - 97)] 2 (0, 0))) (v 7) w1 := hA 7 (by decide)
        dsimp only at a0 a1 a2 a3 a4 a5 a6 a7
        clear hA; simp only [rgPut, rgDst, Act.put, List.getElem?_cons_zero, List.getElem?_cons_succ, Option.bind_some, List.setIfInBounds_toArray, List.set_cons_zero, List.set_cons_succ, a0, a1, a2, a3, a4, a5, a6]
        (try clear a0 a1 a2 a3 a4 a5 a6)
        obtain ⟨g9, e9, h9, b9⟩ := a7
        simp only [e9]
        clear e9
        have hv1 : w1.heap[w.heap.size + 2]? = some (.cells #[.int .i64 r0.size, .int .i64 (rest.length + 1), u] 24 (0, 0)) := (hb.block _ hul).trans hu
        have G1 : wr.grownBy w1 none := ⟨hb.os, hb.tape, hb.output, hb.size, fun k hk _ => hb.block k hk⟩
        have hrow1 := hrow.kept G1 (by cases hu : u.ownBlock <;> simp)
        have hsz1 := hb.size
        obtain ⟨i0, hi, hz0, hz1, hz2⟩ := info_parts infoI64'
        refine wpList_tl (by kernel_rfl) ?_
        simp only [List.drop_succ_cons, List.drop_zero]
        refine wpList_append_own_at _ rfl (.tmp 28) (.tmp 34) 22 rfl W0.heap.size 2 i0 (.int .i64 0) 1 8 Tryd.underlying22 hi hz0 hz1 hz2 rfl (by decide) u (cs ++ (rowC row).take k).length _ rfl hrow1 ⟨g9, 0, none⟩ 1 1 [.int .i64 ((b.toNat : Int) - 97)] rfl rfl (fun j y hj => by
          cases j with
          | zero => simp at hj; subst hj; simp [World.cell?, b9, Addr.add]
          | succ j => simp at hj) (by simp [Value.oneCell']) HM.out.1 HM.out.2 (Nat.le_trans hWs hsz1) ?_
        intro v' W2 hown' hgrow _ _
        obtain ⟨g', cap', rfl⟩ := ownsRow_succ hown'
        have hrowne : ∀ j, u.ownBlock = some j → W0.heap.size ≤ j ∧ ∃ o : Obj, w1.heap[j]? = some o ∧ o.isCells = true := fun j ej => by
          rcases hrow1.2 with ⟨rfl, _⟩ | ⟨g, cp, cur, rfl, hg, hgb, _⟩
          · simp [Value.ownBlock] at ej
          · obtain rfl : g = j := by simpa [Value.ownBlock] using ej
            exact ⟨hg, _, hgb, rfl⟩
        have hv2 : W2.heap[w.heap.size + 2]? = some (.cells #[.int .i64 r0.size, .int .i64 (rest.length + 1), u] 24 (0, 0)) := (hgrow.block _ (Nat.lt_of_lt_of_le hul hsz1) (fun e => by have := (hrowne _ e.symm).1; omega)).trans hv1
        have hul2 := (Array.getElem?_eq_some_iff.1 hv2).1
        have cB : W2.cell? ⟨w.heap.size + 1 + 1, 2, none⟩ = some u := by simp [World.cell?, hv2]
        have fB : W2.frozen? ⟨w.heap.size + 1 + 1, 2, none⟩ = false := by simp [World.frozen?, hv2]
        clear hu hw0 hw1 hv1
        go_wp2
        gi_wp2
        go_roundw
        case rel =>
          have hKp3 : KpS (w.heap.size + 2) (w.heap.size + 3) wr (W2.setCell ⟨w.heap.size + 1 + 1, 2, none⟩ (.slice (some ⟨g', 0, none⟩) (cs.length + min k (rowC row).length + 1) cap')) := by
            refine ⟨Nat.le_trans hsz1 (Nat.le_trans hgrow.size (by simp)), fun j hj hl => ?_⟩
            refine (Below.heap_setCell _ _ _ j (by simp; omega)).trans ((hgrow.block j (Nat.lt_of_lt_of_le hl hsz1) (fun e => by have := (hrowne j e.symm).1; omega)).trans (hb.block j hl))
          simp only [List.length_append, List.length_take] at hown'
          refine ⟨k + 1, hkr, by rw [hw2], ⟨_, pbox_set hv2 _, ?_⟩, ⟨hKp.trans hKp3, hKf.trans ((((KeepsOthers.of_grownBy G1 (fun j o e _ => by cases e)).trans (KeepsOthers.of_grownBy hgrow fun j o ej hj => by
            obtain ⟨_, o', ho', hc'⟩ := hrowne j ej
            rw [ho'] at hj; cases hj; exact hc')).trans (KeepsOthers.setCell _ _ _)).from _), ((hBw.trans (hb.mono hBw.size)).grown hgrow (Nat.le_trans hBw.size hsz1) (fun k e => by have := (hrowne k e).1; omega)).setCell (p := ⟨w.heap.size + 1 + 1, 2, none⟩) (by simp; omega) _⟩, Nat.le_trans hWs (Nat.le_trans hsz1 (Nat.le_trans hgrow.size (by simp)))⟩
          rw [hst, ← List.append_assoc, List.map_append, List.length_append, List.length_append, List.length_take]
          refine hown'.kept (grownBy_setCell2 W2 (w.heap.size + 1 + 1) 2 _) (.inr fun e' => ?_)
          simp only [Value.ownBlock, Option.some.injEq] at e'
          rcases hown'.2 with ⟨h0, _⟩ | ⟨g, cp, cur, h0, hg, hgb, _⟩
          · cases h0
          · cases h0
            omega
        case measure =>
          show ((row.size : Int) - intOf (Value.int .i64 (RowKit.wrap64 ((k : Int) + 1)))).toNat < ((row.size : Int) - intOf (Value.int .i64 (k : Int))).toNat
          rw [intOf_int', intOf_int', hw2]
          clear hw2
          omega
      · obtain rfl : k = row.size := by omega
        gi_wp2
        rw [← rowC_len row, List.take_length] at hrow
        refine ⟨hKf, hKp, ⟨⟨⟨u, hu, ?_⟩, hBw⟩, hWs⟩, (hKp.2 _ (.inl (by omega)) (Array.getElem?_eq_some_iff.1 hRB).1).trans hRB⟩
        rw [List.flatMap_append, HI.out.2, List.flatMap_singleton, HI.out.1]
        exact hrow
  case done =>
    rintro D ys W hD hys ⟨⟨⟨⟨v, hv, hrow⟩, hB1⟩, hWs⟩, hRB⟩ hK
    rw [flat_idx, hys, flat_rev] at hrow
    obtain ⟨va, vn, vc, rfl⟩ : ∃ a n c, v = .slice a n c := by
      rcases hrow.2 with ⟨rfl, _⟩ | ⟨g, cap, _, rfl, _⟩
      · exact ⟨_, _, _, rfl⟩
      · exact ⟨_, _, _, rfl⟩
    have hTW := hTb.below hB1
    obtain ⟨p, hp⟩ : ∃ p, patR (r0 :: rest) = p := ⟨_, rfl⟩
    have e1 : (r0.size : Int) = p.fWidth := by rw [← hp]; rfl
    have e2 : ((rest.length : Int) + 1) = p.fHeight := by rw [← hp]; simp [patR]
    have e3 : (r0 :: rest).reverse.flatMap rowC = p.fCells := by rw [← hp]; rfl
    have hok : ∀ c ∈ p.fCells, okI (.int .i64 c) := fun c hc => by
      rw [← e3] at hc
      obtain ⟨r, _, hr⟩ := List.mem_flatMap.1 hc
      exact rowC_ok r c hr
    have hw1 : okI (.int .i64 p.fWidth) := by rw [← e1]; exact okI_len (by have := htot r0 (by simp); unfold maxLen; omega)
    have hw2 : okI (.int .i64 p.fHeight) := by rw [← e2]; exact okI_len (n := rest.length + 1) (by simp at hlen; unfold maxLen; omega)
    rw [e3] at hrow
    rw [e1, e2] at hv
    have hF : ∀ W' : World, Below W.heap.size W W' → F2 (RVD W' (fun b => (fun b => (Value.slice va vn vc).ownBlock = some b) b ∨ ∃ x ∈ tabG, x.1 = b)) [.agg #[.int .i64 p.fWidth, .int .i64 p.fHeight, .slice va vn vc]] [.agg (enPattern p)] := fun W' hb => by
      have hr' := hrow.kept (⟨hb.os, hb.tape, hb.output, hb.size, fun k hk _ => hb.block k hk⟩ : W.grownBy W' none) (by cases hu : (Value.slice va vn vc).ownBlock <;> simp)
      exact .cons ⟨[_, _, Value.slice va vn vc], rfl, .cons (.pv rfl hw1) (.cons (.pv rfl hw2) (.cons (RD_row hr' (fun g hg => .inl hg) hok) .nil))⟩ .nil
    have hR : ∀ W' : World, Below W.heap.size W W' → ∀ b, (fun b => (Value.slice va vn vc).ownBlock = some b) b → b < W'.heap.size := fun W' hb b hvb => Nat.lt_of_lt_of_le (hrow.lt b hvb).2 hb.size
    have hVal := fun W' (hb : Below W.heap.size W W') => specT_B (iValidPattern p) (hTW.below hb) (hR W' hb) (hF W' hb)
    have hPT := fun (h : okPat p) W' (hb : Below W.heap.size W W') => specT_S (iPatText p h) (hTW.below hb) (hR W' hb) (hF W' hb)
    have hPR := Lib.hid (And.intro hp hrow)
    have d0 : W.cell? ⟨w.heap.size + 1 + 1, 0, none⟩ = some (.int .i64 p.fWidth) := by simp [World.cell?, hv]
    have d1 : W.cell? ⟨w.heap.size + 1 + 1, 1, none⟩ = some (.int .i64 p.fHeight) := by simp [World.cell?, hv]
    have d2 : W.cell? ⟨w.heap.size + 1 + 1, 2, none⟩ = some (.slice va vn vc) := by simp [World.cell?, hv]
    have hpl : w.heap.size + 1 + 1 < W.heap.size := by omega
    clear hF hR hok hrow hp hys hSC hmx htot hlen hSp bC bR bP bS hv
    have hDl : D < W.heap.size := (Array.getElem?_eq_some_iff.1 hK).1
    have hnil : ∀ W3 : World, W3.ownsRow w.heap.size 2 1 (.slice none 0 0) ([] : List Int).length (([] : List Int).map (Value.int .i64)) := fun W3 => World.ownsRow_nil _ _ _ _
    by_cases hokp : okPat p
    · have hV := hVal W (Below.refl _ _)
      rw [bP_iff.2 hokp] at hV
      have hP1 := hPT hokp
      clear hVal hPT
      by_cases hts : fPT p = s
      · have hf : fRP s (r0 :: rest) = (p, 0) := by
          unfold fRP
          rw [hPR.out.1]
          exact if_pos ⟨hokp, hts⟩
        gi_wp2_with (first | (refine ⟨trivial, ?_⟩; gi_at_call 22; refine (callsIn_wide.2 hV).mono ?_; rintro e w' ⟨rfl, hbl⟩; have hP2 := hP1 w' hbl; have d0' := (hbl.cell (p := ⟨w.heap.size + 1 + 1, 0, none⟩) hpl).trans d0; have d1' := (hbl.cell (p := ⟨w.heap.size + 1 + 1, 1, none⟩) hpl).trans d1; have d2' := (hbl.cell (p := ⟨w.heap.size + 1 + 1, 2, none⟩) hpl).trans d2; clear hP1 d0 d1 d2) | (refine ⟨trivial, ?_⟩; gi_at_call 23; refine (callsIn_wide.2 hP2).mono ?_; rintro e w2 ⟨rfl, hbl2⟩; have hb3 := hbl.trans (hbl2.mono hbl.size); have e0 := (hbl2.cell (p := ⟨w.heap.size + 1 + 1, 0, none⟩) (Nat.lt_of_lt_of_le hpl hbl.size)).trans d0'; have e1' := (hbl2.cell (p := ⟨w.heap.size + 1 + 1, 1, none⟩) (Nat.lt_of_lt_of_le hpl hbl.size)).trans d1'; have e2' := (hbl2.cell (p := ⟨w.heap.size + 1 + 1, 2, none⟩) (Nat.lt_of_lt_of_le hpl hbl.size)).trans d2'; obtain ⟨⟨c0, c1, c2⟩, f0, f1, f2⟩ := (hRB.keep hb3).facts; clear d0' d1' d2' hP2) | (refine ⟨trivial, ?_⟩))
        refine pat_close (hB1.trans (hb3.mono hB1.size)) (by omega) ((hb3.block _ hDl).trans hK) (hRB.keep hb3) rfl rfl fun W3 h1 h2 h3 => ?_
        rw [hf]
        refine ⟨_, rfl, ?_, h1⟩
        have hrow := hPR.out.2
        have hsz := hb3.size
        refine ⟨hrow.1, ?_⟩
        rcases hrow.2 with h4 | ⟨g, cp, cur, h4, h5, h6, h7⟩
        · exact .inl h4
        · have hgl := (Array.getElem?_eq_some_iff.1 h6).1
          have hgD : g ≠ D := fun e => by rw [e, hK] at h6; cases h6
          exact .inr ⟨g, cp, cur, h4, by omega, (h3 g (by omega) hgD (by omega)).trans ((hb3.block _ hgl).trans h6), h7⟩
      · have hf : fRP s (r0 :: rest) = (⟨0, 0, []⟩, 6) := by
          unfold fRP
          rw [hPR.out.1]
          exact if_neg fun h => hts h.2
        have hne : ((fPT p).toList == s.toList) = false := beq_eq_false_iff_ne.2 fun e => hts (by
          rw [Lib.toList_data, Lib.toList_data] at e
          exact ByteArray.ext (Array.toList_inj.1 e))
        gi_wp2_with (first | (refine ⟨trivial, ?_⟩; gi_at_call 22; refine (callsIn_wide.2 hV).mono ?_; rintro e w' ⟨rfl, hbl⟩; have hP2 := hP1 w' hbl; have d0' := (hbl.cell (p := ⟨w.heap.size + 1 + 1, 0, none⟩) hpl).trans d0; have d1' := (hbl.cell (p := ⟨w.heap.size + 1 + 1, 1, none⟩) hpl).trans d1; have d2' := (hbl.cell (p := ⟨w.heap.size + 1 + 1, 2, none⟩) hpl).trans d2; clear hP1 d0 d1 d2) | (refine ⟨trivial, ?_⟩; gi_at_call 23; refine (callsIn_wide.2 hP2).mono ?_; rintro e w2 ⟨rfl, hbl2⟩; have hb3 := hbl.trans (hbl2.mono hbl.size); have e0 := (hbl2.cell (p := ⟨w.heap.size + 1 + 1, 0, none⟩) (Nat.lt_of_lt_of_le hpl hbl.size)).trans d0'; have e1' := (hbl2.cell (p := ⟨w.heap.size + 1 + 1, 1, none⟩) (Nat.lt_of_lt_of_le hpl hbl.size)).trans d1'; have e2' := (hbl2.cell (p := ⟨w.heap.size + 1 + 1, 2, none⟩) (Nat.lt_of_lt_of_le hpl hbl.size)).trans d2'; obtain ⟨⟨c0, c1, c2⟩, f0, f1, f2⟩ := (hRB.keep hb3).facts; clear d0' d1' d2' hP2) | (refine ⟨trivial, ?_⟩))
        refine pat_close (hB1.trans (hb3.mono hB1.size)) (by omega) ((hb3.block _ hDl).trans hK) (hRB.keep hb3) rfl rfl fun W3 h1 h2 h3 => ?_
        rw [hf]
        exact ⟨_, rfl, hnil _, h1⟩
    · have hV := hVal W (Below.refl _ _)
      rw [← bP_false hokp] at hV
      have hf : fRP s (r0 :: rest) = (⟨0, 0, []⟩, 6) := by
        unfold fRP
        rw [hPR.out.1]
        exact if_neg fun h => hokp h.1
      clear hVal hPT
      gi_wp2_with (first | (refine ⟨trivial, ?_⟩; gi_at_call 22; refine (callsIn_wide.2 hV).mono ?_; rintro e w' ⟨rfl, hbl⟩; obtain ⟨⟨c0, c1, c2⟩, f0, f1, f2⟩ := (hRB.keep hbl).facts) | (refine ⟨trivial, ?_⟩))
      refine pat_close (hB1.trans (hbl.mono hB1.size)) (by omega) ((hbl.block _ hDl).trans hK) (hRB.keep hbl) rfl rfl fun W3 h1 h2 h3 => ?_
      rw [hf]
      exact ⟨_, rfl, hnil _, h1⟩
  case stop =>
    rintro D c pre W _ _ h _
    exact h.elim
theorem splB_cons (c : UInt8) (s : ByteArray) : ∃ r0 rest, splB c s = r0 :: rest := by
  cases h : splB c s with
  | nil =>
    unfold splB at h
    exact (spl_ne c _ (List.map_eq_nil_iff.1 h)).elim
  | cons r0 rest => exact ⟨r0, rest, rfl⟩
theorem le_sumN {n : Nat} : ∀ l : List Nat, n ∈ l → n ≤ l.sum
  | [], h => by cases h
  | m :: l, h => by
    rw [List.sum_cons]
    rcases List.mem_cons.1 h with rfl | h
    · omega
    · have := le_sumN l h
      omega
theorem splB_size {c : UInt8} {s r : ByteArray} (h : r ∈ splB c s) : r.size ≤ s.size := by
  obtain ⟨l, hl, rfl⟩ := List.mem_map.1 h
  have h1 := spl_lens c s.data.toList
  have h2 : l.length ≤ ((spl c s.data.toList).map List.length).sum := le_sumN _ (List.mem_map.2 ⟨l, hl, rfl⟩)
  have h3 : (mkB l).size = l.length := by show (l.toArray).size = _; simp
  have h4 : s.size = s.data.toList.length := by simp
  omega
theorem splB_length (c : UInt8) (s : ByteArray) : (splB c s).length ≤ s.size + 1 := by
  unfold splB
  have h1 := spl_len_le c s.data.toList
  rw [List.length_map]
  simpa using h1
theorem maxLen_cell {w : World} (h : TabsOk w) : ∃ m, w.cell? ⟨0, 0, none⟩ = some (.int .i64 m) := by
  obtain ⟨cs, T, p, hh, m, rfl⟩ := h (0, 1) (by simp [tabG])
  exact ⟨m, by simp [World.cell?, hh]⟩
theorem lib_split1 (c : UInt8) (s : ByteArray) (hs : s.size < 4294967281) {w : World} (h : TabsOk w) : Calls Tryd.prog 20 #[.string s, .string ⟨#[c]⟩] w fun e w' =>
    e = .returned (.slice (some ⟨w.heap.size, 0, none⟩) (splB c s).length (splB c s).length) ∧ w' = w.alloc (.cells ((splB c s).map Value.string).toArray 9) := by
  obtain ⟨m, hm⟩ := maxLen_cell h
  have := Tryd.strings_Split s ⟨#[c]⟩ m w hs hm (Nat.le_refl 1)
  rw [splitB_spl, ← splB_len] at this
  exact this
theorem ET.intsP {W : World} : ∀ l : List Int, (∀ n ∈ l, okI (.int .i64 n)) → ET W (l.map (Value.int .i64)) (ints l).flatten []
  | [], _ => .nil
  | n :: l, h => .pv rfl (h n (by simp)) (ET.intsP l fun m hm => h m (by simp [hm]))
theorem iReadPattern (s : ByteArray) (hs : s.size ≤ 1048576) : Spec Tryd.prog 6 [.c (sD s)] (.tup [.agg [.fz (iD (fRP s (splB 47 s)).1.fWidth), .fz (iD (fRP s (splB 47 s)).1.fHeight), .nw kI (ints (fRP s (splB 47 s)).1.fCells)], .c (.fz (iD (fRP s (splB 47 s)).2))]) := by
  refine ⟨callFunc_enter Tryd.func6 rfl (by simp [Tryd.f6]), fun w R ι φ vs hR hF ho => ?_⟩
  cases hF with | cons h1 h2 =>
  cases h2
  rename_i v
  have h1 : RD w R v (sD s) := h1
  cases h1
  obtain ⟨r0, rest, hr⟩ := splB_cons 47 s
  have hln := splB_length 47 s
  have hsz : ∀ r ∈ r0 :: rest, r.size ≤ 1048576 := fun r h => Nat.le_trans (splB_size (hr ▸ h)) hs
  have hTb : TabsOk w := fun x hx => (ho.2.2.2 x hx).2
  have hcalls := callsIn_wide.1 (readPat1 s r0 rest (by rw [← hr]; omega) hsz w hTb fun W hW => callsIn_wide.2 (by
    have := lib_split1 47 s (by omega) (hTb.below hW)
    rw [hr] at this
    exact this))
  rw [← hr] at hcalls
  have hbd : ∀ c ∈ (fRP s (splB 47 s)).1.fCells, okI (.int .i64 c) := fun c hc => by
    unfold fRP at hc
    split at hc
    · obtain ⟨r, _, hr⟩ := List.mem_flatMap.1 hc
      exact rowC_ok r c hr
    · cases hc
  have hk1 : okI (.int .i64 (fRP s (splB 47 s)).1.fWidth) := by
    unfold fRP
    split
    · rw [hr]
      exact okI_len (n := r0.size) (by have := hsz r0 (by simp); unfold maxLen; omega)
    · exact okI_len (n := 0) (by decide)
  have hk2 : okI (.int .i64 (fRP s (splB 47 s)).1.fHeight) := by
    unfold fRP
    split
    · exact okI_len (n := (splB 47 s).length) (by unfold maxLen; omega)
    · exact okI_len (n := 0) (by decide)
  have hk3 : okI (.int .i64 (fRP s (splB 47 s)).2) := by
    unfold fRP
    split
    · exact okI_len (n := 0) (by decide)
    · exact okI_len (n := 6) (by decide)
  generalize fRP s (splB 47 s) = q at *
  clear hr hln hsz
  refine hcalls.mono ?_
  rintro e w1 ⟨v, rfl, hrow, hbl⟩
  have hg : ∀ o x, frO ([(2, Ob.arr kI (ints q.1.fCells) [])]) o = some x → o = 2 ∧ x = .arr kI (ints q.1.fCells) [] := fun o x hf => by
    simp only [frO, upd] at hf
    split at hf
    · cases hf; exact ⟨by assumption, rfl⟩
    · cases hf
  have hown : ∀ g, v.ownBlock = some g → w.heap.size ≤ g ∧ g < w1.heap.size := fun g hg => by
    rcases hrow.2 with ⟨rfl, _⟩ | ⟨g', cp, cur, rfl, h1, h2, _⟩
    · simp [Value.ownBlock] at hg
    · obtain rfl : g' = g := by simpa [Value.ownBlock] using hg
      exact ⟨h1, (Array.getElem?_eq_some_iff.1 h2).1⟩
  refine ⟨_, rfl, R, upd ι 2 v, upd φ 2 v.ownBlock.toList, BelowM.of_below hbl, fun b h => h, fun b h => Nat.lt_of_lt_of_le (hR b h) hbl.size, fun b h _ => .inl h, ?_, ⟨fun o x hf => ?_, fun o x hf g hgm => ?_, fun o p x y g hf hf' _ _ => (hg o x hf).1.trans (hg p y hf').1.symm, ho.2.2.2.keep (fun _ h => h) fun b hb => hbl.block b (hR b hb)⟩, fun g hf => ?_, fun o hf => upd_ne _ _ (fun e => by subst e; exact absurd hf (by decide))⟩
  · exact ⟨[_, _], rfl, .cons ⟨[_, _, _], rfl, .cons (.pv rfl hk1) (.cons (.pv rfl hk2) (.cons ⟨⟨_, upd_same _ _ _⟩, (upd_same _ _ _).symm⟩ .nil))⟩ (.cons (.pv rfl hk3) .nil)⟩
  · obtain ⟨rfl, rfl⟩ := hg o x hf
    rw [upd_same, upd_same]
    refine ⟨fun es he => ?_, _, [], ?_, EH.of_ET (?_ : ET w1 (q.1.fCells.map (Value.int .i64)) (ints q.1.fCells).flatten []), by simp, by cases v.ownBlock <;> simp⟩
    · obtain ⟨n, _, rfl⟩ := List.mem_map.1 he
      rfl
    · have hl2 : (ints q.1.fCells).length = q.1.fCells.length := by simp
      rw [hl2]
      refine ⟨hrow.1, ?_⟩
      rcases hrow.2 with h3 | ⟨g, cp, cur, h3, h4, h5⟩
      · exact .inl h3
      · exact .inr ⟨g, cp, cur, h3, Nat.zero_le _, h5⟩
    · exact ET.intsP q.1.fCells hbd
  · obtain ⟨rfl, rfl⟩ := hg o x hf
    rw [upd_same] at hgm
    have := hown g (by simpa using hgm)
    exact ⟨fun hr => by have := hR g hr; omega, this.2⟩
  · obtain ⟨o, x, hf, hgm⟩ := hf
    obtain ⟨rfl, rfl⟩ := hg o x hf
    rw [upd_same] at hgm
    exact .inr (hown g (by simpa using hgm)).1
/-- Rows of one width, laid behind each other. -/
theorem flat_take {f : ByteArray → List Int} {w : Nat} : ∀ {l : List ByteArray} {k : Nat} {r : ByteArray}, (∀ x ∈ l, (f x).length = w) → l[k]? = some r → ((l.flatMap f).drop (w * k)).take w = f r
  | [], k, r, _, h => by simp at h
  | x :: l, 0, r, hw, h => by
    simp only [List.getElem?_cons_zero, Option.some.injEq] at h
    subst h
    have := hw x (by simp)
    rw [Nat.mul_zero, List.drop_zero, List.flatMap_cons, ← this, List.take_left]
  | x :: l, k + 1, r, hw, h => by
    have hx := hw x (by simp)
    rw [List.flatMap_cons, Nat.mul_succ, Nat.add_comm (w * k) w, ← List.drop_drop]
    conv => lhs; rw [← hx]; rw [List.drop_left]; rw [hx]
    exact flat_take (fun y hy => hw y (by simp [hy])) (by simpa using h)
theorem bs_row (r : ByteArray) : bsOf ((rowC r).map fun c => 97 + c) = r := by
  have h : ((rowC r).map fun c => 97 + c).map (fun n : Int => UInt8.ofNat n.toNat) = r.data.toList := by
    unfold rowC
    rw [List.map_map, List.map_map]
    conv => rhs; rw [← List.map_id r.data.toList]
    refine List.map_congr_left fun b _ => ?_
    show UInt8.ofNat (97 + ((b.toNat : Int) - 97)).toNat = b
    rw [show (97 + ((b.toNat : Int) - 97)).toNat = b.toNat by omega]
    exact UInt8.ofNat_toNat
  unfold bsOf
  rw [h]
theorem joinB_spl (s : ByteArray) : joinB (splB 47 s) ⟨#[47]⟩ = s := by
  unfold joinB splB
  rw [List.map_map]
  have e : ((fun (x : ByteArray) => x.data.toList) ∘ mkB) = id := by funext l; simp
  rw [e, List.map_id]
  show (⟨(Lib.join (spl 47 s.data.toList) [47]).toArray⟩ : ByteArray) = s
  rw [join_spl]
theorem joinB_cut {X : List ByteArray} {s : ByteArray} (h : joinB X ⟨#[47]⟩ = s) (hX : X ≠ []) (hn : ∀ x ∈ X, (47 : UInt8) ∉ x.data.toList) : splB 47 s = X := by
  subst h
  unfold splB joinB
  show (spl 47 ((Lib.join (X.map fun (x : ByteArray) => x.data.toList) [47]).toArray).toList).map mkB = X
  rw [List.toList_toArray, spl_join _ (by simpa using hX) (by
    intro r hr
    obtain ⟨x, hx, rfl⟩ := List.mem_map.1 hr
    exact hn x hx), List.map_map]
  have : (mkB ∘ fun (x : ByteArray) => x.data.toList) = id := by funext b; exact mkB_data b
  rw [this, List.map_id]
theorem rowS_size {wd k h : Nat} {cs : List Int} (hl : cs.length = wd * h) (hk : k < h) : (rowS wd cs k).size = wd := by
  have hle : wd * (k + 1) ≤ wd * h := Nat.mul_le_mul_left _ hk
  rw [Nat.mul_succ] at hle
  unfold rowS bsOf
  show (List.toArray _).size = wd
  simp
  omega
theorem rowS_no {wd k : Nat} {cs : List Int} (hc : ∀ c ∈ cs, 0 ≤ c ∧ c ≤ 5) : (47 : UInt8) ∉ (rowS wd cs k).data.toList := fun h => by
  unfold rowS bsOf at h
  rw [List.toList_toArray, List.map_map] at h
  obtain ⟨c, hm, he⟩ := List.mem_map.1 h
  have hb := hc c (List.mem_of_mem_drop (List.mem_of_mem_take hm))
  have h2 := congrArg UInt8.toNat he
  simp only [Function.comp_apply, UInt8.toNat_ofNat'] at h2
  have h3 : (97 + c).toNat = 97 + c.toNat := by omega
  have h4 : (47 : UInt8).toNat = 47 := rfl
  rw [h3, h4] at h2
  omega
/-- All rows are as wide as the first. -/
def sameW (rows : List ByteArray) : Prop := ∀ r ∈ rows, r.size = (rows.headD ⟨#[]⟩).size
open Classical in
noncomputable def fRS (rows : List ByteArray) : TPattern × Int := if sameW rows ∧ okPat (patR rows) then (patR rows, 0) else (⟨0, 0, []⟩, 6)
theorem fRP_eq (s : ByteArray) : fRP s (splB 47 s) = fRS (splB 47 s) := by
  have hiff : (okPat (patR (splB 47 s)) ∧ fPT (patR (splB 47 s)) = s) ↔ (sameW (splB 47 s) ∧ okPat (patR (splB 47 s))) := by
    obtain ⟨rows, hr⟩ : ∃ rows, splB 47 s = rows := ⟨_, rfl⟩
    have hr2 := hr
    rw [hr]
    constructor
    · rintro ⟨hok, he⟩
      refine ⟨?_, hok⟩
      obtain ⟨hW, hH, hl, hc⟩ := hok
      have hln : (patR rows).fCells.length = (rows.headD ⟨#[]⟩).size * rows.length := by
        have h1 : (((patR rows).fCells.length : Nat) : Int) = (((rows.headD ⟨#[]⟩).size * rows.length : Nat) : Int) := by rw [hl]; simp [patR]
        omega
      have hj := fPT_join ⟨hW, hH, hl, hc⟩ (wd := (rows.headD ⟨#[]⟩).size) (hh := rows.length) rfl rfl hln
      rw [he] at hj
      have hne : rows.length ≠ 0 := by
        have h1 : (1 : Int) ≤ ((rows.length : Nat) : Int) := hH.1
        omega
      have hX := joinB_cut hj.symm (by
        intro e
        have := congrArg List.length e
        simp at this
        exact hne (by simp [this])) (fun x hx => by
        rw [List.mem_reverse] at hx
        obtain ⟨k, _, rfl⟩ := List.mem_map.1 hx
        exact rowS_no hc)
      rw [hr] at hX
      intro r hm
      rw [hX, List.mem_reverse] at hm
      obtain ⟨k, hk, rfl⟩ := List.mem_map.1 hm
      exact rowS_size hln (List.mem_range.1 hk)
    · rintro ⟨hw, hok⟩
      refine ⟨hok, ?_⟩
      obtain ⟨hW, hH, hl, hc⟩ := hok
      have hln : (patR rows).fCells.length = (rows.headD ⟨#[]⟩).size * rows.length := by
        have h1 : (((patR rows).fCells.length : Nat) : Int) = (((rows.headD ⟨#[]⟩).size * rows.length : Nat) : Int) := by rw [hl]; simp [patR]
        omega
      rw [fPT_join ⟨hW, hH, hl, hc⟩ (wd := (rows.headD ⟨#[]⟩).size) (hh := rows.length) rfl rfl hln]
      have hX : (List.range rows.length).map (rowS (rows.headD ⟨#[]⟩).size (patR rows).fCells) = rows.reverse := by
        apply List.ext_getElem?
        intro k
        by_cases hk : k < rows.length
        · rw [List.getElem?_map, List.getElem?_range hk]
          have hkr : rows.reverse[k]? = some (rows.reverse[k]'(by simpa using hk)) := List.getElem?_eq_getElem (by simpa using hk)
          rw [hkr]
          simp only [Option.map_some, Option.some.injEq]
          unfold rowS
          rw [show (patR rows).fCells = rows.reverse.flatMap rowC from rfl, flat_take (fun x hx => by rw [rowC_len]; exact hw x (List.mem_reverse.1 hx)) hkr, bs_row]
        · rw [List.getElem?_eq_none (by simp; omega), List.getElem?_eq_none (by simp; omega)]
      rw [hX, List.reverse_reverse, ← hr2]
      exact joinB_spl s
  unfold fRP fRS
  by_cases h : okPat (patR (splB 47 s)) ∧ fPT (patR (splB 47 s)) = s
  · rw [if_pos h, if_pos (hiff.1 h)]
  · rw [if_neg h, if_neg (fun e => h (hiff.2 e))]
abbrev kSx : Ky := ⟨9, 1⟩
abbrev enSx (b : ByteArray) : List D := [sD b]
section
variable {P : Program} {Q : Exit → St → Prop} {ks : List Fr} {e : Nat → AV} {o : Nat → Option Ob} {d : Nat} {fr : Bool} {x y z : Operand} {rest : List SR}
theorem R.sixL {s : ByteArray} {k' : IntKind} {i : Nat} (b : UInt8) (hb : s[i]? = some b) (h : ev e x = pvA (.string s)) (h1 : ev e y = pvA (.int k' (i : Int))) (k : WL P rest ks Q ⟨upd e d (pvA (.int .u8 b.toNat)), o⟩) : WL P (⟨some d, none, fr, .six x y⟩ :: rest) ks Q ⟨e, o⟩ :=
  R.six h h1 ⟨by omega, by
    have : i < s.size := by
      rcases Nat.lt_or_ge i s.size with h | h
      · exact h
      · rw [getElem?_neg s i (by omega)] at hb; cases hb
    omega⟩ fun b' hb' => by
      rw [Int.toNat_natCast, hb] at hb'
      cases hb'
      exact k
end
theorem byte_get {s : ByteArray} {i : Nat} {b : UInt8} (h : s[i]? = some b) : s.data.toList[i]? = some b := by
  have hi : i < s.size := by
    rcases Nat.lt_or_ge i s.size with h1 | h1
    · exact h1
    · rw [getElem?_neg s i (by omega)] at h; cases h
  rw [getElem?_pos s i hi] at h
  rw [Array.getElem?_toList]
  exact (Array.getElem?_eq_getElem (xs := s.data) hi).trans h
theorem ext_mk (s : ByteArray) (i j : Nat) : mkB ((s.data.toList.drop i).take (j - i)) = s.extract i j := by
  apply ByteArray.ext
  apply Array.toList_inj.1
  rw [ByteArray.data_extract, Array.toList_extract]
/-- What has been cut off, from where the rest goes on, where one stands. -/
structure SpG where
  done : List ByteArray
  from_ : Nat
  i : Nat
/-- Nothing has been lost. -/
structure SpInv (c : UInt8) (s : ByteArray) (g : SpG) : Prop where
  le : g.from_ ≤ g.i
  lt : g.i ≤ s.size
  len : g.done.length ≤ g.i
  no : ∀ k, g.from_ ≤ k → k < g.i → s.data.toList[k]? ≠ some c
  eq : g.done ++ (spl c (s.data.toList.drop g.from_)).map mkB = splB c s
theorem SpInv.init (c : UInt8) (s : ByteArray) : SpInv c s ⟨[], 0, 0⟩ := ⟨Nat.le_refl _, Nat.zero_le _, Nat.le_refl _, fun k _ h => (by cases h), rfl⟩
theorem not_in {c : UInt8} {l : List UInt8} {f i : Nat} (h : ∀ k, f ≤ k → k < i → l[k]? ≠ some c) : c ∉ (l.drop f).take (i - f) := fun hc => by
  obtain ⟨k, hk⟩ := List.getElem?_of_mem hc
  have hl := (List.getElem?_eq_some_iff.1 hk).1
  rw [List.length_take] at hl
  rw [List.getElem?_take_of_lt (by omega), List.getElem?_drop] at hk
  exact h (f + k) (by omega) (by omega) hk
theorem SpInv.hit {c : UInt8} {s : ByteArray} {g : SpG} (h : SpInv c s g) (hc : s.data.toList[g.i]? = some c) : SpInv c s ⟨g.done ++ [s.extract g.from_ g.i], g.i + 1, g.i + 1⟩ := by
  have hl := (List.getElem?_eq_some_iff.1 hc).1
  have hl2 : g.i < s.size := by simpa using hl
  refine ⟨Nat.le_refl _, hl2, by simp [h.len], fun k h1 h2 => absurd h1 (by simpa using h2), ?_⟩
  rw [← h.eq, List.append_assoc]
  congr 1
  have e : s.data.toList.drop g.from_ = (s.data.toList.drop g.from_).take (g.i - g.from_) ++ c :: s.data.toList.drop (g.i + 1) := by
    conv => lhs; rw [← List.take_append_drop (g.i - g.from_) (s.data.toList.drop g.from_)]
    rw [List.drop_drop, show g.from_ + (g.i - g.from_) = g.i by have := h.le; omega]
    rw [List.drop_eq_getElem_cons hl]
    rw [List.getElem?_eq_getElem hl] at hc
    rw [Option.some.inj hc]
  conv => rhs; rw [e]
  rw [spl_hit (not_in h.no), List.map_cons, ext_mk]
  rfl
theorem SpInv.miss {c b : UInt8} {s : ByteArray} {g : SpG} (h : SpInv c s g) (hb : s.data.toList[g.i]? = some b) (hc : b ≠ c) : SpInv c s ⟨g.done, g.from_, g.i + 1⟩ := by
  have hl := (List.getElem?_eq_some_iff.1 hb).1
  have hl2 : g.i < s.size := by simpa using hl
  refine ⟨Nat.le_succ_of_le h.le, hl2, Nat.le_succ_of_le h.len, fun k h1 h2 => ?_, h.eq⟩
  rcases Nat.lt_or_ge k g.i with h3 | h3
  · exact h.no k h1 h3
  · obtain rfl : k = g.i := by have h2 : k < g.i + 1 := h2; omega
    rw [hb]
    intro e
    exact hc (Option.some.inj e)
theorem SpInv.fin {c : UInt8} {s : ByteArray} {g : SpG} (h : SpInv c s g) (hi : g.i = s.size) : g.done ++ [s.extract g.from_ s.size] = splB c s := by
  rw [← h.eq]
  congr 1
  have hn := not_in h.no
  have hlen : s.data.toList.length = s.size := by simp
  rw [hi] at hn
  rw [← ext_mk]
  have ht : (s.data.toList.drop g.from_).take (s.size - g.from_) = s.data.toList.drop g.from_ := List.take_of_length_le (by rw [List.length_drop, hlen]; exact Nat.le_refl _)
  rw [ht] at hn ⊢
  rw [spl_none hn]
  rfl
theorem sSplit (c : UInt8) (n : Int) (hn : n = (c.toNat : Int)) (s : ByteArray) (hs : s.size ≤ 1048576) : Spec Tryd.prog 18 [.c (sD s), .c (.pv (.int .u8 n))] (oN kSx ((splB c s).map enSx)) := by
  refine Spec.walk T.mixed Tryd.func18 S.ok18 (by simp [Tryd.f18]) fun hk => ?_
  unfold S.s18
  repeat' (first | refine R.mv rfl ?_ | refine R.reg ?_ | refine R.nil ?_ | refine R.seq ?_ | refine R.nseq ?_ | refine R.nblk ?_ | refine R.skip ?_ | refine R.blk ?_ | refine R.exit rfl ?_ | refine R.slen rfl ?_ | refine R.lss rfl rfl ?_ | refine R.eql rfl rfl ?_ | refine R.add rfl rfl (by omega) ?_ | refine R.six rfl rfl (by omega) (fun a ha => ?_) | refine R.condT rfl ?_ | refine R.condF rfl ?_ | refine R.bsl (f := enSx) ([] : List ByteArray) rfl rfl rfl rfl rfl ?_ | refine R.cond rfl (fun hc => ?_) (fun hc => ?_) | refine R.condN rfl (fun hc => ?_) (fun hc => ?_) | refine R.condB rfl (fun hc => ?_) (fun hc => ?_))
  refine R.loop (G := SpG) (fun g => [(0, pvA (.string s)), (1, pvA (.int .u8 n)), (5, .v (.c (.own 8))), (6, pvA (.int .i64 g.from_)), (7, pvA (.int .i64 g.i))]) (fun g => [(8, .arr kSx (g.done.map enSx) [])]) (SpInv c s) (fun g => s.size - g.i) ⟨[], 0, 0⟩ (SpInv.init c s) (Weak.frame _ _ ⟨rfl, rfl, rfl, rfl, rfl, trivial⟩ ⟨rfl, trivial⟩ rfl rfl) fun g hg => ?_
  have hle := hg.le
  have hlt := hg.lt
  have hln := hg.len
  by_cases hi : g.i < s.size
  · obtain ⟨b, hb⟩ : ∃ b, s[g.i]? = some b := ⟨_, getElem?_pos s g.i hi⟩
    have hb2 := byte_get hb
    repeat' (first | refine R.sixL b hb rfl rfl ?_ | refine R.sslc g.from_ g.i rfl ⟨by omega, by omega⟩ ⟨_, rfl⟩ ⟨_, rfl⟩ ?_ | refine R.mv rfl ?_ | refine R.reg ?_ | refine R.nil ?_ | refine R.seq ?_ | refine R.nseq ?_ | refine R.nblk ?_ | refine R.skip ?_ | refine R.blk ?_ | refine R.exit rfl ?_ | refine R.slen rfl ?_ | refine R.lss rfl rfl ?_ | refine R.eql rfl rfl ?_ | refine R.add rfl rfl (by omega) ?_ | refine R.six rfl rfl (by omega) (fun a ha => ?_) | refine R.condT rfl ?_ | refine R.condF rfl ?_ | refine R.bsl (f := enSx) [s.extract g.from_ g.i] rfl rfl rfl rfl rfl ?_ | refine R.app (f := enSx) (fun _ => rfl) rfl rfl rfl rfl rfl ⟨by simp only [List.length_singleton]; omega, by simp only [List.length_singleton]; omega⟩ ?_ | refine R.cond rfl (fun hc => ?_) (fun hc => ?_) | refine R.condN rfl (fun hc => ?_) (fun hc => ?_) | refine R.condB rfl (fun hc => ?_) (fun hc => ?_))
    all_goals first | (exfalso; omega) | skip
    · have hbc : b = c := by
        apply UInt8.toNat_inj.1
        omega
      exact R.nloop (R.again ⟨g.done ++ [s.extract g.from_ g.i], g.i + 1, g.i + 1⟩ (hg.hit (hbc ▸ hb2)) (by show s.size - (g.i + 1) < s.size - g.i; omega) ⟨rfl, rfl, rfl, rfl, rfl, trivial⟩ ⟨rfl, trivial⟩ rfl rfl)
    · exact R.nloop (R.again ⟨g.done, g.from_, g.i + 1⟩ (hg.miss hb2 (fun e => by subst e; omega)) (by show s.size - (g.i + 1) < s.size - g.i; omega) ⟨rfl, rfl, rfl, rfl, rfl, trivial⟩ ⟨rfl, trivial⟩ rfl rfl)
  · have hie : g.i = s.size := by omega
    have hfin := hg.fin hie
    repeat' (first | refine R.sslc g.from_ s.size rfl ⟨by omega, by omega⟩ ⟨_, rfl⟩ rfl ?_ | refine R.mv rfl ?_ | refine R.reg ?_ | refine R.nil ?_ | refine R.seq ?_ | refine R.nseq ?_ | refine R.nblk ?_ | refine R.skip ?_ | refine R.blk ?_ | refine R.exit rfl ?_ | refine R.slen rfl ?_ | refine R.lss rfl rfl ?_ | refine R.eql rfl rfl ?_ | refine R.add rfl rfl (by omega) ?_ | refine R.six rfl rfl (by omega) (fun a ha => ?_) | refine R.condT rfl ?_ | refine R.condF rfl ?_ | refine R.bsl (f := enSx) [s.extract g.from_ s.size] rfl rfl rfl rfl rfl ?_ | refine R.app (f := enSx) (fun _ => rfl) rfl rfl rfl rfl rfl ⟨by simp only [List.length_singleton]; omega, by simp only [List.length_singleton]; omega⟩ ?_ | refine R.cond rfl (fun hc => ?_) (fun hc => ?_) | refine R.condN rfl (fun hc => ?_) (fun hc => ?_) | refine R.condB rfl (fun hc => ?_) (fun hc => ?_))
    all_goals first | (exfalso; omega) | skip
    rw [← hfin]
    exact R.ret ⟨.inr rfl, R.outN rfl rfl rfl⟩
end Go.Proofs.YtnadbadljbfbbaaDoor
