/- The pieces of a design by their inlets: a range over slices.Backward that writes a map. -/
import Derived.Test.YtnkfbodolbfjpaaMap2
import Derived.Test.YtnkfbodolbfjpaaBoilP1
import Derived.RangeFuncNested
import Derived.RangeFuncBound
import Derived.RangeFuncCalls
import Derived.RangeFuncLeaves
import Derived.Shelf.RegionOpen
import Derived.WalkKit
import Derived.OwnWalkIn
import Derived.TacticsInMore
import Derived.LoopNIn
import Derived.LoopIn
namespace Go.Proofs.Ytnkfbodolbfjpaa
open Go.RowKit
set_option maxRecDepth 100000
set_option maxHeartbeats 4000000
attribute [local go_sem] Oper.semAt_some
/-- The cells of a piece. -/
abbrev pieceV (p : TPiece) : Array Value := #[.int .i64 p.fColor, .int .i64 p.fNorth, .int .i64 p.fEast, .int .i64 p.fSouth, .int .i64 p.fWest]
/-- The cells of a slice of pieces in a world. -/
def PCells (W : World) (b off : Nat) (ps : List (TPiece)) : Prop := ∀ (i : Nat) (p : TPiece), ps[i]? = some p →
  W.cell? ⟨b, off + i * 5, none⟩ = some (.int .i64 p.fColor) ∧ W.cell? ⟨b, off + i * 5 + 1, none⟩ = some (.int .i64 p.fNorth) ∧ W.cell? ⟨b, off + i * 5 + 2, none⟩ = some (.int .i64 p.fEast) ∧ W.cell? ⟨b, off + i * 5 + 3, none⟩ = some (.int .i64 p.fSouth) ∧ W.cell? ⟨b, off + i * 5 + 4, none⟩ = some (.int .i64 p.fWest)
/-- These blocks lie as they lay. -/
def KpB (n b : Nat) (W W' : World) : Prop := W.heap.size ≤ W'.heap.size ∧ ∀ k, (k < n ∨ k = b) → k < W.heap.size → W'.heap[k]? = W.heap[k]?
theorem KpB.refl (n b : Nat) (W : World) : KpB n b W W := ⟨Nat.le_refl _, fun _ _ _ => rfl⟩
theorem KpB.trans {n b : Nat} {W1 W2 W3 : World} (h : KpB n b W1 W2) (k : KpB n b W2 W3) : KpB n b W1 W3 :=
  ⟨Nat.le_trans h.1 k.1, fun i hi hl => (k.2 i hi (Nat.lt_of_lt_of_le hl h.1)).trans (h.2 i hi hl)⟩
theorem KpB.cell {n b : Nat} {W W' : World} (h : KpB n b W W') {p : Addr} {v : Value} (hp : p.block < n ∨ p.block = b) (hv : W.cell? p = some v) : W'.cell? p = some v := by
  have hl : p.block < W.heap.size := by
    obtain ⟨o, ho, _⟩ := cells_of_cell hv
    exact (Array.getElem?_eq_some_iff.1 ho).1
  exact (World.cell?_of_block (h.2 _ hp hl)).trans hv
theorem rev_take {n m : Nat} (h : m < n) : (List.range n).reverse.take (n - m) = (List.range n).reverse.take (n - (m + 1)) ++ [m] := by
  rw [show n - m = (n - (m + 1)) + 1 by omega, List.take_add_one]
  congr 1
  rw [List.getElem?_reverse (by simp; omega), List.length_range, List.getElem?_range (by omega), show n - 1 - (n - (m + 1)) = m by omega]
  rfl
theorem back1 (l Bs n₀ b off cap : Nat) (ps : List (TPiece)) (hlen : ps.length ≤ cap) (hcap : cap ≤ maxLen) (hb : b < n₀) (J Jx : List {i : Nat // i < ps.length} → World → Prop)
    (hY : ∀ pre (x : {i : Nat // i < ps.length}) W, J pre W → pre.length < ps.length → YieldAt Fence.wide 8 Try.prog l #[.int .i64 x.1, .agg (pieceV ps[x.1])] W fun e W' =>
      (e = .returned (.bool true) ∧ J (pre ++ [x]) W' ∧ KpB n₀ Bs W W') ∨ (e = .returned (.bool false) ∧ Jx (pre ++ [x]) W'))
    (W : World) (hBs : W.cell? ⟨Bs, 0, none⟩ = some (.slice (some ⟨b, off, none⟩) ps.length cap)) (hc : PCells W b off ps) (h0 : J [] W) :
    CallsIn Fence.wide 9 Try.prog 253 #[.func (.yield l) #[] #[], .pointer (some ⟨Bs, 0, none⟩)] W fun e W' => (∃ v, e = .returned v) ∧
      ((∃ ys, ys.map (·.1) = (List.range ps.length).reverse ∧ J ys W') ∨ (∃ pre, True ∧ Jx pre W')) := by
  refine callsIn_of_wp Try.func253 rfl trivial ?_ rfl
  simp only [Try.ntmps253, List.size_toArray, List.length_cons, List.length_nil, Nat.reduceAdd, Nat.reduceSub, Array.replicate_succ, Array.replicate_zero, List.push_toArray, List.append_toArray, List.nil_append, List.cons_append]
  have hm : ps.length ≤ maxLen := by omega
  gi_wp2
  gi_loopw [3] (fun i wr => ∃ (m : Nat) (z : Int), m ≤ ps.length ∧ z = (m : Int) - 1 ∧ i = .int .i64 z ∧ (∃ pre : List {i : Nat // i < ps.length}, pre.map (·.1) = (List.range ps.length).reverse.take (ps.length - m) ∧ J pre wr) ∧ KpB n₀ Bs W wr)
    (fun i _ => (intOf i + 1).toNat)
  case atStart => exact ⟨ps.length, RowKit.wrap64 ((ps.length : Int) - 1), Nat.le_refl _, by unfold maxLen at hm; unfold RowKit.wrap64; omega, rfl, ⟨[], by simp, h0⟩, KpB.refl _ _ _⟩
  case round =>
    obtain ⟨m, z, hm', hz', rfl, ⟨pre, hpre, hJs⟩, hnx⟩ := hrel
    cases m with
    | zero =>
      obtain rfl : z = -1 := by omega
      clear hz'
      gi_wp2
      go_end0
      exact ⟨⟨_, rfl⟩, .inl ⟨pre, by rw [hpre, List.take_of_length_le (by simp)], hJs⟩⟩
    | succ m =>
      obtain rfl : z = (m : Int) := by omega
      clear hz'
      obtain ⟨c0, c1, c2, c3, c4⟩ := hc m ps[m] (List.getElem?_eq_getElem (by omega))
      have dB := hnx.cell (p := ⟨Bs, 0, none⟩) (.inr rfl) hBs
      have d0 := hnx.cell (p := ⟨b, off + m * 5, none⟩) (.inl hb) c0
      have d1 := hnx.cell (p := ⟨b, off + m * 5 + 1, none⟩) (.inl hb) c1
      have d2 := hnx.cell (p := ⟨b, off + m * 5 + 2, none⟩) (.inl hb) c2
      have d3 := hnx.cell (p := ⟨b, off + m * 5 + 3, none⟩) (.inl hb) c3
      have d4 := hnx.cell (p := ⟨b, off + m * 5 + 4, none⟩) (.inl hb) c4
      have hlp : pre.length < ps.length := by
        have := congrArg List.length hpre
        simp at this
        omega
      obtain ⟨fn, tmps, assign, body, hy, hR⟩ := hY pre ⟨m, by omega⟩ wr hJs hlp
      dsimp only at hy
      gi_wp2
      refine hR.mono ?_
      rintro e W3 (⟨rfl, hJ3, hk3⟩ | ⟨rfl, hJx3⟩)
      · gi_wp2
        go_roundw
        case rel => exact ⟨m, RowKit.wrap64 ((m : Int) - 1), by omega, by unfold maxLen at hm; unfold RowKit.wrap64; omega, by simp, ⟨_, by rw [List.map_append, hpre, rev_take (m := m) hm']; rfl, hJ3⟩, hnx.trans hk3⟩
        case measure => simp [intOf]; unfold RowKit.wrap64; unfold maxLen at hm; omega
      · gi_wp2
        refine bodyPost_ret (results_none rfl _ _ _) rfl ?_
        exact ⟨⟨_, rfl⟩, .inr ⟨_, trivial, hJx3⟩⟩
theorem back0 (l Bs : Nat) (a : Option Addr) (cap : Nat) (ps : List TPiece) (hps : ps = []) (J : List {i : Nat // i < ps.length} → World → Prop)
    (W : World) (hBs : W.cell? ⟨Bs, 0, none⟩ = some (.slice a 0 cap)) (h0 : J [] W) :
    CallsIn Fence.wide 9 Try.prog 253 #[.func (.yield l) #[] #[], .pointer (some ⟨Bs, 0, none⟩)] W fun e W' => (∃ v, e = .returned v) ∧
      (∃ ys, ys.map (·.1) = (List.range ps.length).reverse ∧ J ys W') := by
  refine callsIn_of_wp Try.func253 rfl trivial ?_ rfl
  simp only [Try.ntmps253, List.size_toArray, List.length_cons, List.length_nil, Nat.reduceAdd, Nat.reduceSub, Array.replicate_succ, Array.replicate_zero, List.push_toArray, List.append_toArray, List.nil_append, List.cons_append]
  gi_wp2
  gi_loopw [3] (fun i wr => i = .int .i64 (-1) ∧ J [] wr) (fun i _ => 0)
  case atStart => exact ⟨rfl, h0⟩
  case round =>
    obtain ⟨rfl, hJs⟩ := hrel
    gi_wp2
    go_end0
    exact ⟨⟨_, rfl⟩, ⟨[], by rw [hps]; rfl, hJs⟩⟩
theorem back_in (a : Option Addr) (len cap : Nat) (w : World) :
    CallsIn Fence.wide 9 Try.prog 233 #[.slice a len cap] w fun e w' => e = .returned (.func (.func 253) #[] #[.pointer (some ⟨w.heap.size, 0, none⟩)]) ∧ w' = w.alloc (.cells #[.slice a len cap] 84) := by
  refine callsIn_of_wp Try.func233 rfl trivial ?_ rfl
  simp only [Try.ntmps233, List.size_toArray, List.length_cons, List.length_nil, Nat.reduceAdd, Nat.reduceSub, Array.replicate_succ, Array.replicate_zero, List.push_toArray, List.append_toArray, List.nil_append, List.cons_append]
  gi_wp2
  go_ret
  exact ⟨rfl, rfl⟩
/-- The slice holds these pieces, in a block below n₀, or there are none. -/
def PSl (W : World) (n₀ : Nat) (v : Value) (ps : List TPiece) : Prop :=
  (ps = [] ∧ ∃ a cap, v = .slice a 0 cap) ∨ ∃ b off cap, v = .slice (some ⟨b, off, none⟩) ps.length cap ∧ b < n₀ ∧ ps.length ≤ cap ∧ cap ≤ maxLen ∧ PCells W b off ps
theorem back_stops (Bs n₀ : Nat) (sv : Value) (ps : List TPiece) (w : World) (hBs : Bs < w.heap.size) (hn : n₀ ≤ w.heap.size)
    (hc : w.cell? ⟨Bs, 0, none⟩ = some sv) (hI : PSl w n₀ sv ps) :
    SeqStopsK Fence.wide 9 Try.prog 253 #[.pointer (some ⟨Bs, 0, none⟩)] (fun x : {i : Nat // i < ps.length} => #[Value.int .i64 x.1, Value.agg (pieceV ps[x.1])]) (KpB n₀ Bs) (fun ys => ys.map (·.1) = (List.range ps.length).reverse) (fun _ => True) ps.length w := fun l J Jx W hW _ _ hY h0 => by
  have hc' := (hW.cell (p := ⟨Bs, 0, none⟩) hBs).trans hc
  rcases hI with ⟨hp, a, cap, rfl⟩ | ⟨b, off, cap, rfl, hb, h1, h2, h3⟩
  · exact (back0 l Bs a cap ps hp J W hc' h0).mono fun e W' ⟨he, hj⟩ => ⟨he, .inl hj⟩
  · refine back1 l Bs n₀ b off cap ps h1 h2 hb J Jx hY W hc' (fun i p hp => ?_) h0
    obtain ⟨c0, c1, c2, c3, c4⟩ := h3 i p hp
    have hbw : b < w.heap.size := by omega
    exact ⟨(hW.cell (p := ⟨b, _, none⟩) hbw).trans c0, (hW.cell (p := ⟨b, _, none⟩) hbw).trans c1, (hW.cell (p := ⟨b, _, none⟩) hbw).trans c2, (hW.cell (p := ⟨b, _, none⟩) hbw).trans c3, (hW.cell (p := ⟨b, _, none⟩) hbw).trans c4⟩
theorem fit2B {k1 k2 : IntKind} : ∀ {cs : List Value}, fitK [.i k1, .i k2] cs = true → ∃ x y, cs = [.int k1 x, .int k2 y] := fun {cs} h => by
  cases cs with
  | nil => simp [fitK] at h
  | cons p cs =>
    cases p <;> try (simp [fitK] at h; done)
    cases cs with
    | nil => simp [fitK] at h
    | cons q cs =>
      cases q <;> try (simp [fitK] at h; done)
      cases cs with
      | nil =>
        simp only [fitK, Bool.and_true, Bool.and_eq_true, decide_eq_true_eq] at h
        obtain ⟨rfl, rfl⟩ := h
        exact ⟨_, _, rfl⟩
      | cons r cs => simp [fitK] at h
theorem keyInlet : KeyOk Try.prog 311 (fun k => ∃ cs : List Value, k = .agg cs.toArray ∧ fitK [.i .i64, .i .i64] cs = true) := by
  refine keySt (d := 3) Try.underlying311 (by kernel_rfl) (by decide) fun cs h b w => ?_
  obtain ⟨x, y, rfl⟩ := fit2B h
  have hI : ∀ n, (Instr.checkKey b 9999 2 (.int .i64 n)).run Try.prog w = .ok () w := fun n => MapKept.run_checkKey (k := .int .i64 n) Try.underlying2 (by simp [MapKept.IsKey]) b 9998
  have p0 := run_part_of (P := Try.prog) (w := w) (off := 0) (cs := [.int .i64 x, .int .i64 y]) T.ty2 (by decide) (by simp)
  have p1 := run_part_of (P := Try.prog) (w := w) (off := 1) (cs := [.int .i64 x, .int .i64 y]) T.ty2 (by decide) (by simp)
  show (Instr.checkKey b (9999 + 1) _ _).run _ w = _
  rw [Instr.checkKey]
  simp only [Sem.run_bind, run_underlying Try.underlying311, Result.andThen_ok]
  generalize Instr.checkKey b 9999 = chk at hI ⊢
  simp [p0, p1, hI, valOf, Result.andThen]
abbrev keyP (p : TPiece) : Value := .agg #[.int .i64 p.fSouth, .int .i64 p.fWest]
/-- The map when these places have been written. -/
noncomputable def inlE (ps : List TPiece) (is : List Nat) : List (Value × Value) := is.foldl (fun (es : List (Value × Value)) (i : Nat) => match ps[i]? with | some p => putE (keyP p) (.int .i64 i) es | none => es) []
theorem inlE_snoc {ps : List TPiece} {is : List Nat} {i : Nat} (h : i < ps.length) : inlE ps (is ++ [i]) = putE (keyP ps[i]) (.int .i64 i) (inlE ps is) := by
  unfold inlE
  rw [List.foldl_append]
  simp [List.getElem?_eq_getElem h]
theorem inlE_keys (ps : List TPiece) : ∀ (is : List Nat) (es : List (Value × Value)), (∀ e ∈ es, ∃ cs : List Value, e.1 = .agg cs.toArray ∧ fitK [.i .i64, .i .i64] cs = true) → ∀ e ∈ is.foldl (fun (es : List (Value × Value)) (i : Nat) => match ps[i]? with | some p => putE (keyP p) (.int .i64 i) es | none => es) es, ∃ cs : List Value, e.1 = .agg cs.toArray ∧ fitK [.i .i64, .i .i64] cs = true
  | [], es, h => h
  | i :: is, es, h => by
    rw [List.foldl_cons]
    refine inlE_keys ps is _ ?_
    cases hp : ps[i]? with
    | none => exact h
    | some p => exact putE_keys (ok := fun k => ∃ cs : List Value, k = .agg cs.toArray ∧ fitK [.i .i64, .i .i64] cs = true) ⟨[.int .i64 p.fSouth, .int .i64 p.fWest], rfl, rfl⟩ h
theorem byInlet1 (sv : Value) (a : Option Addr) (len cap : Nat) (hsv : sv = .slice a len cap) (ps : List TPiece) (w : World) (hI : PSl w w.heap.size sv ps) :
    CallsIn Fence.wide 10 Try.prog 191 #[sv] w fun e W' => ∃ ms clock, e = .returned (.map (some w.heap.size)) ∧ W'.heap[w.heap.size]? = some (.map ms clock) ∧ ms.toList.map pairE = inlE ps (List.range ps.length).reverse ∧ Below w.heap.size w W' := by
  subst hsv
  have hmm := @run_makeMap Try.prog
  refine callsIn_of_wp_marks Try.func191 rfl trivial ?_ rfl
  simp only [Try.ntmps191, List.size_toArray, List.length_cons, List.length_nil, Nat.reduceAdd, Nat.reduceSub, Array.replicate_succ, Array.replicate_zero, List.push_toArray, List.append_toArray, List.nil_append, List.cons_append]
  gi_wp2_with (refine ⟨trivial, ?_⟩; gi_at_call 233; refine (back_in _ _ _ _).mono ?_; rintro e w' ⟨rfl, rfl⟩)
  have bM := World.alloc_heap_new w (.map #[] 0)
  have bO := Boxed.new (w.alloc (.map #[] 0)) 269 (.map (some w.heap.size))
  have bS := Boxed.new ((w.alloc (.map #[] 0)).alloc (.cells #[.map (some w.heap.size)] 269)) 84 (.slice a len cap)
  simp only [World.size_alloc] at bO bS
  have hB0 : Below w.heap.size w (((w.alloc (.map #[] 0)).alloc (.cells #[.map (some w.heap.size)] 269)).alloc (.cells #[.slice a len cap] 84)) := (((Below.refl _ w).alloc (Nat.le_refl _) _).alloc (by simp) _).alloc (by simp; omega) _
  have hsz : (((w.alloc (.map #[] 0)).alloc (.cells #[.map (some w.heap.size)] 269)).alloc (.cells #[.slice a len cap] 84)).heap.size = w.heap.size + 3 := by simp
  have bO2 := bO.alloc (.cells #[.slice a len cap] 84)
  have bM2 : (((w.alloc (.map #[] 0)).alloc (.cells #[.map (some w.heap.size)] 269)).alloc (.cells #[.slice a len cap] 84)).heap[w.heap.size]? = some (.map #[] 0) :=
    (Below.heap_alloc _ _ _ (by simp; omega)).trans ((Below.heap_alloc _ _ _ (by simp)).trans bM)
  have hI2 : PSl (((w.alloc (.map #[] 0)).alloc (.cells #[.map (some w.heap.size)] 269)).alloc (.cells #[.slice a len cap] 84)) w.heap.size (.slice a len cap) ps := by
    rcases hI with ⟨hp, a', cap', h⟩ | ⟨b, off, cap', h, hb, h1, h2, h3⟩
    · exact .inl ⟨hp, a', cap', h⟩
    · refine .inr ⟨b, off, cap', h, hb, h1, h2, fun i p hp => ?_⟩
      obtain ⟨c0, c1, c2, c3, c4⟩ := h3 i p hp
      exact ⟨(hB0.cell (p := ⟨b, _, none⟩) hb).trans c0, (hB0.cell (p := ⟨b, _, none⟩) hb).trans c1, (hB0.cell (p := ⟨b, _, none⟩) hb).trans c2, (hB0.cell (p := ⟨b, _, none⟩) hb).trans c3, (hB0.cell (p := ⟨b, _, none⟩) hb).trans c4⟩
  generalize ((w.alloc (.map #[] 0)).alloc (.cells #[.map (some w.heap.size)] 269)).alloc (.cells #[.slice a len cap] 84) = W0 at bS bO2 bM2 hB0 hsz hI2 ⊢
  clear bM bO
  have hbs : w.heap.size + 1 + 1 < W0.heap.size := by omega
  refine wpIn_rangeFunc_ownH rfl (by decide) (gf := 253) (lb := #[.pointer (some ⟨w.heap.size + 1 + 1, 0, none⟩)]) rfl trivial (enters_of Try.func253 (by kernel_rfl) rfl)
    (back_stops (w.heap.size + 1 + 1) w.heap.size (.slice a len cap) ps W0 (by omega) (by omega) bS.cell hI2) (fun h k => h.trans k)
    (fun W l o o' hl _ _ _ => ⟨by simp, fun k hk _ => World.putObj_heap_other (by omega)⟩) (Below.refl _ _) (fun _ => rfl)
    (fun pre W => (Boxed W (w.heap.size + 1) 269 (.map (some w.heap.size)) ∧ ∃ ms clock, W.heap[w.heap.size]? = some (.map ms clock) ∧ ms.toList.map pairE = inlE ps (pre.map (·.1)) ∧ W0.heap.size ≤ W.heap.size) ∧ Below w.heap.size w W)
    (fun _ _ _ => False)
    (OwnFrom.and (OwnFrom.and (Own.from (boxed_own _ _ _) _) (fun s X Y row hs hg hr => by
      obtain ⟨ms, clock, h1, h2, h3⟩ := hs
      have hlt := (Array.getElem?_eq_some_iff.1 h1).1
      exact ⟨ms, clock, (hg.block _ hlt (fun e => by have := (hr _ e.symm).1; omega)).trans h1, h2, Nat.le_trans h3 hg.size⟩)) (ownFrom_below (Nat.le_refl _) (by omega)))
    (fun _ _ _ _ _ hs _ _ => hs)
    ⟨⟨bO2, _, _, bM2, rfl, Nat.le_refl _⟩, hB0⟩
    (fun x a' W => ∃ Bx, w.heap.size + 1 + 1 < Bx ∧ W.heap[Bx]? = some (.cells (pieceV ps[x.1]) 258 (0, 0)) ∧ a' = { tmps := #[.slice a len cap, undef, .map none, .pointer (some ⟨w.heap.size + 1, 0, none⟩), .int .i64 x.1, .pointer (some ⟨Bx, 0, none⟩), .map (some w.heap.size), .slice a len cap, .func (.func 253) #[] #[.pointer (some ⟨w.heap.size + 1 + 1, 0, none⟩)], .int .i64 x.1, .agg (pieceV ps[x.1]), undef, undef, undef, undef, undef, undef, undef, undef], defers := [] })
    (fun x a' _ X Y row hs hg hr => by
      obtain ⟨Bx, h1, h2, h3⟩ := hs
      have hlt := (Array.getElem?_eq_some_iff.1 h2).1
      exact ⟨Bx, h1, (hg.block _ hlt (fun e => by obtain ⟨o, ho, hoc⟩ := (hr _ e.symm).2; rw [h2] at ho; cases ho; simp [Obj.isCells] at hoc)).trans h2, h3⟩)
    ?assign ?body ?done ?stop
  case assign =>
    rintro l pre x W K ⟨⟨bO1, ms, clock, hms, hes, hWs⟩, hB1⟩ hK
    have hms2 : w.heap.size < W.heap.size := by omega
    gi_wp2
    exact hK _ _ ((KeepsOthers.alloc _ _).from _) ⟨by simp, fun k hk hl => Below.heap_alloc _ _ _ hl⟩ ⟨⟨bO1.alloc _, ms, clock, (Below.heap_alloc _ _ _ hms2).trans hms, hes, by simp; omega⟩, hB1.alloc hB1.size _⟩ ⟨W.heap.size, by omega, World.alloc_heap_new _ _, rfl⟩
  case body =>
    rintro l pre x a' W hl ⟨r, hr⟩ ⟨⟨bO1, ms, clock, hms, hes, hWs⟩, hB1⟩ ⟨Bx, hBx, bX, rfl⟩ hlt
    have cO := bO1.cell
    have c3 : W.cell? ⟨Bx, 3, none⟩ = some (.int .i64 ps[x.1].fSouth) := by simp [World.cell?, bX]
    have c4 : W.cell? ⟨Bx, 4, none⟩ = some (.int .i64 ps[x.1].fWest) := by simp [World.cell?, bX]
    obtain ⟨ms', clock', hput, hpe⟩ := run_put (P := Try.prog) keyInlet (k := keyP ps[x.1]) (v := .int .i64 x.1) Try.underlying269 hms hes ⟨[.int .i64 ps[x.1].fSouth, .int .i64 ps[x.1].fWest], rfl, rfl⟩ (inlE_keys ps _ [] (fun e he => by cases he))
    gi_wp2
    have G := grownBy_putObj' W w.heap.size (.map ms' clock')
    have hlt' := (Array.getElem?_eq_some_iff.1 hms).1
    exact ⟨KeepsFrom.of_grownBy G (fun j e => by cases e; omega), ⟨by simp, fun k hk _ => World.putObj_heap_other (by omega)⟩,
      ⟨bO1.kept G (by simp), ms', clock', World.putObj_heap_same hlt', by rw [List.map_append]; exact hpe.trans (inlE_snoc x.2).symm, Nat.le_trans hWs G.size⟩, hB1.grown G hB1.size (fun k e => by cases e; exact Nat.le_refl _)⟩
  case done =>
    rintro D ys W hD hys ⟨⟨bO1, ms, clock, hms, hes, hWs⟩, hB1⟩ hK
    have cO := bO1.cell
    gi_wp2
    refine ⟨by simp, .inl ⟨_, _, rfl, run_takeDeferred hK, ?_⟩⟩
    exact ⟨_, results_tmp rfl _ _ _, ms, clock, rfl, (World.putObj_heap_other (by omega)).trans hms, by rw [hes, hys], hB1.trans (belowK_b (w := w) (Nat.le_refl _) W D _ _ (by omega) hK rfl rfl)⟩
  case stop =>
    rintro D c pre W _ _ h _
    exact h.elim
theorem iByInlet (ps : List TPiece) : Spec Try.prog 191 [.c (.rd kPiece (ps.map enPiece))] (.v (.c (.nm (inlE ps (List.range ps.length).reverse)))) := by
  refine ⟨callFunc_enter Try.func191 rfl (by simp [Try.f191]), fun w R ι φ vs hR hF ho => ?_⟩
  cases hF with | cons h1 h2 =>
  cases h2
  rename_i v
  have h1 : RD w R v (.rd kPiece (ps.map enPiece)) := h1
  obtain ⟨a, len, cap, rfl⟩ : ∃ a len cap, v = .slice a len cap := by
    generalize ps.map enPiece = xs at h1
    cases h1
    · exact ⟨_, _, _, rfl⟩
    · exact ⟨_, _, _, rfl⟩
  have hI : PSl w w.heap.size (.slice a len cap) ps := by
    generalize hxs : ps.map enPiece = xs at h1
    cases h1 with
    | nil => exact .inl ⟨List.map_eq_nil_iff.1 hxs, _, _, rfl⟩
    | rd c g0 g1 g2 gR gk gc gr =>
      have hl : xs.length = ps.length := by rw [← hxs]; simp
      refine .inr ⟨_, _, _, by rw [hl], hR _ gR, by omega, g2, fun i p hp => ?_⟩
      have hx : xs[i]? = some (enPiece p) := by rw [← hxs, List.getElem?_map, hp]; rfl
      have key : ∀ (j : Nat) (n : Int), j < 5 → (enPiece p)[j]? = some (iD n) → w.cell? ⟨_, _ + i * 5 + j, none⟩ = some (.int .i64 n) := fun j n hj hd => by
        have e1 := gc i _ j hx hj
        have e2 := gr i _ j _ hx hd
        generalize c i j = u at e1 e2
        cases e2
        exact e1
      exact ⟨key 0 _ (by decide) rfl, key 1 _ (by decide) rfl, key 2 _ (by decide) rfl, key 3 _ (by decide) rfl, key 4 _ (by decide) rfl⟩
  refine (callsIn_wide.1 (byInlet1 _ a len cap rfl ps w hI)).mono ?_
  rintro e w1 ⟨ms, clock, rfl, hm, hes, hbl⟩
  have hlt := (Array.getElem?_eq_some_iff.1 hm).1
  have hnR : ¬ R w.heap.size := fun h => Nat.lt_irrefl _ (hR _ h)
  have hg : ∀ o x, frO ([(0, Ob.mp (inlE ps (List.range ps.length).reverse))]) o = some x → o = 0 ∧ x = .mp (inlE ps (List.range ps.length).reverse) := fun o x h => by
    simp only [frO, upd] at h
    split at h
    · cases h; exact ⟨by assumption, rfl⟩
    · cases h
  refine ⟨_, rfl, R, upd ι 0 (.map (some w.heap.size)), upd φ 0 [w.heap.size], BelowM.of_below hbl, fun b h => h, fun b h => Nat.lt_of_lt_of_le (hR b h) hbl.size, fun b h _ => .inl h, ?_, ⟨fun o x h => ?_, fun o x h g hgm => ?_, fun o p x y g h h' _ _ => (hg o x h).1.trans (hg p y h').1.symm, ho.2.2.2.keep (fun _ h => h) fun b hb => hbl.block b (hR b hb)⟩, fun g h => ?_, fun o h => upd_ne _ _ (fun e => by subst e; exact absurd h (by decide))⟩
  · exact ⟨⟨_, upd_same _ _ _⟩, (upd_same _ _ _).symm⟩
  · obtain ⟨rfl, rfl⟩ := hg o x h
    exact ⟨w.heap.size, clock, ms, upd_same _ _ _, upd_same _ _ _, hm, hes⟩
  · obtain ⟨rfl, rfl⟩ := hg o x h
    rw [upd_same, List.mem_singleton] at hgm
    subst hgm
    exact ⟨hnR, hlt⟩
  · obtain ⟨o, x, h, hgm⟩ := h
    obtain ⟨rfl, rfl⟩ := hg o x h
    rw [upd_same, List.mem_singleton] at hgm
    subst hgm
    exact .inr (Nat.le_refl _)
end Go.Proofs.Ytnkfbodolbfjpaa
