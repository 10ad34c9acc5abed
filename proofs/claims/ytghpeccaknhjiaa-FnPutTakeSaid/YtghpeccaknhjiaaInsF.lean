/- slices.Insert on a row of placed tiles. -/
import Derived.Test.YtghpeccaknhjiaaDelF
import Derived.Lib.AppendZerosOnto
import Derived.Lib.Overlaps
import Derived.Shelf.RegionOpenPlain
import Derived.Maps.AppendAt
namespace Go.Proofs.Ytghpeccaknhjiaa
open Go.RowKit Go.Lib
set_option maxRecDepth 100000
set_option maxHeartbeats 2000000
theorem infoPl : (Try.prog.info? 50).map (fun i => (i.zero, i.size, i.bytes)) = some (some (.agg #[.int .i64 0, .int .i64 0, .int .i64 0]), 3, 24) := by kernel_rfl
theorem run_copy3 {w : World} {b : Nat} {X : List Value} (h : Bk w b X) (o dLen dCap : Nat) (a : Addr) (sLen sCap : Nat) (cs : List Value) (hn : cs.length = Nat.min sLen dLen * 3) (hsrc : ∀ j v, cs[j]? = some v → w.cell? (a.add j) = some v) (hfit : o + cs.length ≤ X.length) (h1 : ∀ v ∈ cs, v.oneCell' = true) :
    ∀ ty, (Builtin.copy_ #[28, 28] ty #[.slice (some ⟨b, o, none⟩) dLen dCap, .slice (some a) sLen sCap]).run Try.prog w = .ok (goInt (Nat.min sLen dLen)) (w.setRow b (putX X o cs).toArray) := fun ty => by
  have hl := run_loadCells_list (P := Try.prog) w a cs hsrc
  have hst := h.put hfit h1
  obtain ⟨i0, hi, _, hz1, _⟩ := info_parts infoPl
  simp [Builtin.copy_, run_underlying Try.underlying28, Builtin.lenOf, Builtin.firstCells, sizeOf, typeInfo, hi, hz1, ← hn, hl, hst]
theorem wp_copy_run3 (w : World) {o : Oper} {a : Act} {K : Act → World → Prop} {Q : Exit → Act → World → Prop} (d s : Operand) (t t' : TypeId)
    (ho : o.op = .call { callee := .builtin .copy, args := #[d, s], argTypes := #[t, t'] }) (v u : Value) (hd : a.eval d = v) (hs : a.eval s = u) {v' : Value} {w' : World}
    (hr : (Builtin.copy_ #[t, t'] o.type #[v, u]).run Try.prog w = .ok v' w') (h : K (a.put o.dst v') w') : o.wp Try.prog a w K Q := by
  unfold Oper.wp execOp
  simp only [ho, resolve, invoke, builtin, Sem.run_bind, Sem.run_pure, Result.andThen_ok, List.map_toArray, List.map_cons, List.map_nil, hd, hs, hr]
  exact h
theorem wpList_copy_run3 (w : World) {ops : Array Oper} {rest : List Oper} {o : Oper} {a : Act} {Q : Exit → Act → World → Prop} (hgd : o.guard = none) (d s : Operand) (t t' : TypeId)
    (ho : o.op = .call { callee := .builtin .copy, args := #[d, s], argTypes := #[t, t'] }) (v u : Value) (hd : a.eval d = v) (hs : a.eval s = u) {v' : Value} {w' : World}
    (hr : (Builtin.copy_ #[t, t'] o.type #[v, u]).run Try.prog w = .ok v' w') (h : wpList Try.prog ops Q rest (a.put o.dst v') w') : wpList Try.prog ops Q (o :: rest) a w :=
  wpList_plain hgd fun _ hK => wp_copy_run3 w d s t t' ho v u hd hs hr (hK _ _ h)
theorem step_copy_run3 {ops : Array Oper} {o : Oper} {a : Act} {w : World} {K : Act → World → Prop} {Q : Exit → Act → World → Prop} {E : Prop}
    (hg : o.guard = none) (d x : Operand) (dT sT : TypeId) (hop : o.op = Op.call { callee := Callee.builtin Builtin.copy, args := #[d, x], argTypes := #[dT, sT] })
    (v u : Value) (hd : a.eval d = v) (hx : a.eval x = u) {v' : Value} {w' : World} (hr : (Builtin.copy_ #[dT, sT] o.type #[v, u]).run Try.prog w = .ok v' w') (hK : K (a.put o.dst v') w') :
    if Region.wanted o (yielded ops a.tmps) = true then Oper.wp Try.prog o a w K Q else E := by
  have hw : Region.wanted o (yielded ops a.tmps) = true := by simp [Region.wanted, hg]
  rw [if_pos hw]
  unfold Oper.wp
  simp [execOp, hop, resolve, invoke, builtin, hd, hx, hr, Result.andThen]
  exact hK
theorem but_below {w a b : World} (h : Below w.heap.size w a) (k : But w.heap.size a b) : Below w.heap.size w b := h.trans ⟨k.os, k.tape, k.output, k.size, fun i hi => k.block i (by have := h.size; omega) (by omega)⟩
/-- At the end. -/
theorem ins_end {a : Option Addr} {n cap : Nat} {l : List TPlaced} {q : TPlaced} (w : World) (vb vo vc : Nat) (hn : n ≤ 1048576) (how : w.ownsRow 0 50 3 (.slice a n cap) n (flat3 l))
    (hq : ∀ j u, (c3 q)[j]? = some u → w.cell? ((⟨vb, vo, none⟩ : Addr).add j) = some u) :
    Calls Try.prog 54 #[.slice a n cap, .int .i64 n, .slice (some ⟨vb, vo, none⟩) 1 vc] w fun e w' => ∃ v', e = .returned v' ∧ w'.ownsRow 0 50 3 v' (n + 1) (flat3 (l ++ [q])) ∧ w.grownBy w' (a.map (·.block)) ∧ (v'.ownBlock = a.map (·.block) ∨ v'.ownBlock = some w.heap.size) := by
  obtain ⟨i0, hi, hz0, hz1, hz2⟩ := info_parts infoPl
  obtain ⟨v', w', hr, h1, h2, _, h5⟩ := run_append_own_at (P := Try.prog) w 0 28 28 50 i0 _ 3 24 Try.underlying28 hi hz0 hz1 hz2 rfl (by decide) _ n _ how ⟨vb, vo, none⟩ 1 vc (c3 q) rfl hq (fun u hu => flat3_one (l := [q]) (by simpa [flat3] using hu)) (by unfold maxLen; omega) (by omega) (Nat.zero_le _)
  have H1 : Hid (w'.ownsRow 0 50 3 v' (n + 1) (flat3 (l ++ [q]))) := Lib.hid (by
    rw [flat3_append]
    simpa [flat3] using h1)
  have ho : (Value.slice a n cap).ownBlock = a.map (·.block) := by cases a <;> rfl
  rw [ho] at h2 h5
  have H2 := Lib.hid (And.intro h2 h5)
  clear h1 hq how ho h2 h5
  go_enter Try.func54, Try.ntmps54
  go_wp2_with (at_builtin; refine Lib.wpList_append_run _ rfl _ _ _ _ rfl _ _ rfl rfl _ _ hr ?_)
  all_goals
    go_ret
    exact ⟨_, rfl, H1.out, H2.out⟩
/-- Within, and there is room. -/
theorem ins_room {b n cap i : Nat} {X : List Value} {l : List TPlaced} {q : TPlaced} (w : World) (vb vo vc : Nat) (hn : n ≤ 1048576) (hB : Bk w b X) (hnc : n + 1 ≤ cap) (hm : cap ≤ maxLen) (hx : X.length = cap * 3) (ht : X.take (n * 3) = flat3 l) (hl : l.length = n) (hi : i < n) (hvb : vb ≠ b)
    (hq : ∀ j u, (c3 q)[j]? = some u → w.cell? ((⟨vb, vo, none⟩ : Addr).add j) = some u) (tA : TypeId) (kA : Nat) (hsa : w.shape? vb = some (tA, kA)) (hfa : w.frozen? ⟨vb, vo, none⟩ = false) (hfe : w.frozen? ⟨vb, kA, none⟩ = false) :
    Calls Try.prog 54 #[.slice (some ⟨b, 0, none⟩) n cap, .int .i64 i, .slice (some ⟨vb, vo, none⟩) 1 vc] w fun e w' => ∃ Y, e = .returned (.slice (some ⟨b, 0, none⟩) (n + 1) cap) ∧ But b w w' ∧ Bk w' b Y ∧ Y.length = cap * 3 ∧ Y.take ((n + 1) * 3) = flat3 (l.take i ++ [q] ++ l.drop i) := by
  have hov : ∀ lb cb, (callFunc 67 #[.slice (some ⟨vb, vo, none⟩) 1 vc, .slice (some ⟨b, (i + 1) * 3, none⟩) lb cb]).run Try.prog w = .ok (.value (.bool false)) w := fun lb cb => by
    rw [run_callFunc_extern Try.func67 (by kernel_rfl) (by kernel_rfl) (by kernel_rfl) (e := Extern.SlicesOverlaps.overlaps #[28, 28] #[4]) (by kernel_rfl),
      Lib.run_overlaps_apart w 28 4 50 Try.underlying28 3 (fun w => by kernel_rfl) ⟨vb, vo, none⟩ ⟨b, (i + 1) * 3, none⟩ 1 vc lb cb hvb tA 50 kA X.length hsa (by have h : w.heap[b]? = _ := hB; simp [World.shape?, h]) (by omega) hfa hfe]
    rfl
  have hdl : (flat3 (l.drop i)).length = (n - i) * 3 := by rw [flat3_len, List.length_drop, hl]
  have hBd : Bk w.drew b X := hB
  have hc1 := run_copy3 hBd ((i + 1) * 3) (n + 1 - (i + 1)) (cap - (i + 1)) ⟨b, i * 3, none⟩ (n + 1 - i) (cap - i) (flat3 (l.drop i)) (by rw [hdl]; congr 1; simp only [Nat.min_def]; split <;> omega) (fun j v hj => by
    rw [Addr.add_lit]
    refine hBd.cell ?_
    have hjl : j < (n - i) * 3 := by rw [← hdl]; exact (List.getElem?_eq_some_iff.1 hj).1
    rw [← flat3_drop, ← ht, List.getElem?_drop, List.getElem?_take_of_lt (by omega)] at hj
    exact hj) (by rw [hdl]; omega) (fun v hv => flat3_one hv)
  have hr1 := hBd.row (putX X ((i + 1) * 3) (flat3 (l.drop i)))
  have hb1 : But b w w.drew := ⟨rfl, rfl, rfl, Nat.le_refl _, fun _ _ _ => rfl⟩
  obtain ⟨W1, hW1⟩ : ∃ W1, W1 = w.drew.setRow b (putX X ((i + 1) * 3) (flat3 (l.drop i))).toArray := ⟨_, rfl⟩
  rw [← hW1] at hc1 hr1
  obtain ⟨r1, r2, r3⟩ := hr1
  have hvw : vb < w.heap.size := by
    rcases Nat.lt_or_ge vb w.heap.size with h | h
    · exact h
    · simp [World.shape?, Array.getElem?_eq_none h] at hsa
  have hc2 := run_copy3 r1 (i * 3) (n + 1 - i) (cap - i) ⟨vb, vo, none⟩ 1 vc (c3 q) (by rw [c3_len, show Nat.min 1 (n + 1 - i) = 1 by simp only [Nat.min_def]; split <;> omega]) (fun j u hj => by
    rw [Addr.add_lit]
    have := hq j u hj
    rw [Addr.add_lit] at this
    exact (cell_of_block (r2.block vb hvw hvb) _).trans this) (by rw [c3_len, putX_len (by rw [hdl]; omega)]; omega) (fun u hu => flat3_one (l := [q]) (by simpa [flat3] using hu))
  have hr2 := r1.row (putX (putX X ((i + 1) * 3) (flat3 (l.drop i))) (i * 3) (c3 q))
  have hfin : (putX (putX X ((i + 1) * 3) (flat3 (l.drop i))) (i * 3) (c3 q)).length = cap * 3 ∧ (putX (putX X ((i + 1) * 3) (flat3 (l.drop i))) (i * 3) (c3 q)).take ((n + 1) * 3) = flat3 (l.take i ++ [q] ++ l.drop i) := by
    have hX1 : (putX X ((i + 1) * 3) (flat3 (l.drop i))).length = X.length := putX_len (by rw [hdl]; omega)
    have a1 : (X.take ((i + 1) * 3)).length = (i + 1) * 3 := by rw [List.length_take]; omega
    have a2 : (putX X ((i + 1) * 3) (flat3 (l.drop i))).take (i * 3) = flat3 (l.take i) := by
      unfold putX
      rw [List.append_assoc, List.take_append_of_le_length (by omega), List.take_take, Nat.min_eq_left (by omega), ← flat3_take, ← ht, List.take_take, Nat.min_eq_left (by omega)]
    have a3 : (putX X ((i + 1) * 3) (flat3 (l.drop i))).drop (i * 3 + 3) = flat3 (l.drop i) ++ X.drop ((i + 1) * 3 + (flat3 (l.drop i)).length) := by
      unfold putX
      rw [List.append_assoc, List.drop_append_of_le_length (by omega), List.drop_of_length_le (by omega), List.nil_append]
    have a4 : (flat3 (l.take i)).length = i * 3 := by rw [flat3_len, List.length_take]; omega
    refine ⟨by rw [putX_len (by rw [c3_len]; omega), hX1]; exact hx, ?_⟩
    have a5 : ∀ R : List Value, (flat3 (l.drop i) ++ R).take ((n + 1) * 3 - i * 3 - 3) = flat3 (l.drop i) := fun R => by
      rw [List.take_append_of_le_length (by omega), List.take_of_length_le (l := flat3 (l.drop i)) (by omega)]
    rw [putX, a2, c3_len, a3, take3 (by rw [a4, c3_len]; omega), a4, c3_len, a5, flat3_append, flat3_append]
    simp [flat3]
  have HF := Lib.hid (And.intro hfin (And.intro hr2 (And.intro r1 (And.intro r2 (And.intro hb1 hm)))))
  have hcap63 : cap ≤ 9223372036854775807 := by unfold maxLen at hm; omega
  have hz2 : ¬ ((i : Int) = (n : Int)) := by omega
  have hb2 : ¬ (cap = i + 1) := by omega
  have hb3 : (i : Int) ≤ (n : Int) + 1 := by omega
  have hb4 : ¬ (cap = i) := by omega
  have hin : i ≤ n := by omega
  have mixed : Try.prog.follows .mixedOrders = true := by kernel_rfl
  have hw1 : IntKind.i64.wrap ((i : Int) + 1) = (i : Int) + 1 := by rw [IntKind.wrap_i64]; omega
  have hb5 : (0 : Int) ≤ (i : Int) + 1 := by omega
  have hb6 : (i : Int) + 1 ≤ (n : Int) + 1 := by omega
  have htn : ((i : Int) + 1).toNat = i + 1 := by omega
  clear hfin hr2 r1 r2 hb1 hm hdl hBd r3 hsa hfa hfe hq hvw hvb ht hx hl hB hW1
  go_enter Try.func54, Try.ntmps54
  go_wp2_with (simp only [hov])
  go_region_law_o (refine step_copy_run3 rfl _ _ 28 28 rfl _ _ (by simp [Act.eval, Act.put]) (by simp [Act.eval, Act.put]) (hc1 _) ?_)
  go_wp2_with (at_builtin; refine wpList_copy_run3 _ rfl _ _ 28 28 rfl _ _ rfl rfl (hc2 _) ?_)
  go_ret
  obtain ⟨⟨f1, f2⟩, ⟨g1, g2, _⟩, _, g3, g4, _⟩ := HF.out
  exact ⟨_, rfl, (g4.trans g3).trans g2, g1, f1, f2⟩
/-- Within, and there is no room. -/
theorem ins_grow {b n cap i : Nat} {X : List Value} {l : List TPlaced} {q : TPlaced} (w : World) (vb vo vc : Nat) (hn : n ≤ 1048576) (hB : Bk w b X) (hnc : n ≤ cap) (hroom : cap < n + 1) (ht : X.take (n * 3) = flat3 l) (hl : l.length = n) (hi : i < n)
    (hq : ∀ j u, (c3 q)[j]? = some u → w.cell? ((⟨vb, vo, none⟩ : Addr).add j) = some u) :
    Calls Try.prog 54 #[.slice (some ⟨b, 0, none⟩) n cap, .int .i64 i, .slice (some ⟨vb, vo, none⟩) 1 vc] w fun e w' => ∃ G Y, e = .returned (.slice (some ⟨w.heap.size, 0, none⟩) (n + 1) G) ∧ Below w.heap.size w w' ∧ Bk w' w.heap.size Y ∧ n + 1 ≤ G ∧ G ≤ maxLen ∧ Y.length = G * 3 ∧ Y.take ((n + 1) * 3) = flat3 (l.take i ++ [q] ++ l.drop i) := by
  obtain ⟨i0, hi0, hz0, hz1, hz2⟩ := info_parts infoPl
  have hlt : (l.take i).length = i := by rw [List.length_take]; omega
  have hold : (Builtin.firstCells i0.size i (.slice (some ⟨b, 0, none⟩) i cap)).run Try.prog w.drew = .ok (flat3 (l.take i)).toArray w.drew := by
    rw [hz1]
    refine run_firstCells_some w.drew 3 i ⟨b, 0, none⟩ i cap (flat3 (l.take i)) (by rw [flat3_len, hlt]) fun j v hj => ?_
    rw [Addr.add_lit, Nat.zero_add]
    have hjl : j < i * 3 := by
      have := (List.getElem?_eq_some_iff.1 hj).1
      rwa [flat3_len, hlt] at this
    rw [← flat3_take, ← ht, List.take_take, Nat.min_eq_left (by omega), List.getElem?_take_of_lt hjl] at hj
    exact hB.cell hj
  have hkk : (n : Int) + 1 - (i : Int) = ((n + 1 - i : Nat) : Int) := by omega
  have hik : i + (n + 1 - i) = n + 1 := by omega
  have hrz : ∀ ty, (Builtin.append_ #[28, 3] ty #[.slice (some ⟨b, 0, none⟩) i cap, .int .i64 ((n : Int) + 1 - (i : Int))]).run Try.prog w =
      .ok (.slice (some ⟨w.heap.size, 0, none⟩) (n + 1) (grownCap w (n + 1) cap 50)) (w.drew.alloc (.cells ((flat3 (l.take i)).toArray ++ Builtin.zeroCells (Value.agg #[.int .i64 0, .int .i64 0, .int .i64 0]).cells (n + 1 - i) ++ Builtin.zeroCells (Value.agg #[.int .i64 0, .int .i64 0, .int .i64 0]).cells (grownCap w (n + 1) cap 50 - (n + 1))) 50)) := fun ty => by
    have h := Lib.run_append_grow_zeros w 28 3 ty 50 i0 _ .i64 .i64 Try.underlying28 Try.underlying3 hi0 hz0 (some ⟨b, 0, none⟩) i cap (flat3 (l.take i)) hold (n + 1 - i) (by omega) (by omega) (by omega) (by omega) (by rw [hz2]; omega) (by rw [hz2, hik]; exact growslice_fits hroom (by omega))
    rw [hik] at h
    rw [hkk]
    exact h
  have hGn : n + 1 ≤ grownCap w (n + 1) cap 50 := grownCap_ge w _ _ _
  have hGm : grownCap w (n + 1) cap 50 ≤ maxLen := grownCap_le_maxLen w (n + 1) cap 50 (by unfold maxLen; omega)
  generalize grownCap w (n + 1) cap 50 = G at hrz hGn hGm
  obtain ⟨ROW, hROW⟩ : ∃ ROW : Array Value, ROW = (flat3 (l.take i)).toArray ++ Builtin.zeroCells (Value.agg #[.int .i64 0, .int .i64 0, .int .i64 0]).cells (n + 1 - i) ++ Builtin.zeroCells (Value.agg #[.int .i64 0, .int .i64 0, .int .i64 0]).cells (G - (n + 1)) := ⟨_, rfl⟩
  rw [← hROW] at hrz
  have hRl : ROW.toList.length = G * 3 := by
    rw [hROW, Array.toList_append, Array.toList_append, zero3, zero3, List.length_append, List.length_append, List.length_replicate, List.length_replicate, flat3_len, hlt]
    omega
  have hRt : ROW.toList.take (i * 3) = flat3 (l.take i) := by
    rw [hROW, Array.toList_append, Array.toList_append, List.append_assoc, List.take_append_of_le_length (by rw [flat3_len, hlt]; omega), List.take_of_length_le (by rw [flat3_len, hlt]; omega)]
  have hbw : b < w.heap.size := hB.lt
  have hF : (flat3 (l.drop i)).length = (n - i) * 3 := by rw [flat3_len, List.length_drop, hl]
  have hFt : (flat3 (l.take i)).length = i * 3 := by rw [flat3_len, hlt]
  obtain ⟨W1, hW1⟩ : ∃ W1, W1 = w.drew.alloc (.cells ROW 50) := ⟨_, rfl⟩
  rw [← hW1] at hrz
  have hB1 : Bk W1 w.heap.size ROW.toList := by
    unfold Bk
    rw [Array.toArray_toList, hW1]
    show (w.heap.push _)[w.heap.size]? = _
    simp
  have hbe1 : Below w.heap.size w W1 := by
    rw [hW1]
    exact (Below.refl w.heap.size w).drew.alloc (Nat.le_refl _) _
  generalize ROW.toList = R at hRl hRt hB1
  have hvw : vb < w.heap.size := by
    have := hq 0 _ rfl
    rw [Addr.add_lit] at this
    exact block_lt_of_cell this
  have hcA := run_copy3 hB1 (i * 3) (n + 1 - i) (G - i) ⟨vb, vo, none⟩ 1 vc (c3 q) (by rw [c3_len, show Nat.min 1 (n + 1 - i) = 1 by simp only [Nat.min_def]; split <;> omega]) (fun j u hj => by
    have := hq j u hj
    rw [Addr.add_lit] at this ⊢
    exact (cell_of_block (hbe1.block vb hvw) _).trans this) (by rw [c3_len]; omega) (fun u hu => flat3_one (l := [q]) (by simpa [flat3] using hu))
  obtain ⟨r1, r2, r3⟩ := hB1.row (putX R (i * 3) (c3 q))
  obtain ⟨W2, hW2⟩ : ∃ W2, W2 = W1.setRow w.heap.size (putX R (i * 3) (c3 q)).toArray := ⟨_, rfl⟩
  rw [← hW2] at hcA r1 r2 r3
  have r1d : Bk W2.drew w.heap.size (putX R (i * 3) (c3 q)) := r1
  have hcB := run_copy3 r1d ((i + 1) * 3) (n + 1 - (i + 1)) (G - (i + 1)) ⟨b, i * 3, none⟩ (n - i) (cap - i) (flat3 (l.drop i)) (by rw [hF]; congr 1; simp only [Nat.min_def]; split <;> omega) (fun j u hj => by
    rw [Addr.add_lit]
    have hjl : j < (n - i) * 3 := by rw [← hF]; exact (List.getElem?_eq_some_iff.1 hj).1
    rw [← flat3_drop, ← ht, List.getElem?_drop, List.getElem?_take_of_lt (by omega)] at hj
    have e1 : W2.heap[b]? = w.heap[b]? := (r2.block b (by have := hbe1.size; omega) (by omega)).trans (hbe1.block b hbw)
    exact (cell_of_block e1 _).trans (hB.cell hj)) (by rw [putX_len (by rw [c3_len]; omega), hF]; omega) (fun u hu => flat3_one hu)
  have hr2 := r1d.row (putX (putX R (i * 3) (c3 q)) ((i + 1) * 3) (flat3 (l.drop i)))
  have hfin : (putX (putX R (i * 3) (c3 q)) ((i + 1) * 3) (flat3 (l.drop i))).length = G * 3 ∧ (putX (putX R (i * 3) (c3 q)) ((i + 1) * 3) (flat3 (l.drop i))).take ((n + 1) * 3) = flat3 (l.take i ++ [q] ++ l.drop i) := by
    have hR1 : (putX R (i * 3) (c3 q)).length = R.length := putX_len (by rw [c3_len]; omega)
    have a1 : (putX R (i * 3) (c3 q)).take ((i + 1) * 3) = flat3 (l.take i) ++ c3 q := by
      rw [putX, hRt, take3 (by rw [hFt, c3_len]; omega), hFt, c3_len, show (i + 1) * 3 - i * 3 - 3 = 0 by omega, List.take_zero, List.append_nil]
    refine ⟨by rw [putX_len (by omega), hR1]; exact hRl, ?_⟩
    have a3 : (flat3 (l.take i) ++ c3 q).length = i * 3 + 3 := by rw [List.length_append, hFt, c3_len]
    rw [putX, a1, take3 (by omega), a3, hF, show (n + 1) * 3 - (i * 3 + 3) - (n - i) * 3 = 0 by omega, List.take_zero, List.append_nil, flat3_append, flat3_append]
    simp [flat3]
  have hG63 : G ≤ 9223372036854775807 := by unfold maxLen at hGm; omega
  have HF := Lib.hid (And.intro hfin (And.intro hr2 (And.intro hbe1 (And.intro r2 hGm))))
  have hz2 : ¬ ((i : Int) = (n : Int)) := by omega
  have hz3 : (cap : Int) < (n : Int) + 1 := by omega
  have hGi : ¬ (G = i) := by omega
  have hGim : ¬ (G = i + 1) := by omega
  have hci : ¬ (cap = i) := by omega
  have hin : i ≤ n := by omega
  have mixed : Try.prog.follows .mixedOrders = true := by kernel_rfl
  have hw1 : IntKind.i64.wrap ((i : Int) + 1) = (i : Int) + 1 := by rw [IntKind.wrap_i64]; omega
  have hb5 : (0 : Int) ≤ (i : Int) + 1 := by omega
  have hb6 : (i : Int) + 1 ≤ (n : Int) + 1 := by omega
  have htn : ((i : Int) + 1).toNat = i + 1 := by omega
  clear hfin hr2 hbe1 r2 hGm r1 r1d r3 hB1 hRl hRt hFt hF hW1 hW2 hROW hold hkk hik hq hvw hbw ht hl hB hlt hi0 hz0 hz1 hz2
  go_enter Try.func54, Try.ntmps54
  go_wp2_with (first
    | (at_builtin; refine Lib.wpList_append_run _ rfl _ _ _ _ rfl _ _ rfl rfl _ _ (hrz _) ?_)
    | (at_builtin; refine wpList_copy_run3 _ rfl _ _ 28 28 rfl _ _ rfl rfl (hcA _) ?_))
  go_region_law_o (refine step_copy_run3 rfl _ _ 28 28 rfl (.slice (some ⟨w.heap.size, (i + 1) * 3, none⟩) (n + 1 - (i + 1)) (G - (i + 1))) (.slice (some ⟨b, i * 3, none⟩) (n - i) (cap - i)) (by simp [Act.eval, Act.put]) (by simp [Act.eval, Act.put]) (hcB _) ?_)
  go_wp2
  go_ret
  obtain ⟨⟨f1, f2⟩, ⟨g1, g2, _⟩, g3, g4, g5⟩ := HF.out
  exact ⟨G, _, rfl, but_below (but_below g3 g4).drew g2, g1, hGn, g5, f1, f2⟩
/-- A tile put in at a place. -/
theorem lib_insPlaced {l : List TPlaced} {q : TPlaced} {i : Nat} (hi : i ≤ l.length) (hl : l.length ≤ 1048576) : SpecM Try.prog 54 [.c (.own (pin 0)), .c (.d (iD i)), .c (.own (pin 1))] [(pin 0, .arr kPlaced (l.map enPlaced) []), (pin 1, .arr kPlaced ([q].map enPlaced) [])] (.v (.c (.own 0))) [(0, .arr kPlaced ((l.take i ++ [q] ++ l.drop i).map enPlaced) [])] := by
  refine ⟨callFunc_enter Try.func54 rfl (by simp [Try.f54]), fun w R ι φ vs hR hF ho => ?_⟩
  cases hF with | cons hv hF => cases hF with | cons hi' hF => cases hF with | cons hf hF =>
  cases hF
  rename_i v iv lv
  obtain ⟨_, hv⟩ := hv
  obtain ⟨_, hf⟩ := hf
  have hi' : RD w R iv (.pv (.int .i64 i)) := hi'
  cases hi'
  have hX : frO [(pin 0, Ob.arr kPlaced (l.map enPlaced) []), (pin 1, .arr kPlaced ([q].map enPlaced) [])] (pin 0) = some (.arr kPlaced (l.map enPlaced) []) := rfl
  have hZ : frO [(pin 0, Ob.arr kPlaced (l.map enPlaced) []), (pin 1, .arr kPlaced ([q].map enPlaced) [])] (pin 1) = some (.arr kPlaced ([q].map enPlaced) []) := rfl
  obtain ⟨_, xs, S1, how, heh, hS, _⟩ := ho.1 _ _ hX
  obtain ⟨_, zs, S2, hoz, hez, hT, _⟩ := ho.1 _ _ hZ
  obtain ⟨rfl, rfl, hok⟩ := ET.ofTiles (EH.to_ET heh)
  obtain ⟨rfl, rfl, hoq⟩ := ET.ofTiles (EH.to_ET hez)
  rw [← hv] at how hS
  rw [← hf] at hoz hT
  have hlen : (l.map enPlaced).length = l.length := by simp
  rw [hlen] at how
  have how : w.ownsRow 0 50 3 v l.length (flat3 l) := how
  have hoz : w.ownsRow 0 50 3 lv 1 (flat3 [q]) := hoz
  have hap := ho.2.2.1 (pin 0) (pin 1)
  rcases own_bk hoz with ⟨_, h0, _⟩ | ⟨vb, zc, Z, rfl, _, hBz, hzn, hzm, hzx, hzt, _⟩
  · cases h0
  have hq : ∀ j u, (c3 q)[j]? = some u → w.cell? ((⟨vb, 0, none⟩ : Addr).add j) = some u := fun j u hj => by
    rw [Addr.add_lit, Nat.zero_add]
    have hj3 : j < 3 := (List.getElem?_eq_some_iff.1 hj).1
    refine hBz.cell ?_
    have : (Z.take (1 * 3))[j]? = (flat3 [q])[j]? := by rw [hzt]
    rw [List.getElem?_take_of_lt (by omega)] at this
    rw [this, flat3, List.getElem?_append_left (by rw [c3_len]; omega)]
    exact hj
  have hnl : ∀ a ∈ l.take i ++ [q] ++ l.drop i, okI (.int .i64 a.fAt.fX) ∧ okI (.int .i64 a.fAt.fY) ∧ okI (.int .i64 a.fTile) := fun a ha => by
    rcases List.mem_append.1 ha with ha | ha
    · rcases List.mem_append.1 ha with ha | ha
      · exact hok a (List.mem_of_mem_take ha)
      · exact hoq a ha
    · exact hok a (List.mem_of_mem_drop ha)
  have hll : (l.take i ++ [q] ++ l.drop i).length = l.length + 1 := by simp; omega
  have hφS : φ (pin 0) = v.ownBlock.toList := by rw [hS]; simp
  by_cases hil : i = l.length
  · obtain ⟨a, n, cap, rfl⟩ : ∃ a n cap, v = .slice a n cap := by
      rcases own_bk how with ⟨h, _⟩ | ⟨g, c, _, h, _⟩
      · exact ⟨_, _, _, h⟩
      · exact ⟨_, _, _, h⟩
    have hn : n = l.length := by
      rcases own_bk how with ⟨h, h1, _⟩ | ⟨g, c, _, h, _⟩
      · cases h; rw [h1]; rfl
      · cases h; rfl
    subst hn
    subst hil
    refine (ins_end (q := q) w vb 0 zc hl how hq).mono ?_
    rintro e w1 ⟨v', rfl, h1, h2, h3⟩
    have hae : (Value.slice a l.length cap).ownBlock = a.map (·.block) := by cases a <;> rfl
    have hbl : BelowM (fpO φ (frO [(pin 0, Ob.arr kPlaced (l.map enPlaced) []), (pin 1, .arr kPlaced ([q].map enPlaced) [])])) w w1 := ⟨h2.os, h2.tape, h2.output, h2.size, fun k hk hM => h2.block k hk fun e => hM ⟨pin 0, _, hX, by rw [hφS, hae, ← e]; simp⟩⟩
    refine ⟨_, rfl, tiles_after hR ho hbl (by rw [hll]; simpa using h1) hnl fun g hg => ?_⟩
    have hlt := (h1.lt g hg).2
    refine ⟨?_, hlt⟩
    rcases h3 with h3 | h3
    · exact .inl ⟨pin 0, _, hX, by rw [hφS, hae, ← h3, hg]; simp⟩
    · rw [hg] at h3
      cases h3
      exact .inr (Nat.le_refl _)
  · rcases own_bk how with ⟨_, h0, _⟩ | ⟨b, cap, X, rfl, _, hB, hnc, hm, hx, ht, hln⟩
    · rw [h0] at hil hi
      exact absurd (by simpa using hi) hil
    have hb0 : b ∈ φ (pin 0) := by rw [hφS]; simp [Value.ownBlock]
    have hvb0 : vb ∈ φ (pin 1) := by rw [hT]; simp [Value.ownBlock]
    have hne : vb ≠ b := fun e => by
      have := hap _ _ b hX hZ hb0 (e ▸ hvb0)
      exact absurd this (by decide)
    by_cases hroom : l.length + 1 ≤ cap
    · have hBz' : w.heap[vb]? = _ := hBz
      refine (ins_room (q := q) w vb 0 zc hl hB hroom hm hx ht rfl (by omega) hne hq 50 Z.length (by simp [World.shape?, hBz']) (hBz.frz 0) (hBz.frz _)).mono ?_
      rintro e w1 ⟨Y, rfl, hbt, hBY, hY1, hY2⟩
      refine ⟨_, rfl, tiles_after hR ho ⟨hbt.os, hbt.tape, hbt.output, hbt.size, fun k hk hM => hbt.block k hk fun e => hM ⟨pin 0, _, hX, by rw [e]; exact hb0⟩⟩ (by rw [hll]; exact bk_own (Nat.zero_le _) hBY hroom hm hY1 hY2 hll) hnl fun g hg => ?_⟩
      obtain rfl : b = g := by simpa [Value.ownBlock] using hg
      exact ⟨.inl ⟨pin 0, _, hX, hb0⟩, hBY.lt⟩
    · refine (ins_grow (q := q) w vb 0 zc hl hB hnc (by omega) ht rfl (by omega) hq).mono ?_
      rintro e w1 ⟨G, Y, rfl, hbe, hBY, hG1, hG2, hY1, hY2⟩
      refine ⟨_, rfl, tiles_after hR ho (BelowM.of_below hbe) (by rw [hll]; exact bk_own (Nat.zero_le _) hBY hG1 hG2 hY1 hY2 hll) hnl fun g hg => ?_⟩
      obtain rfl : w.heap.size = g := by simpa [Value.ownBlock] using hg
      exact ⟨.inr (Nat.le_refl _), hBY.lt⟩
end Go.Proofs.Ytghpeccaknhjiaa
