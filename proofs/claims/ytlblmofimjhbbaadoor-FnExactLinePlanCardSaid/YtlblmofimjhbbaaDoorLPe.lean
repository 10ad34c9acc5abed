/- Row1 and InsV. -/
import Derived.Test.YtlblmofimjhbbaaDoorLPa
import Derived.Test.YtlblmofimjhbbaaDoorBel
import Derived.Laws.CopyRow
import Derived.Lib.AppendZerosOnto
import Derived.Lib.Overlaps
import Derived.Shelf.RegionOpenPlain
import Derived.Maps.AppendAt
import Derived.Lib.SlKept
import Derived.Lib.Hide
namespace Go.Proofs.YtlblmofimjhbbaaDoor
open Go.RowKit
set_option maxRecDepth 20000
set_option maxHeartbeats 8000000
abbrev enW (q : CV) : List D := [.pv q.v]
def cu1 (q : CV) : List Value := [q.v]
def flat1 : List CV → List Value
  | [] => []
  | q :: l => cu1 q ++ flat1 l
theorem cu1_len (q : CV) : (cu1 q).length = 1 := rfl
theorem flat1_len : ∀ l : List CV, (flat1 l).length = l.length * 1
  | [] => rfl
  | q :: l => by rw [flat1, List.length_append, cu1_len, flat1_len l, List.length_cons]; omega
theorem flat1_append : ∀ a b : List CV, flat1 (a ++ b) = flat1 a ++ flat1 b
  | [], b => rfl
  | q :: a, b => by rw [List.cons_append, flat1, flat1_append a b, flat1, List.append_assoc]
theorem flat1_take : ∀ (l : List CV) (i : Nat), (flat1 l).take (i * 1) = flat1 (l.take i)
  | [], i => by simp [flat1]
  | q :: l, 0 => by simp [flat1]
  | q :: l, i + 1 => by
    rw [flat1, List.take_append, List.take_of_length_le (by rw [cu1_len]; omega), cu1_len, show (i + 1) * 1 - 1 = i * 1 by omega, flat1_take l i]
    rfl
theorem flat1_drop : ∀ (l : List CV) (i : Nat), (flat1 l).drop (i * 1) = flat1 (l.drop i)
  | [], i => by simp [flat1]
  | q :: l, 0 => by simp
  | q :: l, i + 1 => by
    rw [flat1, List.drop_append, List.drop_of_length_le (by rw [cu1_len]; omega), cu1_len, show (i + 1) * 1 - 1 = i * 1 by omega, flat1_drop l i]
    rfl
theorem flat1_get {l : List CV} {i : Nat} {q : CV} (h : l[i]? = some q) {j : Nat} (hj : j < 1) : (flat1 l)[i * 1 + j]? = (cu1 q)[j]? := by
  have h1 : l = l.take i ++ q :: l.drop (i + 1) := by
    have := List.getElem?_eq_some_iff.1 h
    obtain ⟨hi, rfl⟩ := this
    simp
  have hi : i < l.length := (List.getElem?_eq_some_iff.1 h).1
  have h2 : (flat1 (l.take i)).length = i * 1 := by rw [flat1_len, List.length_take]; omega
  rw [h1, flat1_append, List.getElem?_append_right (by omega), h2, flat1, List.getElem?_append_left (by rw [cu1_len]; omega)]
  congr 1
  omega
theorem flat1_one {l : List CV} {v : Value} (h : v ∈ flat1 l) : v.oneCell' = true := by
  induction l with
  | nil => cases h
  | cons q l ih =>
    rw [flat1] at h
    rcases List.mem_append.1 h with h | h
    · simp only [cu1, List.mem_cons, List.not_mem_nil, or_false] at h
      subst h
      exact q.one
    · exact ih h
/-- The block holds these cells. -/
def Bk (w : World) (g : Nat) (X : List Value) : Prop := w.heap[g]? = some (.cells X.toArray 56 (0, 0))
theorem Bk.cell {w : World} {g : Nat} {X : List Value} (h : Bk w g X) {o : Nat} {v : Value} (hx : X[o]? = some v) : w.cell? ⟨g, o, none⟩ = some v := by
  have h : w.heap[g]? = _ := h
  simp [World.cell?, h, hx]
theorem Bk.frz {w : World} {g : Nat} {X : List Value} (h : Bk w g X) (o : Nat) : w.frozen? ⟨g, o, none⟩ = false := by
  have h : w.heap[g]? = _ := h
  simp [World.frozen?, h]
theorem Bk.lt {w : World} {g : Nat} {X : List Value} (h : Bk w g X) : g < w.heap.size := by
  have h : w.heap[g]? = _ := h
  exact (Array.getElem?_eq_some_iff.1 h).1
theorem Bk.keep {w w' : World} {g : Nat} {X : List Value} (h : Bk w g X) (hb : Below w.heap.size w w') : Bk w' g X := (hb.block g h.lt).trans h
/-- The cell of an element. -/
theorem Bk.tile {w : World} {g : Nat} {X : List Value} {n : Nat} {l : List CV} (h : Bk w g X) (hX : X.take (n * 1) = flat1 l) {i : Nat} {q : CV} (hq : l[i]? = some q) (hi : i < n) : w.cell? ⟨g, i, none⟩ = some q.v := by
  have key : ∀ j, j < 1 → X[i * 1 + j]? = (cu1 q)[j]? := fun j hj => by
    rw [← flat1_get hq hj, ← hX, List.getElem?_take_of_lt (by omega)]
  have := h.cell (key 0 (by omega))
  rwa [Nat.mul_one, Nat.add_zero] at this
/-- Nothing of what was there has turned, but for one block. -/
abbrev But (g : Nat) (w w' : World) : Prop := BelowM (fun b => b = g) w w'
theorem But.below {g : Nat} {a b c : World} (h : But g a b) (hb : Below b.heap.size b c) : But g a c := h.then hb
theorem But.trans {g : Nat} {a b c : World} (h : But g a b) (k : But g b c) : But g a c := BelowM.trans h k fun _ h => .inl h
theorem Bk.row {w : World} {g : Nat} {X : List Value} (h : Bk w g X) (Y : List Value) : Bk (w.setRow g Y.toArray) g Y ∧ But g w (w.setRow g Y.toArray) ∧ (w.setRow g Y.toArray).heap.size = w.heap.size := by
  have hs : (w.setRow g Y.toArray).heap.size = w.heap.size := by simp [World.setRow]
  exact ⟨setRow_heap w g _ _ _ _ h, ⟨rfl, rfl, rfl, by rw [hs]; exact Nat.le_refl _, fun k _ hk => setRow_other w g k _ hk⟩, hs⟩
/-- Some cells are written. -/
def putX (X : List Value) (o : Nat) (vs : List Value) : List Value := X.take o ++ vs ++ X.drop (o + vs.length)
theorem putX_len {X vs : List Value} {o : Nat} (h : o + vs.length ≤ X.length) : (putX X o vs).length = X.length := by
  unfold putX
  simp only [List.length_append, List.length_take, List.length_drop]
  omega
theorem Bk.put {w : World} {g : Nat} {X : List Value} (h : Bk w g X) {o : Nat} {vs : List Value} (hfit : o + vs.length ≤ X.length) (h1 : ∀ v ∈ vs, v.oneCell' = true) : (storeCells ⟨g, o, none⟩ vs 0).run Tryd.prog w = .ok () (w.setRow g (putX X o vs).toArray) := by
  have := run_storeCells_at Tryd.prog g o 56 vs 0 X.toArray w h (by simpa using hfit) h1
  simpa [putX] using this
theorem put1_list (X : List Value) (o : Nat) (x : Value) (h : o + 1 ≤ X.length) : X.set o x = putX X o [x] := by
  have h3 : (X.take o).length = o := by rw [List.length_take]; omega
  unfold putX
  apply List.ext_getElem?
  intro j
  rw [List.append_assoc]
  by_cases hj : j < o
  · rw [List.getElem?_append_left (by omega), List.getElem?_take_of_lt hj, List.getElem?_set_ne (by omega)]
  · rw [List.getElem?_append_right (by omega), h3]
    by_cases h0 : j = o
    · subst h0
      rw [List.getElem?_set_self (by omega)]
      simp
    · rw [List.getElem?_set_ne (by omega), List.getElem?_append_right (by simp; omega), List.getElem?_drop]
      congr 1
      simp
      omega
theorem Bk.set1 {w : World} {g : Nat} {X : List Value} (h : Bk w g X) (o : Nat) (x : Value) (hfit : o + 1 ≤ X.length) : w.setCell ⟨g, o, none⟩ x = w.setRow g (putX X o [x]).toArray := by
  have h0 : w.heap[g]? = _ := h
  rw [setCell_eq_setRow w g o _ _ _ x h0, ← put1_list X o x hfit]
  simp
theorem Bk.some1 {w : World} {g : Nat} {X : List Value} (h : Bk w g X) {o : Nat} (hfit : o < X.length) : ∃ v, w.cell? ⟨g, o, none⟩ = some v := ⟨X[o], h.cell (List.getElem?_eq_getElem hfit)⟩
theorem take3 {A B C : List Value} {N : Nat} (h : A.length + B.length ≤ N) : (A ++ B ++ C).take N = A ++ B ++ C.take (N - A.length - B.length) := by
  rw [List.take_append, List.take_of_length_le (by rw [List.length_append]; omega), List.length_append, Nat.sub_sub]
theorem putX_row {X : List Value} {l m : List CV} {n i : Nat} (hX : X.take (n * 1) = flat1 l) (hi : i + m.length ≤ n) (hn : n * 1 ≤ X.length) : (putX X (i * 1) (flat1 m)).take (n * 1) = flat1 (l.take i ++ m ++ l.drop (i + m.length)) := by
  have hm := flat1_len m
  have h1 : X.take (i * 1) = flat1 (l.take i) := by
    rw [← flat1_take, ← hX, List.take_take, Nat.min_eq_left (by omega)]
  have h2 : (X.drop (i * 1 + (flat1 m).length)).take (n * 1 - (i * 1 + (flat1 m).length)) = flat1 (l.drop (i + m.length)) := by
    rw [← flat1_drop, ← hX, List.drop_take, hm, show (i + m.length) * 1 = i * 1 + m.length * 1 by omega]
  have h3 : (X.take (i * 1)).length = i * 1 := by rw [List.length_take]; omega
  unfold putX
  rw [take3 (by rw [h3]; omega), h3, flat1_append, flat1_append, h1, ← h2, show n * 1 - i * 1 - (flat1 m).length = n * 1 - (i * 1 + (flat1 m).length) by omega]
/-- A whole row set apart: what a slice of the call's own is. -/
theorem own_bk {w : World} {B : Nat} {v : Value} {n : Nat} {l : List CV} (h : w.ownsRow B 56 1 v n (flat1 l)) : (v = .slice none 0 0 ∧ l = [] ∧ n = 0) ∨ ∃ g cap X, v = .slice (some ⟨g, 0, none⟩) n cap ∧ B ≤ g ∧ Bk w g X ∧ n ≤ cap ∧ cap ≤ maxLen ∧ X.length = cap * 1 ∧ X.take (n * 1) = flat1 l ∧ l.length = n := by
  have hn : l.length = n := by
    have := h.1
    rw [flat1_len] at this
    omega
  rcases h.2 with ⟨h1, h2⟩ | ⟨g, cap, cur, h1, h2, h3, h4, h5, h6, h7⟩
  · exact .inl ⟨h1, List.eq_nil_of_length_eq_zero (by omega), h2⟩
  · exact .inr ⟨g, cap, cur.toList, h1, h2, by unfold Bk; rw [Array.toArray_toList]; exact h3, h4, h5, by rw [← h6]; simp, h7, hn⟩
theorem bk_own {w : World} {B : Nat} {n cap g : Nat} {X : List Value} {l : List CV} (hB : B ≤ g) (h : Bk w g X) (hc : n ≤ cap) (hm : cap ≤ maxLen) (hx : X.length = cap * 1) (ht : X.take (n * 1) = flat1 l) (hl : l.length = n) : w.ownsRow B 56 1 (.slice (some ⟨g, 0, none⟩) n cap) n (flat1 l) :=
  ⟨by rw [flat1_len, hl], .inr ⟨g, cap, X.toArray, rfl, hB, h, hc, hm, by simpa using hx, by simpa using ht⟩⟩
theorem ET.ofCVs {W : World} : ∀ {l : List CV} {vs : List Value} {S : List Nat}, ET W vs (l.map enW).flatten S → vs = flat1 l ∧ S = []
  | [], _, _, h => by cases h; exact ⟨rfl, rfl⟩
  | q :: l, _, _, h => by
    cases h with
    | pv h1 i1 h2 =>
      obtain ⟨rfl, rfl⟩ := ET.ofCVs h2
      exact ⟨rfl, rfl⟩
theorem ET.toCVs {W : World} : ∀ {l : List CV}, ET W (flat1 l) (l.map enW).flatten []
  | [] => .nil
  | q :: _ => .pv q.one q.ok ET.toCVs
open Go.RowKit Go.Lib
abbrev kSS : Ky := ⟨56, 1⟩
theorem zero1 (n : Nat) : (Builtin.zeroCells (Value.slice none 0 0).cells n).toList = List.replicate (n * 1) (.slice none 0 0) := by
  simp only [Builtin.zeroCells, Value.cells]
  apply List.ext_getElem
  · simp
  · intro i h1 h2
    simp only [Array.getElem_toList, Array.getElem_map, Array.getElem_range, List.getElem_replicate]
    show #[Value.slice none 0 0][i % 1]! = _
    rw [Nat.mod_one]
    rfl
/-- What a callee leaves that is handed an array and hands one back. -/
theorem frO1 {p o : Nat} {X x : Ob} (h : frO [(p, X)] o = some x) : o = p ∧ x = X := by
  simp only [frO, upd] at h
  split at h
  · cases h; exact ⟨by assumption, rfl⟩
  · cases h
theorem cvs_after {w w1 : World} {R : Nat → Prop} {ι : Nat → Value} {φ : Nat → List Nat} {l' : List CV} {v' : Value} {ins : Nat → Option Ob} (hR : ∀ b, R b → b < w.heap.size) (ho : ObjsOk w R ι φ ins) (hbm : BelowM (fpO φ ins) w w1) (hrow : w1.ownsRow 0 56 1 v' l'.length (flat1 l')) (hnew : ∀ g, v'.ownBlock = some g → (fpO φ ins g ∨ w.heap.size ≤ g) ∧ g < w1.heap.size) : After w R ι φ ins (.v (.c (.own 0))) (frO [(0, .arr kSS (l'.map enW) [])]) v' w1 := by
  have hkeep : ∀ b, R b → w1.heap[b]? = w.heap[b]? := fun b hb => hbm.block b (hR b hb) fun ⟨o, x, h1, h2⟩ => (ho.2.1 o x h1 b h2).1 hb
  refine ⟨R, upd ι 0 v', upd φ 0 v'.ownBlock.toList, hbm, fun b h => h, fun b h => Nat.lt_of_lt_of_le (hR b h) hbm.size, fun b h _ => .inl h, ⟨⟨_, upd_same _ _ _⟩, (upd_same _ _ _).symm⟩, ⟨fun o x hf => ?_, fun o x hf g hgm => ?_, fun o p x y g hf hf' _ _ => (frO1 hf).1.trans (frO1 hf').1.symm, ho.2.2.2.keep (fun _ h => h) hkeep⟩, fun g hf => ?_, fun o hf => upd_ne _ _ (fun e => by subst e; exact absurd hf (by decide))⟩
  · obtain ⟨rfl, rfl⟩ := frO1 hf
    rw [upd_same, upd_same]
    refine ⟨fun es he => ?_, flat1 l', [], ?_, EH.of_ET ET.toCVs, by simp, by cases v'.ownBlock <;> simp⟩
    · obtain ⟨n, _, rfl⟩ := List.mem_map.1 he
      rfl
    · rw [List.length_map]
      exact hrow
  · obtain ⟨rfl, rfl⟩ := frO1 hf
    rw [upd_same] at hgm
    obtain ⟨h1, h2⟩ := hnew g (by simpa using hgm)
    exact ⟨fun hr => h1.elim (fun ⟨o, x, h3, h4⟩ => (ho.2.1 o x h3 g h4).1 hr) fun h => by have := hR g hr; omega, h2⟩
  · obtain ⟨o, x, hf, hgm⟩ := hf
    obtain ⟨rfl, rfl⟩ := frO1 hf
    rw [upd_same] at hgm
    exact (hnew g (by simpa using hgm)).1
theorem infoPl : (Tryd.prog.info? 56).map (fun i => (i.zero, i.size, i.bytes)) = some (some (.slice none 0 0), 1, 24) := by kernel_rfl
theorem run_copy3 {w : World} {b : Nat} {X : List Value} (h : Bk w b X) (o dLen dCap : Nat) (a : Addr) (sLen sCap : Nat) (cs : List Value) (hn : cs.length = Nat.min sLen dLen * 1) (hsrc : ∀ j v, cs[j]? = some v → w.cell? (a.add j) = some v) (hfit : o + cs.length ≤ X.length) (h1 : ∀ v ∈ cs, v.oneCell' = true) :
    ∀ ty, (Builtin.copy_ #[57, 57] ty #[.slice (some ⟨b, o, none⟩) dLen dCap, .slice (some a) sLen sCap]).run Tryd.prog w = .ok (goInt (Nat.min sLen dLen)) (w.setRow b (putX X o cs).toArray) := fun ty => by
  have hl := run_loadCells_list (P := Tryd.prog) w a cs hsrc
  have hst := h.put hfit h1
  obtain ⟨i0, hi, _, hz1, _⟩ := info_parts infoPl
  simp [Builtin.copy_, run_underlying Tryd.underlying57, Builtin.lenOf, Builtin.firstCells, sizeOf, typeInfo, hi, hz1, ← hn, hl, hst]
theorem wp_copy_run3 (w : World) {o : Oper} {a : Act} {K : Act → World → Prop} {Q : Exit → Act → World → Prop} (d s : Operand) (t t' : TypeId)
    (ho : o.op = .call { callee := .builtin .copy, args := #[d, s], argTypes := #[t, t'] }) (v u : Value) (hd : a.eval d = v) (hs : a.eval s = u) {v' : Value} {w' : World}
    (hr : (Builtin.copy_ #[t, t'] o.type #[v, u]).run Tryd.prog w = .ok v' w') (h : K (a.put o.dst v') w') : o.wp Tryd.prog a w K Q := by
  unfold Oper.wp execOp
  simp only [ho, resolve, invoke, builtin, Sem.run_bind, Sem.run_pure, Result.andThen_ok, List.map_toArray, List.map_cons, List.map_nil, hd, hs, hr]
  exact h
theorem wpList_copy_run3 (w : World) {ops : Array Oper} {rest : List Oper} {o : Oper} {a : Act} {Q : Exit → Act → World → Prop} (hgd : o.guard = none) (d s : Operand) (t t' : TypeId)
    (ho : o.op = .call { callee := .builtin .copy, args := #[d, s], argTypes := #[t, t'] }) (v u : Value) (hd : a.eval d = v) (hs : a.eval s = u) {v' : Value} {w' : World}
    (hr : (Builtin.copy_ #[t, t'] o.type #[v, u]).run Tryd.prog w = .ok v' w') (h : wpList Tryd.prog ops Q rest (a.put o.dst v') w') : wpList Tryd.prog ops Q (o :: rest) a w :=
  wpList_plain hgd fun _ hK => wp_copy_run3 w d s t t' ho v u hd hs hr (hK _ _ h)
theorem step_copy_run3 {ops : Array Oper} {o : Oper} {a : Act} {w : World} {K : Act → World → Prop} {Q : Exit → Act → World → Prop} {E : Prop}
    (hg : o.guard = none) (d x : Operand) (dT sT : TypeId) (hop : o.op = Op.call { callee := Callee.builtin Builtin.copy, args := #[d, x], argTypes := #[dT, sT] })
    (v u : Value) (hd : a.eval d = v) (hx : a.eval x = u) {v' : Value} {w' : World} (hr : (Builtin.copy_ #[dT, sT] o.type #[v, u]).run Tryd.prog w = .ok v' w') (hK : K (a.put o.dst v') w') :
    if Region.wanted o (yielded ops a.tmps) = true then Oper.wp Tryd.prog o a w K Q else E := by
  have hw : Region.wanted o (yielded ops a.tmps) = true := by simp [Region.wanted, hg]
  rw [if_pos hw]
  unfold Oper.wp
  simp [execOp, hop, resolve, invoke, builtin, hd, hx, hr, Result.andThen]
  exact hK
theorem but_below {w a b : World} (h : Below w.heap.size w a) (k : But w.heap.size a b) : Below w.heap.size w b := h.trans ⟨k.os, k.tape, k.output, k.size, fun i hi => k.block i (by have := h.size; omega) (by omega)⟩
/-- At the end. -/
theorem ins_end {a : Option Addr} {n cap : Nat} {l : List CV} {q : CV} (w : World) (vb vo vc : Nat) (hn : n ≤ 1048576) (how : w.ownsRow 0 56 1 (.slice a n cap) n (flat1 l))
    (hq : ∀ j u, (cu1 q)[j]? = some u → w.cell? ((⟨vb, vo, none⟩ : Addr).add j) = some u) :
    Calls Tryd.prog 21 #[.slice a n cap, .int .i64 n, .slice (some ⟨vb, vo, none⟩) 1 vc] w fun e w' => ∃ v', e = .returned v' ∧ w'.ownsRow 0 56 1 v' (n + 1) (flat1 (l ++ [q])) ∧ w.grownBy w' (a.map (·.block)) ∧ (v'.ownBlock = a.map (·.block) ∨ v'.ownBlock = some w.heap.size) := by
  obtain ⟨i0, hi, hz0, hz1, hz2⟩ := info_parts infoPl
  obtain ⟨v', w', hr, h1, h2, _, h5⟩ := run_append_own_at (P := Tryd.prog) w 0 57 57 56 i0 _ 1 24 Tryd.underlying57 hi hz0 hz1 hz2 rfl (by decide) _ n _ how ⟨vb, vo, none⟩ 1 vc (cu1 q) rfl hq (fun u hu => flat1_one (l := [q]) (by simpa [flat1] using hu)) (by unfold maxLen; omega) (by omega) (Nat.zero_le _)
  have H1 : Hid (w'.ownsRow 0 56 1 v' (n + 1) (flat1 (l ++ [q]))) := Lib.hid (by
    rw [flat1_append]
    simpa [flat1] using h1)
  have ho : (Value.slice a n cap).ownBlock = a.map (·.block) := by cases a <;> rfl
  rw [ho] at h2 h5
  have H2 := Lib.hid (And.intro h2 h5)
  clear h1 hq how ho h2 h5
  go_enter Tryd.func21, Tryd.ntmps21
  go_wp2_with (at_builtin; refine Lib.wpList_append_run _ rfl _ _ _ _ rfl _ _ rfl rfl _ _ hr ?_)
  all_goals
    go_ret
    exact ⟨_, rfl, H1.out, H2.out⟩
/-- Within, and there is room. -/
theorem ins_room {b n cap i : Nat} {X : List Value} {l : List CV} {q : CV} (w : World) (vb vo vc : Nat) (hn : n ≤ 1048576) (hB : Bk w b X) (hnc : n + 1 ≤ cap) (hm : cap ≤ maxLen) (hx : X.length = cap * 1) (ht : X.take (n * 1) = flat1 l) (hl : l.length = n) (hi : i < n) (hvb : vb ≠ b)
    (hq : ∀ j u, (cu1 q)[j]? = some u → w.cell? ((⟨vb, vo, none⟩ : Addr).add j) = some u) (tA : TypeId) (kA : Nat) (hsa : w.shape? vb = some (tA, kA)) (hfa : w.frozen? ⟨vb, vo, none⟩ = false) (hfe : w.frozen? ⟨vb, kA, none⟩ = false) :
    Calls Tryd.prog 21 #[.slice (some ⟨b, 0, none⟩) n cap, .int .i64 i, .slice (some ⟨vb, vo, none⟩) 1 vc] w fun e w' => ∃ Y, e = .returned (.slice (some ⟨b, 0, none⟩) (n + 1) cap) ∧ But b w w' ∧ Bk w' b Y ∧ Y.length = cap * 1 ∧ Y.take ((n + 1) * 1) = flat1 (l.take i ++ [q] ++ l.drop i) := by
  have hov : ∀ lb cb, (callFunc 43 #[.slice (some ⟨vb, vo, none⟩) 1 vc, .slice (some ⟨b, (i + 1) * 1, none⟩) lb cb]).run Tryd.prog w = .ok (.value (.bool false)) w := fun lb cb => by
    rw [run_callFunc_extern Tryd.func43 (by kernel_rfl) (by kernel_rfl) (by kernel_rfl) (e := Extern.SlicesOverlaps.overlaps #[57, 57] #[4]) (by kernel_rfl),
      Lib.run_overlaps_apart w 57 4 56 Tryd.underlying57 1 (fun w => by kernel_rfl) ⟨vb, vo, none⟩ ⟨b, (i + 1) * 1, none⟩ 1 vc lb cb hvb tA 56 kA X.length hsa (by have h : w.heap[b]? = _ := hB; simp [World.shape?, h]) (by omega) hfa hfe]
    rfl
  have hdl : (flat1 (l.drop i)).length = (n - i) * 1 := by rw [flat1_len, List.length_drop, hl]
  have hBd : Bk w.drew b X := hB
  have hc1 := run_copy3 hBd ((i + 1) * 1) (n + 1 - (i + 1)) (cap - (i + 1)) ⟨b, i * 1, none⟩ (n + 1 - i) (cap - i) (flat1 (l.drop i)) (by rw [hdl]; congr 1; simp only [Nat.min_def]; split <;> omega) (fun j v hj => by
    rw [Addr.add_lit]
    refine hBd.cell ?_
    have hjl : j < (n - i) * 1 := by rw [← hdl]; exact (List.getElem?_eq_some_iff.1 hj).1
    rw [← flat1_drop, ← ht, List.getElem?_drop, List.getElem?_take_of_lt (by omega)] at hj
    exact hj) (by rw [hdl]; omega) (fun v hv => flat1_one hv)
  have hr1 := hBd.row (putX X ((i + 1) * 1) (flat1 (l.drop i)))
  have hb1 : But b w w.drew := ⟨rfl, rfl, rfl, Nat.le_refl _, fun _ _ _ => rfl⟩
  obtain ⟨W1, hW1⟩ : ∃ W1, W1 = w.drew.setRow b (putX X ((i + 1) * 1) (flat1 (l.drop i))).toArray := ⟨_, rfl⟩
  rw [← hW1] at hc1 hr1
  obtain ⟨r1, r2, r3⟩ := hr1
  have hvw : vb < w.heap.size := by
    rcases Nat.lt_or_ge vb w.heap.size with h | h
    · exact h
    · simp [World.shape?, Array.getElem?_eq_none h] at hsa
  have hc2 := run_copy3 r1 (i * 1) (n + 1 - i) (cap - i) ⟨vb, vo, none⟩ 1 vc (cu1 q) (by rw [cu1_len, show Nat.min 1 (n + 1 - i) = 1 by simp only [Nat.min_def]; split <;> omega]) (fun j u hj => by
    rw [Addr.add_lit]
    have := hq j u hj
    rw [Addr.add_lit] at this
    exact (cell_of_block (r2.block vb hvw hvb) _).trans this) (by rw [cu1_len, putX_len (by rw [hdl]; omega)]; omega) (fun u hu => flat1_one (l := [q]) (by simpa [flat1] using hu))
  have hr2 := r1.row (putX (putX X ((i + 1) * 1) (flat1 (l.drop i))) (i * 1) (cu1 q))
  have hfin : (putX (putX X ((i + 1) * 1) (flat1 (l.drop i))) (i * 1) (cu1 q)).length = cap * 1 ∧ (putX (putX X ((i + 1) * 1) (flat1 (l.drop i))) (i * 1) (cu1 q)).take ((n + 1) * 1) = flat1 (l.take i ++ [q] ++ l.drop i) := by
    have hX1 : (putX X ((i + 1) * 1) (flat1 (l.drop i))).length = X.length := putX_len (by rw [hdl]; omega)
    have a1 : (X.take ((i + 1) * 1)).length = (i + 1) * 1 := by rw [List.length_take]; omega
    have a2 : (putX X ((i + 1) * 1) (flat1 (l.drop i))).take (i * 1) = flat1 (l.take i) := by
      unfold putX
      rw [List.append_assoc, List.take_append_of_le_length (by omega), List.take_take, Nat.min_eq_left (by omega), ← flat1_take, ← ht, List.take_take, Nat.min_eq_left (by omega)]
    have a3 : (putX X ((i + 1) * 1) (flat1 (l.drop i))).drop (i * 1 + 1) = flat1 (l.drop i) ++ X.drop ((i + 1) * 1 + (flat1 (l.drop i)).length) := by
      unfold putX
      rw [List.append_assoc, List.drop_append_of_le_length (by omega), List.drop_of_length_le (by omega), List.nil_append]
    have a4 : (flat1 (l.take i)).length = i * 1 := by rw [flat1_len, List.length_take]; omega
    refine ⟨by rw [putX_len (by rw [cu1_len]; omega), hX1]; exact hx, ?_⟩
    have a5 : ∀ R : List Value, (flat1 (l.drop i) ++ R).take ((n + 1) * 1 - i * 1 - 1) = flat1 (l.drop i) := fun R => by
      rw [List.take_append_of_le_length (by omega), List.take_of_length_le (l := flat1 (l.drop i)) (by omega)]
    rw [putX, a2, cu1_len, a3, take3 (by rw [a4, cu1_len]; omega), a4, cu1_len, a5, flat1_append, flat1_append]
    simp [flat1]
  have HF := Lib.hid (And.intro hfin (And.intro hr2 (And.intro r1 (And.intro r2 (And.intro hb1 hm)))))
  have hcap63 : cap ≤ 9223372036854775807 := by unfold maxLen at hm; omega
  have hz2 : ¬ ((i : Int) = (n : Int)) := by omega
  have hb2 : ¬ (cap = i + 1) := by omega
  have hb3 : (i : Int) ≤ (n : Int) + 1 := by omega
  have hb4 : ¬ (cap = i) := by omega
  have hin : i ≤ n := by omega
  have mixed : Tryd.prog.follows .mixedOrders = true := by kernel_rfl
  have hw1 : IntKind.i64.wrap ((i : Int) + 1) = (i : Int) + 1 := by rw [IntKind.wrap_i64]; omega
  have hb5 : (0 : Int) ≤ (i : Int) + 1 := by omega
  have hb6 : (i : Int) + 1 ≤ (n : Int) + 1 := by omega
  have htn : ((i : Int) + 1).toNat = i + 1 := by omega
  simp only [Nat.mul_one] at hov hc1 hc2 HF ⊢
  clear hfin hr2 r1 r2 hb1 hm hdl hBd r3 hsa hfa hfe hq hvw hvb ht hx hl hB hW1
  go_enter Tryd.func21, Tryd.ntmps21
  go_wp2_with (simp only [hov])
  go_region_law_o (refine step_copy_run3 rfl _ _ 57 57 rfl _ _ (by simp [Act.eval, Act.put]) (by simp [Act.eval, Act.put]) (hc1 _) ?_)
  go_wp2_with (at_builtin; refine wpList_copy_run3 _ rfl _ _ 57 57 rfl _ _ rfl rfl (hc2 _) ?_)
  go_ret
  obtain ⟨⟨f1, f2⟩, ⟨g1, g2, _⟩, _, g3, g4, _⟩ := HF.out
  exact ⟨_, rfl, (g4.trans g3).trans g2, g1, f1, f2⟩
/-- Within, and there is no room. -/
theorem ins_grow {b n cap i : Nat} {X : List Value} {l : List CV} {q : CV} (w : World) (vb vo vc : Nat) (hn : n ≤ 1048576) (hB : Bk w b X) (hnc : n ≤ cap) (hroom : cap < n + 1) (ht : X.take (n * 1) = flat1 l) (hl : l.length = n) (hi : i < n)
    (hq : ∀ j u, (cu1 q)[j]? = some u → w.cell? ((⟨vb, vo, none⟩ : Addr).add j) = some u) :
    Calls Tryd.prog 21 #[.slice (some ⟨b, 0, none⟩) n cap, .int .i64 i, .slice (some ⟨vb, vo, none⟩) 1 vc] w fun e w' => ∃ G Y, e = .returned (.slice (some ⟨w.heap.size, 0, none⟩) (n + 1) G) ∧ Below w.heap.size w w' ∧ Bk w' w.heap.size Y ∧ n + 1 ≤ G ∧ G ≤ maxLen ∧ Y.length = G * 1 ∧ Y.take ((n + 1) * 1) = flat1 (l.take i ++ [q] ++ l.drop i) := by
  obtain ⟨i0, hi0, hz0, hz1, hz2⟩ := info_parts infoPl
  have hlt : (l.take i).length = i := by rw [List.length_take]; omega
  have hold : (Builtin.firstCells i0.size i (.slice (some ⟨b, 0, none⟩) i cap)).run Tryd.prog w.drew = .ok (flat1 (l.take i)).toArray w.drew := by
    rw [hz1]
    refine run_firstCells_some w.drew 1 i ⟨b, 0, none⟩ i cap (flat1 (l.take i)) (by rw [flat1_len, hlt]) fun j v hj => ?_
    rw [Addr.add_lit, Nat.zero_add]
    have hjl : j < i * 1 := by
      have := (List.getElem?_eq_some_iff.1 hj).1
      rwa [flat1_len, hlt] at this
    rw [← flat1_take, ← ht, List.take_take, Nat.min_eq_left (by omega), List.getElem?_take_of_lt hjl] at hj
    exact hB.cell hj
  have hkk : (n : Int) + 1 - (i : Int) = ((n + 1 - i : Nat) : Int) := by omega
  have hik : i + (n + 1 - i) = n + 1 := by omega
  have hrz : ∀ ty, (Builtin.append_ #[57, 3] ty #[.slice (some ⟨b, 0, none⟩) i cap, .int .i64 ((n : Int) + 1 - (i : Int))]).run Tryd.prog w =
      .ok (.slice (some ⟨w.heap.size, 0, none⟩) (n + 1) (grownCap w (n + 1) cap 56)) (w.drew.alloc (.cells ((flat1 (l.take i)).toArray ++ Builtin.zeroCells (Value.slice none 0 0).cells (n + 1 - i) ++ Builtin.zeroCells (Value.slice none 0 0).cells (grownCap w (n + 1) cap 56 - (n + 1))) 56)) := fun ty => by
    have h := Lib.run_append_grow_zeros w 57 3 ty 56 i0 _ .i64 .i64 Tryd.underlying57 Tryd.underlying3 hi0 hz0 (some ⟨b, 0, none⟩) i cap (flat1 (l.take i)) hold (n + 1 - i) (by omega) (by omega) (by omega) (by omega) (by rw [hz2]; omega) (by rw [hz2, hik]; exact growslice_fits hroom (by omega))
    rw [hik] at h
    rw [hkk]
    exact h
  have hGn : n + 1 ≤ grownCap w (n + 1) cap 56 := grownCap_ge w _ _ _
  have hGm : grownCap w (n + 1) cap 56 ≤ maxLen := grownCap_le_maxLen w (n + 1) cap 56 (by unfold maxLen; omega)
  generalize grownCap w (n + 1) cap 56 = G at hrz hGn hGm
  obtain ⟨ROW, hROW⟩ : ∃ ROW : Array Value, ROW = (flat1 (l.take i)).toArray ++ Builtin.zeroCells (Value.slice none 0 0).cells (n + 1 - i) ++ Builtin.zeroCells (Value.slice none 0 0).cells (G - (n + 1)) := ⟨_, rfl⟩
  rw [← hROW] at hrz
  have hRl : ROW.toList.length = G * 1 := by
    rw [hROW, Array.toList_append, Array.toList_append, zero1, zero1, List.length_append, List.length_append, List.length_replicate, List.length_replicate, flat1_len, hlt]
    omega
  have hRt : ROW.toList.take (i * 1) = flat1 (l.take i) := by
    rw [hROW, Array.toList_append, Array.toList_append, List.append_assoc, List.take_append_of_le_length (by rw [flat1_len, hlt]; omega), List.take_of_length_le (by rw [flat1_len, hlt]; omega)]
  have hbw : b < w.heap.size := hB.lt
  have hF : (flat1 (l.drop i)).length = (n - i) * 1 := by rw [flat1_len, List.length_drop, hl]
  have hFt : (flat1 (l.take i)).length = i * 1 := by rw [flat1_len, hlt]
  obtain ⟨W1, hW1⟩ : ∃ W1, W1 = w.drew.alloc (.cells ROW 56) := ⟨_, rfl⟩
  rw [← hW1] at hrz
  have hB1 : Bk W1 w.heap.size ROW.toList := by
    unfold Bk
    rw [Array.toArray_toList, hW1]
    show (w.heap.push _)[w.heap.size]? = _
    simp
  have hbe1 : Below w.heap.size w W1 := by
    rw [hW1]
    exact (Below.refl w.heap.size w).drew.alloc (Nat.le_refl _) _
  generalize ROW.toList = R at hRl hRt hB1
  have hvw : vb < w.heap.size := by
    have := hq 0 _ rfl
    rw [Addr.add_lit] at this
    exact block_lt_of_cell this
  have hcA := run_copy3 hB1 (i * 1) (n + 1 - i) (G - i) ⟨vb, vo, none⟩ 1 vc (cu1 q) (by rw [cu1_len, show Nat.min 1 (n + 1 - i) = 1 by simp only [Nat.min_def]; split <;> omega]) (fun j u hj => by
    have := hq j u hj
    rw [Addr.add_lit] at this ⊢
    exact (cell_of_block (hbe1.block vb hvw) _).trans this) (by rw [cu1_len]; omega) (fun u hu => flat1_one (l := [q]) (by simpa [flat1] using hu))
  obtain ⟨r1, r2, r3⟩ := hB1.row (putX R (i * 1) (cu1 q))
  obtain ⟨W2, hW2⟩ : ∃ W2, W2 = W1.setRow w.heap.size (putX R (i * 1) (cu1 q)).toArray := ⟨_, rfl⟩
  rw [← hW2] at hcA r1 r2 r3
  have r1d : Bk W2.drew w.heap.size (putX R (i * 1) (cu1 q)) := r1
  have hcB := run_copy3 r1d ((i + 1) * 1) (n + 1 - (i + 1)) (G - (i + 1)) ⟨b, i * 1, none⟩ (n - i) (cap - i) (flat1 (l.drop i)) (by rw [hF]; congr 1; simp only [Nat.min_def]; split <;> omega) (fun j u hj => by
    rw [Addr.add_lit]
    have hjl : j < (n - i) * 1 := by rw [← hF]; exact (List.getElem?_eq_some_iff.1 hj).1
    rw [← flat1_drop, ← ht, List.getElem?_drop, List.getElem?_take_of_lt (by omega)] at hj
    have e1 : W2.heap[b]? = w.heap[b]? := (r2.block b (by have := hbe1.size; omega) (by omega)).trans (hbe1.block b hbw)
    exact (cell_of_block e1 _).trans (hB.cell hj)) (by rw [putX_len (by rw [cu1_len]; omega), hF]; omega) (fun u hu => flat1_one hu)
  have hr2 := r1d.row (putX (putX R (i * 1) (cu1 q)) ((i + 1) * 1) (flat1 (l.drop i)))
  have hfin : (putX (putX R (i * 1) (cu1 q)) ((i + 1) * 1) (flat1 (l.drop i))).length = G * 1 ∧ (putX (putX R (i * 1) (cu1 q)) ((i + 1) * 1) (flat1 (l.drop i))).take ((n + 1) * 1) = flat1 (l.take i ++ [q] ++ l.drop i) := by
    have hR1 : (putX R (i * 1) (cu1 q)).length = R.length := putX_len (by rw [cu1_len]; omega)
    have a1 : (putX R (i * 1) (cu1 q)).take ((i + 1) * 1) = flat1 (l.take i) ++ cu1 q := by
      rw [putX, hRt, take3 (by rw [hFt, cu1_len]; omega), hFt, cu1_len, show (i + 1) * 1 - i * 1 - 1 = 0 by omega, List.take_zero, List.append_nil]
    refine ⟨by rw [putX_len (by omega), hR1]; exact hRl, ?_⟩
    have a3 : (flat1 (l.take i) ++ cu1 q).length = i * 1 + 1 := by rw [List.length_append, hFt, cu1_len]
    rw [putX, a1, take3 (by omega), a3, hF, show (n + 1) * 1 - (i * 1 + 1) - (n - i) * 1 = 0 by omega, List.take_zero, List.append_nil, flat1_append, flat1_append]
    simp [flat1]
  have hG63 : G ≤ 9223372036854775807 := by unfold maxLen at hGm; omega
  have HF := Lib.hid (And.intro hfin (And.intro hr2 (And.intro hbe1 (And.intro r2 hGm))))
  have hz2 : ¬ ((i : Int) = (n : Int)) := by omega
  have hz3 : (cap : Int) < (n : Int) + 1 := by omega
  have hGi : ¬ (G = i) := by omega
  have hGim : ¬ (G = i + 1) := by omega
  have hci : ¬ (cap = i) := by omega
  have hin : i ≤ n := by omega
  have mixed : Tryd.prog.follows .mixedOrders = true := by kernel_rfl
  have hw1 : IntKind.i64.wrap ((i : Int) + 1) = (i : Int) + 1 := by rw [IntKind.wrap_i64]; omega
  have hb5 : (0 : Int) ≤ (i : Int) + 1 := by omega
  have hb6 : (i : Int) + 1 ≤ (n : Int) + 1 := by omega
  have htn : ((i : Int) + 1).toNat = i + 1 := by omega
  simp only [Nat.mul_one] at hrz hcA hcB HF ⊢
  clear hfin hr2 hbe1 r2 hGm r1 r1d r3 hB1 hRl hRt hFt hF hW1 hW2 hROW hold hkk hik hq hvw hbw ht hl hB hlt hi0 hz0 hz1 hz2
  go_enter Tryd.func21, Tryd.ntmps21
  go_wp2_with (first
    | (at_builtin; refine Lib.wpList_append_run _ rfl _ _ _ _ rfl _ _ rfl rfl _ _ (hrz _) ?_)
    | (at_builtin; refine wpList_copy_run3 _ rfl _ _ 57 57 rfl _ _ rfl rfl (hcA _) ?_))
  go_region_law_o (refine step_copy_run3 rfl _ _ 57 57 rfl (.slice (some ⟨w.heap.size, i + 1, none⟩) (n + 1 - (i + 1)) (G - (i + 1))) (.slice (some ⟨b, i, none⟩) (n - i) (cap - i)) (by simp [Act.eval, Act.put]) (by simp [Act.eval, Act.put]) (hcB _) ?_)
  go_wp2
  go_ret
  obtain ⟨⟨f1, f2⟩, ⟨g1, g2, _⟩, g3, g4, g5⟩ := HF.out
  exact ⟨G, _, rfl, but_below (but_below g3 g4).drew g2, g1, hGn, g5, f1, f2⟩
/-- A tile put in at a place. -/
theorem lib_insCV {l : List CV} {q : CV} {i : Nat} (hi : i ≤ l.length) (hl : l.length ≤ 1048576) : SpecM Tryd.prog 21 [.c (.own (pin 0)), .c (.d (iD i)), .c (.own (pin 1))] [(pin 0, .arr kSS (l.map enW) []), (pin 1, .arr kSS ([q].map enW) [])] (.v (.c (.own 0))) [(0, .arr kSS ((l.take i ++ [q] ++ l.drop i).map enW) [])] := by
  refine ⟨callFunc_enter Tryd.func21 rfl (by simp [Tryd.f21]), fun w R ι φ vs hR hF ho => ?_⟩
  cases hF with | cons hv hF => cases hF with | cons hi' hF => cases hF with | cons hf hF =>
  cases hF
  rename_i v iv lv
  obtain ⟨_, hv⟩ := hv
  obtain ⟨_, hf⟩ := hf
  have hi' : RD w R iv (.pv (.int .i64 i)) := hi'
  cases hi'
  have hX : frO [(pin 0, Ob.arr kSS (l.map enW) []), (pin 1, .arr kSS ([q].map enW) [])] (pin 0) = some (.arr kSS (l.map enW) []) := rfl
  have hZ : frO [(pin 0, Ob.arr kSS (l.map enW) []), (pin 1, .arr kSS ([q].map enW) [])] (pin 1) = some (.arr kSS ([q].map enW) []) := rfl
  obtain ⟨_, xs, S1, how, heh, hS, _⟩ := ho.1 _ _ hX
  obtain ⟨_, zs, S2, hoz, hez, hT, _⟩ := ho.1 _ _ hZ
  obtain ⟨rfl, rfl⟩ := ET.ofCVs (EH.to_ET heh)
  obtain ⟨rfl, rfl⟩ := ET.ofCVs (EH.to_ET hez)
  rw [← hv] at how hS
  rw [← hf] at hoz hT
  have hlen : (l.map enW).length = l.length := by simp
  rw [hlen] at how
  have how : w.ownsRow 0 56 1 v l.length (flat1 l) := how
  have hoz : w.ownsRow 0 56 1 lv 1 (flat1 [q]) := hoz
  have hap := ho.2.2.1 (pin 0) (pin 1)
  rcases own_bk hoz with ⟨_, h0, _⟩ | ⟨vb, zc, Z, rfl, _, hBz, hzn, hzm, hzx, hzt, _⟩
  · cases h0
  have hq : ∀ j u, (cu1 q)[j]? = some u → w.cell? ((⟨vb, 0, none⟩ : Addr).add j) = some u := fun j u hj => by
    rw [Addr.add_lit, Nat.zero_add]
    have hj3 : j < 1 := (List.getElem?_eq_some_iff.1 hj).1
    refine hBz.cell ?_
    have : (Z.take (1 * 1))[j]? = (flat1 [q])[j]? := by rw [hzt]
    rw [List.getElem?_take_of_lt (by omega)] at this
    rw [this, flat1, List.getElem?_append_left (by rw [cu1_len]; omega)]
    exact hj
  have hll : (l.take i ++ [q] ++ l.drop i).length = l.length + 1 := by simp; omega
  have hφS : φ (pin 0) = v.ownBlock.toList := by rw [hS]; simp
  by_cases hil : i = l.length
  · obtain ⟨a, n, cap, rfl⟩ : ∃ a n cap, v = .slice a n cap := by
      rcases own_bk how with ⟨h, _⟩ | ⟨g, c, _, h, _⟩
      · exact ⟨_, _, _, h⟩
      · exact ⟨_, _, _, h⟩
    have hn : n = l.length := by
      rcases own_bk how with ⟨h, h1, _⟩ | ⟨g, c, _, h, _⟩
      · cases h; rw [h1]; rfl
      · cases h; rfl
    subst hn
    subst hil
    refine (ins_end (q := q) w vb 0 zc hl how hq).mono ?_
    rintro e w1 ⟨v', rfl, h1, h2, h3⟩
    have hae : (Value.slice a l.length cap).ownBlock = a.map (·.block) := by cases a <;> rfl
    have hbl : BelowM (fpO φ (frO [(pin 0, Ob.arr kSS (l.map enW) []), (pin 1, .arr kSS ([q].map enW) [])])) w w1 := ⟨h2.os, h2.tape, h2.output, h2.size, fun k hk hM => h2.block k hk fun e => hM ⟨pin 0, _, hX, by rw [hφS, hae, ← e]; simp⟩⟩
    refine ⟨_, rfl, cvs_after hR ho hbl (by rw [hll]; simpa using h1) fun g hg => ?_⟩
    have hlt := (h1.lt g hg).2
    refine ⟨?_, hlt⟩
    rcases h3 with h3 | h3
    · exact .inl ⟨pin 0, _, hX, by rw [hφS, hae, ← h3, hg]; simp⟩
    · rw [hg] at h3
      cases h3
      exact .inr (Nat.le_refl _)
  · rcases own_bk how with ⟨_, h0, _⟩ | ⟨b, cap, X, rfl, _, hB, hnc, hm, hx, ht, hln⟩
    · rw [h0] at hil hi
      exact absurd (by simpa using hi) hil
    have hb0 : b ∈ φ (pin 0) := by rw [hφS]; simp [Value.ownBlock]
    have hvb0 : vb ∈ φ (pin 1) := by rw [hT]; simp [Value.ownBlock]
    have hne : vb ≠ b := fun e => by
      have := hap _ _ b hX hZ hb0 (e ▸ hvb0)
      exact absurd this (by decide)
    by_cases hroom : l.length + 1 ≤ cap
    · have hBz' : w.heap[vb]? = _ := hBz
      refine (ins_room (q := q) w vb 0 zc hl hB hroom hm hx ht rfl (by omega) hne hq 56 Z.length (by simp [World.shape?, hBz']) (hBz.frz 0) (hBz.frz _)).mono ?_
      rintro e w1 ⟨Y, rfl, hbt, hBY, hY1, hY2⟩
      refine ⟨_, rfl, cvs_after hR ho ⟨hbt.os, hbt.tape, hbt.output, hbt.size, fun k hk hM => hbt.block k hk fun e => hM ⟨pin 0, _, hX, by rw [e]; exact hb0⟩⟩ (by rw [hll]; exact bk_own (Nat.zero_le _) hBY hroom hm hY1 hY2 hll) fun g hg => ?_⟩
      obtain rfl : b = g := by simpa [Value.ownBlock] using hg
      exact ⟨.inl ⟨pin 0, _, hX, hb0⟩, hBY.lt⟩
    · refine (ins_grow (q := q) w vb 0 zc hl hB hnc (by omega) ht rfl (by omega) hq).mono ?_
      rintro e w1 ⟨G, Y, rfl, hbe, hBY, hG1, hG2, hY1, hY2⟩
      refine ⟨_, rfl, cvs_after hR ho (BelowM.of_below hbe) (by rw [hll]; exact bk_own (Nat.zero_le _) hBY hG1 hG2 hY1 hY2 hll) fun g hg => ?_⟩
      obtain rfl : w.heap.size = g := by simpa [Value.ownBlock] using hg
      exact ⟨.inr (Nat.le_refl _), hBY.lt⟩
end Go.Proofs.YtlblmofimjhbbaaDoor
