/- The value of a gate: by a map. -/
import Derived.Test.YtbdhhldbggidlaaCirc1
import Derived.WalkLawsBesides
import Derived.WalkSpells
import Derived.Outline
import Derived.BigQuiet
import Derived.Deep.QuietTactic
import Derived.WideMake
import Derived.Carry
import Derived.MapKept
namespace Go.Proofs.Ytbdhhldbggidlaa
open Go.RowKit
set_option maxRecDepth 100000
set_option maxHeartbeats 4000000
theorem run_lit {P : Program} {w : World} {mty kt et : TypeId} {r clock : Nat} {es : Array MapEntry} {k : Int} {val : Value} (hm : P.underlying mty = some (.map kt et)) (hk : P.underlying kt = some (.int .i64)) (hb : w.heap[r]? = some (.map es clock)) (hf : Instr.findNow (.int .i64) (.int .i64 k) es.toList 0 = some none) :
    (Instr.mapUpdate mty (.map (some r)) (.int .i64 k) val).run P w = .ok () { w with heap := w.heap.setIfInBounds r (.map (es.push { key := .int .i64 k, val := val, born := clock }) (clock + 1)) } := by
  have hc : (Instr.checkKey false 10000 kt (.int .i64 k)).run P w = .ok () w := MapKept.run_checkKey (k := .int .i64 k) hk (by simp [MapKept.IsKey]) false 9999
  simp [Instr.mapUpdate, run_underlying hm, MapKept.run_getObj_map hb, hc, MapKept.run_findKey hk hf, MapKept.run_setObj_map _ hb, Result.andThen]
theorem run_look {P : Program} {w : World} {mty kt et : TypeId} {r clock j : Nat} {es : Array MapEntry} {k : Int} {v : Value} (hm : P.underlying mty = some (.map kt et)) (hk : P.underlying kt = some (.int .i64)) (hb : w.heap[r]? = some (.map es clock)) (he : es.isEmpty = false) (hf : Instr.findNow (.int .i64) (.int .i64 k) es.toList 0 = some (some (j, v))) :
    (Instr.lookup mty (.map (some r)) (.int .i64 k) false).run P w = .ok v w := by
  have hc : (Instr.checkKey false 10000 kt (.int .i64 k)).run P w = .ok () w := MapKept.run_checkKey (k := .int .i64 k) hk (by simp [MapKept.IsKey]) false 9999
  simp [Instr.lookup, run_underlying hm, MapKept.run_getObj_map hb, he, hc, MapKept.run_findKey hk hf, Result.andThen]
theorem heapNew (w : World) (o : Obj) : (w.alloc o).heap[w.heap.size]? = some o := by
  unfold World.alloc
  simp
theorem run_litE {P : Program} {w0 w : World} {B b : Nat} {u : Value} {mty kt et : TypeId} {r clock : Nat} {es : Array MapEntry} {k : Int} {val : Value} (hm : P.underlying mty = some (.map kt et)) (hk : P.underlying kt = some (.int .i64)) (hb : w.heap[r]? = some (.map es clock)) (hf : Instr.findNow (.int .i64) (.int .i64 k) es.toList 0 = some none) (hB : Below B w0 w) (hr : B ≤ r) (hne : b ≠ r) (hc : w.cell? ⟨b, 0, none⟩ = some u) :
    ∃ W, (Instr.mapUpdate mty (.map (some r)) (.int .i64 k) val).run P w = .ok () W ∧ W.heap[r]? = some (.map (es.push { key := .int .i64 k, val := val, born := clock }) (clock + 1)) ∧ Below B w0 W ∧ W.cell? ⟨b, 0, none⟩ = some u := by
  have hlt : r < w.heap.size := (Array.getElem?_eq_some_iff.1 hb).1
  refine ⟨_, run_lit hm hk hb hf, ?_, ⟨hB.os, hB.tape, hB.output, ?_, fun j hj => ?_⟩, ?_⟩
  · simp only [Array.getElem?_setIfInBounds]
    rw [if_pos trivial, if_pos hlt]
  · rw [Array.size_setIfInBounds]; exact hB.size
  · simp only [Array.getElem?_setIfInBounds]
    rw [if_neg (by omega)]
    exact hB.block j hj
  · refine (World.cell?_of_block (w := w) ?_).trans hc
    simp only [Array.getElem?_setIfInBounds]
    rw [if_neg (fun h => hne h.symm)]
theorem gate1 (x y a b : Int) (w : World) (ha : 0 ≤ a ∧ a ≤ 1) : Calls Try.prog 171 #[.agg #[.int .i64 1, .int .i64 x, .int .i64 y], .int .i64 a, .int .i64 b] w (fun e w1 => e = .returned (.int .i64 (1 - a)) ∧ Below w.heap.size w w1) := by
  have hmm := @run_makeMap Try.prog
  have m0 : ((w.alloc (.cells #[.int .i64 1, .int .i64 x, .int .i64 y] 206)).alloc (.map #[] 0)).heap[w.heap.size + 1]? = some (.map #[] 0) := by
    have := heapNew (w.alloc (.cells #[.int .i64 1, .int .i64 x, .int .i64 y] 206)) (.map #[] 0)
    rwa [World.size_alloc] at this
  have c0 : ((w.alloc (.cells #[.int .i64 1, .int .i64 x, .int .i64 y] 206)).alloc (.map #[] 0)).cell? ⟨w.heap.size, 0, none⟩ = some (.int .i64 1) :=
    (World.cell?_alloc_past _ _ _ (by rw [World.size_alloc]; omega)).trans (World.cell?_alloc_new _ _ _ _)
  have b0 : Below w.heap.size w ((w.alloc (.cells #[.int .i64 1, .int .i64 x, .int .i64 y] 206)).alloc (.map #[] 0)) := ((Below.refl _ _).alloc (Nat.le_refl _) _).alloc (by rw [World.size_alloc]; omega) _
  obtain ⟨W1, e1, m1, b1, c1⟩ := run_litE (P := Try.prog) (k := 1) (val := .int .i64 (1 - a)) Try.underlying227 Try.underlying2 m0 rfl b0 (by omega) (by omega) c0
  obtain ⟨W2, e2, m2, b2, c2⟩ := run_litE (P := Try.prog) (k := 2) (val := .int .i64 (bits .and .i64 a b)) Try.underlying227 Try.underlying2 m1 rfl b1 (by omega) (by omega) c1
  obtain ⟨W3, e3, m3, b3, c3⟩ := run_litE (P := Try.prog) (k := 3) (val := .int .i64 (bits .or .i64 a b)) Try.underlying227 Try.underlying2 m2 rfl b2 (by omega) (by omega) c2
  obtain ⟨W4, e4, m4, b4, c4⟩ := run_litE (P := Try.prog) (k := 4) (val := .int .i64 (bits .xor .i64 a b)) Try.underlying227 Try.underlying2 m3 rfl b3 (by omega) (by omega) c3
  have e5 := run_look (P := Try.prog) (k := 1) (v := .int .i64 (1 - a)) (j := 0) Try.underlying227 Try.underlying2 m4 rfl rfl
  clear m1 m2 m3 m4 m0 b0 b1 b2 b3 c0 c1 c2 c3
  go_enter Try.func171, Try.ntmps171
  go_wp2
  exact bodyPost_ret (v := .int .i64 (1 - a)) (by simp [results, Try.results171, go_sem] <;> rfl) rfl ⟨rfl, b4⟩
theorem gate2 (x y a b : Int) (w : World) (ha : 0 ≤ a ∧ a ≤ 1) : Calls Try.prog 171 #[.agg #[.int .i64 2, .int .i64 x, .int .i64 y], .int .i64 a, .int .i64 b] w (fun e w1 => e = .returned (.int .i64 (andI a b)) ∧ Below w.heap.size w w1) := by
  have hmm := @run_makeMap Try.prog
  have m0 : ((w.alloc (.cells #[.int .i64 2, .int .i64 x, .int .i64 y] 206)).alloc (.map #[] 0)).heap[w.heap.size + 1]? = some (.map #[] 0) := by
    have := heapNew (w.alloc (.cells #[.int .i64 2, .int .i64 x, .int .i64 y] 206)) (.map #[] 0)
    rwa [World.size_alloc] at this
  have c0 : ((w.alloc (.cells #[.int .i64 2, .int .i64 x, .int .i64 y] 206)).alloc (.map #[] 0)).cell? ⟨w.heap.size, 0, none⟩ = some (.int .i64 2) :=
    (World.cell?_alloc_past _ _ _ (by rw [World.size_alloc]; omega)).trans (World.cell?_alloc_new _ _ _ _)
  have b0 : Below w.heap.size w ((w.alloc (.cells #[.int .i64 2, .int .i64 x, .int .i64 y] 206)).alloc (.map #[] 0)) := ((Below.refl _ _).alloc (Nat.le_refl _) _).alloc (by rw [World.size_alloc]; omega) _
  obtain ⟨W1, e1, m1, b1, c1⟩ := run_litE (P := Try.prog) (k := 1) (val := .int .i64 (1 - a)) Try.underlying227 Try.underlying2 m0 rfl b0 (by omega) (by omega) c0
  obtain ⟨W2, e2, m2, b2, c2⟩ := run_litE (P := Try.prog) (k := 2) (val := .int .i64 (bits .and .i64 a b)) Try.underlying227 Try.underlying2 m1 rfl b1 (by omega) (by omega) c1
  obtain ⟨W3, e3, m3, b3, c3⟩ := run_litE (P := Try.prog) (k := 3) (val := .int .i64 (bits .or .i64 a b)) Try.underlying227 Try.underlying2 m2 rfl b2 (by omega) (by omega) c2
  obtain ⟨W4, e4, m4, b4, c4⟩ := run_litE (P := Try.prog) (k := 4) (val := .int .i64 (bits .xor .i64 a b)) Try.underlying227 Try.underlying2 m3 rfl b3 (by omega) (by omega) c3
  have e5 := run_look (P := Try.prog) (k := 2) (v := .int .i64 (bits .and .i64 a b)) (j := 1) Try.underlying227 Try.underlying2 m4 rfl rfl
  clear m1 m2 m3 m4 m0 b0 b1 b2 b3 c0 c1 c2 c3
  go_enter Try.func171, Try.ntmps171
  go_wp2
  exact bodyPost_ret (v := .int .i64 (andI a b)) (by simp [results, Try.results171, go_sem] <;> rfl) rfl ⟨rfl, b4⟩
theorem gate3 (x y a b : Int) (w : World) (ha : 0 ≤ a ∧ a ≤ 1) : Calls Try.prog 171 #[.agg #[.int .i64 3, .int .i64 x, .int .i64 y], .int .i64 a, .int .i64 b] w (fun e w1 => e = .returned (.int .i64 (orI a b)) ∧ Below w.heap.size w w1) := by
  have hmm := @run_makeMap Try.prog
  have m0 : ((w.alloc (.cells #[.int .i64 3, .int .i64 x, .int .i64 y] 206)).alloc (.map #[] 0)).heap[w.heap.size + 1]? = some (.map #[] 0) := by
    have := heapNew (w.alloc (.cells #[.int .i64 3, .int .i64 x, .int .i64 y] 206)) (.map #[] 0)
    rwa [World.size_alloc] at this
  have c0 : ((w.alloc (.cells #[.int .i64 3, .int .i64 x, .int .i64 y] 206)).alloc (.map #[] 0)).cell? ⟨w.heap.size, 0, none⟩ = some (.int .i64 3) :=
    (World.cell?_alloc_past _ _ _ (by rw [World.size_alloc]; omega)).trans (World.cell?_alloc_new _ _ _ _)
  have b0 : Below w.heap.size w ((w.alloc (.cells #[.int .i64 3, .int .i64 x, .int .i64 y] 206)).alloc (.map #[] 0)) := ((Below.refl _ _).alloc (Nat.le_refl _) _).alloc (by rw [World.size_alloc]; omega) _
  obtain ⟨W1, e1, m1, b1, c1⟩ := run_litE (P := Try.prog) (k := 1) (val := .int .i64 (1 - a)) Try.underlying227 Try.underlying2 m0 rfl b0 (by omega) (by omega) c0
  obtain ⟨W2, e2, m2, b2, c2⟩ := run_litE (P := Try.prog) (k := 2) (val := .int .i64 (bits .and .i64 a b)) Try.underlying227 Try.underlying2 m1 rfl b1 (by omega) (by omega) c1
  obtain ⟨W3, e3, m3, b3, c3⟩ := run_litE (P := Try.prog) (k := 3) (val := .int .i64 (bits .or .i64 a b)) Try.underlying227 Try.underlying2 m2 rfl b2 (by omega) (by omega) c2
  obtain ⟨W4, e4, m4, b4, c4⟩ := run_litE (P := Try.prog) (k := 4) (val := .int .i64 (bits .xor .i64 a b)) Try.underlying227 Try.underlying2 m3 rfl b3 (by omega) (by omega) c3
  have e5 := run_look (P := Try.prog) (k := 3) (v := .int .i64 (bits .or .i64 a b)) (j := 2) Try.underlying227 Try.underlying2 m4 rfl rfl
  clear m1 m2 m3 m4 m0 b0 b1 b2 b3 c0 c1 c2 c3
  go_enter Try.func171, Try.ntmps171
  go_wp2
  exact bodyPost_ret (v := .int .i64 (orI a b)) (by simp [results, Try.results171, go_sem] <;> rfl) rfl ⟨rfl, b4⟩
theorem gate4 (x y a b : Int) (w : World) (ha : 0 ≤ a ∧ a ≤ 1) : Calls Try.prog 171 #[.agg #[.int .i64 4, .int .i64 x, .int .i64 y], .int .i64 a, .int .i64 b] w (fun e w1 => e = .returned (.int .i64 (xorI a b)) ∧ Below w.heap.size w w1) := by
  have hmm := @run_makeMap Try.prog
  have m0 : ((w.alloc (.cells #[.int .i64 4, .int .i64 x, .int .i64 y] 206)).alloc (.map #[] 0)).heap[w.heap.size + 1]? = some (.map #[] 0) := by
    have := heapNew (w.alloc (.cells #[.int .i64 4, .int .i64 x, .int .i64 y] 206)) (.map #[] 0)
    rwa [World.size_alloc] at this
  have c0 : ((w.alloc (.cells #[.int .i64 4, .int .i64 x, .int .i64 y] 206)).alloc (.map #[] 0)).cell? ⟨w.heap.size, 0, none⟩ = some (.int .i64 4) :=
    (World.cell?_alloc_past _ _ _ (by rw [World.size_alloc]; omega)).trans (World.cell?_alloc_new _ _ _ _)
  have b0 : Below w.heap.size w ((w.alloc (.cells #[.int .i64 4, .int .i64 x, .int .i64 y] 206)).alloc (.map #[] 0)) := ((Below.refl _ _).alloc (Nat.le_refl _) _).alloc (by rw [World.size_alloc]; omega) _
  obtain ⟨W1, e1, m1, b1, c1⟩ := run_litE (P := Try.prog) (k := 1) (val := .int .i64 (1 - a)) Try.underlying227 Try.underlying2 m0 rfl b0 (by omega) (by omega) c0
  obtain ⟨W2, e2, m2, b2, c2⟩ := run_litE (P := Try.prog) (k := 2) (val := .int .i64 (bits .and .i64 a b)) Try.underlying227 Try.underlying2 m1 rfl b1 (by omega) (by omega) c1
  obtain ⟨W3, e3, m3, b3, c3⟩ := run_litE (P := Try.prog) (k := 3) (val := .int .i64 (bits .or .i64 a b)) Try.underlying227 Try.underlying2 m2 rfl b2 (by omega) (by omega) c2
  obtain ⟨W4, e4, m4, b4, c4⟩ := run_litE (P := Try.prog) (k := 4) (val := .int .i64 (bits .xor .i64 a b)) Try.underlying227 Try.underlying2 m3 rfl b3 (by omega) (by omega) c3
  have e5 := run_look (P := Try.prog) (k := 4) (v := .int .i64 (bits .xor .i64 a b)) (j := 3) Try.underlying227 Try.underlying2 m4 rfl rfl
  clear m1 m2 m3 m4 m0 b0 b1 b2 b3 c0 c1 c2 c3
  go_enter Try.func171, Try.ntmps171
  go_wp2
  exact bodyPost_ret (v := .int .i64 (xorI a b)) (by simp [results, Try.results171, go_sem] <;> rfl) rfl ⟨rfl, b4⟩
def gateV (k a b : Int) : Int := if k = 1 then 1 - a else if k = 2 then andI a b else if k = 3 then orI a b else xorI a b
theorem gateV_bit {k a b : Int} (ha : 0 ≤ a ∧ a ≤ 1) (hb : 0 ≤ b ∧ b ≤ 1) : 0 ≤ gateV k a b ∧ gateV k a b ≤ 1 := by
  have h1 : a = 0 ∨ a = 1 := by omega
  have h2 : b = 0 ∨ b = 1 := by omega
  unfold gateV
  split
  · omega
  · rcases h1 with rfl | rfl <;> rcases h2 with rfl | rfl <;> split <;> (try split) <;> decide
theorem iGateV (g : TGate) (a b : Int) (hg : 1 ≤ g.fKind ∧ g.fKind ≤ 4) (ha : 0 ≤ a ∧ a ≤ 1) (hb : 0 ≤ b ∧ b ≤ 1) : Spec Try.prog 171 [.agg (enGate g), vI a, vI b] (oI (gateV g.fKind a b)) := by
  refine ⟨callFunc_enter Try.func171 rfl (by simp [Try.f171]), fun w R ι φ vs hR hF ho => ?_⟩
  have hbit := gateV_bit (k := g.fKind) ha hb
  have hok : okI (.int .i64 (gateV g.fKind a b)) := by
    have : gateV g.fKind a b = 0 ∨ gateV g.fKind a b = 1 := by omega
    rcases this with h | h <;> rw [h] <;> rfl
  cases hF with | cons h1 h2 => cases h2 with | cons h2 h3 => cases h3 with | cons h3 h4 =>
  cases h4
  obtain ⟨us, rfl, hus⟩ := h1
  cases hus with | cons u1 hus => cases hus with | cons u2 hus => cases hus with | cons u3 hus =>
  cases hus
  cases u1; cases u2; cases u3; cases h2; cases h3
  have hcalls : Calls Try.prog 171 #[.agg #[.int .i64 g.fKind, .int .i64 g.fA, .int .i64 g.fB], .int .i64 a, .int .i64 b] w (fun e w1 => e = .returned (.int .i64 (gateV g.fKind a b)) ∧ Below w.heap.size w w1) := by
    have hk : g.fKind = 1 ∨ g.fKind = 2 ∨ g.fKind = 3 ∨ g.fKind = 4 := by omega
    rcases hk with h | h | h | h <;> rw [h]
    · exact gate1 _ _ a b w ha
    · exact gate2 _ _ a b w ha
    · exact gate3 _ _ a b w ha
    · exact gate4 _ _ a b w ha
  refine hcalls.mono ?_
  rintro e w1 ⟨rfl, hbl⟩
  have hn : ∀ o x, frO [] o = some x → False := fun o x h => by simp [frO] at h
  have hO : ObjsOk w1 R ι φ (frO []) := ⟨fun o x h => (hn o x h).elim, fun o x h => (hn o x h).elim, fun o p x y g h => (hn o x h).elim⟩
  refine ⟨.int .i64 (gateV g.fKind a b), rfl, R, ι, φ, BelowM.of_below hbl, fun b h => h, fun b h => Nat.lt_of_lt_of_le (hR b h) hbl.size, fun b h _ => .inl h, RA.of_pv rfl hok, hO, fun g h => ?_, fun o h => rfl⟩
  obtain ⟨o, x, h, _⟩ := h
  exact (hn o x h).elim
end Go.Proofs.Ytbdhhldbggidlaa
