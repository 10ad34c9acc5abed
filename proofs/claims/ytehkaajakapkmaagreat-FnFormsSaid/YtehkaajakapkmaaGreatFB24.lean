/- Texts of one proof, one behind the other. -/
import Derived.WalkLawsBesides
import Derived.WalkSpells
import Derived.Outline
import Derived.BigQuiet
import Derived.Deep.QuietTactic
import Derived.WideMake
import Derived.Carry
import Derived.MapKept
import Derived.Test.YtehkaajakapkmaaGreatFB18
import Derived.Test.YtehkaajakapkmaaGreatFB19
import Derived.Test.YtehkaajakapkmaaGreatFB23
namespace Go.Proofs.YtehkaajakapkmaaGreat
section
open Go.RowKit
set_option maxRecDepth 100000 in
def S.s29 : SC := (.seq (.reg [⟨(.some 4), .none, .false, (.mv (.const (Go.Value.slice none 0 0)))⟩]) (.seq (.reg [⟨(.some 6), .none, .false, (.mv (.tmp 1))⟩, ⟨(.some 7), .none, .false, (.mv (.tmp 0))⟩, ⟨(.some 8), .none, .false, (.mv (.tmp 1))⟩, ⟨(.some 9), .none, .false, (.call (.func 66) [(.tmp 7), (.tmp 8)])⟩, ⟨(.some 10), .none, .false, (.bld [(Go.Value.slice none 0 0), (Go.Value.slice none 0 0), (Go.Value.slice none 0 0), (Go.Value.bool false)] [(0, 1), (1, 1), (2, 1), (3, 1)] [(0, (.tmp 6)), (1, (.tmp 9))])⟩, ⟨(.some 11), .none, .false, (.box 96 (.tmp 10))⟩, ⟨(.some 5), .none, .false, (.mv (.tmp 11))⟩]) (.seq (.reg [⟨(.some 12), .none, .false, (.mv (.tmp 5))⟩, ⟨(.some 13), .none, .false, (.bsl (.mk 56 2) 0 [])⟩, ⟨(.some 14), .none, .false, (.call (.func 67) [(.tmp 12), (.const (Go.Value.int Go.IntKind.i64 0)), (.tmp 13)])⟩]) (.seq (.reg [⟨(.some 15), .none, .false, (.mv (.tmp 5))⟩, ⟨(.some 16), .none, .false, (.nc (.tmp 15))⟩, ⟨(.some 17), .none, .false, (.fa 2 (.tmp 16))⟩, ⟨(.some 18), .none, .false, (.ld .false 1 (.tmp 17))⟩, ⟨(.some 4), .none, .false, (.mv (.tmp 18))⟩]) .ret))))
set_option maxRecDepth 100000 in
theorem S.ok29 : stripF Tryz.prog Tryz.f29 = some S.s29 := by kernel_rfl
set_option maxRecDepth 10000
set_option maxHeartbeats 4000000
theorem tab_care {n : Nat} {tb : List Int} (hn : 1 ≤ n ∧ n ≤ 4) : careOk (tabQ n tb (2 ^ n)) := fun c hc => by
  obtain ⟨_, a, v, h1, h2, rfl⟩ := tabQ_ok hc
  have := p16 hn
  exact ⟨by show (0 : Int) ≤ (a : Int); omega, by show (a : Int) ≤ 15; omega⟩
theorem tab_len {n : Nat} {tb : List Int} (hn : 1 ≤ n ∧ n ≤ 4) : (tabQ n tb (2 ^ n)).length ≤ 256 := by
  have h := p16 hn
  have := tabQ_len (n := n) (l := tb) (2 ^ n) h.2
  omega
theorem inK_01 {tb : List Int} {m : Int} (h : inK tb m) : ∀ (i : Nat) (v : Int), tb[i]? = some v → v = 0 ∨ v = 1 := fun i v hv => by
  have := h.2 v (List.mem_of_getElem? hv)
  omega
theorem inK_len {n : Nat} {tb : List Int} (h : inK tb (2 ^ n)) : tb.length = 2 ^ n := by
  have h1 := h.1
  have h2 := p16c (n := n)
  omega
theorem lc_ex {n : Nat} {tb : List Int} (hn : 1 ≤ n ∧ n ≤ 4) (h : inK tb (2 ^ n)) : ∃ (x : List Nat) (m : Nat), m ≤ (tabQ n tb (2 ^ n)).length ∧ (∀ m', m' < m → srch (cvQ tb (tabQ n tb (2 ^ n))) (costQ (tabQ n tb (2 ^ n))) (tabQ n tb (2 ^ n)).length m' 0 [] none = none) ∧ srch (cvQ tb (tabQ n tb (2 ^ n))) (costQ (tabQ n tb (2 ^ n))) (tabQ n tb (2 ^ n)).length m 0 [] none = some x ∧ tryB (cvQ tb (tabQ n tb (2 ^ n))) (costQ (tabQ n tb (2 ^ n))) (tabQ n tb (2 ^ n)).length 0 [] none = some x ∧ rise 0 (tabQ n tb (2 ^ n)).length x ∧ x.length = m := by
  obtain ⟨m, x, hx⟩ := least_cover (l := tb) hn (inK_len h)
  exact ⟨x, m, hx⟩
open Classical in
noncomputable def lcX (n : Nat) (tb : List Int) : List Nat := if h : (1 ≤ n ∧ n ≤ 4) ∧ inK tb (2 ^ n) then Classical.choose (lc_ex h.1 h.2) else []
theorem lcX_ok {n : Nat} {tb : List Int} (hn : 1 ≤ n ∧ n ≤ 4) (h : inK tb (2 ^ n)) : ∃ m : Nat, m ≤ (tabQ n tb (2 ^ n)).length ∧ (∀ m', m' < m → srch (cvQ tb (tabQ n tb (2 ^ n))) (costQ (tabQ n tb (2 ^ n))) (tabQ n tb (2 ^ n)).length m' 0 [] none = none) ∧ srch (cvQ tb (tabQ n tb (2 ^ n))) (costQ (tabQ n tb (2 ^ n))) (tabQ n tb (2 ^ n)).length m 0 [] none = some (lcX n tb) ∧ tryB (cvQ tb (tabQ n tb (2 ^ n))) (costQ (tabQ n tb (2 ^ n))) (tabQ n tb (2 ^ n)).length 0 [] none = some (lcX n tb) ∧ rise 0 (tabQ n tb (2 ^ n)).length (lcX n tb) ∧ (lcX n tb).length = m := by
  have hx := Classical.choose_spec (lc_ex hn h)
  have e : lcX n tb = Classical.choose (lc_ex hn h) := dif_pos ⟨hn, h⟩
  rw [e]
  exact hx
open Classical in
noncomputable def fLC (n : Int) (l : List Int) : List TCube × Int := if okT n l then (cubs (tabQ n.toNat l (2 ^ n.toNat)) (lcX n.toNat l), 0) else ([], 2)
theorem fLC_len {n : Int} {l : List Int} : (fLC n l).1.length ≤ 256 := by
  unfold fLC
  split
  · rename_i h
    have hn : 1 ≤ n.toNat ∧ n.toNat ≤ 4 := ⟨by have := h.1; omega, by have := h.1; omega⟩
    obtain ⟨m, _, _, _, _, h5, _⟩ := lcX_ok hn h.2
    have h1 := rise_len h5
    have h2 := tab_len (tb := l) hn
    show (cubs _ _).length ≤ 256
    rw [cubs_len]
    omega
  · simp
theorem sLeast (n : Nat) (tb : List Int) (hn : 1 ≤ n ∧ n ≤ 4) (h : inK tb (2 ^ n)) (x : List Nat) (ht : tryB (cvQ tb (tabQ n tb (2 ^ n))) (costQ (tabQ n tb (2 ^ n))) (tabQ n tb (2 ^ n)).length 0 [] none = some x) : Spec Tryz.prog 29 [vI n, vL kI (ints tb)] (.v (.c (.fz (.rd kCube ((cubs (tabQ n tb (2 ^ n)) x).map enCube))))) := by
  have hpr := sPrimes1 n tb hn
  have hcare := tab_care (tb := tb) hn
  have hps := tab_len (tb := tb) hn
  have h01 := inK_01 h
  have hlen := inK_len h
  have hp := p16 hn
  generalize tabQ n tb (2 ^ n) = ps at *
  have hT := sTry tb ps (by omega) (by omega) h01 hcare ps.length 0 [] none (by omega) trivial (fun x hx => by cases hx)
  rw [ht] at hT
  refine Spec.walk T.mixed Tryz.func29 S.ok29 (by simp [Tryz.f29]) fun hk => ?_
  clear hk
  unfold S.s29
  repeat' (first|refine R.mv rfl ?_|refine R.reg ?_|refine R.nil ?_|refine R.seq ?_|refine R.nseq ?_|refine R.ld rfl rfl rfl ?_|refine R.fa rfl rfl ?_|refine R.nc rfl rfl ?_|refine R.box rfl rfl rfl ?_|refine R.bld rfl rfl ?_|refine R.call (bor := false) rfl rfl (hpr) rfl rfl rfl ?_|refine R.bsl (f := enCube) ([] : List TCube) rfl rfl rfl rfl rfl ?_|refine R.weak (Weak.reifyBox 11 2 900 kCube rfl rfl rfl) (R.weak (Weak.freeze 900 rfl rfl) (R.weak (Weak.freeze 13 rfl rfl) (R.callX (bor := false) [(11, pin 0)] rfl hT rfl rfl rfl rfl rfl ?_))))
  all_goals first
    | (exfalso; omega)
    | exact R.ret ⟨.inr rfl, R.outR rfl (.cons (R.tmp rfl) .nil) rfl rfl rfl rfl⟩
    | skip
end
section
open Go.RowKit
set_option maxRecDepth 100000
set_option maxHeartbeats 4000000
theorem run_lit {P : Program} {w : World} {mty kt et : TypeId} {r clock : Nat} {es : Array MapEntry} {k : Int} {val : Value} (hm : P.underlying mty = some (.map kt et)) (hk : P.underlying kt = some (.int .i64)) (hb : w.heap[r]? = some (.map es clock)) (hf : Instr.findNow (.int .i64) (.int .i64 k) es.toList 0 = some none) :
    (Instr.mapUpdate mty (.map (some r)) (.int .i64 k) val).run P w = .ok () { w with heap := w.heap.setIfInBounds r (.map (es.push { key := .int .i64 k, val := val, born := clock }) (clock + 1)) } := by
  have hc : (Instr.checkKey false 10000 kt (.int .i64 k)).run P w = .ok () w := MapKept.run_checkKey (k := .int .i64 k) hk (by simp [MapKept.IsKey]) false 9999
  simp [Instr.mapUpdate, run_underlying hm, MapKept.run_getObj_map hb, hc, MapKept.run_findKey hk hf, MapKept.run_setObj_map _ hb, Result.andThen]
theorem run_look {P : Program} {w : World} {mty kt et : TypeId} {r clock j : Nat} {es : Array MapEntry} {k : Int} {v : Value} (hm : P.underlying mty = some (.map kt et)) (hk : P.underlying kt = some (.int .i64)) (hb : w.heap[r]? = some (.map es clock)) (he : es.isEmpty = false) (hf : Instr.findNow (.int .i64) (.int .i64 k) es.toList 0 = some (some (j, v))) :
    (Instr.lookup mty (.map (some r)) (.int .i64 k) false).run P w = .ok v w := by
  have hc : (Instr.checkKey false 10000 kt (.int .i64 k)).run P w = .ok () w := MapKept.run_checkKey (k := .int .i64 k) hk (by simp [MapKept.IsKey]) false 9999
  simp [Instr.lookup, run_underlying hm, MapKept.run_getObj_map hb, he, hc, MapKept.run_findKey hk hf, Result.andThen]
theorem heapNew (w : World) (o : Obj) : (w.alloc o).heap[w.heap.size]? = some o := by
  unfold World.alloc
  simp
theorem run_litE {P : Program} {w0 w : World} {B b : Nat} {u : Value} {mty kt et : TypeId} {r clock : Nat} {es : Array MapEntry} {k : Int} {val : Value} (hm : P.underlying mty = some (.map kt et)) (hk : P.underlying kt = some (.int .i64)) (hb : w.heap[r]? = some (.map es clock)) (hf : Instr.findNow (.int .i64) (.int .i64 k) es.toList 0 = some none) (hB : Below B w0 w) (hr : B ≤ r) (hne : b ≠ r) (hc : w.cell? ⟨b, 0, none⟩ = some u) :
    ∃ W, (Instr.mapUpdate mty (.map (some r)) (.int .i64 k) val).run P w = .ok () W ∧ W.heap[r]? = some (.map (es.push { key := .int .i64 k, val := val, born := clock }) (clock + 1)) ∧ Below B w0 W ∧ W.cell? ⟨b, 0, none⟩ = some u := by
  have hlt : r < w.heap.size := (Array.getElem?_eq_some_iff.1 hb).1
  refine ⟨_, run_lit hm hk hb hf, ?_, ⟨hB.os, hB.tape, hB.output, ?_, fun j hj => ?_⟩, ?_⟩
  · simp only [Array.getElem?_setIfInBounds]
    rw [if_pos trivial, if_pos hlt]
  · rw [Array.size_setIfInBounds]; exact hB.size
  · simp only [Array.getElem?_setIfInBounds]
    rw [if_neg (by omega)]
    exact hB.block j hj
  · refine (World.cell?_of_block (w := w) ?_).trans hc
    simp only [Array.getElem?_setIfInBounds]
    rw [if_neg (fun h => hne h.symm)]
theorem gate1 (x y a b : Int) (w : World) (ha : 0 ≤ a ∧ a ≤ 1) : Calls Tryz.prog 87 #[.agg #[.int .i64 1, .int .i64 x, .int .i64 y], .int .i64 a, .int .i64 b] w (fun e w1 => e = .returned (.int .i64 (1 - a)) ∧ Below w.heap.size w w1) := by
  have hmm := @run_makeMap Tryz.prog
  have m0 : ((w.alloc (.cells #[.int .i64 1, .int .i64 x, .int .i64 y] 91)).alloc (.map #[] 0)).heap[w.heap.size + 1]? = some (.map #[] 0) := by
    have := heapNew (w.alloc (.cells #[.int .i64 1, .int .i64 x, .int .i64 y] 91)) (.map #[] 0)
    rwa [World.size_alloc] at this
  have c0 : ((w.alloc (.cells #[.int .i64 1, .int .i64 x, .int .i64 y] 91)).alloc (.map #[] 0)).cell? ⟨w.heap.size, 0, none⟩ = some (.int .i64 1) :=
    (World.cell?_alloc_past _ _ _ (by rw [World.size_alloc]; omega)).trans (World.cell?_alloc_new _ _ _ _)
  have b0 : Below w.heap.size w ((w.alloc (.cells #[.int .i64 1, .int .i64 x, .int .i64 y] 91)).alloc (.map #[] 0)) := ((Below.refl _ _).alloc (Nat.le_refl _) _).alloc (by rw [World.size_alloc]; omega) _
  obtain ⟨W1, e1, m1, b1, c1⟩ := run_litE (P := Tryz.prog) (k := 1) (val := .int .i64 (1 - a)) Tryz.underlying135 Tryz.underlying2 m0 rfl b0 (by omega) (by omega) c0
  obtain ⟨W2, e2, m2, b2, c2⟩ := run_litE (P := Tryz.prog) (k := 2) (val := .int .i64 (bits .and .i64 a b)) Tryz.underlying135 Tryz.underlying2 m1 rfl b1 (by omega) (by omega) c1
  obtain ⟨W3, e3, m3, b3, c3⟩ := run_litE (P := Tryz.prog) (k := 3) (val := .int .i64 (bits .or .i64 a b)) Tryz.underlying135 Tryz.underlying2 m2 rfl b2 (by omega) (by omega) c2
  obtain ⟨W4, e4, m4, b4, c4⟩ := run_litE (P := Tryz.prog) (k := 4) (val := .int .i64 (bits .xor .i64 a b)) Tryz.underlying135 Tryz.underlying2 m3 rfl b3 (by omega) (by omega) c3
  have e5 := run_look (P := Tryz.prog) (k := 1) (v := .int .i64 (1 - a)) (j := 0) Tryz.underlying135 Tryz.underlying2 m4 rfl rfl
  clear m1 m2 m3 m4 m0 b0 b1 b2 b3 c0 c1 c2 c3
  go_enter Tryz.func87, Tryz.ntmps87
  go_wp2
  exact bodyPost_ret (v := .int .i64 (1 - a)) (by simp [results, Tryz.results87, go_sem] <;> rfl) rfl ⟨rfl, b4⟩
theorem gate2 (x y a b : Int) (w : World) (ha : 0 ≤ a ∧ a ≤ 1) : Calls Tryz.prog 87 #[.agg #[.int .i64 2, .int .i64 x, .int .i64 y], .int .i64 a, .int .i64 b] w (fun e w1 => e = .returned (.int .i64 (andI a b)) ∧ Below w.heap.size w w1) := by
  have hmm := @run_makeMap Tryz.prog
  have m0 : ((w.alloc (.cells #[.int .i64 2, .int .i64 x, .int .i64 y] 91)).alloc (.map #[] 0)).heap[w.heap.size + 1]? = some (.map #[] 0) := by
    have := heapNew (w.alloc (.cells #[.int .i64 2, .int .i64 x, .int .i64 y] 91)) (.map #[] 0)
    rwa [World.size_alloc] at this
  have c0 : ((w.alloc (.cells #[.int .i64 2, .int .i64 x, .int .i64 y] 91)).alloc (.map #[] 0)).cell? ⟨w.heap.size, 0, none⟩ = some (.int .i64 2) :=
    (World.cell?_alloc_past _ _ _ (by rw [World.size_alloc]; omega)).trans (World.cell?_alloc_new _ _ _ _)
  have b0 : Below w.heap.size w ((w.alloc (.cells #[.int .i64 2, .int .i64 x, .int .i64 y] 91)).alloc (.map #[] 0)) := ((Below.refl _ _).alloc (Nat.le_refl _) _).alloc (by rw [World.size_alloc]; omega) _
  obtain ⟨W1, e1, m1, b1, c1⟩ := run_litE (P := Tryz.prog) (k := 1) (val := .int .i64 (1 - a)) Tryz.underlying135 Tryz.underlying2 m0 rfl b0 (by omega) (by omega) c0
  obtain ⟨W2, e2, m2, b2, c2⟩ := run_litE (P := Tryz.prog) (k := 2) (val := .int .i64 (bits .and .i64 a b)) Tryz.underlying135 Tryz.underlying2 m1 rfl b1 (by omega) (by omega) c1
  obtain ⟨W3, e3, m3, b3, c3⟩ := run_litE (P := Tryz.prog) (k := 3) (val := .int .i64 (bits .or .i64 a b)) Tryz.underlying135 Tryz.underlying2 m2 rfl b2 (by omega) (by omega) c2
  obtain ⟨W4, e4, m4, b4, c4⟩ := run_litE (P := Tryz.prog) (k := 4) (val := .int .i64 (bits .xor .i64 a b)) Tryz.underlying135 Tryz.underlying2 m3 rfl b3 (by omega) (by omega) c3
  have e5 := run_look (P := Tryz.prog) (k := 2) (v := .int .i64 (bits .and .i64 a b)) (j := 1) Tryz.underlying135 Tryz.underlying2 m4 rfl rfl
  clear m1 m2 m3 m4 m0 b0 b1 b2 b3 c0 c1 c2 c3
  go_enter Tryz.func87, Tryz.ntmps87
  go_wp2
  exact bodyPost_ret (v := .int .i64 (andI a b)) (by simp [results, Tryz.results87, go_sem] <;> rfl) rfl ⟨rfl, b4⟩
theorem gate3 (x y a b : Int) (w : World) (ha : 0 ≤ a ∧ a ≤ 1) : Calls Tryz.prog 87 #[.agg #[.int .i64 3, .int .i64 x, .int .i64 y], .int .i64 a, .int .i64 b] w (fun e w1 => e = .returned (.int .i64 (orI a b)) ∧ Below w.heap.size w w1) := by
  have hmm := @run_makeMap Tryz.prog
  have m0 : ((w.alloc (.cells #[.int .i64 3, .int .i64 x, .int .i64 y] 91)).alloc (.map #[] 0)).heap[w.heap.size + 1]? = some (.map #[] 0) := by
    have := heapNew (w.alloc (.cells #[.int .i64 3, .int .i64 x, .int .i64 y] 91)) (.map #[] 0)
    rwa [World.size_alloc] at this
  have c0 : ((w.alloc (.cells #[.int .i64 3, .int .i64 x, .int .i64 y] 91)).alloc (.map #[] 0)).cell? ⟨w.heap.size, 0, none⟩ = some (.int .i64 3) :=
    (World.cell?_alloc_past _ _ _ (by rw [World.size_alloc]; omega)).trans (World.cell?_alloc_new _ _ _ _)
  have b0 : Below w.heap.size w ((w.alloc (.cells #[.int .i64 3, .int .i64 x, .int .i64 y] 91)).alloc (.map #[] 0)) := ((Below.refl _ _).alloc (Nat.le_refl _) _).alloc (by rw [World.size_alloc]; omega) _
  obtain ⟨W1, e1, m1, b1, c1⟩ := run_litE (P := Tryz.prog) (k := 1) (val := .int .i64 (1 - a)) Tryz.underlying135 Tryz.underlying2 m0 rfl b0 (by omega) (by omega) c0
  obtain ⟨W2, e2, m2, b2, c2⟩ := run_litE (P := Tryz.prog) (k := 2) (val := .int .i64 (bits .and .i64 a b)) Tryz.underlying135 Tryz.underlying2 m1 rfl b1 (by omega) (by omega) c1
  obtain ⟨W3, e3, m3, b3, c3⟩ := run_litE (P := Tryz.prog) (k := 3) (val := .int .i64 (bits .or .i64 a b)) Tryz.underlying135 Tryz.underlying2 m2 rfl b2 (by omega) (by omega) c2
  obtain ⟨W4, e4, m4, b4, c4⟩ := run_litE (P := Tryz.prog) (k := 4) (val := .int .i64 (bits .xor .i64 a b)) Tryz.underlying135 Tryz.underlying2 m3 rfl b3 (by omega) (by omega) c3
  have e5 := run_look (P := Tryz.prog) (k := 3) (v := .int .i64 (bits .or .i64 a b)) (j := 2) Tryz.underlying135 Tryz.underlying2 m4 rfl rfl
  clear m1 m2 m3 m4 m0 b0 b1 b2 b3 c0 c1 c2 c3
  go_enter Tryz.func87, Tryz.ntmps87
  go_wp2
  exact bodyPost_ret (v := .int .i64 (orI a b)) (by simp [results, Tryz.results87, go_sem] <;> rfl) rfl ⟨rfl, b4⟩
theorem gate4 (x y a b : Int) (w : World) (ha : 0 ≤ a ∧ a ≤ 1) : Calls Tryz.prog 87 #[.agg #[.int .i64 4, .int .i64 x, .int .i64 y], .int .i64 a, .int .i64 b] w (fun e w1 => e = .returned (.int .i64 (xorI a b)) ∧ Below w.heap.size w w1) := by
  have hmm := @run_makeMap Tryz.prog
  have m0 : ((w.alloc (.cells #[.int .i64 4, .int .i64 x, .int .i64 y] 91)).alloc (.map #[] 0)).heap[w.heap.size + 1]? = some (.map #[] 0) := by
    have := heapNew (w.alloc (.cells #[.int .i64 4, .int .i64 x, .int .i64 y] 91)) (.map #[] 0)
    rwa [World.size_alloc] at this
  have c0 : ((w.alloc (.cells #[.int .i64 4, .int .i64 x, .int .i64 y] 91)).alloc (.map #[] 0)).cell? ⟨w.heap.size, 0, none⟩ = some (.int .i64 4) :=
    (World.cell?_alloc_past _ _ _ (by rw [World.size_alloc]; omega)).trans (World.cell?_alloc_new _ _ _ _)
  have b0 : Below w.heap.size w ((w.alloc (.cells #[.int .i64 4, .int .i64 x, .int .i64 y] 91)).alloc (.map #[] 0)) := ((Below.refl _ _).alloc (Nat.le_refl _) _).alloc (by rw [World.size_alloc]; omega) _
  obtain ⟨W1, e1, m1, b1, c1⟩ := run_litE (P := Tryz.prog) (k := 1) (val := .int .i64 (1 - a)) Tryz.underlying135 Tryz.underlying2 m0 rfl b0 (by omega) (by omega) c0
  obtain ⟨W2, e2, m2, b2, c2⟩ := run_litE (P := Tryz.prog) (k := 2) (val := .int .i64 (bits .and .i64 a b)) Tryz.underlying135 Tryz.underlying2 m1 rfl b1 (by omega) (by omega) c1
  obtain ⟨W3, e3, m3, b3, c3⟩ := run_litE (P := Tryz.prog) (k := 3) (val := .int .i64 (bits .or .i64 a b)) Tryz.underlying135 Tryz.underlying2 m2 rfl b2 (by omega) (by omega) c2
  obtain ⟨W4, e4, m4, b4, c4⟩ := run_litE (P := Tryz.prog) (k := 4) (val := .int .i64 (bits .xor .i64 a b)) Tryz.underlying135 Tryz.underlying2 m3 rfl b3 (by omega) (by omega) c3
  have e5 := run_look (P := Tryz.prog) (k := 4) (v := .int .i64 (bits .xor .i64 a b)) (j := 3) Tryz.underlying135 Tryz.underlying2 m4 rfl rfl
  clear m1 m2 m3 m4 m0 b0 b1 b2 b3 c0 c1 c2 c3
  go_enter Tryz.func87, Tryz.ntmps87
  go_wp2
  exact bodyPost_ret (v := .int .i64 (xorI a b)) (by simp [results, Tryz.results87, go_sem] <;> rfl) rfl ⟨rfl, b4⟩
def gateV (k a b : Int) : Int := if k = 1 then 1 - a else if k = 2 then andI a b else if k = 3 then orI a b else xorI a b
theorem gateV_bit {k a b : Int} (ha : 0 ≤ a ∧ a ≤ 1) (hb : 0 ≤ b ∧ b ≤ 1) : 0 ≤ gateV k a b ∧ gateV k a b ≤ 1 := by
  have h1 : a = 0 ∨ a = 1 := by omega
  have h2 : b = 0 ∨ b = 1 := by omega
  unfold gateV
  split
  · omega
  · rcases h1 with rfl | rfl <;> rcases h2 with rfl | rfl <;> split <;> (try split) <;> decide
theorem iGateV (g : TGate) (a b : Int) (hg : 1 ≤ g.fKind ∧ g.fKind ≤ 4) (ha : 0 ≤ a ∧ a ≤ 1) (hb : 0 ≤ b ∧ b ≤ 1) : Spec Tryz.prog 87 [.agg (enGate g), vI a, vI b] (oI (gateV g.fKind a b)) := by
  refine ⟨callFunc_enter Tryz.func87 rfl (by simp [Tryz.f87]), fun w R ι φ vs hR hF ho => ?_⟩
  have hbit := gateV_bit (k := g.fKind) ha hb
  have hok : okI (.int .i64 (gateV g.fKind a b)) := by
    have : gateV g.fKind a b = 0 ∨ gateV g.fKind a b = 1 := by omega
    rcases this with h | h <;> rw [h] <;> rfl
  cases hF with | cons h1 h2 => cases h2 with | cons h2 h3 => cases h3 with | cons h3 h4 =>
  cases h4
  obtain ⟨us, rfl, hus⟩ := h1
  cases hus with | cons u1 hus => cases hus with | cons u2 hus => cases hus with | cons u3 hus =>
  cases hus
  cases u1; cases u2; cases u3; cases h2; cases h3
  have hcalls : Calls Tryz.prog 87 #[.agg #[.int .i64 g.fKind, .int .i64 g.fA, .int .i64 g.fB], .int .i64 a, .int .i64 b] w (fun e w1 => e = .returned (.int .i64 (gateV g.fKind a b)) ∧ Below w.heap.size w w1) := by
    have hk : g.fKind = 1 ∨ g.fKind = 2 ∨ g.fKind = 3 ∨ g.fKind = 4 := by omega
    rcases hk with h | h | h | h <;> rw [h]
    · exact gate1 _ _ a b w ha
    · exact gate2 _ _ a b w ha
    · exact gate3 _ _ a b w ha
    · exact gate4 _ _ a b w ha
  refine hcalls.mono ?_
  rintro e w1 ⟨rfl, hbl⟩
  have hn : ∀ o x, frO [] o = some x → False := fun o x h => by simp [frO] at h
  have hO : ObjsOk w1 R ι φ (frO []) := ⟨fun o x h => (hn o x h).elim, fun o x h => (hn o x h).elim, fun o p x y g h => (hn o x h).elim, ho.2.2.2.keep (fun _ h => h) fun b hb => hbl.block b (hR b hb)⟩
  refine ⟨.int .i64 (gateV g.fKind a b), rfl, R, ι, φ, BelowM.of_below hbl, fun b h => h, fun b h => Nat.lt_of_lt_of_le (hR b h) hbl.size, fun b h _ => .inl h, RA.of_pv rfl hok, hO, fun g h => ?_, fun o h => rfl⟩
  obtain ⟨o, x, h, _⟩ := h
  exact (hn o x h).elim
end
section

end
end Go.Proofs.YtehkaajakapkmaaGreat
