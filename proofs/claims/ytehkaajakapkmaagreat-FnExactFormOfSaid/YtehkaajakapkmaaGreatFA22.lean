/- Texts of one proof, one behind the other. -/
import Derived.WalkLawsBesides
import Derived.WalkSpells
import Derived.Outline
import Derived.BigQuiet
import Derived.Deep.QuietTactic
import Derived.WideMake
import Derived.Carry
import Derived.MapKept
import Derived.Test.YtehkaajakapkmaaGreatFA17
import Derived.Test.YtehkaajakapkmaaGreatFA21
namespace Go.Proofs.YtehkaajakapkmaaGreat
section
open Go.RowKit
set_option maxRecDepth 100000 in
def S.s29 : SC := (.seq (.reg [⟨(.some 4), .none, .false, (.mv (.const (Go.Value.slice none 0 0)))⟩]) (.seq (.reg [⟨(.some 6), .none, .false, (.mv (.tmp 1))⟩, ⟨(.some 7), .none, .false, (.mv (.tmp 0))⟩, ⟨(.some 8), .none, .false, (.mv (.tmp 1))⟩, ⟨(.some 9), .none, .false, (.call (.func 66) [(.tmp 7), (.tmp 8)])⟩, ⟨(.some 10), .none, .false, (.bld [(Go.Value.slice none 0 0), (Go.Value.slice none 0 0), (Go.Value.slice none 0 0), (Go.Value.bool false)] [(0, 1), (1, 1), (2, 1), (3, 1)] [(0, (.tmp 6)), (1, (.tmp 9))])⟩, ⟨(.some 11), .none, .false, (.box 96 (.tmp 10))⟩, ⟨(.some 5), .none, .false, (.mv (.tmp 11))⟩]) (.seq (.reg [⟨(.some 12), .none, .false, (.mv (.tmp 5))⟩, ⟨(.some 13), .none, .false, (.bsl (.mk 56 2) 0 [])⟩, ⟨(.some 14), .none, .false, (.call (.func 67) [(.tmp 12), (.const (Go.Value.int Go.IntKind.i64 0)), (.tmp 13)])⟩]) (.seq (.reg [⟨(.some 15), .none, .false, (.mv (.tmp 5))⟩, ⟨(.some 16), .none, .false, (.nc (.tmp 15))⟩, ⟨(.some 17), .none, .false, (.fa 2 (.tmp 16))⟩, ⟨(.some 18), .none, .false, (.ld .false 1 (.tmp 17))⟩, ⟨(.some 4), .none, .false, (.mv (.tmp 18))⟩]) .ret))))
set_option maxRecDepth 100000 in
theorem S.ok29 : stripF Tryz.prog Tryz.f29 = some S.s29 := by kernel_rfl
set_option maxRecDepth 10000
set_option maxHeartbeats 4000000
theorem tab_care {n : Nat} {tb : List Int} (hn : 1 ≤ n ∧ n ≤ 4) : careOk (tabQ n tb (2 ^ n)) := fun c hc => by
  obtain ⟨_, a, v, h1, h2, rfl⟩ := tabQ_ok hc
  have := p16 hn
  exact ⟨by show (0 : Int) ≤ (a : Int); omega, by show (a : Int) ≤ 15; omega⟩
theorem tab_len {n : Nat} {tb : List Int} (hn : 1 ≤ n ∧ n ≤ 4) : (tabQ n tb (2 ^ n)).length ≤ 256 := by
  have h := p16 hn
  have := tabQ_len (n := n) (l := tb) (2 ^ n) h.2
  omega
theorem inK_01 {tb : List Int} {m : Int} (h : inK tb m) : ∀ (i : Nat) (v : Int), tb[i]? = some v → v = 0 ∨ v = 1 := fun i v hv => by
  have := h.2 v (List.mem_of_getElem? hv)
  omega
theorem inK_len {n : Nat} {tb : List Int} (h : inK tb (2 ^ n)) : tb.length = 2 ^ n := by
  have h1 := h.1
  have h2 := p16c (n := n)
  omega
theorem lc_ex {n : Nat} {tb : List Int} (hn : 1 ≤ n ∧ n ≤ 4) (h : inK tb (2 ^ n)) : ∃ (x : List Nat) (m : Nat), m ≤ (tabQ n tb (2 ^ n)).length ∧ (∀ m', m' < m → srch (cvQ tb (tabQ n tb (2 ^ n))) (costQ (tabQ n tb (2 ^ n))) (tabQ n tb (2 ^ n)).length m' 0 [] none = none) ∧ srch (cvQ tb (tabQ n tb (2 ^ n))) (costQ (tabQ n tb (2 ^ n))) (tabQ n tb (2 ^ n)).length m 0 [] none = some x ∧ tryB (cvQ tb (tabQ n tb (2 ^ n))) (costQ (tabQ n tb (2 ^ n))) (tabQ n tb (2 ^ n)).length 0 [] none = some x ∧ rise 0 (tabQ n tb (2 ^ n)).length x ∧ x.length = m := by
  obtain ⟨m, x, hx⟩ := least_cover (l := tb) hn (inK_len h)
  exact ⟨x, m, hx⟩
open Classical in
noncomputable def lcX (n : Nat) (tb : List Int) : List Nat := if h : (1 ≤ n ∧ n ≤ 4) ∧ inK tb (2 ^ n) then Classical.choose (lc_ex h.1 h.2) else []
theorem lcX_ok {n : Nat} {tb : List Int} (hn : 1 ≤ n ∧ n ≤ 4) (h : inK tb (2 ^ n)) : ∃ m : Nat, m ≤ (tabQ n tb (2 ^ n)).length ∧ (∀ m', m' < m → srch (cvQ tb (tabQ n tb (2 ^ n))) (costQ (tabQ n tb (2 ^ n))) (tabQ n tb (2 ^ n)).length m' 0 [] none = none) ∧ srch (cvQ tb (tabQ n tb (2 ^ n))) (costQ (tabQ n tb (2 ^ n))) (tabQ n tb (2 ^ n)).length m 0 [] none = some (lcX n tb) ∧ tryB (cvQ tb (tabQ n tb (2 ^ n))) (costQ (tabQ n tb (2 ^ n))) (tabQ n tb (2 ^ n)).length 0 [] none = some (lcX n tb) ∧ rise 0 (tabQ n tb (2 ^ n)).length (lcX n tb) ∧ (lcX n tb).length = m := by
  have hx := Classical.choose_spec (lc_ex hn h)
  have e : lcX n tb = Classical.choose (lc_ex hn h) := dif_pos ⟨hn, h⟩
  rw [e]
  exact hx
open Classical in
noncomputable def fLC (n : Int) (l : List Int) : List TCube × Int := if okT n l then (cubs (tabQ n.toNat l (2 ^ n.toNat)) (lcX n.toNat l), 0) else ([], 2)
theorem fLC_len {n : Int} {l : List Int} : (fLC n l).1.length ≤ 256 := by
  unfold fLC
  split
  · rename_i h
    have hn : 1 ≤ n.toNat ∧ n.toNat ≤ 4 := ⟨by have := h.1; omega, by have := h.1; omega⟩
    obtain ⟨m, _, _, _, _, h5, _⟩ := lcX_ok hn h.2
    have h1 := rise_len h5
    have h2 := tab_len (tb := l) hn
    show (cubs _ _).length ≤ 256
    rw [cubs_len]
    omega
  · simp
theorem sLeast (n : Nat) (tb : List Int) (hn : 1 ≤ n ∧ n ≤ 4) (h : inK tb (2 ^ n)) (x : List Nat) (ht : tryB (cvQ tb (tabQ n tb (2 ^ n))) (costQ (tabQ n tb (2 ^ n))) (tabQ n tb (2 ^ n)).length 0 [] none = some x) : Spec Tryz.prog 29 [vI n, vL kI (ints tb)] (.v (.c (.fz (.rd kCube ((cubs (tabQ n tb (2 ^ n)) x).map enCube))))) := by
  have hpr := sPrimes1 n tb hn
  have hcare := tab_care (tb := tb) hn
  have hps := tab_len (tb := tb) hn
  have h01 := inK_01 h
  have hlen := inK_len h
  have hp := p16 hn
  generalize tabQ n tb (2 ^ n) = ps at *
  have hT := sTry tb ps (by omega) (by omega) h01 hcare ps.length 0 [] none (by omega) trivial (fun x hx => by cases hx)
  rw [ht] at hT
  refine Spec.walk T.mixed Tryz.func29 S.ok29 (by simp [Tryz.f29]) fun hk => ?_
  clear hk
  unfold S.s29
  repeat' (first|refine R.mv rfl ?_|refine R.reg ?_|refine R.nil ?_|refine R.seq ?_|refine R.nseq ?_|refine R.nblk ?_|refine R.skip ?_|refine R.blk ?_|refine R.exit rfl ?_|refine R.ldEp rfl rfl (by assumption) rfl rfl ?_|refine R.ldaEp rfl rfl (by assumption) (lbT rfl) rfl rfl ?_|refine R.ld rfl rfl rfl ?_|refine R.lda rfl rfl (lbT rfl) rfl ?_|refine R.fa rfl rfl ?_|refine R.nc rfl rfl ?_|refine R.nc0 rfl rfl ?_|refine R.box rfl rfl rfl ?_|refine R.bld rfl rfl ?_|refine R.condT rfl ?_|refine R.condF rfl ?_|refine R.call (bor := false) rfl rfl (hpr) rfl rfl rfl ?_|refine R.call (bor := true) rfl rfl (hpr) rfl rfl rfl ?_|refine R.bsl (f := enCube) ([] : List TCube) rfl rfl rfl rfl rfl ?_|refine R.weak (Weak.reifyBox 11 2 900 kCube rfl rfl rfl) (R.weak (Weak.freeze 900 rfl rfl) (R.weak (Weak.freeze 13 rfl rfl) (R.callX (bor := false) [(11, pin 0)] rfl hT rfl rfl rfl rfl rfl ?_)))|refine R.cond rfl (fun hc => ?_) (fun hc => ?_)|refine R.condN rfl (fun hc => ?_) (fun hc => ?_)|refine R.condB rfl (fun hc => ?_) (fun hc => ?_))
  all_goals first
    | (exfalso; omega)
    | exact R.ret ⟨.inr rfl, R.outR rfl (.cons (R.tmp rfl) .nil) rfl rfl rfl rfl⟩
    | skip
end
section
open Go.RowKit
set_option maxRecDepth 100000
set_option maxHeartbeats 4000000
theorem run_lit {P : Program} {w : World} {mty kt et : TypeId} {r clock : Nat} {es : Array MapEntry} {k : Int} {val : Value} (hm : P.underlying mty = some (.map kt et)) (hk : P.underlying kt = some (.int .i64)) (hb : w.heap[r]? = some (.map es clock)) (hf : Instr.findNow (.int .i64) (.int .i64 k) es.toList 0 = some none) :
    (Instr.mapUpdate mty (.map (some r)) (.int .i64 k) val).run P w = .ok () { w with heap := w.heap.setIfInBounds r (.map (es.push { key := .int .i64 k, val := val, born := clock }) (clock + 1)) } := by
  have hc : (Instr.checkKey false 10000 kt (.int .i64 k)).run P w = .ok () w := MapKept.run_checkKey (k := .int .i64 k) hk (by simp [MapKept.IsKey]) false 9999
  simp [Instr.mapUpdate, run_underlying hm, MapKept.run_getObj_map hb, hc, MapKept.run_findKey hk hf, MapKept.run_setObj_map _ hb, Result.andThen]
theorem run_look {P : Program} {w : World} {mty kt et : TypeId} {r clock j : Nat} {es : Array MapEntry} {k : Int} {v : Value} (hm : P.underlying mty = some (.map kt et)) (hk : P.underlying kt = some (.int .i64)) (hb : w.heap[r]? = some (.map es clock)) (he : es.isEmpty = false) (hf : Instr.findNow (.int .i64) (.int .i64 k) es.toList 0 = some (some (j, v))) :
    (Instr.lookup mty (.map (some r)) (.int .i64 k) false).run P w = .ok v w := by
  have hc : (Instr.checkKey false 10000 kt (.int .i64 k)).run P w = .ok () w := MapKept.run_checkKey (k := .int .i64 k) hk (by simp [MapKept.IsKey]) false 9999
  simp [Instr.lookup, run_underlying hm, MapKept.run_getObj_map hb, he, hc, MapKept.run_findKey hk hf, Result.andThen]
theorem heapNew (w : World) (o : Obj) : (w.alloc o).heap[w.heap.size]? = some o := by
  unfold World.alloc
  simp
theorem run_litE {P : Program} {w0 w : World} {B b : Nat} {u : Value} {mty kt et : TypeId} {r clock : Nat} {es : Array MapEntry} {k : Int} {val : Value} (hm : P.underlying mty = some (.map kt et)) (hk : P.underlying kt = some (.int .i64)) (hb : w.heap[r]? = some (.map es clock)) (hf : Instr.findNow (.int .i64) (.int .i64 k) es.toList 0 = some none) (hB : Below B w0 w) (hr : B ≤ r) (hne : b ≠ r) (hc : w.cell? ⟨b, 0, none⟩ = some u) :
    ∃ W, (Instr.mapUpdate mty (.map (some r)) (.int .i64 k) val).run P w = .ok () W ∧ W.heap[r]? = some (.map (es.push { key := .int .i64 k, val := val, born := clock }) (clock + 1)) ∧ Below B w0 W ∧ W.cell? ⟨b, 0, none⟩ = some u := by
  have hlt : r < w.heap.size := (Array.getElem?_eq_some_iff.1 hb).1
  refine ⟨_, run_lit hm hk hb hf, ?_, ⟨hB.os, hB.tape, hB.output, ?_, fun j hj => ?_⟩, ?_⟩
  · simp only [Array.getElem?_setIfInBounds]
    rw [if_pos trivial, if_pos hlt]
  · rw [Array.size_setIfInBounds]; exact hB.size
  · simp only [Array.getElem?_setIfInBounds]
    rw [if_neg (by omega)]
    exact hB.block j hj
  · refine (World.cell?_of_block (w := w) ?_).trans hc
    simp only [Array.getElem?_setIfInBounds]
    rw [if_neg (fun h => hne h.symm)]
theorem gate1 (x y a b : Int) (w : World) (ha : 0 ≤ a ∧ a ≤ 1) : Calls Tryz.prog 87 #[.agg #[.int .i64 1, .int .i64 x, .int .i64 y], .int .i64 a, .int .i64 b] w (fun e w1 => e = .returned (.int .i64 (1 - a)) ∧ Below w.heap.size w w1) := by
  have hmm := @run_makeMap Tryz.prog
  have m0 : ((w.alloc (.cells #[.int .i64 1, .int .i64 x, .int .i64 y] 91)).alloc (.map #[] 0)).heap[w.heap.size + 1]? = some (.map #[] 0) := by
    have := heapNew (w.alloc (.cells #[.int .i64 1, .int .i64 x, .int .i64 y] 91)) (.map #[] 0)
    rwa [World.size_alloc] at this
  have c0 : ((w.alloc (.cells #[.int .i64 1, .int .i64 x, .int .i64 y] 91)).alloc (.map #[] 0)).cell? ⟨w.heap.size, 0, none⟩ = some (.int .i64 1) :=
    (World.cell?_alloc_past _ _ _ (by rw [World.size_alloc]; omega)).trans (World.cell?_alloc_new _ _ _ _)
  have b0 : Below w.heap.size w ((w.alloc (.cells #[.int .i64 1, .int .i64 x, .int .i64 y] 91)).alloc (.map #[] 0)) := ((Below.refl _ _).alloc (Nat.le_refl _) _).alloc (by rw [World.size_alloc]; omega) _
  obtain ⟨W1, e1, m1, b1, c1⟩ := run_litE (P := Tryz.prog) (k := 1) (val := .int .i64 (1 - a)) Tryz.underlying135 Tryz.underlying2 m0 rfl b0 (by omega) (by omega) c0
  obtain ⟨W2, e2, m2, b2, c2⟩ := run_litE (P := Tryz.prog) (k := 2) (val := .int .i64 (bits .and .i64 a b)) Tryz.underlying135 Tryz.underlying2 m1 rfl b1 (by omega) (by omega) c1
  obtain ⟨W3, e3, m3, b3, c3⟩ := run_litE (P := Tryz.prog) (k := 3) (val := .int .i64 (bits .or .i64 a b)) Tryz.underlying135 Tryz.underlying2 m2 rfl b2 (by omega) (by omega) c2
  obtain ⟨W4, e4, m4, b4, c4⟩ := run_litE (P := Tryz.prog) (k := 4) (val := .int .i64 (bits .xor .i64 a b)) Tryz.underlying135 Tryz.underlying2 m3 rfl b3 (by omega) (by omega) c3
  have e5 := run_look (P := Tryz.prog) (k := 1) (v := .int .i64 (1 - a)) (j := 0) Tryz.underlying135 Tryz.underlying2 m4 rfl rfl
  clear m1 m2 m3 m4 m0 b0 b1 b2 b3 c0 c1 c2 c3
  go_enter Tryz.func87, Tryz.ntmps87
  go_wp2
  exact bodyPost_ret (v := .int .i64 (1 - a)) (by simp [results, Tryz.results87, go_sem] <;> rfl) rfl ⟨rfl, b4⟩
theorem gate2 (x y a b : Int) (w : World) (ha : 0 ≤ a ∧ a ≤ 1) : Calls Tryz.prog 87 #[.agg #[.int .i64 2, .int .i64 x, .int .i64 y], .int .i64 a, .int .i64 b] w (fun e w1 => e = .returned (.int .i64 (andI a b)) ∧ Below w.heap.size w w1) := by
  have hmm := @run_makeMap Tryz.prog
  have m0 : ((w.alloc (.cells #[.int .i64 2, .int .i64 x, .int .i64 y] 91)).alloc (.map #[] 0)).heap[w.heap.size + 1]? = some (.map #[] 0) := by
    have := heapNew (w.alloc (.cells #[.int .i64 2, .int .i64 x, .int .i64 y] 91)) (.map #[] 0)
    rwa [World.size_alloc] at this
  have c0 : ((w.alloc (.cells #[.int .i64 2, .int .i64 x, .int .i64 y] 91)).alloc (.map #[] 0)).cell? ⟨w.heap.size, 0, none⟩ = some (.int .i64 2) :=
    (World.cell?_alloc_past _ _ _ (by rw [World.size_alloc]; omega)).trans (World.cell?_alloc_new _ _ _ _)
  have b0 : Below w.heap.size w ((w.alloc (.cells #[.int .i64 2, .int .i64 x, .int .i64 y] 91)).alloc (.map #[] 0)) := ((Below.refl _ _).alloc (Nat.le_refl _) _).alloc (by rw [World.size_alloc]; omega) _
  obtain ⟨W1, e1, m1, b1, c1⟩ := run_litE (P := Tryz.prog) (k := 1) (val := .int .i64 (1 - a)) Tryz.underlying135 Tryz.underlying2 m0 rfl b0 (by omega) (by omega) c0
  obtain ⟨W2, e2, m2, b2, c2⟩ := run_litE (P := Tryz.prog) (k := 2) (val := .int .i64 (bits .and .i64 a b)) Tryz.underlying135 Tryz.underlying2 m1 rfl b1 (by omega) (by omega) c1
  obtain ⟨W3, e3, m3, b3, c3⟩ := run_litE (P := Tryz.prog) (k := 3) (val := .int .i64 (bits .or .i64 a b)) Tryz.underlying135 Tryz.underlying2 m2 rfl b2 (by omega) (by omega) c2
  obtain ⟨W4, e4, m4, b4, c4⟩ := run_litE (P := Tryz.prog) (k := 4) (val := .int .i64 (bits .xor .i64 a b)) Tryz.underlying135 Tryz.underlying2 m3 rfl b3 (by omega) (by omega) c3
  have e5 := run_look (P := Tryz.prog) (k := 2) (v := .int .i64 (bits .and .i64 a b)) (j := 1) Tryz.underlying135 Tryz.underlying2 m4 rfl rfl
  clear m1 m2 m3 m4 m0 b0 b1 b2 b3 c0 c1 c2 c3
  go_enter Tryz.func87, Tryz.ntmps87
  go_wp2
  exact bodyPost_ret (v := .int .i64 (andI a b)) (by simp [results, Tryz.results87, go_sem] <;> rfl) rfl ⟨rfl, b4⟩
theorem gate3 (x y a b : Int) (w : World) (ha : 0 ≤ a ∧ a ≤ 1) : Calls Tryz.prog 87 #[.agg #[.int .i64 3, .int .i64 x, .int .i64 y], .int .i64 a, .int .i64 b] w (fun e w1 => e = .returned (.int .i64 (orI a b)) ∧ Below w.heap.size w w1) := by
  have hmm := @run_makeMap Tryz.prog
  have m0 : ((w.alloc (.cells #[.int .i64 3, .int .i64 x, .int .i64 y] 91)).alloc (.map #[] 0)).heap[w.heap.size + 1]? = some (.map #[] 0) := by
    have := heapNew (w.alloc (.cells #[.int .i64 3, .int .i64 x, .int .i64 y] 91)) (.map #[] 0)
    rwa [World.size_alloc] at this
  have c0 : ((w.alloc (.cells #[.int .i64 3, .int .i64 x, .int .i64 y] 91)).alloc (.map #[] 0)).cell? ⟨w.heap.size, 0, none⟩ = some (.int .i64 3) :=
    (World.cell?_alloc_past _ _ _ (by rw [World.size_alloc]; omega)).trans (World.cell?_alloc_new _ _ _ _)
  have b0 : Below w.heap.size w ((w.alloc (.cells #[.int .i64 3, .int .i64 x, .int .i64 y] 91)).alloc (.map #[] 0)) := ((Below.refl _ _).alloc (Nat.le_refl _) _).alloc (by rw [World.size_alloc]; omega) _
  obtain ⟨W1, e1, m1, b1, c1⟩ := run_litE (P := Tryz.prog) (k := 1) (val := .int .i64 (1 - a)) Tryz.underlying135 Tryz.underlying2 m0 rfl b0 (by omega) (by omega) c0
  obtain ⟨W2, e2, m2, b2, c2⟩ := run_litE (P := Tryz.prog) (k := 2) (val := .int .i64 (bits .and .i64 a b)) Tryz.underlying135 Tryz.underlying2 m1 rfl b1 (by omega) (by omega) c1
  obtain ⟨W3, e3, m3, b3, c3⟩ := run_litE (P := Tryz.prog) (k := 3) (val := .int .i64 (bits .or .i64 a b)) Tryz.underlying135 Tryz.underlying2 m2 rfl b2 (by omega) (by omega) c2
  obtain ⟨W4, e4, m4, b4, c4⟩ := run_litE (P := Tryz.prog) (k := 4) (val := .int .i64 (bits .xor .i64 a b)) Tryz.underlying135 Tryz.underlying2 m3 rfl b3 (by omega) (by omega) c3
  have e5 := run_look (P := Tryz.prog) (k := 3) (v := .int .i64 (bits .or .i64 a b)) (j := 2) Tryz.underlying135 Tryz.underlying2 m4 rfl rfl
  clear m1 m2 m3 m4 m0 b0 b1 b2 b3 c0 c1 c2 c3
  go_enter Tryz.func87, Tryz.ntmps87
  go_wp2
  exact bodyPost_ret (v := .int .i64 (orI a b)) (by simp [results, Tryz.results87, go_sem] <;> rfl) rfl ⟨rfl, b4⟩
theorem gate4 (x y a b : Int) (w : World) (ha : 0 ≤ a ∧ a ≤ 1) : Calls Tryz.prog 87 #[.agg #[.int .i64 4, .int .i64 x, .int .i64 y], .int .i64 a, .int .i64 b] w (fun e w1 => e = .returned (.int .i64 (xorI a b)) ∧ Below w.heap.size w w1) := by
  have hmm := @run_makeMap Tryz.prog
  have m0 : ((w.alloc (.cells #[.int .i64 4, .int .i64 x, .int .i64 y] 91)).alloc (.map #[] 0)).heap[w.heap.size + 1]? = some (.map #[] 0) := by
    have := heapNew (w.alloc (.cells #[.int .i64 4, .int .i64 x, .int .i64 y] 91)) (.map #[] 0)
    rwa [World.size_alloc] at this
  have c0 : ((w.alloc (.cells #[.int .i64 4, .int .i64 x, .int .i64 y] 91)).alloc (.map #[] 0)).cell? ⟨w.heap.size, 0, none⟩ = some (.int .i64 4) :=
    (World.cell?_alloc_past _ _ _ (by rw [World.size_alloc]; omega)).trans (World.cell?_alloc_new _ _ _ _)
  have b0 : Below w.heap.size w ((w.alloc (.cells #[.int .i64 4, .int .i64 x, .int .i64 y] 91)).alloc (.map #[] 0)) := ((Below.refl _ _).alloc (Nat.le_refl _) _).alloc (by rw [World.size_alloc]; omega) _
  obtain ⟨W1, e1, m1, b1, c1⟩ := run_litE (P := Tryz.prog) (k := 1) (val := .int .i64 (1 - a)) Tryz.underlying135 Tryz.underlying2 m0 rfl b0 (by omega) (by omega) c0
  obtain ⟨W2, e2, m2, b2, c2⟩ := run_litE (P := Tryz.prog) (k := 2) (val := .int .i64 (bits .and .i64 a b)) Tryz.underlying135 Tryz.underlying2 m1 rfl b1 (by omega) (by omega) c1
  obtain ⟨W3, e3, m3, b3, c3⟩ := run_litE (P := Tryz.prog) (k := 3) (val := .int .i64 (bits .or .i64 a b)) Tryz.underlying135 Tryz.underlying2 m2 rfl b2 (by omega) (by omega) c2
  obtain ⟨W4, e4, m4, b4, c4⟩ := run_litE (P := Tryz.prog) (k := 4) (val := .int .i64 (bits .xor .i64 a b)) Tryz.underlying135 Tryz.underlying2 m3 rfl b3 (by omega) (by omega) c3
  have e5 := run_look (P := Tryz.prog) (k := 4) (v := .int .i64 (bits .xor .i64 a b)) (j := 3) Tryz.underlying135 Tryz.underlying2 m4 rfl rfl
  clear m1 m2 m3 m4 m0 b0 b1 b2 b3 c0 c1 c2 c3
  go_enter Tryz.func87, Tryz.ntmps87
  go_wp2
  exact bodyPost_ret (v := .int .i64 (xorI a b)) (by simp [results, Tryz.results87, go_sem] <;> rfl) rfl ⟨rfl, b4⟩
def gateV (k a b : Int) : Int := if k = 1 then 1 - a else if k = 2 then andI a b else if k = 3 then orI a b else xorI a b
theorem gateV_bit {k a b : Int} (ha : 0 ≤ a ∧ a ≤ 1) (hb : 0 ≤ b ∧ b ≤ 1) : 0 ≤ gateV k a b ∧ gateV k a b ≤ 1 := by
  have h1 : a = 0 ∨ a = 1 := by omega
  have h2 : b = 0 ∨ b = 1 := by omega
  unfold gateV
  split
  · omega
  · rcases h1 with rfl | rfl <;> rcases h2 with rfl | rfl <;> split <;> (try split) <;> decide
theorem iGateV (g : TGate) (a b : Int) (hg : 1 ≤ g.fKind ∧ g.fKind ≤ 4) (ha : 0 ≤ a ∧ a ≤ 1) (hb : 0 ≤ b ∧ b ≤ 1) : Spec Tryz.prog 87 [.agg (enGate g), vI a, vI b] (oI (gateV g.fKind a b)) := by
  refine ⟨callFunc_enter Tryz.func87 rfl (by simp [Tryz.f87]), fun w R ι φ vs hR hF ho => ?_⟩
  have hbit := gateV_bit (k := g.fKind) ha hb
  have hok : okI (.int .i64 (gateV g.fKind a b)) := by
    have : gateV g.fKind a b = 0 ∨ gateV g.fKind a b = 1 := by omega
    rcases this with h | h <;> rw [h] <;> rfl
  cases hF with | cons h1 h2 => cases h2 with | cons h2 h3 => cases h3 with | cons h3 h4 =>
  cases h4
  obtain ⟨us, rfl, hus⟩ := h1
  cases hus with | cons u1 hus => cases hus with | cons u2 hus => cases hus with | cons u3 hus =>
  cases hus
  cases u1; cases u2; cases u3; cases h2; cases h3
  have hcalls : Calls Tryz.prog 87 #[.agg #[.int .i64 g.fKind, .int .i64 g.fA, .int .i64 g.fB], .int .i64 a, .int .i64 b] w (fun e w1 => e = .returned (.int .i64 (gateV g.fKind a b)) ∧ Below w.heap.size w w1) := by
    have hk : g.fKind = 1 ∨ g.fKind = 2 ∨ g.fKind = 3 ∨ g.fKind = 4 := by omega
    rcases hk with h | h | h | h <;> rw [h]
    · exact gate1 _ _ a b w ha
    · exact gate2 _ _ a b w ha
    · exact gate3 _ _ a b w ha
    · exact gate4 _ _ a b w ha
  refine hcalls.mono ?_
  rintro e w1 ⟨rfl, hbl⟩
  have hn : ∀ o x, frO [] o = some x → False := fun o x h => by simp [frO] at h
  have hO : ObjsOk w1 R ι φ (frO []) := ⟨fun o x h => (hn o x h).elim, fun o x h => (hn o x h).elim, fun o p x y g h => (hn o x h).elim, ho.2.2.2.keep (fun _ h => h) fun b hb => hbl.block b (hR b hb)⟩
  refine ⟨.int .i64 (gateV g.fKind a b), rfl, R, ι, φ, BelowM.of_below hbl, fun b h => h, fun b h => Nat.lt_of_lt_of_le (hR b h) hbl.size, fun b h _ => .inl h, RA.of_pv rfl hok, hO, fun g h => ?_, fun o h => rfl⟩
  obtain ⟨o, x, h, _⟩ := h
  exact (hn o x h).elim
end
section

end
section
open Go.RowKit
set_option maxRecDepth 100000 in
def S.s56 : SC := (.seq (.reg [⟨(.some 2), .none, .false, (.box 35 (.tmp 0))⟩, ⟨(.some 4), .none, .false, (.mv (.const (Go.Value.slice none 0 0)))⟩]) (.seq (.reg [⟨(.some 11), .none, .false, (.mv (.tmp 1))⟩, ⟨(.some 12), .none, .false, (.call (.func 86) [(.tmp 11)])⟩, ⟨(.some 5), .none, .false, (.mv (.tmp 12))⟩]) (.seq (.seq (.reg [⟨(.some 13), .none, .false, (.fa 1 (.tmp 2))⟩, ⟨(.some 14), .none, .false, (.ld .false 1 (.tmp 13))⟩, ⟨(.some 15), .none, .false, (.len (.tmp 14))⟩, ⟨(.some 16), .none, .false, (.mv (.const (Go.Value.int Go.IntKind.i64 0)))⟩]) (.block 0 (.loop (.seq (.reg [⟨(.some 17), .none, .false, (.bin .lss (.tmp 16) (.tmp 15))⟩]) (.seq (.cond (.tmp 17) .skip (.exit 0)) (.seq (.block 1 (.seq (.reg [⟨(.some 18), .none, .false, (.ix (.mk 91 3) (.tmp 14) (.tmp 16))⟩, ⟨(.some 19), .none, .false, (.ld .true 3 (.tmp 18))⟩, ⟨(.some 7), .none, .false, (.al 91 [(Go.Value.int Go.IntKind.i64 0), (Go.Value.int Go.IntKind.i64 0), (Go.Value.int Go.IntKind.i64 0)])⟩, ⟨.none, .none, .false, (.sto 3 (.tmp 7) (.tmp 19))⟩]) (.reg [⟨(.some 20), .none, .true, (.mv (.tmp 5))⟩, ⟨(.some 21), .none, .true, (.ld .true 3 (.tmp 7))⟩, ⟨(.some 22), .none, .true, (.mv (.tmp 5))⟩, ⟨(.some 23), .none, .true, (.fa 1 (.tmp 7))⟩, ⟨(.some 24), .none, .true, (.ld .false 1 (.tmp 23))⟩, ⟨(.some 25), .none, .true, (.ix (.mk 2 1) (.tmp 22) (.tmp 24))⟩, ⟨(.some 26), .none, .true, (.ld .false 1 (.tmp 25))⟩, ⟨(.some 27), .none, .true, (.mv (.tmp 5))⟩, ⟨(.some 28), .none, .true, (.fa 2 (.tmp 7))⟩, ⟨(.some 29), .none, .true, (.ld .false 1 (.tmp 28))⟩, ⟨(.some 30), .none, .true, (.ix (.mk 2 1) (.tmp 27) (.tmp 29))⟩, ⟨(.some 31), .none, .true, (.ld .false 1 (.tmp 30))⟩, ⟨(.some 32), .none, .false, (.call (.func 87) [(.tmp 21), (.tmp 26), (.tmp 31)])⟩, ⟨(.some 33), .none, .false, (.bsl (.mk 2 1) 1 [(0, (.tmp 32))])⟩, ⟨(.some 34), .none, .false, (.app (.mk 2 1) 8 (.tmp 20) (.tmp 33))⟩, ⟨(.some 5), .none, .false, (.mv (.tmp 34))⟩]))) (.reg [⟨(.some 35), .none, .false, (.bin .add (.tmp 16) (.const (Go.Value.int Go.IntKind.i64 1)))⟩, ⟨(.some 16), .none, .false, (.mv (.tmp 35))⟩]))))))) (.seq (.reg [⟨(.some 8), .none, .false, (.mv (.const (Go.Value.slice none 0 0)))⟩]) (.seq (.seq (.reg [⟨(.some 36), .none, .false, (.fa 2 (.tmp 2))⟩, ⟨(.some 37), .none, .false, (.ld .false 1 (.tmp 36))⟩, ⟨(.some 38), .none, .false, (.len (.tmp 37))⟩, ⟨(.some 39), .none, .false, (.mv (.const (Go.Value.int Go.IntKind.i64 0)))⟩]) (.block 2 (.loop (.seq (.reg [⟨(.some 40), .none, .false, (.bin .lss (.tmp 39) (.tmp 38))⟩]) (.seq (.cond (.tmp 40) .skip (.exit 2)) (.seq (.block 3 (.seq (.reg [⟨(.some 41), .none, .false, (.ix (.mk 2 1) (.tmp 37) (.tmp 39))⟩, ⟨(.some 42), .none, .false, (.ld .false 1 (.tmp 41))⟩, ⟨(.some 10), .none, .false, (.mv (.tmp 42))⟩]) (.reg [⟨(.some 43), .none, .false, (.mv (.tmp 8))⟩, ⟨(.some 44), .none, .false, (.mv (.tmp 5))⟩, ⟨(.some 45), .none, .false, (.mv (.tmp 10))⟩, ⟨(.some 46), .none, .false, (.ix (.mk 2 1) (.tmp 44) (.tmp 45))⟩, ⟨(.some 47), .none, .false, (.ld .false 1 (.tmp 46))⟩, ⟨(.some 48), .none, .false, (.bsl (.mk 2 1) 1 [(0, (.tmp 47))])⟩, ⟨(.some 49), .none, .false, (.app (.mk 2 1) 8 (.tmp 43) (.tmp 48))⟩, ⟨(.some 8), .none, .false, (.mv (.tmp 49))⟩]))) (.reg [⟨(.some 50), .none, .false, (.bin .add (.tmp 39) (.const (Go.Value.int Go.IntKind.i64 1)))⟩, ⟨(.some 39), .none, .false, (.mv (.tmp 50))⟩]))))))) (.seq (.reg [⟨(.some 51), .none, .false, (.mv (.tmp 8))⟩, ⟨(.some 4), .none, .false, (.mv (.tmp 51))⟩]) .ret))))))
set_option maxRecDepth 100000 in
theorem S.ok56 : stripF Tryz.prog Tryz.f56 = some S.s56 := by kernel_rfl
set_option maxRecDepth 100000 in
def S.s64 : SC := (.seq (.reg [⟨(.some 4), .none, .false, (.mv (.const (Go.Value.slice none 0 0)))⟩]) (.seq (.reg [⟨(.some 10), .none, .false, (.mv (.tmp 1))⟩, ⟨(.some 11), .none, .false, (.call (.func 93) [(.tmp 10)])⟩, ⟨(.some 5), .none, .false, (.mv (.tmp 11))⟩]) (.seq (.seq (.reg [⟨(.some 6), .none, .false, (.mv (.const (Go.Value.int Go.IntKind.i64 0)))⟩]) (.block 0 (.loop (.seq (.seq (.reg [⟨(.some 12), .none, .false, (.mv (.tmp 6))⟩, ⟨(.some 13), .none, .false, (.mv (.tmp 0))⟩, ⟨(.some 14), .none, .false, (.nc (.tmp 13))⟩, ⟨(.some 15), .none, .false, (.fa 1 (.tmp 14))⟩, ⟨(.some 16), .none, .false, (.ld .false 1 (.tmp 15))⟩, ⟨(.some 17), .none, .false, (.len (.tmp 16))⟩, ⟨(.some 18), .none, .false, (.bin .lss (.tmp 12) (.tmp 17))⟩]) (.cond (.tmp 18) .skip (.exit 0))) (.seq (.block 1 (.seq (.reg [⟨(.some 21), .none, .false, (.mv (.tmp 0))⟩, ⟨(.some 22), .none, .false, (.nc (.tmp 21))⟩, ⟨(.some 23), .none, .false, (.fa 1 (.tmp 22))⟩, ⟨(.some 24), .none, .false, (.ld .false 1 (.tmp 23))⟩, ⟨(.some 25), .none, .false, (.mv (.tmp 6))⟩, ⟨(.some 26), .none, .false, (.ix (.mk 91 3) (.tmp 24) (.tmp 25))⟩, ⟨(.some 27), .none, .false, (.ld .true 3 (.tmp 26))⟩, ⟨(.some 7), .none, .false, (.al 91 [(Go.Value.int Go.IntKind.i64 0), (Go.Value.int Go.IntKind.i64 0), (Go.Value.int Go.IntKind.i64 0)])⟩, ⟨.none, .none, .false, (.sto 3 (.tmp 7) (.tmp 27))⟩]) (.reg [⟨(.some 28), .none, .true, (.mv (.tmp 5))⟩, ⟨(.some 29), .none, .true, (.fa 0 (.tmp 7))⟩, ⟨(.some 30), .none, .true, (.ld .false 1 (.tmp 29))⟩, ⟨(.some 31), .none, .true, (.mv (.tmp 5))⟩, ⟨(.some 32), .none, .true, (.fa 1 (.tmp 7))⟩, ⟨(.some 33), .none, .true, (.ld .false 1 (.tmp 32))⟩, ⟨(.some 34), .none, .true, (.ix (.mk 2 1) (.tmp 31) (.tmp 33))⟩, ⟨(.some 35), .none, .true, (.ld .false 1 (.tmp 34))⟩, ⟨(.some 36), .none, .true, (.mv (.tmp 5))⟩, ⟨(.some 37), .none, .true, (.fa 2 (.tmp 7))⟩, ⟨(.some 38), .none, .true, (.ld .false 1 (.tmp 37))⟩, ⟨(.some 39), .none, .true, (.ix (.mk 2 1) (.tmp 36) (.tmp 38))⟩, ⟨(.some 40), .none, .true, (.ld .false 1 (.tmp 39))⟩, ⟨(.some 41), .none, .false, (.call (.func 94) [(.tmp 30), (.tmp 35), (.tmp 40)])⟩, ⟨(.some 42), .none, .false, (.bsl (.mk 2 1) 1 [(0, (.tmp 41))])⟩, ⟨(.some 43), .none, .false, (.app (.mk 2 1) 8 (.tmp 28) (.tmp 42))⟩, ⟨(.some 5), .none, .false, (.mv (.tmp 43))⟩]))) (.reg [⟨(.some 19), .none, .false, (.mv (.tmp 6))⟩, ⟨(.some 20), .none, .false, (.bin .add (.tmp 19) (.const (Go.Value.int Go.IntKind.i64 1)))⟩, ⟨(.some 6), .none, .false, (.mv (.tmp 20))⟩])))))) (.seq (.reg [⟨(.some 44), .none, .false, (.bsl (.mk 2 1) 0 [])⟩, ⟨(.some 8), .none, .false, (.mv (.tmp 44))⟩]) (.seq (.seq (.reg [⟨(.some 9), .none, .false, (.mv (.const (Go.Value.int Go.IntKind.i64 0)))⟩]) (.block 2 (.loop (.seq (.seq (.reg [⟨(.some 45), .none, .false, (.mv (.tmp 9))⟩, ⟨(.some 46), .none, .false, (.mv (.tmp 0))⟩, ⟨(.some 47), .none, .false, (.nc (.tmp 46))⟩, ⟨(.some 48), .none, .false, (.fa 2 (.tmp 47))⟩, ⟨(.some 49), .none, .false, (.ld .false 1 (.tmp 48))⟩, ⟨(.some 50), .none, .false, (.len (.tmp 49))⟩, ⟨(.some 51), .none, .false, (.bin .lss (.tmp 45) (.tmp 50))⟩]) (.cond (.tmp 51) .skip (.exit 2))) (.seq (.block 3 (.reg [⟨(.some 54), .none, .false, (.mv (.tmp 8))⟩, ⟨(.some 55), .none, .false, (.mv (.tmp 5))⟩, ⟨(.some 56), .none, .false, (.mv (.tmp 0))⟩, ⟨(.some 57), .none, .false, (.nc (.tmp 56))⟩, ⟨(.some 58), .none, .false, (.fa 2 (.tmp 57))⟩, ⟨(.some 59), .none, .false, (.ld .false 1 (.tmp 58))⟩, ⟨(.some 60), .none, .false, (.mv (.tmp 9))⟩, ⟨(.some 61), .none, .false, (.ix (.mk 2 1) (.tmp 59) (.tmp 60))⟩, ⟨(.some 62), .none, .false, (.ld .false 1 (.tmp 61))⟩, ⟨(.some 63), .none, .false, (.ix (.mk 2 1) (.tmp 55) (.tmp 62))⟩, ⟨(.some 64), .none, .false, (.ld .false 1 (.tmp 63))⟩, ⟨(.some 65), .none, .false, (.bsl (.mk 2 1) 1 [(0, (.tmp 64))])⟩, ⟨(.some 66), .none, .false, (.app (.mk 2 1) 8 (.tmp 54) (.tmp 65))⟩, ⟨(.some 8), .none, .false, (.mv (.tmp 66))⟩])) (.reg [⟨(.some 52), .none, .false, (.mv (.tmp 9))⟩, ⟨(.some 53), .none, .false, (.bin .add (.tmp 52) (.const (Go.Value.int Go.IntKind.i64 1)))⟩, ⟨(.some 9), .none, .false, (.mv (.tmp 53))⟩])))))) (.seq (.reg [⟨(.some 67), .none, .false, (.mv (.tmp 8))⟩, ⟨(.some 4), .none, .false, (.mv (.tmp 67))⟩]) .ret))))))
set_option maxRecDepth 100000 in
theorem S.ok64 : stripF Tryz.prog Tryz.f64 = some S.s64 := by kernel_rfl
set_option maxRecDepth 100000 in
def S.s86 : SC := (.seq (.reg [⟨(.some 2), .none, .false, (.mv (.const (Go.Value.slice none 0 0)))⟩]) (.seq (.seq (.reg [⟨(.some 3), .none, .false, (.mv (.tmp 0))⟩, ⟨(.some 4), .none, .false, (.isn .false (.tmp 3))⟩]) (.cond (.tmp 4) (.seq (.reg [⟨(.some 2), .none, .false, (.mv (.const (Go.Value.slice none 0 0)))⟩]) .ret) .skip)) (.seq (.reg [⟨(.some 5), .none, .false, (.bsl (.mk 2 1) 0 [])⟩, ⟨(.some 6), .none, .false, (.mv (.tmp 0))⟩, ⟨(.some 7), .none, .false, (.app (.mk 2 1) 8 (.tmp 5) (.tmp 6))⟩, ⟨(.some 2), .none, .false, (.mv (.tmp 7))⟩]) .ret)))
set_option maxRecDepth 100000 in
theorem S.ok86 : stripF Tryz.prog Tryz.f86 = some S.s86 := by kernel_rfl
set_option maxRecDepth 100000 in
def S.s93 : SC := (.seq (.reg [⟨(.some 2), .none, .false, (.mv (.const (Go.Value.slice none 0 0)))⟩]) (.seq (.reg [⟨(.some 3), .none, .false, (.bsl (.mk 2 1) 0 [])⟩, ⟨(.some 4), .none, .false, (.mv (.tmp 0))⟩, ⟨(.some 5), .none, .false, (.app (.mk 2 1) 8 (.tmp 3) (.tmp 4))⟩, ⟨(.some 2), .none, .false, (.mv (.tmp 5))⟩]) .ret))
set_option maxRecDepth 100000 in
theorem S.ok93 : stripF Tryz.prog Tryz.f93 = some S.s93 := by kernel_rfl
set_option maxRecDepth 100000 in
def S.s94 : SC := (.seq (.reg [⟨(.some 6), .none, .false, (.mv (.const (Go.Value.int Go.IntKind.i64 0)))⟩]) (.seq (.seq (.reg [⟨(.some 7), .none, .false, (.mv (.tmp 0))⟩]) (.block 0 (.seq (.reg [⟨(.some 9), .none, .false, (.bin .eql (.tmp 7) (.const (Go.Value.int Go.IntKind.i64 1)))⟩, ⟨(.some 8), .none, .false, (.mv (.tmp 9))⟩]) (.cond (.tmp 8) (.seq (.reg [⟨(.some 10), .none, .false, (.mv (.tmp 1))⟩, ⟨(.some 11), .none, .false, (.bin .sub (.const (Go.Value.int Go.IntKind.i64 1)) (.tmp 10))⟩, ⟨(.some 6), .none, .false, (.mv (.tmp 11))⟩]) .ret) (.seq (.reg [⟨(.some 13), .none, .false, (.bin .eql (.tmp 7) (.const (Go.Value.int Go.IntKind.i64 2)))⟩, ⟨(.some 12), .none, .false, (.mv (.tmp 13))⟩]) (.cond (.tmp 12) (.seq (.reg [⟨(.some 14), .none, .false, (.mv (.tmp 1))⟩, ⟨(.some 15), .none, .false, (.mv (.tmp 2))⟩, ⟨(.some 16), .none, .false, (.bin .and (.tmp 14) (.tmp 15))⟩, ⟨(.some 6), .none, .false, (.mv (.tmp 16))⟩]) .ret) (.seq (.reg [⟨(.some 18), .none, .false, (.bin .eql (.tmp 7) (.const (Go.Value.int Go.IntKind.i64 3)))⟩, ⟨(.some 17), .none, .false, (.mv (.tmp 18))⟩]) (.cond (.tmp 17) (.seq (.reg [⟨(.some 19), .none, .false, (.mv (.tmp 1))⟩, ⟨(.some 20), .none, .false, (.mv (.tmp 2))⟩, ⟨(.some 21), .none, .false, (.bin .or (.tmp 19) (.tmp 20))⟩, ⟨(.some 6), .none, .false, (.mv (.tmp 21))⟩]) .ret) .skip)))))))) (.seq (.reg [⟨(.some 22), .none, .false, (.mv (.tmp 1))⟩, ⟨(.some 23), .none, .false, (.mv (.tmp 2))⟩, ⟨(.some 24), .none, .false, (.bin .xor (.tmp 22) (.tmp 23))⟩, ⟨(.some 6), .none, .false, (.mv (.tmp 24))⟩]) .ret)))
set_option maxRecDepth 100000 in
theorem S.ok94 : stripF Tryz.prog Tryz.f94 = some S.s94 := by kernel_rfl
set_option maxRecDepth 10000
set_option maxHeartbeats 4000000
def gAt (c : TCircuit) (i : Nat) : TGate := c.fGates.getD i ⟨0, 0, 0⟩
def wr (c : TCircuit) (l : List Int) : Nat → List Int
  | 0 => l
  | i + 1 => wr c l i ++ [gateV (gAt c i).fKind ((wr c l i).getD (gAt c i).fA.toNat 0) ((wr c l i).getD (gAt c i).fB.toNat 0)]
theorem wr_len {c : TCircuit} {l : List Int} : ∀ i : Nat, (wr c l i).length = l.length + i
  | 0 => rfl
  | i + 1 => by
    have := wr_len (c := c) (l := l) i
    simp only [wr, List.length_append, List.length_singleton]
    omega
theorem getD_bit {m : List Int} (h : ∀ w ∈ m, 0 ≤ w ∧ w ≤ 1) (k : Nat) : 0 ≤ m.getD k 0 ∧ m.getD k 0 ≤ 1 := by
  rw [List.getD_eq_getElem?_getD]
  cases hx : m[k]? with
  | none => simp
  | some v => exact h v (List.mem_of_getElem? hx)
theorem wr_bit {c : TCircuit} {l : List Int} (h : ∀ w ∈ l, 0 ≤ w ∧ w ≤ 1) : ∀ (i : Nat), ∀ w ∈ wr c l i, 0 ≤ w ∧ w ≤ 1
  | 0 => h
  | i + 1 => fun w hw => by
    rcases List.mem_append.1 hw with hw | hw
    · exact wr_bit h i w hw
    · rw [List.mem_singleton.1 hw]
      exact gateV_bit (getD_bit (wr_bit h i) _) (getD_bit (wr_bit h i) _)
def evC (c : TCircuit) (l : List Int) : List Int := c.fOutputs.map fun w => (wr c l c.fGates.length).getD w.toNat 0
theorem lib_cloneI (l : List Int) (h : l.length ≤ 1048576) : Spec Tryz.prog 86 [vL kI (ints l)] (oN kI (ints l)) := by
  refine Spec.walk T.mixed Tryz.func86 S.ok86 (by simp [Tryz.f86]) fun hk => ?_
  unfold S.s86
  repeat' (first|refine R.mv rfl ?_|refine R.reg ?_|refine R.nil ?_|refine R.seq ?_|refine R.nseq ?_|refine R.nblk ?_|refine R.skip ?_|refine R.blk ?_|refine R.exit rfl ?_|refine R.isn rfl rfl ?_|refine R.isnn rfl rfl ?_|refine R.condT rfl ?_|refine R.condF rfl ?_|refine R.bsl (f := enI) ([] : List Int) rfl rfl rfl rfl rfl ?_|refine R.app (f := enI) (fun _ => rfl) rfl rfl rfl rfl rfl ⟨by simp only [List.length_nil]; omega, by simp only [List.length_nil]; omega⟩ ?_|refine R.cond rfl (fun hc => ?_) (fun hc => ?_)|refine R.condN rfl (fun hc => ?_) (fun hc => ?_)|refine R.condB rfl (fun hc => ?_) (fun hc => ?_)|refine R.isn2 rfl (fun hc => ?_) ?_|refine R.isn2O rfl rfl (fun hc => ?_) ?_)
  · subst hc; exact R.ret ⟨.inr rfl, R.outE rfl rfl rfl⟩
  · exact R.ret ⟨.inr rfl, R.outN rfl rfl (arr_eq (by simp))⟩
theorem sOwn (l : List Int) (h : l.length ≤ 1048576) : Spec Tryz.prog 93 [vL kI (ints l)] (oN kI (ints l)) := by
  refine Spec.walk T.mixed Tryz.func93 S.ok93 (by simp [Tryz.f93]) fun hk => ?_
  unfold S.s93
  repeat' (first|refine R.mv rfl ?_|refine R.reg ?_|refine R.nil ?_|refine R.seq ?_|refine R.nseq ?_|refine R.nblk ?_|refine R.skip ?_|refine R.blk ?_|refine R.exit rfl ?_|refine R.condT rfl ?_|refine R.condF rfl ?_|refine R.bsl (f := enI) ([] : List Int) rfl rfl rfl rfl rfl ?_|refine R.app (f := enI) (fun _ => rfl) rfl rfl rfl rfl rfl ⟨by simp only [List.length_nil]; omega, by simp only [List.length_nil]; omega⟩ ?_|refine R.cond rfl (fun hc => ?_) (fun hc => ?_)|refine R.condN rfl (fun hc => ?_) (fun hc => ?_)|refine R.condB rfl (fun hc => ?_) (fun hc => ?_))
  exact R.ret ⟨.inr rfl, R.outN rfl rfl (arr_eq (by simp))⟩
theorem iEvC (c : TCircuit) (l : List Int) (h1 : okC c) (h2 : inK l c.fInputs) : Spec Tryz.prog 56 [.agg (enCircuit c), vL kI (ints l)] (oN kI (ints (evC c l))) := by
  refine Spec.walk T.mixed Tryz.func56 S.ok56 (by simp [Tryz.f56]) fun hk => ?_
  obtain ⟨hn, hG, hO, hgs, hos⟩ := h1
  obtain ⟨hl, hbits⟩ := h2
  unfold S.s56
  repeat' (first|refine R.mv rfl ?_|refine R.reg ?_|refine R.nil ?_|refine R.seq ?_|refine R.nseq ?_|refine R.nblk ?_|refine R.skip ?_|refine R.blk ?_|refine R.exit rfl ?_|refine R.ldEp rfl rfl (by assumption) rfl rfl ?_|refine R.ldaEp rfl rfl (by assumption) (lbT rfl) rfl rfl ?_|refine R.ld rfl rfl rfl ?_|refine R.lda rfl rfl (lbT rfl) rfl ?_|refine R.fa rfl rfl ?_|refine R.lenM rfl ?_|refine R.lenO rfl rfl ?_|refine R.len rfl rfl ?_|refine R.lss rfl rfl ?_|refine R.add rfl rfl (by omega) ?_|refine R.ixN rfl rfl rfl (by omega) (fun a ha => ?_)|refine R.ixM rfl rfl rfl (by omega) (fun a ha => ?_)|refine R.ixON rfl rfl rfl (by first|omega|(simp; omega)) (fun a' ha' => ?_)|refine R.ixO rfl rfl rfl (by first|omega|(simp; omega)) (fun a' ha' => ?_)|refine R.al rfl ?_|refine R.box rfl rfl rfl ?_|refine R.stoB rfl rfl rfl rfl ⟨rfl, rfl, Nat.le_of_ble_eq_true rfl⟩ rfl ?_|refine R.stoE _ rfl rfl rfl rfl rfl (by assumption) rfl ⟨rfl, rfl, Nat.le_of_ble_eq_true rfl⟩ ?_|refine R.condT rfl ?_|refine R.condF rfl ?_|refine R.callN1 (bor := false) rfl rfl (lib_cloneI l (by omega)) rfl rfl ?_|refine R.callN1 (bor := true) rfl rfl (lib_cloneI l (by omega)) rfl rfl ?_|refine R.callN (bor := false) rfl rfl (lib_cloneI l (by omega)) rfl rfl rfl rfl rfl ?_|refine R.callN (bor := true) rfl rfl (lib_cloneI l (by omega)) rfl rfl rfl rfl rfl ?_|refine R.cond rfl (fun hc => ?_) (fun hc => ?_)|refine R.condN rfl (fun hc => ?_) (fun hc => ?_)|refine R.condB rfl (fun hc => ?_) (fun hc => ?_))
  refine R.loop (G := Nat) (fun i => [(2, .v (.c (.ptr 2 0))), (5, .v (.c (.own 14000))), (14, rdA kGate (c.fGates.map enGate)), (15, pvA (.int .i64 c.fGates.length)), (16, pvA (.int .i64 i))]) (fun i => [(2, .box 35 ((enCircuit c).map B.d)), (14000, .arr kI (ints (wr c l i)) [])]) (fun i => i ≤ c.fGates.length) (fun i => c.fGates.length - i) 0 (by omega) (Weak.frame _ _ ⟨rfl, rfl, rfl, rfl, rfl, trivial⟩ ⟨rfl, rfl, trivial⟩ rfl rfl) fun i hi => ?_
  have hwl := wr_len (c := c) (l := l) i
  have hwb := wr_bit (c := c) hbits i
  by_cases hil : i < c.fGates.length
  · obtain ⟨g, hgx⟩ : ∃ g, c.fGates[i]? = some g := ⟨_, List.getElem?_eq_getElem hil⟩
    have hg := hgs i g hgx
    have hga : gAt c i = g := by simp [gAt, List.getD, hgx]
    obtain ⟨gk, ga, gb⟩ := g
    unfold okG at hg
    dsimp only at hg
    obtain ⟨ma, rfl⟩ : ∃ m : Nat, ga = m := ⟨ga.toNat, by omega⟩
    obtain ⟨mb, rfl⟩ : ∃ m : Nat, gb = m := ⟨gb.toNat, by omega⟩
    obtain ⟨u, hu⟩ : ∃ u, (wr c l i)[ma]? = some u := ⟨_, List.getElem?_eq_getElem (by omega)⟩
    obtain ⟨v, hv⟩ : ∃ v, (wr c l i)[mb]? = some v := ⟨_, List.getElem?_eq_getElem (by omega)⟩
    have hu1 := hwb u (List.mem_of_getElem? hu)
    have hv1 := hwb v (List.mem_of_getElem? hv)
    have hnx : wr c l (i + 1) = wr c l i ++ [gateV gk u v] := by simp [wr, hga, List.getD, hu, hv]
    repeat' (first|refine R.ixK (⟨gk, ma, mb⟩ : TGate) hgx rfl rfl rfl ?_|refine R.ixOK u hu rfl rfl rfl ?_|refine R.ixOK v hv rfl rfl rfl ?_|refine R.mv rfl ?_|refine R.reg ?_|refine R.nil ?_|refine R.seq ?_|refine R.nseq ?_|refine R.nblk ?_|refine R.skip ?_|refine R.blk ?_|refine R.exit rfl ?_|refine R.ldEp rfl rfl (by assumption) rfl rfl ?_|refine R.ldaEp rfl rfl (by assumption) (lbT rfl) rfl rfl ?_|refine R.ld rfl rfl rfl ?_|refine R.lda rfl rfl (lbT rfl) rfl ?_|refine R.fa rfl rfl ?_|refine R.lenM rfl ?_|refine R.lenO rfl rfl ?_|refine R.len rfl rfl ?_|refine R.lss rfl rfl ?_|refine R.add rfl rfl (by omega) ?_|refine R.ixN rfl rfl rfl (by omega) (fun a ha => ?_)|refine R.ixM rfl rfl rfl (by omega) (fun a ha => ?_)|refine R.ixON rfl rfl rfl (by first|omega|(simp; omega)) (fun a' ha' => ?_)|refine R.ixO rfl rfl rfl (by first|omega|(simp; omega)) (fun a' ha' => ?_)|refine R.al rfl ?_|refine R.box rfl rfl rfl ?_|refine R.stoB rfl rfl rfl rfl ⟨rfl, rfl, Nat.le_of_ble_eq_true rfl⟩ rfl ?_|refine R.stoE _ rfl rfl rfl rfl rfl (by assumption) rfl ⟨rfl, rfl, Nat.le_of_ble_eq_true rfl⟩ ?_|refine R.condT rfl ?_|refine R.condF rfl ?_|refine R.call (bor := false) rfl rfl (iGateV ⟨gk, ma, mb⟩ u v ⟨hg.1.1, hg.1.2⟩ hu1 hv1) rfl rfl rfl ?_|refine R.call (bor := true) rfl rfl (iGateV ⟨gk, ma, mb⟩ u v ⟨hg.1.1, hg.1.2⟩ hu1 hv1) rfl rfl rfl ?_|refine R.fcal (bor := false) rfl rfl (iGateV ⟨gk, ma, mb⟩ u v ⟨hg.1.1, hg.1.2⟩ hu1 hv1) rfl rfl rfl ?_|refine R.fcal (bor := true) rfl rfl (iGateV ⟨gk, ma, mb⟩ u v ⟨hg.1.1, hg.1.2⟩ hu1 hv1) rfl rfl rfl ?_|refine R.bsl (f := enI) [gateV gk u v] rfl rfl rfl rfl rfl ?_|refine R.app (f := enI) (fun _ => rfl) rfl rfl rfl rfl rfl ⟨by simp only [List.length_singleton]; omega, by simp only [List.length_singleton]; omega⟩ ?_|refine R.cond rfl (fun hc => ?_) (fun hc => ?_)|refine R.condN rfl (fun hc => ?_) (fun hc => ?_)|refine R.condB rfl (fun hc => ?_) (fun hc => ?_))
    all_goals first
      | (exfalso; omega)
      | exact R.nloop (R.again (i + 1) (by omega) (by omega) ⟨rfl, rfl, rfl, rfl, rfl, trivial⟩ ⟨rfl, arr_eq (by rw [hnx]), trivial⟩ rfl rfl)
  obtain rfl : i = c.fGates.length := by omega
  repeat' (first|refine R.mv rfl ?_|refine R.reg ?_|refine R.nil ?_|refine R.seq ?_|refine R.nseq ?_|refine R.nblk ?_|refine R.skip ?_|refine R.blk ?_|refine R.exit rfl ?_|refine R.ldEp rfl rfl (by assumption) rfl rfl ?_|refine R.ldaEp rfl rfl (by assumption) (lbT rfl) rfl rfl ?_|refine R.ld rfl rfl rfl ?_|refine R.lda rfl rfl (lbT rfl) rfl ?_|refine R.fa rfl rfl ?_|refine R.lenM rfl ?_|refine R.lenO rfl rfl ?_|refine R.len rfl rfl ?_|refine R.lss rfl rfl ?_|refine R.add rfl rfl (by omega) ?_|refine R.ixN rfl rfl rfl (by omega) (fun a ha => ?_)|refine R.ixM rfl rfl rfl (by omega) (fun a ha => ?_)|refine R.ixON rfl rfl rfl (by first|omega|(simp; omega)) (fun a' ha' => ?_)|refine R.ixO rfl rfl rfl (by first|omega|(simp; omega)) (fun a' ha' => ?_)|refine R.al rfl ?_|refine R.box rfl rfl rfl ?_|refine R.stoB rfl rfl rfl rfl ⟨rfl, rfl, Nat.le_of_ble_eq_true rfl⟩ rfl ?_|refine R.stoE _ rfl rfl rfl rfl rfl (by assumption) rfl ⟨rfl, rfl, Nat.le_of_ble_eq_true rfl⟩ ?_|refine R.condT rfl ?_|refine R.condF rfl ?_|refine R.bsl (f := enI) ([] : List Int) rfl rfl rfl rfl rfl ?_|refine R.cond rfl (fun hc => ?_) (fun hc => ?_)|refine R.condN rfl (fun hc => ?_) (fun hc => ?_)|refine R.condB rfl (fun hc => ?_) (fun hc => ?_))
  all_goals first | (exfalso; omega) | skip
  refine R.loop (G := Nat) (fun i => [(5, .v (.c (.own 14000))), (8, .v (.c (.own 8))), (37, rdA kI (ints c.fOutputs)), (38, pvA (.int .i64 c.fOutputs.length)), (39, pvA (.int .i64 i))]) (fun i => [(8, .arr kI (ints ((c.fOutputs.take i).map fun w => (wr c l c.fGates.length).getD w.toNat 0)) []), (14000, .arr kI (ints (wr c l c.fGates.length)) [])]) (fun i => i ≤ c.fOutputs.length) (fun i => c.fOutputs.length - i) 0 (by omega) (Weak.trans (Weak.reify 8 8 kI rfl rfl) (Weak.frame _ _ ⟨rfl, rfl, rfl, rfl, rfl, trivial⟩ ⟨rfl, rfl, trivial⟩ rfl rfl)) fun i hi => ?_
  by_cases hil : i < c.fOutputs.length
  · obtain ⟨w, hw⟩ : ∃ w, c.fOutputs[i]? = some w := ⟨_, List.getElem?_eq_getElem hil⟩
    have hwo := hos w (List.mem_of_getElem? hw)
    obtain ⟨m, rfl⟩ : ∃ m : Nat, w = m := ⟨w.toNat, by omega⟩
    obtain ⟨u, hu⟩ : ∃ u, (wr c l c.fGates.length)[m]? = some u := ⟨_, List.getElem?_eq_getElem (by omega)⟩
    have hgd : (wr c l c.fGates.length).getD ((m : Int)).toNat 0 = u := by simp [List.getD, hu]
    repeat' (first|refine R.ixK (m : Int) hw rfl rfl rfl ?_|refine R.ixOK u hu rfl rfl rfl ?_|refine R.mv rfl ?_|refine R.reg ?_|refine R.nil ?_|refine R.seq ?_|refine R.nseq ?_|refine R.nblk ?_|refine R.skip ?_|refine R.blk ?_|refine R.exit rfl ?_|refine R.ldEp rfl rfl (by assumption) rfl rfl ?_|refine R.ldaEp rfl rfl (by assumption) (lbT rfl) rfl rfl ?_|refine R.ld rfl rfl rfl ?_|refine R.lda rfl rfl (lbT rfl) rfl ?_|refine R.fa rfl rfl ?_|refine R.lenM rfl ?_|refine R.lenO rfl rfl ?_|refine R.len rfl rfl ?_|refine R.lss rfl rfl ?_|refine R.add rfl rfl (by omega) ?_|refine R.ixN rfl rfl rfl (by omega) (fun a ha => ?_)|refine R.ixM rfl rfl rfl (by omega) (fun a ha => ?_)|refine R.ixON rfl rfl rfl (by first|omega|(simp; omega)) (fun a' ha' => ?_)|refine R.ixO rfl rfl rfl (by first|omega|(simp; omega)) (fun a' ha' => ?_)|refine R.al rfl ?_|refine R.box rfl rfl rfl ?_|refine R.stoB rfl rfl rfl rfl ⟨rfl, rfl, Nat.le_of_ble_eq_true rfl⟩ rfl ?_|refine R.stoE _ rfl rfl rfl rfl rfl (by assumption) rfl ⟨rfl, rfl, Nat.le_of_ble_eq_true rfl⟩ ?_|refine R.condT rfl ?_|refine R.condF rfl ?_|refine R.bsl (f := enI) [u] rfl rfl rfl rfl rfl ?_|refine R.app (f := enI) (fun _ => rfl) rfl rfl rfl rfl rfl ⟨by simp only [List.length_map, List.length_take, List.length_singleton]; omega, by simp only [List.length_map, List.length_take, List.length_singleton]; omega⟩ ?_|refine R.cond rfl (fun hc => ?_) (fun hc => ?_)|refine R.condN rfl (fun hc => ?_) (fun hc => ?_)|refine R.condB rfl (fun hc => ?_) (fun hc => ?_))
    all_goals first
      | (exfalso; omega)
      | exact R.nloop (R.again (i + 1) (by omega) (by omega) ⟨rfl, rfl, rfl, rfl, rfl, trivial⟩ ⟨arr_eq (by rw [take_snoc hw, List.map_append, List.map_singleton, hgd]), rfl, trivial⟩ rfl rfl)
  obtain rfl : i = c.fOutputs.length := by omega
  repeat' (first|refine R.mv rfl ?_|refine R.reg ?_|refine R.nil ?_|refine R.seq ?_|refine R.nseq ?_|refine R.nblk ?_|refine R.skip ?_|refine R.blk ?_|refine R.exit rfl ?_|refine R.ldEp rfl rfl (by assumption) rfl rfl ?_|refine R.ldaEp rfl rfl (by assumption) (lbT rfl) rfl rfl ?_|refine R.ld rfl rfl rfl ?_|refine R.lda rfl rfl (lbT rfl) rfl ?_|refine R.fa rfl rfl ?_|refine R.lenM rfl ?_|refine R.lenO rfl rfl ?_|refine R.len rfl rfl ?_|refine R.lss rfl rfl ?_|refine R.add rfl rfl (by omega) ?_|refine R.ixN rfl rfl rfl (by omega) (fun a ha => ?_)|refine R.ixM rfl rfl rfl (by omega) (fun a ha => ?_)|refine R.ixON rfl rfl rfl (by first|omega|(simp; omega)) (fun a' ha' => ?_)|refine R.ixO rfl rfl rfl (by first|omega|(simp; omega)) (fun a' ha' => ?_)|refine R.al rfl ?_|refine R.box rfl rfl rfl ?_|refine R.stoB rfl rfl rfl rfl ⟨rfl, rfl, Nat.le_of_ble_eq_true rfl⟩ rfl ?_|refine R.stoE _ rfl rfl rfl rfl rfl (by assumption) rfl ⟨rfl, rfl, Nat.le_of_ble_eq_true rfl⟩ ?_|refine R.condT rfl ?_|refine R.condF rfl ?_|refine R.cond rfl (fun hc => ?_) (fun hc => ?_)|refine R.condN rfl (fun hc => ?_) (fun hc => ?_)|refine R.condB rfl (fun hc => ?_) (fun hc => ?_))
  all_goals first
    | (exfalso; omega)
    | exact R.ret ⟨.inr rfl, R.outN rfl rfl (arr_eq (by rw [List.take_length]; rfl))⟩
theorem iCirT {c : TCircuit} (h : okC c) : Spec Tryz.prog 33 [.agg (enCircuit c)] (oB true) := by have := iValidCircuit c; rwa [bP_iff.2 h] at this
theorem iCirF {c : TCircuit} (h : ¬ okC c) : Spec Tryz.prog 33 [.agg (enCircuit c)] (oB false) := by have := iValidCircuit c; rwa [bP_not.2 h] at this
theorem sGateV (k x y : Int) (_ : 1 ≤ k ∧ k ≤ 4) (hx : 0 ≤ x ∧ x ≤ 1) : Spec Tryz.prog 94 [vI k, vI x, vI y] (oI (gateV k x y)) := by
  refine Spec.walk T.mixed Tryz.func94 S.ok94 (by simp [Tryz.f94]) fun hk => ?_
  unfold S.s94
  repeat' (first|refine R.mv rfl ?_|refine R.reg ?_|refine R.nil ?_|refine R.seq ?_|refine R.nseq ?_|refine R.nblk ?_|refine R.skip ?_|refine R.blk ?_|refine R.exit rfl ?_|refine R.eql rfl rfl ?_|refine R.sub rfl rfl (by omega) ?_|refine R.and rfl rfl ?_|refine R.or rfl rfl ?_|refine R.xor rfl rfl ?_|refine R.condT rfl ?_|refine R.condF rfl ?_|refine R.cond rfl (fun hc => ?_) (fun hc => ?_)|refine R.condN rfl (fun hc => ?_) (fun hc => ?_)|refine R.condB rfl (fun hc => ?_) (fun hc => ?_))
  all_goals first
    | (exfalso; omega)
    | (refine R.ret ⟨.inr rfl, R.outI rfl rfl ?_⟩; unfold gateV; simp_all; done)
theorem sEvC (c : TCircuit) (l : List Int) (h1 : okC c) (h2 : inK l c.fInputs) : Spec Tryz.prog 64 [vP (enCircuit c), vL kI (ints l)] (oN kI (ints (evC c l))) := by
  refine Spec.walk T.mixed Tryz.func64 S.ok64 (by simp [Tryz.f64]) fun hk => ?_
  obtain ⟨hn, hG, hO, hgs, hos⟩ := h1
  obtain ⟨hl, hbits⟩ := h2
  unfold S.s64
  repeat' (first|refine R.mv rfl ?_|refine R.reg ?_|refine R.nil ?_|refine R.seq ?_|refine R.nseq ?_|refine R.nblk ?_|refine R.skip ?_|refine R.blk ?_|refine R.exit rfl ?_|refine R.ldEp rfl rfl (by assumption) rfl rfl ?_|refine R.ldaEp rfl rfl (by assumption) (lbT rfl) rfl rfl ?_|refine R.ld rfl rfl rfl ?_|refine R.lda rfl rfl (lbT rfl) rfl ?_|refine R.fa rfl rfl ?_|refine R.lenM rfl ?_|refine R.lenO rfl rfl ?_|refine R.len rfl rfl ?_|refine R.lss rfl rfl ?_|refine R.add rfl rfl (by omega) ?_|refine R.ixN rfl rfl rfl (by omega) (fun a ha => ?_)|refine R.ixM rfl rfl rfl (by omega) (fun a ha => ?_)|refine R.ixON rfl rfl rfl (by first|omega|(simp; omega)) (fun a' ha' => ?_)|refine R.ixO rfl rfl rfl (by first|omega|(simp; omega)) (fun a' ha' => ?_)|refine R.nc rfl rfl ?_|refine R.nc0 rfl rfl ?_|refine R.al rfl ?_|refine R.stoB rfl rfl rfl rfl ⟨rfl, rfl, Nat.le_of_ble_eq_true rfl⟩ rfl ?_|refine R.stoE _ rfl rfl rfl rfl rfl (by assumption) rfl ⟨rfl, rfl, Nat.le_of_ble_eq_true rfl⟩ ?_|refine R.condT rfl ?_|refine R.condF rfl ?_|refine R.callN1 (bor := false) rfl rfl (sOwn l (by omega)) rfl rfl ?_|refine R.callN1 (bor := true) rfl rfl (sOwn l (by omega)) rfl rfl ?_|refine R.callN (bor := false) rfl rfl (sOwn l (by omega)) rfl rfl rfl rfl rfl ?_|refine R.callN (bor := true) rfl rfl (sOwn l (by omega)) rfl rfl rfl rfl rfl ?_|refine R.cond rfl (fun hc => ?_) (fun hc => ?_)|refine R.condN rfl (fun hc => ?_) (fun hc => ?_)|refine R.condB rfl (fun hc => ?_) (fun hc => ?_))
  refine R.loop (G := Nat) (fun i => [(0, .v (.c (.d (.rp (enCircuit c))))), (5, .v (.c (.own 13000))), (6, pvA (.int .i64 i))]) (fun i => [(13000, .arr kI (ints (wr c l i)) [])]) (fun i => i ≤ c.fGates.length) (fun i => c.fGates.length - i) 0 (by omega) (Weak.frame _ _ ⟨rfl, rfl, rfl, trivial⟩ ⟨rfl, trivial⟩ rfl rfl) fun i hi => ?_
  have hwl := wr_len (c := c) (l := l) i
  have hwb := wr_bit (c := c) hbits i
  by_cases hil : i < c.fGates.length
  · obtain ⟨g, hgx⟩ : ∃ g, c.fGates[i]? = some g := ⟨_, List.getElem?_eq_getElem hil⟩
    have hg := hgs i g hgx
    have hga : gAt c i = g := by simp [gAt, List.getD, hgx]
    obtain ⟨gk, ga, gb⟩ := g
    unfold okG at hg
    dsimp only at hg
    obtain ⟨ma, rfl⟩ : ∃ m : Nat, ga = m := ⟨ga.toNat, by omega⟩
    obtain ⟨mb, rfl⟩ : ∃ m : Nat, gb = m := ⟨gb.toNat, by omega⟩
    obtain ⟨u, hu⟩ : ∃ u, (wr c l i)[ma]? = some u := ⟨_, List.getElem?_eq_getElem (by omega)⟩
    obtain ⟨v, hv⟩ : ∃ v, (wr c l i)[mb]? = some v := ⟨_, List.getElem?_eq_getElem (by omega)⟩
    have hu1 := hwb u (List.mem_of_getElem? hu)
    have hv1 := hwb v (List.mem_of_getElem? hv)
    have hnx : wr c l (i + 1) = wr c l i ++ [gateV gk u v] := by simp [wr, hga, List.getD, hu, hv]
    repeat' (first|refine R.ixK (⟨gk, ma, mb⟩ : TGate) hgx rfl rfl rfl ?_|refine R.ixOK u hu rfl rfl rfl ?_|refine R.ixOK v hv rfl rfl rfl ?_|refine R.mv rfl ?_|refine R.reg ?_|refine R.nil ?_|refine R.seq ?_|refine R.nseq ?_|refine R.nblk ?_|refine R.skip ?_|refine R.blk ?_|refine R.exit rfl ?_|refine R.ldEp rfl rfl (by assumption) rfl rfl ?_|refine R.ldaEp rfl rfl (by assumption) (lbT rfl) rfl rfl ?_|refine R.ld rfl rfl rfl ?_|refine R.lda rfl rfl (lbT rfl) rfl ?_|refine R.fa rfl rfl ?_|refine R.lenM rfl ?_|refine R.lenO rfl rfl ?_|refine R.len rfl rfl ?_|refine R.lss rfl rfl ?_|refine R.add rfl rfl (by omega) ?_|refine R.ixN rfl rfl rfl (by omega) (fun a ha => ?_)|refine R.ixM rfl rfl rfl (by omega) (fun a ha => ?_)|refine R.ixON rfl rfl rfl (by first|omega|(simp; omega)) (fun a' ha' => ?_)|refine R.ixO rfl rfl rfl (by first|omega|(simp; omega)) (fun a' ha' => ?_)|refine R.nc rfl rfl ?_|refine R.nc0 rfl rfl ?_|refine R.al rfl ?_|refine R.stoB rfl rfl rfl rfl ⟨rfl, rfl, Nat.le_of_ble_eq_true rfl⟩ rfl ?_|refine R.stoE _ rfl rfl rfl rfl rfl (by assumption) rfl ⟨rfl, rfl, Nat.le_of_ble_eq_true rfl⟩ ?_|refine R.condT rfl ?_|refine R.condF rfl ?_|refine R.call (bor := false) rfl rfl (sGateV gk u v ⟨hg.1.1, hg.1.2⟩ hu1) rfl rfl rfl ?_|refine R.call (bor := true) rfl rfl (sGateV gk u v ⟨hg.1.1, hg.1.2⟩ hu1) rfl rfl rfl ?_|refine R.fcal (bor := false) rfl rfl (sGateV gk u v ⟨hg.1.1, hg.1.2⟩ hu1) rfl rfl rfl ?_|refine R.fcal (bor := true) rfl rfl (sGateV gk u v ⟨hg.1.1, hg.1.2⟩ hu1) rfl rfl rfl ?_|refine R.bsl (f := enI) [gateV gk u v] rfl rfl rfl rfl rfl ?_|refine R.app (f := enI) (fun _ => rfl) rfl rfl rfl rfl rfl ⟨by simp only [List.length_singleton]; omega, by simp only [List.length_singleton]; omega⟩ ?_|refine R.cond rfl (fun hc => ?_) (fun hc => ?_)|refine R.condN rfl (fun hc => ?_) (fun hc => ?_)|refine R.condB rfl (fun hc => ?_) (fun hc => ?_))
    all_goals first
      | (exfalso; omega)
      | exact R.nloop (R.again (i + 1) (by omega) (by omega) ⟨rfl, rfl, rfl, trivial⟩ ⟨arr_eq (by rw [hnx]), trivial⟩ rfl rfl)
  obtain rfl : i = c.fGates.length := by omega
  repeat' (first|refine R.mv rfl ?_|refine R.reg ?_|refine R.nil ?_|refine R.seq ?_|refine R.nseq ?_|refine R.nblk ?_|refine R.skip ?_|refine R.blk ?_|refine R.exit rfl ?_|refine R.ldEp rfl rfl (by assumption) rfl rfl ?_|refine R.ldaEp rfl rfl (by assumption) (lbT rfl) rfl rfl ?_|refine R.ld rfl rfl rfl ?_|refine R.lda rfl rfl (lbT rfl) rfl ?_|refine R.fa rfl rfl ?_|refine R.lenM rfl ?_|refine R.lenO rfl rfl ?_|refine R.len rfl rfl ?_|refine R.lss rfl rfl ?_|refine R.add rfl rfl (by omega) ?_|refine R.ixN rfl rfl rfl (by omega) (fun a ha => ?_)|refine R.ixM rfl rfl rfl (by omega) (fun a ha => ?_)|refine R.ixON rfl rfl rfl (by first|omega|(simp; omega)) (fun a' ha' => ?_)|refine R.ixO rfl rfl rfl (by first|omega|(simp; omega)) (fun a' ha' => ?_)|refine R.nc rfl rfl ?_|refine R.nc0 rfl rfl ?_|refine R.al rfl ?_|refine R.stoB rfl rfl rfl rfl ⟨rfl, rfl, Nat.le_of_ble_eq_true rfl⟩ rfl ?_|refine R.stoE _ rfl rfl rfl rfl rfl (by assumption) rfl ⟨rfl, rfl, Nat.le_of_ble_eq_true rfl⟩ ?_|refine R.condT rfl ?_|refine R.condF rfl ?_|refine R.bsl (f := enI) ([] : List Int) rfl rfl rfl rfl rfl ?_|refine R.cond rfl (fun hc => ?_) (fun hc => ?_)|refine R.condN rfl (fun hc => ?_) (fun hc => ?_)|refine R.condB rfl (fun hc => ?_) (fun hc => ?_))
  all_goals first | (exfalso; omega) | skip
  refine R.loop (G := Nat) (fun i => [(0, .v (.c (.d (.rp (enCircuit c))))), (5, .v (.c (.own 13000))), (8, .v (.c (.own 44))), (9, pvA (.int .i64 i))]) (fun i => [(13000, .arr kI (ints (wr c l c.fGates.length)) []), (44, .arr kI (ints ((c.fOutputs.take i).map fun w => (wr c l c.fGates.length).getD w.toNat 0)) [])]) (fun i => i ≤ c.fOutputs.length) (fun i => c.fOutputs.length - i) 0 (by omega) (Weak.frame _ _ ⟨rfl, rfl, rfl, rfl, trivial⟩ ⟨rfl, rfl, trivial⟩ rfl rfl) fun i hi => ?_
  by_cases hil : i < c.fOutputs.length
  · obtain ⟨w, hw⟩ : ∃ w, c.fOutputs[i]? = some w := ⟨_, List.getElem?_eq_getElem hil⟩
    have hwo := hos w (List.mem_of_getElem? hw)
    obtain ⟨m, rfl⟩ : ∃ m : Nat, w = m := ⟨w.toNat, by omega⟩
    obtain ⟨u, hu⟩ : ∃ u, (wr c l c.fGates.length)[m]? = some u := ⟨_, List.getElem?_eq_getElem (by omega)⟩
    have hgd : (wr c l c.fGates.length).getD ((m : Int)).toNat 0 = u := by simp [List.getD, hu]
    repeat' (first|refine R.ixK (m : Int) hw rfl rfl rfl ?_|refine R.ixOK u hu rfl rfl rfl ?_|refine R.mv rfl ?_|refine R.reg ?_|refine R.nil ?_|refine R.seq ?_|refine R.nseq ?_|refine R.nblk ?_|refine R.skip ?_|refine R.blk ?_|refine R.exit rfl ?_|refine R.ldEp rfl rfl (by assumption) rfl rfl ?_|refine R.ldaEp rfl rfl (by assumption) (lbT rfl) rfl rfl ?_|refine R.ld rfl rfl rfl ?_|refine R.lda rfl rfl (lbT rfl) rfl ?_|refine R.fa rfl rfl ?_|refine R.lenM rfl ?_|refine R.lenO rfl rfl ?_|refine R.len rfl rfl ?_|refine R.lss rfl rfl ?_|refine R.add rfl rfl (by omega) ?_|refine R.ixN rfl rfl rfl (by omega) (fun a ha => ?_)|refine R.ixM rfl rfl rfl (by omega) (fun a ha => ?_)|refine R.ixON rfl rfl rfl (by first|omega|(simp; omega)) (fun a' ha' => ?_)|refine R.ixO rfl rfl rfl (by first|omega|(simp; omega)) (fun a' ha' => ?_)|refine R.nc rfl rfl ?_|refine R.nc0 rfl rfl ?_|refine R.al rfl ?_|refine R.stoB rfl rfl rfl rfl ⟨rfl, rfl, Nat.le_of_ble_eq_true rfl⟩ rfl ?_|refine R.stoE _ rfl rfl rfl rfl rfl (by assumption) rfl ⟨rfl, rfl, Nat.le_of_ble_eq_true rfl⟩ ?_|refine R.condT rfl ?_|refine R.condF rfl ?_|refine R.bsl (f := enI) [u] rfl rfl rfl rfl rfl ?_|refine R.app (f := enI) (fun _ => rfl) rfl rfl rfl rfl rfl ⟨by simp only [List.length_map, List.length_take, List.length_singleton]; omega, by simp only [List.length_map, List.length_take, List.length_singleton]; omega⟩ ?_|refine R.cond rfl (fun hc => ?_) (fun hc => ?_)|refine R.condN rfl (fun hc => ?_) (fun hc => ?_)|refine R.condB rfl (fun hc => ?_) (fun hc => ?_))
    all_goals first
      | (exfalso; omega)
      | exact R.nloop (R.again (i + 1) (by omega) (by omega) ⟨rfl, rfl, rfl, rfl, trivial⟩ ⟨rfl, arr_eq (by rw [take_snoc hw, List.map_append, List.map_singleton, hgd]), trivial⟩ rfl rfl)
  obtain rfl : i = c.fOutputs.length := by omega
  repeat' (first|refine R.mv rfl ?_|refine R.reg ?_|refine R.nil ?_|refine R.seq ?_|refine R.nseq ?_|refine R.nblk ?_|refine R.skip ?_|refine R.blk ?_|refine R.exit rfl ?_|refine R.ldEp rfl rfl (by assumption) rfl rfl ?_|refine R.ldaEp rfl rfl (by assumption) (lbT rfl) rfl rfl ?_|refine R.ld rfl rfl rfl ?_|refine R.lda rfl rfl (lbT rfl) rfl ?_|refine R.fa rfl rfl ?_|refine R.lenM rfl ?_|refine R.lenO rfl rfl ?_|refine R.len rfl rfl ?_|refine R.lss rfl rfl ?_|refine R.add rfl rfl (by omega) ?_|refine R.ixN rfl rfl rfl (by omega) (fun a ha => ?_)|refine R.ixM rfl rfl rfl (by omega) (fun a ha => ?_)|refine R.ixON rfl rfl rfl (by first|omega|(simp; omega)) (fun a' ha' => ?_)|refine R.ixO rfl rfl rfl (by first|omega|(simp; omega)) (fun a' ha' => ?_)|refine R.nc rfl rfl ?_|refine R.nc0 rfl rfl ?_|refine R.al rfl ?_|refine R.stoB rfl rfl rfl rfl ⟨rfl, rfl, Nat.le_of_ble_eq_true rfl⟩ rfl ?_|refine R.stoE _ rfl rfl rfl rfl rfl (by assumption) rfl ⟨rfl, rfl, Nat.le_of_ble_eq_true rfl⟩ ?_|refine R.condT rfl ?_|refine R.condF rfl ?_|refine R.cond rfl (fun hc => ?_) (fun hc => ?_)|refine R.condN rfl (fun hc => ?_) (fun hc => ?_)|refine R.condB rfl (fun hc => ?_) (fun hc => ?_))
  all_goals first
    | (exfalso; omega)
    | exact R.ret ⟨.inr rfl, R.outN rfl rfl (arr_eq (by rw [List.take_length]; rfl))⟩
theorem sCirT {c : TCircuit} (h : okC c) : Spec Tryz.prog 27 [vP (enCircuit c)] (oB true) := by have := sOk c; rwa [bP_iff.2 h] at this
theorem sCirF {c : TCircuit} (h : ¬ okC c) : Spec Tryz.prog 27 [vP (enCircuit c)] (oB false) := by have := sOk c; rwa [bP_not.2 h] at this
end
end Go.Proofs.YtehkaajakapkmaaGreat
