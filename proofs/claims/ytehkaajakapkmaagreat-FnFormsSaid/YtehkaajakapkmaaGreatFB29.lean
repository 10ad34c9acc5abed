/- Texts of one proof, one behind the other. -/
import Derived.Test.YtehkaajakapkmaaGreatFB22
import Derived.Test.YtehkaajakapkmaaGreatFB28
namespace Go.Proofs.YtehkaajakapkmaaGreat
section
open Go.RowKit Go.Lib
set_option maxRecDepth 100000
set_option maxHeartbeats 2000000
abbrev kU : Ky := ⟨109, 1⟩
abbrev kInt : Ky := ⟨3, 1⟩
abbrev enU (st : Nat → Nat) (k : Nat) : List D := [.pv (.int .u64 (st k : Nat))]
def careF (ps : List TCube) (k : Nat) : Int := (ps.getD k ⟨0, 0⟩).fCare
abbrev covB (ps : List TCube) (st : Nat → Nat) (whole : Nat) (bv : B) (cst : Int) : List B := [.d (.rd kCube (ps.map enCube)), .d (.rd kU ((List.range ps.length).map (enU st))), .d (.pv (.int .u64 whole)), bv, .d (iD cst)]
theorem F2.five {α β : Type} {r : α → β → Prop} {vs : List α} {a b c d e : β} (h : F2 r vs [a, b, c, d, e]) : ∃ v1 v2 v3 v4 v5, vs = [v1, v2, v3, v4, v5] ∧ r v1 a ∧ r v2 b ∧ r v3 c ∧ r v4 d ∧ r v5 e := by
  cases h with | cons h1 h => cases h with | cons h2 h => cases h with | cons h3 h => cases h with | cons h4 h => cases h with | cons h5 h =>
  cases h
  exact ⟨_, _, _, _, _, rfl, h1, h2, h3, h4, h5⟩
theorem rd_cubes {w : World} {R : Nat → Prop} {bx : Nat} {v : Value} {ps : List TCube} (hR : ∀ b, R b → b < w.heap.size) (hn : ¬ R bx) (h : RD w R v (.rd kCube (ps.map enCube))) : (∃ a c, v = .slice a ps.length c) ∧ ∀ k, k < ps.length → ∃ pb po pc, v = .slice (some ⟨pb, po, none⟩) ps.length pc ∧ pb < w.heap.size ∧ pb ≠ bx ∧ w.cell? ⟨pb, po + k * 2, none⟩ = some (.int .i64 (careF ps k)) := by
  generalize hxs : ps.map enCube = xs at h
  cases h with
  | nil =>
    obtain rfl : ps = [] := List.map_eq_nil_iff.1 hxs
    exact ⟨⟨_, _, rfl⟩, fun k hk => absurd hk (Nat.not_lt_zero _)⟩
  | rd cc g0 g1 g2 gR gk gc gr =>
    rename_i b0 off0 cap0
    have hln : xs.length = ps.length := by rw [← hxs]; simp
    refine ⟨⟨_, _, by rw [hln]⟩, fun k hk => ⟨b0, off0, cap0, by rw [hln], hR _ gR, fun e => hn (e ▸ gR), ?_⟩⟩
    have hq : ps[k]? = some ps[k] := List.getElem?_eq_getElem hk
    have hx : xs[k]? = some (enCube ps[k]) := by rw [← hxs, List.getElem?_map, hq]; rfl
    have e1 := gc k _ 0 hx (by decide)
    have r1 := gr k _ 0 _ hx rfl
    have hcf : careF ps k = ps[k].fCare := by unfold careF; rw [List.getD_eq_getElem?_getD, hq]; rfl
    generalize hcv : cc k 0 = cv at *
    cases r1
    rw [hcf]
    exact e1
theorem rd_sets {w : World} {R : Nat → Prop} {bx n : Nat} {st : Nat → Nat} {v : Value} (hR : ∀ b, R b → b < w.heap.size) (hn : ¬ R bx) (h : RD w R v (.rd kU ((List.range n).map (enU st)))) : ∀ k, k < n → ∃ pb po pc, v = .slice (some ⟨pb, po, none⟩) n pc ∧ pb < w.heap.size ∧ pb ≠ bx ∧ w.cell? ⟨pb, po + k, none⟩ = some (.int .u64 (st k : Nat)) := by
  generalize hxs : (List.range n).map (enU st) = xs at h
  cases h with
  | nil =>
    intro k hk
    have := congrArg List.length hxs
    simp at this
    omega
  | rd cc g0 g1 g2 gR gk gc gr =>
    rename_i b0 off0 cap0
    have hln : xs.length = n := by rw [← hxs]; simp
    intro k hk
    refine ⟨b0, off0, cap0, by rw [hln], hR _ gR, fun e => hn (e ▸ gR), ?_⟩
    have hx : xs[k]? = some (enU st k) := by rw [← hxs, List.getElem?_map, List.getElem?_range hk]; rfl
    have e1 := gc k _ 0 hx (by decide)
    have r1 := gr k _ 0 _ hx rfl
    generalize hcv : cc k 0 = cv at *
    cases r1
    simpa using e1
theorem okI_lit {n : Int} (h : -10000 ≤ n ∧ n ≤ 10000) : okI (.int .i64 n) := by
  show (Lit.int .i64 n).wf = true
  rw [wf_iff]
  simp [IntKind.min, IntKind.max, IntKind.signed, IntKind.bits]
  omega
theorem ET.ofNats {W : World} : ∀ {x : List Nat}, (∀ k ∈ x, okI (.int .i64 (k : Int))) → ET W (x.map natV) (ints (x.map fun k : Nat => (k : Int))).flatten []
  | [], _ => .nil
  | k :: x, h => .pv rfl (h k (by simp)) (ET.ofNats fun m hm => h m (by simp [hm]))
theorem frOp {p o : Nat} {X x : Ob} (h : frO [(p, X)] o = some x) : o = p ∧ x = X := by
  simp only [frO, upd] at h
  split at h
  · cases h; exact ⟨by assumption, rfl⟩
  · cases h
theorem search_at {ps : List TCube} {st : Nat → Nat} {whole many : Nat} (hps : ps.length ≤ 500) (hmany : many ≤ 500) (hcare : careOk ps) (hst : ∀ k, st k < 2 ^ 63) {w : World} {R : Nat → Prop} {ι : Nat → Value} {φ : Nat → List Nat} (hR : ∀ b, R b → b < w.heap.size) (ho : ObjsOk w R ι φ (frO [(pin 0, .box 121 (covB ps st whole nilB 0))])) : ∃ bx pv sv, ι (pin 0) = .pointer (some ⟨bx, 0, none⟩) ∧ φ (pin 0) = [bx] ∧ bx < w.heap.size ∧ ¬ R bx ∧ RD w R pv (.rd kCube (ps.map enCube)) ∧ RD w R sv (.rd kU ((List.range ps.length).map (enU st))) ∧ okI (.int .u64 whole) ∧
    Calls Tryz.prog 90 #[.pointer (some ⟨bx, 0, none⟩), .slice none 0 0, .int .i64 0, .int .i64 many, .int .u64 0, .int .i64 0] w fun e w' => e = .returned (.tuple #[]) ∧ After1 w bx pv sv (careF ps) whole w (.slice none 0 0) [] (.slice none 0 0) (srch (cvN st whole) (cstL (careF ps)) ps.length many 0 [] none) w' := by
  have hX : frO [(pin 0, Ob.box 121 (covB ps st whole nilB 0))] (pin 0) = some (.box 121 (covB ps st whole nilB 0)) := rfl
  obtain ⟨bx, vs, h1, h2, h3, h4⟩ := ho.1 _ _ hX
  obtain ⟨pv, sv, v3, v4, v5, rfl, r1, r2, r3, r4, r5⟩ := F2.five h4
  have hmine := ho.2.1 _ _ hX bx (by rw [h2]; simp)
  have r1 : RD w R pv (.rd kCube (ps.map enCube)) := r1
  have r2 : RD w R sv (.rd kU ((List.range ps.length).map (enU st))) := r2
  have r3 : RD w R v3 (.pv (.int .u64 whole)) := r3
  have r4 : RD w R v4 (.pv (.slice none 0 0)) := r4
  have r5 : RD w R v5 (.pv (.int .i64 0)) := r5
  have hw : okI (.int .u64 whole) := by cases r3; assumption
  cases r3
  cases r4
  cases r5
  have hpc := rd_cubes hR hmine.1 r1
  have hD : CovD w bx pv sv ps.length (careF ps) st := ⟨hmine.2, hpc.2, rd_sets hR hmine.1 r2, hpc.1, fun k => by
    unfold careF
    by_cases hk : k < ps.length
    · rw [List.getD_eq_getElem?_getD, List.getElem?_eq_getElem hk]
      obtain ⟨e1, e2⟩ := hcare _ (List.getElem_mem hk)
      exact ⟨ps[k].fCare.toNat, by omega, by show ps[k].fCare = _; omega⟩
    · rw [List.getD_eq_getElem?_getD, List.getElem?_eq_none (by omega)]
      exact ⟨0, by omega, rfl⟩, hst, by omega⟩
  exact ⟨bx, pv, sv, h1, h2, hmine.2, hmine.1, r1, r2, hw, search1 hD many ps.length 0 [] none w (.slice none 0 0) (.slice none 0 0) 0 (by omega) (by simp; omega) ⟨RgX.Kept.refl _ _ _, h3, rfl, rfl⟩ (World.ownsRow_nil _ _ _ _) (fun g hg => by cases hg)⟩
theorem kept_below {w w' : World} {φ : Nat → List Nat} {ins : Nat → Option Ob} {bx : Nat} {X : Ob} (hX : ins (pin 0) = some X) (hφ : φ (pin 0) = [bx]) (h : Kept (fun x => x = bx ∨ (Value.slice none 0 0).ownBlock = some x) w.heap.size w w') : BelowM (fpO φ ins) w w' :=
  ⟨h.os, h.tape, h.output, h.size, fun k hk hM => h.block k hk fun e => by
    rcases e with e | e
    · exact hM ⟨pin 0, _, hX, by rw [hφ, e]; simp⟩
    · cases e⟩
theorem iSearchN {ps : List TCube} {st : Nat → Nat} {whole many : Nat} (hps : ps.length ≤ 500) (hmany : many ≤ 500) (hcare : careOk ps) (hst : ∀ k, st k < 2 ^ 63) (hno : srch (cvN st whole) (cstL (careF ps)) ps.length many 0 [] none = none) : SpecM Tryz.prog 90 [.c (.ptr (pin 0) 0), .c nilB, .c (.d (iD 0)), .c (.d (iD many)), .c (.d (.pv (.int .u64 0))), .c (.d (iD 0))] [(pin 0, .box 121 (covB ps st whole nilB 0))] (.tup []) [(pin 0, .box 121 (covB ps st whole nilB 0))] := by
  refine ⟨callFunc_enter Tryz.func90 rfl (by simp [Tryz.f90]), fun w R ι φ vs hR hF ho => ?_⟩
  obtain ⟨bx, pv, sv, h1, h2, hlt, hn, r1, r2, hw, hC⟩ := search_at hps hmany hcare hst hR ho
  have hX : frO [(pin 0, Ob.box 121 (covB ps st whole nilB 0))] (pin 0) = some (.box 121 (covB ps st whole nilB 0)) := rfl
  cases hF with | cons q1 hF => cases hF with | cons q2 hF => cases hF with | cons q3 hF => cases hF with | cons q4 hF => cases hF with | cons q5 hF => cases hF with | cons q6 hF =>
  cases hF
  obtain ⟨_, g, e1, rfl⟩ := q1
  rw [h1] at e1
  cases e1
  rename_i u2 u3 u4 u5 u6 _
  have q2 : RD w R u2 (.pv (.slice none 0 0)) := q2
  have q3 : RD w R u3 (.pv (.int .i64 0)) := q3
  have q4 : RD w R u4 (.pv (.int .i64 many)) := q4
  have q5 : RD w R u5 (.pv (.int .u64 0)) := q5
  have q6 : RD w R u6 (.pv (.int .i64 0)) := q6
  cases q2
  cases q3
  cases q4
  cases q5
  cases q6
  refine hC.mono ?_
  rintro e w' ⟨rfl, bv, cst, hI, hk, -, -⟩
  rw [hno] at hI
  obtain ⟨rfl, rfl⟩ := hI.best
  have hbm := kept_below (φ := φ) hX h2 hk
  have hkeep : ∀ b, R b → w'.heap[b]? = w.heap[b]? := fun b hb => hbm.block b (hR b hb) fun ⟨o, x, e1, e2⟩ => (ho.2.1 o x e1 b e2).1 hb
  refine ⟨_, rfl, R, ι, φ, hbm, fun b h => h, fun b h => Nat.lt_of_lt_of_le (hR b h) hbm.size, fun b h _ => .inl h, ⟨[], rfl, .nil⟩, ⟨fun o x hf => ?_, fun o x hf g hg => ?_, fun o p x y g hf hf' _ _ => (frOp hf).1.trans (frOp hf').1.symm, ho.2.2.2.keep (fun _ h => h) hkeep⟩, fun g hf => .inl hf, fun o hf => rfl⟩
  · obtain ⟨rfl, rfl⟩ := frOp hf
    refine ⟨bx, [pv, sv, .int .u64 whole, .slice none 0 0, .int .i64 0], h1, h2, hI.box, ?_⟩
    exact .cons (RD.keep (fun _ h => h) hkeep r1) (.cons (RD.keep (fun _ h => h) hkeep r2) (.cons (.pv rfl hw) (.cons (.pv rfl (by assumption)) (.cons (.pv rfl (by assumption)) .nil))))
  · obtain ⟨rfl, rfl⟩ := frOp hf
    rw [h2] at hg
    obtain rfl := List.mem_singleton.1 hg
    exact ⟨hn, Nat.lt_of_lt_of_le hlt hbm.size⟩
theorem iSearchS {x : List Nat} (hx : x.length ≤ 500) (hxk : ∀ k ∈ x, k < 500) {ps : List TCube} {st : Nat → Nat} {whole many : Nat} (hps : ps.length ≤ 500) (hmany : many ≤ 500) (hcare : careOk ps) (hst : ∀ k, st k < 2 ^ 63) (hno : srch (cvN st whole) (cstL (careF ps)) ps.length many 0 [] none = some x) : SpecM Tryz.prog 90 [.c (.ptr (pin 0) 0), .c nilB, .c (.d (iD 0)), .c (.d (iD many)), .c (.d (.pv (.int .u64 0))), .c (.d (iD 0))] [(pin 0, .box 121 (covB ps st whole nilB 0))] (.tup []) [(pin 0, .box 121 (covB ps st whole (.own 0) (cstL (careF ps) x))), (0, .arr kInt (ints (x.map fun k : Nat => (k : Int))) [])] := by
  refine ⟨callFunc_enter Tryz.func90 rfl (by simp [Tryz.f90]), fun w R ι φ vs hR hF ho => ?_⟩
  obtain ⟨bx, pv, sv, h1, h2, hlt, hn, r1, r2, hw, hC⟩ := search_at hps hmany hcare hst hR ho
  have hX : frO [(pin 0, Ob.box 121 (covB ps st whole nilB 0))] (pin 0) = some (.box 121 (covB ps st whole nilB 0)) := rfl
  cases hF with | cons q1 hF => cases hF with | cons q2 hF => cases hF with | cons q3 hF => cases hF with | cons q4 hF => cases hF with | cons q5 hF => cases hF with | cons q6 hF =>
  cases hF
  obtain ⟨_, g, e1, rfl⟩ := q1
  rw [h1] at e1
  cases e1
  rename_i u2 u3 u4 u5 u6 _
  have q2 : RD w R u2 (.pv (.slice none 0 0)) := q2
  have q3 : RD w R u3 (.pv (.int .i64 0)) := q3
  have q4 : RD w R u4 (.pv (.int .i64 many)) := q4
  have q5 : RD w R u5 (.pv (.int .u64 0)) := q5
  have q6 : RD w R u6 (.pv (.int .i64 0)) := q6
  cases q2
  cases q3
  cases q4
  cases q5
  cases q6
  refine hC.mono ?_
  rintro e w' ⟨rfl, bv, cst, hI, hk, -, hnew⟩
  rw [hno] at hI
  obtain ⟨hsl, hown, rfl⟩ := hI.best
  have hbm := kept_below (φ := φ) hX h2 hk
  have hkeep : ∀ b, R b → w'.heap[b]? = w.heap[b]? := fun b hb => hbm.block b (hR b hb) fun ⟨o, x, e1, e2⟩ => (ho.2.1 o x e1 b e2).1 hb
  obtain ⟨g, hg0, hgn⟩ : ∃ g, bv.ownBlock = some g ∧ w.heap.size ≤ g := by
    rcases hnew with h | h
    · obtain ⟨a, n, k, rfl⟩ := hsl
      cases h
    · exact h
  have hgl := (hown.lt g hg0).2
  have hcb := cstL_bd (careF ps) x
  have hO : ∀ {o : Nat} {X : Ob}, frO [(pin 0, Ob.box 121 (covB ps st whole (.own 0) (cstL (careF ps) x))), (0, Ob.arr kInt (ints (x.map fun k : Nat => (k : Int))) [])] o = some X → (o = pin 0 ∧ X = .box 121 (covB ps st whole (.own 0) (cstL (careF ps) x))) ∨ (o = 0 ∧ X = .arr kInt (ints (x.map fun k : Nat => (k : Int))) []) := fun {o X} h => by
    simp only [frO, upd] at h
    split at h
    · cases h; exact .inl ⟨by assumption, rfl⟩
    · split at h
      · cases h; exact .inr ⟨by assumption, rfl⟩
      · cases h
  have hp0 : pin 0 ≠ 0 := by decide
  refine ⟨_, rfl, R, upd ι 0 bv, upd φ 0 [g], hbm, fun b h => h, fun b h => Nat.lt_of_lt_of_le (hR b h) hbm.size, fun b h _ => .inl h, ⟨[], rfl, .nil⟩, ⟨fun o x hf => ?_, fun o x hf g' hg => ?_, fun o p x y g' hf hf' hg hg' => ?_, ho.2.2.2.keep (fun _ h => h) hkeep⟩, fun g' hf => ?_, fun o hf => upd_ne _ _ (fun e => by subst e; exact absurd hf (by decide))⟩
  · rcases hO hf with ⟨rfl, rfl⟩ | ⟨rfl, rfl⟩
    · rw [upd_ne _ _ hp0, upd_ne _ _ hp0]
      refine ⟨bx, [pv, sv, .int .u64 whole, bv, .int .i64 (cstL (careF ps) _)], h1, h2, hI.box, ?_⟩
      exact .cons (RD.keep (fun _ h => h) hkeep r1) (.cons (RD.keep (fun _ h => h) hkeep r2) (.cons (.pv rfl hw) (.cons ⟨⟨_, rfl⟩, (upd_same _ _ _).symm⟩ (.cons (.pv rfl (okI_lit ⟨by omega, by omega⟩)) .nil))))
    · rw [upd_same, upd_same]
      refine ⟨fun es he => ?_, _, [], ?_, EH.of_ET (ET.ofNats fun k hk => okI_lit ⟨by have := hxk k hk; omega, by have := hxk k hk; omega⟩), by rw [hg0]; rfl, by simp⟩
      · obtain ⟨n, _, rfl⟩ := List.mem_map.1 he
        rfl
      · rw [List.length_map, List.length_map]
        exact ownsRow_mono hown (Nat.zero_le _)
  · rcases hO hf with ⟨rfl, rfl⟩ | ⟨rfl, rfl⟩
    · rw [upd_ne _ _ hp0, h2] at hg
      obtain rfl := List.mem_singleton.1 hg
      exact ⟨hn, Nat.lt_of_lt_of_le hlt hbm.size⟩
    · rw [upd_same] at hg
      obtain rfl := List.mem_singleton.1 hg
      exact ⟨fun h => by have := hR _ h; omega, hgl⟩
  · rcases hO hf with ⟨rfl, rfl⟩ | ⟨rfl, rfl⟩ <;> rcases hO hf' with ⟨rfl, rfl⟩ | ⟨rfl, rfl⟩
    · rfl
    · rw [upd_ne _ _ hp0, h2] at hg
      rw [upd_same] at hg'
      have e1 := List.mem_singleton.1 hg
      have e2 := List.mem_singleton.1 hg'
      omega
    · rw [upd_ne _ _ hp0, h2] at hg'
      rw [upd_same] at hg
      have e1 := List.mem_singleton.1 hg
      have e2 := List.mem_singleton.1 hg'
      omega
    · rfl
  · obtain ⟨o, x', hf, hg⟩ := hf
    rcases hO hf with ⟨rfl, rfl⟩ | ⟨rfl, rfl⟩
    · rw [upd_ne _ _ hp0, h2] at hg
      exact .inl ⟨pin 0, _, hX, by rw [h2]; exact hg⟩
    · rw [upd_same] at hg
      obtain rfl := List.mem_singleton.1 hg
      exact .inr hgn
end
end Go.Proofs.YtehkaajakapkmaaGreat
