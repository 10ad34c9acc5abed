/- The search for the least cover, walked. -/
import Derived.Test.YtehkaajakapkmaaSea0
namespace Go.Proofs.Ytehkaajakapkmaa
open Go.RowKit Go.Lib
set_option maxRecDepth 100000
set_option maxHeartbeats 2000000
abbrev Kept := RgX.Kept
theorem run_eqnil (w : World) (a : Addr) (n c : Nat) : (binOp BinOp.eql 46 (.slice (some a) n c) (.slice none 0 0)).run Try.prog w = .ok (.bool false) w := by
  simp only [binOp, Sem.run_bind, run_equal_slice_nil w 46 3 (some a) n c Try.underlying46, Result.andThen_ok, Sem.run_pure, Option.isNone_some]
theorem run_eqnil0 (w : World) : (binOp BinOp.eql 46 (.slice none 0 0) (.slice none 0 0)).run Try.prog w = .ok (.bool true) w := by
  simp only [binOp, Sem.run_bind, run_equal_slice_nil w 46 3 none 0 0 Try.underlying46, Result.andThen_ok, Sem.run_pure, Option.isNone_none]
theorem natV_one {l : List Nat} {v : Value} (h : v ∈ l.map natV) : v.oneCell' = true := by
  obtain ⟨k, _, rfl⟩ := List.mem_map.1 h
  rfl
/-- A row copied behind an empty one that is new. -/
theorem app_copy {w : World} {B : Nat} {lv : Value} {pre : List Nat} (hL : w.ownsRow B 3 1 lv pre.length (pre.map natV)) (hl : pre.length ≤ 1000) : ∀ ty, ∃ v' w', (Builtin.append_ #[46, 46] ty #[.slice (some ⟨w.heap.size, 0, none⟩) 0 0, lv]).run Try.prog (w.alloc (.cells #[] 3)) = .ok v' w' ∧ (∃ a n k, v' = .slice (some a) n k) ∧ w'.ownsRow w.heap.size 3 1 v' pre.length (pre.map natV) ∧ Below w.heap.size w w' := fun ty => by
  obtain ⟨i0, hi, hz0, hz1, hz2⟩ := info_parts infoInt
  have hal : Below w.heap.size w (w.alloc (.cells #[] 3)) := (Below.refl _ w).alloc (Nat.le_refl _) _
  have hnew : (w.alloc (.cells #[] 3)).heap[w.heap.size]? = some (.cells #[] 3 (0, 0)) := alloc_new_at w _
  have h1 : (w.alloc (.cells #[] 3)).ownsRow w.heap.size 3 1 (.slice (some ⟨w.heap.size, 0, none⟩) 0 0) 0 [] := ⟨rfl, .inr ⟨_, 0, #[], rfl, Nat.le_refl _, hnew, Nat.le_refl _, Nat.zero_le _, rfl, rfl⟩⟩
  rcases hL.2 with ⟨rfl, hz⟩ | ⟨g, cap, cur, rfl, hg, hgb, hnc, hm, hcs, hct⟩
  · obtain rfl : pre = [] := List.eq_nil_of_length_eq_zero hz
    exact ⟨_, _, run_append_owned_none (P := Try.prog) _ w.heap.size 46 ty 3 i0 1 Try.underlying46 hi _ 0 _ h1, ⟨_, _, _, rfl⟩, h1, hal⟩
  · have hgl : g < w.heap.size := by
      rcases Nat.lt_or_ge g w.heap.size with h | h
      · exact h
      · simp [Array.getElem?_eq_none h] at hgb
    have hgn : (w.alloc (.cells #[] 3)).heap[g]? = some (.cells cur 3 (0, 0)) := (hal.block g hgl).trans hgb
    obtain ⟨v', w', hr, r1, r2, r3, r4⟩ := run_append_own_at (P := Try.prog) (w.alloc (.cells #[] 3)) w.heap.size 46 ty 3 i0 (.int .i64 0) 1 8 Try.underlying46 hi hz0 hz1 hz2 rfl (by decide) _ 0 _ h1 ⟨g, 0, none⟩ pre.length cap (pre.map natV) (by simp) (fun j u hj => by
      rw [Addr.add_lit, Nat.zero_add]
      rw [← hct, List.getElem?_take] at hj
      split at hj
      · simp [World.cell?, hgn]
        simpa using hj
      · cases hj) (fun u hu => natV_one hu) (by unfold maxLen; omega) (by omega) (by rw [World.size_alloc]; omega)
    rw [Nat.zero_add, List.nil_append] at r1
    refine ⟨v', w', hr, ?_, r1, hal.grown r2 (by rw [World.size_alloc]; omega) fun k e => ?_⟩
    · rcases r1.2 with ⟨e, _⟩ | ⟨g', cap', cur', e, _⟩
      · have := (r3.1 e).1
        cases this
      · exact ⟨_, _, _, e⟩
    · cases e
      exact Nat.le_refl _
theorem box_set {w : World} {g : Nat} {c : Array Value} {T : TypeId} {fz : Nat × Nat} (h : w.heap[g]? = some (.cells c T fz)) (i : Nat) (v : Value) : (w.setCell ⟨g, i, none⟩ v).heap[g]? = some (.cells (c.setIfInBounds i v) T fz) ∧ Kept (fun b => b = g) w.heap.size w (w.setCell ⟨g, i, none⟩ v) ∧ (w.setCell ⟨g, i, none⟩ v).heap.size = w.heap.size := by
  rw [setCell_eq_setRow w g i _ _ _ v h]
  have hs : (w.setRow g (c.setIfInBounds i v)).heap.size = w.heap.size := by simp [World.setRow]
  exact ⟨setRow_heap w g _ _ _ _ h, ⟨rfl, rfl, rfl, by rw [hs]; exact Nat.le_refl _, fun k _ hk => setRow_other w g k _ hk⟩, hs⟩
theorem ownsRow_mono {w : World} {B B' e n : Nat} {v : Value} {xs : List Value} (h : w.ownsRow B e 1 v n xs) (hb : B' ≤ B) : w.ownsRow B' e 1 v n xs := ⟨h.1, h.2.imp id fun ⟨g, cap, cur, h1, h2, h3⟩ => ⟨g, cap, cur, h1, Nat.le_trans hb h2, h3⟩⟩
/-- What is kept of the best list found. -/
def BestOk (B : Nat) (care : Nat → Int) (w : World) : Option (List Nat) → Value → Int → Prop
  | none, bv, c => bv = .slice none 0 0 ∧ c = 0
  | some l, bv, c => (∃ a n k, bv = .slice (some a) n k) ∧ w.ownsRow B 3 1 bv l.length (l.map natV) ∧ c = cstL care l
structure CovI (w0 : World) (bx : Nat) (pv sv : Value) (care : Nat → Int) (whole : Nat) (w : World) (b : Option (List Nat)) (bv : Value) (cst : Int) : Prop where
  kept : Kept (fun x => x = bx) w0.heap.size w0 w
  box : w.heap[bx]? = some (.cells #[pv, sv, .int .u64 whole, bv, .int .i64 cst] 48 (0, 0))
  best : BestOk w0.heap.size care w b bv cst
structure CovD (w0 : World) (bx : Nat) (pv sv : Value) (np : Nat) (care : Nat → Int) (st : Nat → Nat) : Prop where
  lt : bx < w0.heap.size
  prim : ∀ k, k < np → ∃ pb po pc, pv = .slice (some ⟨pb, po, none⟩) np pc ∧ pb < w0.heap.size ∧ pb ≠ bx ∧ w0.cell? ⟨pb, po + k * 2, none⟩ = some (.int .i64 (care k))
  sets : ∀ k, k < np → ∃ sb so sc, sv = .slice (some ⟨sb, so, none⟩) np sc ∧ sb < w0.heap.size ∧ sb ≠ bx ∧ w0.cell? ⟨sb, so + k, none⟩ = some (.int .u64 (st k))
  plen : ∃ a c, pv = .slice a np c
  care16 : ∀ k, ∃ c : Nat, c < 16 ∧ care k = c
  st63 : ∀ k, st k < 2 ^ 63
  np : np ≤ 1000
abbrev cvN (st : Nat → Nat) (whole : Nat) (x : List Nat) : Prop := setL st x = whole
/-- What a search leaves. -/
def After1 (w0 : World) (bx : Nat) (pv sv : Value) (care : Nat → Int) (whole : Nat) (w : World) (lv : Value) (pre : List Nat) (bv : Value) (b' : Option (List Nat)) (w' : World) : Prop :=
  ∃ bv' cst', CovI w0 bx pv sv care whole w' b' bv' cst' ∧ Kept (fun x => x = bx ∨ lv.ownBlock = some x) w.heap.size w w' ∧ w'.ownsRow w0.heap.size 3 1 lv pre.length (pre.map natV) ∧ (bv'.ownBlock = bv.ownBlock ∨ ∃ g, bv'.ownBlock = some g ∧ w.heap.size ≤ g)
theorem search0 {w0 : World} {bx : Nat} {pv sv : Value} {np : Nat} {care : Nat → Int} {st : Nat → Nat} {whole : Nat} (hD : CovD w0 bx pv sv np care st) (f a : Nat) (pre : List Nat) (b : Option (List Nat)) (w : World) (lv bv : Value) (cst : Int) (hl : pre.length ≤ 1000) (hI : CovI w0 bx pv sv care whole w b bv cst) (hL : w.ownsRow w0.heap.size 3 1 lv pre.length (pre.map natV)) (hne : ∀ g, lv.ownBlock = some g → bv.ownBlock ≠ some g) :
    Calls Try.prog 25 #[.pointer (some ⟨bx, 0, none⟩), lv, .int .i64 a, .int .i64 0, .int .u64 (setL st pre : Nat), .int .i64 (cstL care pre)] w fun e w' => e = .returned (.tuple #[]) ∧ After1 w0 bx pv sv care whole w lv pre bv (srch (cvN st whole) (cstL care) f 0 a pre b) w' := by
  have h2 : w.cell? ⟨bx, 2, none⟩ = some (.int .u64 whole) := by simp [World.cell?, hI.box]
  have h3 : w.cell? ⟨bx, 3, none⟩ = some bv := by simp [World.cell?, hI.box]
  have h4 : w.cell? ⟨bx, 4, none⟩ = some (.int .i64 cst) := by simp [World.cell?, hI.box]
  have f3 : ∀ W : World, W.heap[bx]? = w.heap[bx]? → W.frozen? ⟨bx, 3, none⟩ = false ∧ W.frozen? ⟨bx, 4, none⟩ = false := fun W h => by simp [World.frozen?, h, hI.box]
  rw [srch_zero]
  have hkeep : After1 w0 bx pv sv care whole w lv pre bv b w := ⟨bv, cst, hI, RgX.Kept.refl _ _ _, hL, .inl rfl⟩
  by_cases hc : setL st pre = whole
  case neg =>
    have hq : (((setL st pre : Nat) : Int) == (whole : Int)) = false := beq_eq_false_iff_ne.2 (by omega)
    have hu : updI (cvN st whole) (cstL care) b pre = b := updI_keep _ _ hc
    rw [hu]
    have HK := Lib.hid hkeep
    clear hkeep hu hI hL hne hD hc
    go_enter Try.func25, Try.ntmps25
    go_wp2
    (try simp only [Exit.inBlock, Exit.then])
    refine bodyPost_ret (results_none rfl _ _ _) rfl ?_
    exact ⟨rfl, HK.out⟩
  have hq : (((setL st pre : Nat) : Int) == (whole : Int)) = true := beq_iff_eq.2 (by omega)
  have hput : ∀ ty, ∃ a' n' k' w', (Builtin.append_ #[46, 46] ty #[.slice (some ⟨w.heap.size, 0, none⟩) 0 0, lv]).run Try.prog (w.alloc (.cells #[] 3)) = .ok (.slice (some a') n' k') w' ∧ w'.frozen? ⟨bx, 3, none⟩ = false ∧ w'.frozen? ⟨bx, 4, none⟩ = false ∧ w'.cell? ⟨bx, 3, none⟩ = some bv ∧ w'.cell? ⟨bx, 4, none⟩ = some (.int .i64 cst) ∧ Hid (After1 w0 bx pv sv care whole w lv pre bv (some pre) ((w'.setCell ⟨bx, 3, none⟩ (.slice (some a') n' k')).setCell ⟨bx, 4, none⟩ (.int .i64 (cstL care pre)))) := fun ty => by
    obtain ⟨v', w', hr, ⟨a', n', k', rfl⟩, how, hbel⟩ := app_copy hL hl ty
    have hbx : bx < w.heap.size := Nat.lt_of_lt_of_le hD.lt hI.kept.size
    have hb0 := (hbel.block bx hbx).trans hI.box
    obtain ⟨g1, g2, g3⟩ := box_set hb0 3 (.slice (some a') n' k')
    obtain ⟨q1, q2, q3⟩ := box_set g1 4 (.int .i64 (cstL care pre))
    have hK : Kept (fun x => x = bx) w.heap.size w ((w'.setCell ⟨bx, 3, none⟩ (.slice (some a') n' k')).setCell ⟨bx, 4, none⟩ (.int .i64 (cstL care pre))) := ((RgX.Kept.of hbel).trans g2 hbel.size).trans q2 (by rw [g3]; exact hbel.size)
    have hown : ((w'.setCell ⟨bx, 3, none⟩ (.slice (some a') n' k')).setCell ⟨bx, 4, none⟩ (.int .i64 (cstL care pre))).ownsRow w0.heap.size 3 1 (.slice (some a') n' k') pre.length (pre.map natV) := by
      have h5 := ownsRow_keep (W' := (w'.setCell ⟨bx, 3, none⟩ (.slice (some a') n' k')).setCell ⟨bx, 4, none⟩ (.int .i64 (cstL care pre))) how fun g hg => by
        have h6 := how.lt g hg
        exact (q2.block g (by rw [g3]; exact h6.2) (by omega)).trans (g2.block g h6.2 (by omega))
      exact ownsRow_mono h5 hI.kept.size
    refine ⟨a', n', k', w', hr, by simp [World.frozen?, hb0], by simp [World.frozen?, hb0], by simp [World.cell?, hb0], by simp [World.cell?, hb0], Lib.hid ⟨_, cstL care pre, ⟨hI.kept.trans hK hI.kept.size, q1, ⟨_, _, _, rfl⟩, hown, rfl⟩, ⟨hK.os, hK.tape, hK.output, hK.size, fun x hx hm => hK.block x hx fun e => hm (.inl e)⟩, ?_, ?_⟩⟩
    · exact ownsRow_keep hL fun g hg => hK.block g (hL.lt g hg).2 (by have := (hL.lt g hg).1; have := hD.lt; omega)
    · exact .inr ⟨_, rfl, (how.lt _ rfl).1⟩
  have hBest := hI.best
  cases b with
  | none =>
    obtain ⟨rfl, rfl⟩ := hBest
    have hnil := run_eqnil0
    have hu : updI (cvN st whole) (cstL care) none pre = some pre := if_pos ⟨hc, fun x hx => by cases hx⟩
    rw [hu]
    clear hkeep hu hI hL hne hD hc f3
    obtain ⟨a', n', k', w', hr, hf3, hf4, hc3, hc4, HA⟩ := hput 46
    clear hput
    go_enter Try.func25, Try.ntmps25
    go_wp2_with (at_builtin; refine Lib.wpList_append_run _ rfl _ _ _ _ rfl _ _ rfl rfl _ _ hr ?_)
    (try simp only [Exit.inBlock, Exit.then])
    refine bodyPost_ret (results_none rfl _ _ _) rfl ?_
    exact ⟨rfl, HA.out⟩
  | some l =>
    obtain ⟨⟨ba, bn, bc, rfl⟩, hbo, rfl⟩ := hBest
    have hnil := fun W => run_eqnil W ba bn bc
    by_cases hlt : cstL care pre < cstL care l
    · have hu : updI (cvN st whole) (cstL care) (some l) pre = some pre := if_pos ⟨hc, fun x hx => by cases hx; exact hlt⟩
      rw [hu]
      clear hkeep hu hI hL hne hD hc f3 hbo
      obtain ⟨a', n', k', w', hr, hf3, hf4, hc3, hc4, HA⟩ := hput 46
      clear hput
      go_enter Try.func25, Try.ntmps25
      go_wp2_with (at_builtin; refine Lib.wpList_append_run _ rfl _ _ _ _ rfl _ _ rfl rfl _ _ hr ?_)
      (try simp only [Exit.inBlock, Exit.then])
      refine bodyPost_ret (results_none rfl _ _ _) rfl ?_
      exact ⟨rfl, HA.out⟩
    · have hu : updI (cvN st whole) (cstL care) (some l) pre = some l := if_neg fun h => hlt (h.2 l rfl)
      rw [hu]
      have HK := Lib.hid hkeep
      clear hkeep hu hI hL hne hD hc f3 hbo hput
      go_enter Try.func25, Try.ntmps25
      go_wp2
      (try simp only [Exit.inBlock, Exit.then])
      refine bodyPost_ret (results_none rfl _ _ _) rfl ?_
      exact ⟨rfl, HK.out⟩
end Go.Proofs.Ytehkaajakapkmaa
