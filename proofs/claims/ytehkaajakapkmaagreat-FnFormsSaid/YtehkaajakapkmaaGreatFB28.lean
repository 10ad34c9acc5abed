/- Texts of one proof, one behind the other. -/
import Derived.Test.YtehkaajakapkmaaGreatFB27
namespace Go.Proofs.YtehkaajakapkmaaGreat
section
open Go.RowKit Go.Lib
set_option maxRecDepth 100000
set_option maxHeartbeats 4000000
theorem relX_ne {Rx : World → World → Prop} {x i : Nat} {w w' : World} (h : i ≠ x) (hb : Below w.heap.size w w') : RgX.relX Rx x i w w' := by
  unfold RgX.relX
  rw [if_neg h]
  exact hb
theorem relX_eq {Rx : World → World → Prop} {x : Nat} {w w' : World} (hb : Rx w w') : RgX.relX Rx x x w w' := by
  unfold RgX.relX
  rw [if_pos rfl]
  exact hb
theorem wrap_nat (n : Nat) {x : Int} (h : n ≤ 4000) (e : x = (n : Int)) : RowKit.wrap64 x = ((n : Nat) : Int) := by
  rw [e]
  exact IntWalk.wrap64_in _ (by omega)
theorem bits_or {a b : Nat} (ha : a < 2 ^ 63) (hb : b < 2 ^ 63) : bits BinOp.or IntKind.u64 a b = ((a ||| b : Nat) : Int) := by
  have h1 : ∀ n : Nat, n < 2 ^ 63 → (BitVec.ofInt 64 (n : Int)).toNat = n := fun n hn => by
    rw [BitVec.toNat_ofInt]
    omega
  unfold bits
  show IntKind.u64.wrap ((BitVec.ofInt 64 (a : Int) ||| BitVec.ofInt 64 (b : Int)).toNat : Int) = _
  have hlt := Nat.or_lt_two_pow ha hb
  rw [BitVec.toNat_or, h1 a ha, h1 b hb, wrapU ⟨by omega, by omega⟩]
theorem heap_lt {w : World} {g : Nat} {o : Obj} (h : w.heap[g]? = some o) : g < w.heap.size := by
  rcases Nat.lt_or_ge g w.heap.size with h1 | h1
  · exact h1
  · simp [Array.getElem?_eq_none h1] at h
theorem own_keep {w w' : World} {B e : Nat} {v : Value} {n : Nat} {xs : List Value} (h : w.ownsRow B e 1 v n xs) (hb : Below w.heap.size w w') : w'.ownsRow B e 1 v n xs :=
  ownsRow_keep h fun g hg => hb.block g (h.lt g hg).2
theorem app_nat {W : World} {B : Nat} {lv : Value} {pre : List Nat} {k g : Nat} (hB : B ≤ W.heap.size) (hL : W.ownsRow B 3 1 lv pre.length (pre.map natV)) (hl : pre.length ≤ 1000) (hg : W.heap[g]? = some (.cells #[.int .i64 ((k : Nat) : Int)] 3 (0, 0))) (_ : True) : ∀ ty, ∃ v' w', (Builtin.append_ #[119, 119] ty #[lv, .slice (some ⟨g, 0, none⟩) 1 1]).run Tryz.prog W = .ok v' w' ∧ w'.ownsRow B 3 1 v' (pre.length + 1) ((pre ++ [k]).map natV) ∧ Kept (fun b => lv.ownBlock = some b) W.heap.size W w' ∧ w'.ownsRow B 3 1 lv pre.length (pre.map natV) ∧ (v'.ownBlock = lv.ownBlock ∨ ∃ g, v'.ownBlock = some g ∧ W.heap.size ≤ g) := fun ty => by
  obtain ⟨i0, hi, hz0, hz1, hz2⟩ := info_parts infoInt
  have hnew : ∀ j u, [natV k][j]? = some u → W.cell? ((⟨g, 0, none⟩ : Addr).add j) = some u := fun j u hj => by
    rw [Addr.add_lit, Nat.zero_add]
    obtain rfl : j = 0 := by
      rcases j with _ | j
      · rfl
      · simp at hj
    simp only [List.getElem?_cons_zero, Option.some.injEq] at hj
    subst hj
    simp [World.cell?, hg]
    rfl
  have hone : ∀ u ∈ [natV k], u.oneCell' = true := fun u hu => by rw [List.mem_singleton.1 hu]; rfl
  obtain ⟨v', w', hr, r1, r2, _, r4⟩ := run_append_own_at (P := Tryz.prog) W B 119 ty 3 i0 (.int .i64 0) 1 8 Tryz.underlying119 hi hz0 hz1 hz2 rfl (by decide) lv pre.length _ hL ⟨g, 0, none⟩ 1 1 [natV k] rfl hnew hone (by unfold maxLen; omega) (by omega) hB
  have hkept : Kept (fun b => lv.ownBlock = some b) W.heap.size W w' := ⟨r2.os, r2.tape, r2.output, r2.size, fun b hb hm => r2.block b hb fun e => hm e.symm⟩
  have r1' : w'.ownsRow B 3 1 v' (pre.length + 1) ((pre ++ [k]).map natV) := by rw [List.map_append]; exact r1
  refine ⟨v', w', hr, r1', hkept, ?_, r4.imp id fun h => ⟨_, h, Nat.le_refl _⟩⟩
  rcases hL.2 with ⟨rfl, hz⟩ | ⟨gl, cap, cur, rfl, hgl, hgb, hnc, hm, hcs, hct⟩
  · exact ⟨hL.1, .inl ⟨rfl, hz⟩⟩
  · by_cases hroom : pre.length + 1 ≤ cap
    · obtain ⟨w2, hr2, o2, _⟩ := run_append_fits (P := Tryz.prog) W B 119 ty 3 i0 1 Tryz.underlying119 hi hz1 gl pre.length cap _ hL ⟨g, 0, none⟩ 1 1 [natV k] rfl hnew hone hroom
      have e := hr.symm.trans hr2
      simp only [Result.ok.injEq] at e
      obtain ⟨rfl, rfl⟩ := e
      refine ⟨hL.1, ?_⟩
      rcases r1'.2 with ⟨h3, _⟩ | ⟨g3, cap3, cur3, h3, hg3, hgb3, hnc3, hm3, hcs3, hct3⟩
      · cases h3
      · cases h3
        refine .inr ⟨_, _, cur3, rfl, hgl, hgb3, hnc, hm, hcs3, ?_⟩
        have e1 : (cur3.toList.take ((pre.length + 1) * 1)).take pre.length = (pre.map natV) := by
          rw [hct3, List.map_append, List.take_left' (by simp)]
        rw [List.take_take] at e1
        rw [Nat.mul_one]
        rwa [Nat.min_eq_left (by omega)] at e1
    · have hr2 := run_append_grow (P := Tryz.prog) W 119 ty 3 i0 (.int .i64 0) Tryz.underlying119 hi hz0 ⟨gl, 0, none⟩ pre.length cap (pre.map natV) (by rw [hz1]; exact hL.1) (hL.cells (g := gl) rfl) ⟨g, 0, none⟩ 1 1 [natV k] (by rw [hz1]; rfl) hnew (by omega) (by omega) (growslice_fits (by omega) (by rw [hz2]; omega))
      have e := hr.symm.trans hr2
      simp only [Result.ok.injEq] at e
      obtain ⟨rfl, rfl⟩ := e
      have hlt : gl < W.heap.size := heap_lt hgb
      exact ownsRow_keep hL fun g' hg' => by
        obtain rfl : gl = g' := by simpa [Value.ownBlock] using hg'
        exact heap_alloc_old W.drew _ hlt
theorem best_lt {B : Nat} {care : Nat → Int} {w : World} : ∀ {b : Option (List Nat)} {bv : Value} {c : Int}, BestOk B care w b bv c → ∀ g, bv.ownBlock = some g → g < w.heap.size
  | none, bv, _, h, g, hg => by
    obtain rfl : bv = .slice none 0 0 := h.1
    cases hg
  | some l, bv, _, h, g, hg => (h.2.1.lt g hg).2
theorem CovI.step {w0 : World} {bx : Nat} {pv sv : Value} {care : Nat → Int} {whole : Nat} {w w' : World} {b : Option (List Nat)} {bv lv : Value} {cst : Int} (h : CovI w0 bx pv sv care whole w b bv cst) (hlt : bx < w0.heap.size) (hb : Kept (fun x => lv.ownBlock = some x) w.heap.size w w') (hM : ∀ g, lv.ownBlock = some g → w0.heap.size ≤ g) (hne : ∀ g, lv.ownBlock = some g → bv.ownBlock ≠ some g) : CovI w0 bx pv sv care whole w' b bv cst := by
  have hs := h.kept.size
  refine ⟨⟨hb.os.trans h.kept.os, hb.tape.trans h.kept.tape, hb.output.trans h.kept.output, Nat.le_trans hs hb.size, fun x hx hm => (hb.block x (by omega) fun e => by have := hM x e; omega).trans (h.kept.block x hx hm)⟩, (hb.block bx (by omega) fun e => by have := hM bx e; omega).trans h.box, ?_⟩
  have hB := h.best
  cases b with
  | none => exact hB
  | some l =>
    obtain ⟨h1, h2, h3⟩ := hB
    exact ⟨h1, ownsRow_keep h2 fun g hg => hb.block g (h2.lt g hg).2 fun e => hne g e hg, h3⟩
theorem intOf_int (x : Int) : intOf (.int .i64 x) = x := rfl
theorem own_pre {w : World} {B e : Nat} {lv v' : Value} {pre : List Nat} {k : Nat} {w2 : World} (hL : w2.ownsRow B e 1 lv pre.length (pre.map natV)) (h2 : w2.ownsRow B e 1 v' (pre.length + 1) ((pre ++ [k]).map natV)) (he : v'.ownBlock = lv.ownBlock) (h : w.ownsRow B e 1 v' (pre.length + 1) ((pre ++ [k]).map natV)) : w.ownsRow B e 1 lv pre.length (pre.map natV) := by
  refine ⟨hL.1, ?_⟩
  rcases hL.2 with ⟨rfl, hz⟩ | ⟨g, cap, cur, rfl, hg, hgb, hnc, hm, hcs, hct⟩
  · exact .inl ⟨rfl, hz⟩
  · rcases h2.2 with ⟨rfl, hz⟩ | ⟨g2, cap2, cur2, rfl, hg2, hgb2, hnc2, hm2, hcs2, hct2⟩
    · cases he
    · obtain rfl : g2 = g := by simpa [Value.ownBlock] using he
      rw [hgb] at hgb2
      cases hgb2
      rcases h.2 with ⟨h3, _⟩ | ⟨g3, cap3, cur3, h3, hg3, hgb3, hnc3, hm3, hcs3, hct3⟩
      · cases h3
      · cases h3
        refine .inr ⟨_, _, cur3, rfl, hg, hgb3, hnc, hm, by omega, ?_⟩
        have e1 : (cur3.toList.take ((pre.length + 1) * 1)).take pre.length = (pre.map natV) := by
          rw [hct3, List.map_append, List.take_left' (by simp)]
        rw [List.take_take] at e1
        rw [Nat.mul_one]
        rwa [Nat.min_eq_left (by omega)] at e1
theorem search1 {w0 : World} {bx : Nat} {pv sv : Value} {np : Nat} {care : Nat → Int} {st : Nat → Nat} {whole : Nat} (hD : CovD w0 bx pv sv np care st) : ∀ (m f a : Nat) (pre : List Nat) (b : Option (List Nat)) (w : World) (lv bv : Value) (cst : Int), a + f = np → pre.length + m ≤ 1000 → CovI w0 bx pv sv care whole w b bv cst → w.ownsRow w0.heap.size 3 1 lv pre.length (pre.map natV) → (∀ g, lv.ownBlock = some g → bv.ownBlock ≠ some g) →
    Calls Tryz.prog 90 #[.pointer (some ⟨bx, 0, none⟩), lv, .int .i64 a, .int .i64 m, .int .u64 (setL st pre : Nat), .int .i64 (cstL care pre)] w fun e w' => e = .returned (.tuple #[]) ∧ After1 w0 bx pv sv care whole w lv pre bv (srch (cvN st whole) (cstL care) f m a pre b) w' := by
  intro m
  induction m with
  | zero => exact fun f a pre b w lv bv cst hf hl hI hL hne => search0 hD f a pre b w lv bv cst hl hI hL hne
  | succ m ih =>
    intro f a pre b w lv bv cst hf hl hI hL hne
    have hnp := hD.np
    obtain ⟨M, hM⟩ : ∃ M, m + 1 = M := ⟨_, rfl⟩
    rw [hM] at hl ⊢
    have hm0 : ((M : Int) == 0) = false := beq_eq_false_iff_ne.2 (by omega)
    have hAt0 : ∃ (k : Nat) (bk : Option (List Nat)) (bvk : Value) (cstk : Int), Value.int .i64 a = .int .i64 ((k : Nat) : Int) ∧ a ≤ k ∧ k ≤ np ∧ CovI w0 bx pv sv care whole w bk bvk cstk ∧ srch (cvN st whole) (cstL care) (np - k) M k pre bk = srch (cvN st whole) (cstL care) f M a pre b ∧ Kept (fun x => x = bx ∨ lv.ownBlock = some x) w.heap.size w w ∧ w.ownsRow w0.heap.size 3 1 lv pre.length (pre.map natV) ∧ (∀ g, lv.ownBlock = some g → bvk.ownBlock ≠ some g) ∧ (bvk.ownBlock = bv.ownBlock ∨ ∃ g, bvk.ownBlock = some g ∧ w.heap.size ≤ g) := ⟨a, b, bv, cst, rfl, Nat.le_refl _, by omega, hI, by rw [show np - a = f by omega], RgX.Kept.refl _ _ _, hL, hne, .inl rfl⟩
    have HF := Lib.hid (And.intro hf hl)
    have hsz0w := hI.kept.size
    have hLt := hL.lt
    clear hI hL hne hf hl
    go_enter Tryz.func90, Tryz.ntmps90
    go_wp2_with fail
    go_loopw [12] (fun v12 wr => ∃ (k : Nat) (bk : Option (List Nat)) (bvk : Value) (cstk : Int), v12 = .int .i64 ((k : Nat) : Int) ∧ a ≤ k ∧ k ≤ np ∧ CovI w0 bx pv sv care whole wr bk bvk cstk ∧ srch (cvN st whole) (cstL care) (np - k) M k pre bk = srch (cvN st whole) (cstL care) f M a pre b ∧ Kept (fun x => x = bx ∨ lv.ownBlock = some x) w.heap.size w wr ∧ wr.ownsRow w0.heap.size 3 1 lv pre.length (pre.map natV) ∧ (∀ g, lv.ownBlock = some g → bvk.ownBlock ≠ some g) ∧ (bvk.ownBlock = bv.ownBlock ∨ ∃ g, bvk.ownBlock = some g ∧ w.heap.size ≤ g)) (fun v12 _ => (np - intOf v12).toNat)
    case atStart => exact hAt0
    case round =>
      obtain ⟨k, bk, bvk, cstk, rfl, hak, hkn, hIk, hsr, hkp, hown, hnek, hbvk⟩ := hrel
      clear hAt0
      have hbxr : bx < wr.heap.size := Nat.lt_of_lt_of_le hD.lt hIk.kept.size
      have c0 : wr.cell? ⟨bx, 0, none⟩ = some pv := by simp [World.cell?, hIk.box]
      have c1 : wr.cell? ⟨bx, 1, none⟩ = some sv := by simp [World.cell?, hIk.box]
      have hsz0 := hIk.kept.size
      obtain ⟨pa, pca, hpa⟩ := hD.plen
      have hpl : pre.length ≤ 1000 := by have := HF.out; omega
      have hsm : M ≤ 1000 := by have := HF.out; omega
      by_cases hkm : k + M ≤ np
      · obtain ⟨pb, po, pc, hpv, hpb, hpbx, cP0⟩ := hD.prim k (by omega)
        obtain ⟨sb, so, sc, hsv, hsb, hsbx, cS0⟩ := hD.sets k (by omega)
        have cP := (RgX.Kept.cell hIk.kept (p := ⟨pb, po + k * 2, none⟩) hpb hpbx).trans cP0
        have cS := (RgX.Kept.cell hIk.kept (p := ⟨sb, so + k, none⟩) hsb hsbx).trans cS0
        subst hpv hsv
        have hk4 : k + 1 ≤ 4000 := by omega
        have hkM4 : k + M ≤ 4000 := by omega
        have hek : (k : Int) + 1 = ((k + 1 : Nat) : Int) := by omega
        have hekM : (k : Int) + (M : Int) = ((k + M : Nat) : Int) := by omega
        have hleN : ((k + M : Nat) : Int) ≤ (np : Int) := by omega
        have hleq : decide (RowKit.wrap64 ((k : Int) + (M : Int)) ≤ (np : Int)) = true := by
          rw [wrap_nat (k + M) hkM4 hekM]
          exact decide_eq_true hleN
        have hkl : k < np := by omega
        have hMbx : ¬ lv.ownBlock = some bx := fun e => by have := (hLt bx e).1; have := hD.lt; omega
        have hMsb : ¬ lv.ownBlock = some sb := fun e => by have := (hLt sb e).1; omega
        have hMpb : ¬ lv.ownBlock = some pb := fun e => by have := (hLt pb e).1; omega
        have hsbr : sb < wr.heap.size := Nat.lt_of_lt_of_le hsb hsz0
        have hpbr : pb < wr.heap.size := Nat.lt_of_lt_of_le hpb hsz0
        have hMown : ∀ g, lv.ownBlock = some g → g < wr.heap.size := fun g hg => (hown.lt g hg).2
        have hk1 := Lib.hid (wrap_nat (k + 1) hk4 hek)
        have hm1 : Hid (RowKit.wrap64 ((M : Int) - 1) = (m : Int)) := Lib.hid (wrap_nat m (by omega) (by omega))
        have hcb := cstL_bd care (pre ++ [k])
        have hcsn := cstL_snoc care pre k
        have hlp : (pre ++ [k]).length = pre.length + 1 := by simp
        have hcs : Hid (RowKit.wrap64 (cstL care pre + popI (care k)) = cstL care (pre ++ [k])) := Lib.hid (by
          rw [← hcsn]
          exact IntWalk.wrap64_in _ ⟨by omega, by omega⟩)
        have hor : Hid (bits BinOp.or IntKind.u64 (setL st pre : Nat) (st k : Nat) = ((setL st (pre ++ [k]) : Nat) : Int)) := Lib.hid (by
          rw [setL_snoc]
          exact bits_or (setL_lt hD.st63 pre) (hD.st63 k))
        have hcv : Hid (IntKind.wrap .u64 (care k) = care k) := Lib.hid (by
          obtain ⟨c, hc, e⟩ := hD.care16 k
          rw [e]
          exact wrapU ⟨by omega, by omega⟩)
        have HH := Lib.hid (And.intro hM (And.intro hak (And.intro hkn (And.intro hIk (And.intro hsr (And.intro hkp (And.intro hnek (And.intro hbvk hLt))))))))
        have HI := Lib.hid ih
        have hD := Lib.hid hD
        clear hek hekM hk4 hkM4 hleN hsm hcb hcsn hlp hnp ih hpa cP0 cS0 hM hak hIk hsr hkp hnek hbvk hLt
        go_wp2_with fail
        refine RgX.wp_region_rgx 30 4 (fun b => lv.ownBlock = some b) (fun w w' => Kept (fun b => lv.ownBlock = some b) w.heap.size w w' ∧ (w.ownsRow w0.heap.size 3 1 lv pre.length (pre.map natV) → w'.ownsRow w0.heap.size 3 1 lv pre.length (pre.map natV))) (fun _ _ h => h.1) (fun w => w.ownsRow w0.heap.size 3 1 lv pre.length (pre.map natV)) hown (fun _ _ h hb => own_keep h hb) (fun _ _ h hb => hb.2 h) [(fun (v : Value) (W : World) => v = .pointer (some ⟨bx, 0, none⟩)), (fun (v : Value) (W : World) => v = lv), (fun (v : Value) (W : World) => v = .int .i64 ((k : Nat) : Int)), (fun (v : Value) (W : World) => ∃ g, v = .slice (some ⟨g, 0, none⟩) 1 1 ∧ wr.heap.size ≤ g ∧ W.heap[g]? = some (.cells #[.int .i64 ((k : Nat) : Int)] 3 (0, 0))), (fun (v : Value) (W : World) => W.ownsRow w0.heap.size 3 1 v (pre.length + 1) ((pre ++ [k]).map natV) ∧ (v.ownBlock = lv.ownBlock ∨ ∃ g, v.ownBlock = some g ∧ wr.heap.size ≤ g)), (fun (v : Value) (W : World) => v = .int .i64 ((k : Nat) : Int)), (fun (v : Value) (W : World) => v = .int .i64 ((k + 1 : Nat) : Int)), (fun (v : Value) (W : World) => v = .int .i64 ((M : Int))), (fun (v : Value) (W : World) => v = .int .i64 ((m : Int))), (fun (v : Value) (W : World) => v = .int .u64 (setL st pre : Nat)), (fun (v : Value) (W : World) => v = .pointer (some ⟨bx, 0, none⟩)), (fun (v : Value) (W : World) => v = .pointer (some ⟨bx, 0, none⟩)), (fun (v : Value) (W : World) => v = .pointer (some ⟨bx, 1, none⟩)), (fun (v : Value) (W : World) => v = .slice (some ⟨sb, so, none⟩) np sc), (fun (v : Value) (W : World) => v = .int .i64 ((k : Nat) : Int)), (fun (v : Value) (W : World) => v = .pointer (some ⟨sb, so + k, none⟩)), (fun (v : Value) (W : World) => v = .int .u64 (st k : Nat)), (fun (v : Value) (W : World) => v = .int .u64 (setL st (pre ++ [k]) : Nat)), (fun (v : Value) (W : World) => v = .int .i64 (cstL care pre)), (fun (v : Value) (W : World) => v = .pointer (some ⟨bx, 0, none⟩)), (fun (v : Value) (W : World) => v = .pointer (some ⟨bx, 0, none⟩)), (fun (v : Value) (W : World) => v = .pointer (some ⟨bx, 0, none⟩)), (fun (v : Value) (W : World) => v = .slice (some ⟨pb, po, none⟩) np pc), (fun (v : Value) (W : World) => v = .int .i64 ((k : Nat) : Int)), (fun (v : Value) (W : World) => v = .pointer (some ⟨pb, po + k * 2, none⟩)), (fun (v : Value) (W : World) => v = .pointer (some ⟨pb, po + k * 2, none⟩)), (fun (v : Value) (W : World) => v = .int .i64 (care k)), (fun (v : Value) (W : World) => v = .int .u64 (care k)), (fun (v : Value) (W : World) => v = .int .i64 (popI (care k))), (fun (v : Value) (W : World) => v = .int .i64 (cstL care (pre ++ [k])))] (by kernel_rfl) (by rintro ⟨_, _, h⟩; simp +zetaDelta [Exit.then, Exit.inBlock, bodyPost] at h) (fun _ _ _ _ _ h => h) (by kernel_rfl) (by kernel_rfl) ⟨fun _ _ _ _ _ h => h, fun _ _ _ _ _ h => h, fun _ _ _ _ _ h => h, fun v w w' hB h ⟨g, e, hg, hgb⟩ => ⟨g, e, hg, (h.elim (fun h => h.1.block g (heap_lt hgb) fun hm => absurd (hMown g hm) (by omega)) fun h => h.block g (heap_lt hgb)).trans hgb⟩, fun v w w' hB h ⟨ho, ha⟩ => ⟨own_keep ho h, ha⟩, fun _ _ _ _ _ h => h, fun _ _ _ _ _ h => h, fun _ _ _ _ _ h => h, fun _ _ _ _ _ h => h, fun _ _ _ _ _ h => h, fun _ _ _ _ _ h => h, fun _ _ _ _ _ h => h, fun _ _ _ _ _ h => h, fun _ _ _ _ _ h => h, fun _ _ _ _ _ h => h, fun _ _ _ _ _ h => h, fun _ _ _ _ _ h => h, fun _ _ _ _ _ h => h, fun _ _ _ _ _ h => h, fun _ _ _ _ _ h => h, fun _ _ _ _ _ h => h, fun _ _ _ _ _ h => h, fun _ _ _ _ _ h => h, fun _ _ _ _ _ h => h, fun _ _ _ _ _ h => h, fun _ _ _ _ _ h => h, fun _ _ _ _ _ h => h, fun _ _ _ _ _ h => h, fun _ _ _ _ _ h => h, fun _ _ _ _ _ h => h, trivial⟩ ⟨?_, ?_, ?_, ?_, ?_, ?_, ?_, ?_, ?_, ?_, ?_, ?_, ?_, ?_, ?_, ?_, ?_, ?_, ?_, ?_, ?_, ?_, ?_, ?_, ?_, ?_, ?_, ?_, ?_, ?_, ?_, trivial⟩ ?_
        · intro _ v wq G hb hG hd
          clear hd
          simp only [rgPut, rgDst, Act.put, List.getElem?_cons_zero, List.getElem?_cons_succ, Option.bind_some, List.setIfInBounds_toArray, List.set_cons_zero, List.set_cons_succ]
          obtain ⟨hb, hown1⟩ := hb
          have hsz := hb.size
          go_wp2
          exact ⟨rfl, relX_ne (by decide) (Below.refl _ _), rfl, fun g hg => (by cases hg)⟩
        · intro _ v wq G hb hG hd
          clear hd
          simp only [rgPut, rgDst, Act.put, List.getElem?_cons_zero, List.getElem?_cons_succ, Option.bind_some, List.setIfInBounds_toArray, List.set_cons_zero, List.set_cons_succ]
          obtain ⟨hb, hown1⟩ := hb
          have hsz := hb.size
          go_wp2
          exact ⟨rfl, relX_ne (by decide) (Below.refl _ _), rfl, fun g hg => (by cases hg)⟩
        · intro _ v wq G hb hG hd
          clear hd
          simp only [rgPut, rgDst, Act.put, List.getElem?_cons_zero, List.getElem?_cons_succ, Option.bind_some, List.setIfInBounds_toArray, List.set_cons_zero, List.set_cons_succ]
          obtain ⟨hb, hown1⟩ := hb
          have hsz := hb.size
          go_wp2
          exact ⟨rfl, relX_ne (by decide) (Below.refl _ _), rfl, fun g hg => (by cases hg)⟩
        · intro _ v wq G hb hG hd
          have d2 : v 2 = .int .i64 ((k : Nat) : Int) := hd 2 (by kernel_rfl)
          clear hd
          simp only [rgPut, rgDst, Act.put, List.getElem?_cons_zero, List.getElem?_cons_succ, Option.bind_some, List.setIfInBounds_toArray, List.set_cons_zero, List.set_cons_succ, d2]
          obtain ⟨hb, hown1⟩ := hb
          have hsz := hb.size
          go_wp2
          exact ⟨rfl, relX_ne (by decide) ((Below.refl _ wq).alloc (Nat.le_refl _) _), ⟨_, rfl, hsz, alloc_new_at _ _⟩, fun g hg => (by cases hg)⟩
        · intro _ v wq G hb hG hd
          have d1 : v 1 = lv := hd 1 (by kernel_rfl)
          have d3 : ∃ g, v 3 = .slice (some ⟨g, 0, none⟩) 1 1 ∧ wr.heap.size ≤ g ∧ wq.heap[g]? = some (.cells #[.int .i64 ((k : Nat) : Int)] 3 (0, 0)) := hd 3 (by kernel_rfl)
          obtain ⟨g3, d3, hg3, hb3⟩ := d3
          clear hd
          simp only [rgPut, rgDst, Act.put, List.getElem?_cons_zero, List.getElem?_cons_succ, Option.bind_some, List.setIfInBounds_toArray, List.set_cons_zero, List.set_cons_succ, d1, d3]
          obtain ⟨hb, hown1⟩ := hb
          have hsz := hb.size
          obtain ⟨v4, w4, hr4, ho4, hk4, hp4, ha4⟩ := app_nat (W := wq) (Nat.le_trans hsz0 hsz) hown1 hpl hb3 trivial 119
          go_wp2_with (at_builtin; refine Lib.wpList_append_run _ rfl _ _ _ _ rfl _ _ rfl rfl _ _ hr4 ?_)
          refine ⟨rfl, relX_eq ⟨hk4, fun _ => hp4⟩, ?_, fun g hg => (by cases hg)⟩
          rw [List.map_append] at ho4
          exact (show _ ∧ _ from ⟨ho4, ha4.imp id fun ⟨g, e1, e2⟩ => ⟨g, e1, by omega⟩⟩)
        · intro _ v wq G hb hG hd
          clear hd
          simp only [rgPut, rgDst, Act.put, List.getElem?_cons_zero, List.getElem?_cons_succ, Option.bind_some, List.setIfInBounds_toArray, List.set_cons_zero, List.set_cons_succ]
          obtain ⟨hb, hown1⟩ := hb
          have hsz := hb.size
          go_wp2
          exact ⟨rfl, relX_ne (by decide) (Below.refl _ _), rfl, fun g hg => (by cases hg)⟩
        · intro _ v wq G hb hG hd
          have d5 : v 5 = .int .i64 ((k : Nat) : Int) := hd 5 (by kernel_rfl)
          clear hd
          simp only [rgPut, rgDst, Act.put, List.getElem?_cons_zero, List.getElem?_cons_succ, Option.bind_some, List.setIfInBounds_toArray, List.set_cons_zero, List.set_cons_succ, d5]
          obtain ⟨hb, hown1⟩ := hb
          have hsz := hb.size
          go_wp2
          exact ⟨rfl, relX_ne (by decide) (Below.refl _ _), congrArg (Value.int .i64) hk1.out, fun g hg => (by cases hg)⟩
        · intro _ v wq G hb hG hd
          clear hd
          simp only [rgPut, rgDst, Act.put, List.getElem?_cons_zero, List.getElem?_cons_succ, Option.bind_some, List.setIfInBounds_toArray, List.set_cons_zero, List.set_cons_succ]
          obtain ⟨hb, hown1⟩ := hb
          have hsz := hb.size
          go_wp2
          exact ⟨rfl, relX_ne (by decide) (Below.refl _ _), rfl, fun g hg => (by cases hg)⟩
        · intro _ v wq G hb hG hd
          have d7 : v 7 = .int .i64 ((M : Int)) := hd 7 (by kernel_rfl)
          clear hd
          simp only [rgPut, rgDst, Act.put, List.getElem?_cons_zero, List.getElem?_cons_succ, Option.bind_some, List.setIfInBounds_toArray, List.set_cons_zero, List.set_cons_succ, d7]
          obtain ⟨hb, hown1⟩ := hb
          have hsz := hb.size
          go_wp2
          exact ⟨rfl, relX_ne (by decide) (Below.refl _ _), congrArg (Value.int .i64) hm1.out, fun g hg => (by cases hg)⟩
        · intro _ v wq G hb hG hd
          clear hd
          simp only [rgPut, rgDst, Act.put, List.getElem?_cons_zero, List.getElem?_cons_succ, Option.bind_some, List.setIfInBounds_toArray, List.set_cons_zero, List.set_cons_succ]
          obtain ⟨hb, hown1⟩ := hb
          have hsz := hb.size
          go_wp2
          exact ⟨rfl, relX_ne (by decide) (Below.refl _ _), rfl, fun g hg => (by cases hg)⟩
        · intro _ v wq G hb hG hd
          clear hd
          simp only [rgPut, rgDst, Act.put, List.getElem?_cons_zero, List.getElem?_cons_succ, Option.bind_some, List.setIfInBounds_toArray, List.set_cons_zero, List.set_cons_succ]
          obtain ⟨hb, hown1⟩ := hb
          have hsz := hb.size
          go_wp2
          exact ⟨rfl, relX_ne (by decide) (Below.refl _ _), rfl, fun g hg => (by cases hg)⟩
        · intro _ v wq G hb hG hd
          have d10 : v 10 = .pointer (some ⟨bx, 0, none⟩) := hd 10 (by kernel_rfl)
          clear hd
          simp only [rgPut, rgDst, Act.put, List.getElem?_cons_zero, List.getElem?_cons_succ, Option.bind_some, List.setIfInBounds_toArray, List.set_cons_zero, List.set_cons_succ, d10]
          obtain ⟨hb, hown1⟩ := hb
          have hsz := hb.size
          go_wp2
          exact ⟨rfl, relX_ne (by decide) (Below.refl _ _), rfl, fun g hg => (by cases hg)⟩
        · intro _ v wq G hb hG hd
          have d11 : v 11 = .pointer (some ⟨bx, 0, none⟩) := hd 11 (by kernel_rfl)
          clear hd
          simp only [rgPut, rgDst, Act.put, List.getElem?_cons_zero, List.getElem?_cons_succ, Option.bind_some, List.setIfInBounds_toArray, List.set_cons_zero, List.set_cons_succ, d11]
          obtain ⟨hb, hown1⟩ := hb
          have hsz := hb.size
          go_wp2
          exact ⟨rfl, relX_ne (by decide) (Below.refl _ _), rfl, fun g hg => (by cases hg)⟩
        · intro _ v wq G hb hG hd
          have d12 : v 12 = .pointer (some ⟨bx, 1, none⟩) := hd 12 (by kernel_rfl)
          clear hd
          simp only [rgPut, rgDst, Act.put, List.getElem?_cons_zero, List.getElem?_cons_succ, Option.bind_some, List.setIfInBounds_toArray, List.set_cons_zero, List.set_cons_succ, d12]
          obtain ⟨hb, hown1⟩ := hb
          have hsz := hb.size
          have e1 := (RgX.Kept.cell hb (p := ⟨bx, 1, none⟩) hbxr hMbx).trans c1
          go_wp2
          exact ⟨rfl, relX_ne (by decide) (Below.refl _ _), rfl, fun g hg => (by cases hg)⟩
        · intro _ v wq G hb hG hd
          clear hd
          simp only [rgPut, rgDst, Act.put, List.getElem?_cons_zero, List.getElem?_cons_succ, Option.bind_some, List.setIfInBounds_toArray, List.set_cons_zero, List.set_cons_succ]
          obtain ⟨hb, hown1⟩ := hb
          have hsz := hb.size
          go_wp2
          exact ⟨rfl, relX_ne (by decide) (Below.refl _ _), rfl, fun g hg => (by cases hg)⟩
        · intro _ v wq G hb hG hd
          have d13 : v 13 = .slice (some ⟨sb, so, none⟩) np sc := hd 13 (by kernel_rfl)
          have d14 : v 14 = .int .i64 ((k : Nat) : Int) := hd 14 (by kernel_rfl)
          clear hd
          simp only [rgPut, rgDst, Act.put, List.getElem?_cons_zero, List.getElem?_cons_succ, Option.bind_some, List.setIfInBounds_toArray, List.set_cons_zero, List.set_cons_succ, d13, d14]
          obtain ⟨hb, hown1⟩ := hb
          have hsz := hb.size
          go_wp2
          exact ⟨rfl, relX_ne (by decide) (Below.refl _ _), rfl, fun g hg => (by cases hg)⟩
        · intro _ v wq G hb hG hd
          have d15 : v 15 = .pointer (some ⟨sb, so + k, none⟩) := hd 15 (by kernel_rfl)
          clear hd
          simp only [rgPut, rgDst, Act.put, List.getElem?_cons_zero, List.getElem?_cons_succ, Option.bind_some, List.setIfInBounds_toArray, List.set_cons_zero, List.set_cons_succ, d15]
          obtain ⟨hb, hown1⟩ := hb
          have hsz := hb.size
          have es := (RgX.Kept.cell hb (p := ⟨sb, so + k, none⟩) hsbr hMsb).trans cS
          go_wp2
          exact ⟨rfl, relX_ne (by decide) (Below.refl _ _), rfl, fun g hg => (by cases hg)⟩
        · intro _ v wq G hb hG hd
          have d9 : v 9 = .int .u64 (setL st pre : Nat) := hd 9 (by kernel_rfl)
          have d16 : v 16 = .int .u64 (st k : Nat) := hd 16 (by kernel_rfl)
          clear hd
          simp only [rgPut, rgDst, Act.put, List.getElem?_cons_zero, List.getElem?_cons_succ, Option.bind_some, List.setIfInBounds_toArray, List.set_cons_zero, List.set_cons_succ, d9, d16]
          obtain ⟨hb, hown1⟩ := hb
          have hsz := hb.size
          go_wp2
          exact ⟨rfl, relX_ne (by decide) (Below.refl _ _), congrArg (Value.int .u64) hor.out, fun g hg => (by cases hg)⟩
        · intro _ v wq G hb hG hd
          clear hd
          simp only [rgPut, rgDst, Act.put, List.getElem?_cons_zero, List.getElem?_cons_succ, Option.bind_some, List.setIfInBounds_toArray, List.set_cons_zero, List.set_cons_succ]
          obtain ⟨hb, hown1⟩ := hb
          have hsz := hb.size
          go_wp2
          exact ⟨rfl, relX_ne (by decide) (Below.refl _ _), rfl, fun g hg => (by cases hg)⟩
        · intro _ v wq G hb hG hd
          clear hd
          simp only [rgPut, rgDst, Act.put, List.getElem?_cons_zero, List.getElem?_cons_succ, Option.bind_some, List.setIfInBounds_toArray, List.set_cons_zero, List.set_cons_succ]
          obtain ⟨hb, hown1⟩ := hb
          have hsz := hb.size
          go_wp2
          exact ⟨rfl, relX_ne (by decide) (Below.refl _ _), rfl, fun g hg => (by cases hg)⟩
        · intro _ v wq G hb hG hd
          have d19 : v 19 = .pointer (some ⟨bx, 0, none⟩) := hd 19 (by kernel_rfl)
          clear hd
          simp only [rgPut, rgDst, Act.put, List.getElem?_cons_zero, List.getElem?_cons_succ, Option.bind_some, List.setIfInBounds_toArray, List.set_cons_zero, List.set_cons_succ, d19]
          obtain ⟨hb, hown1⟩ := hb
          have hsz := hb.size
          go_wp2
          exact ⟨rfl, relX_ne (by decide) (Below.refl _ _), rfl, fun g hg => (by cases hg)⟩
        · intro _ v wq G hb hG hd
          have d20 : v 20 = .pointer (some ⟨bx, 0, none⟩) := hd 20 (by kernel_rfl)
          clear hd
          simp only [rgPut, rgDst, Act.put, List.getElem?_cons_zero, List.getElem?_cons_succ, Option.bind_some, List.setIfInBounds_toArray, List.set_cons_zero, List.set_cons_succ, d20]
          obtain ⟨hb, hown1⟩ := hb
          have hsz := hb.size
          go_wp2
          exact ⟨rfl, relX_ne (by decide) (Below.refl _ _), rfl, fun g hg => (by cases hg)⟩
        · intro _ v wq G hb hG hd
          have d21 : v 21 = .pointer (some ⟨bx, 0, none⟩) := hd 21 (by kernel_rfl)
          clear hd
          simp only [rgPut, rgDst, Act.put, List.getElem?_cons_zero, List.getElem?_cons_succ, Option.bind_some, List.setIfInBounds_toArray, List.set_cons_zero, List.set_cons_succ, d21]
          obtain ⟨hb, hown1⟩ := hb
          have hsz := hb.size
          have e0 := (RgX.Kept.cell hb (p := ⟨bx, 0, none⟩) hbxr hMbx).trans c0
          go_wp2
          exact ⟨rfl, relX_ne (by decide) (Below.refl _ _), rfl, fun g hg => (by cases hg)⟩
        · intro _ v wq G hb hG hd
          clear hd
          simp only [rgPut, rgDst, Act.put, List.getElem?_cons_zero, List.getElem?_cons_succ, Option.bind_some, List.setIfInBounds_toArray, List.set_cons_zero, List.set_cons_succ]
          obtain ⟨hb, hown1⟩ := hb
          have hsz := hb.size
          go_wp2
          exact ⟨rfl, relX_ne (by decide) (Below.refl _ _), rfl, fun g hg => (by cases hg)⟩
        · intro _ v wq G hb hG hd
          have d22 : v 22 = .slice (some ⟨pb, po, none⟩) np pc := hd 22 (by kernel_rfl)
          have d23 : v 23 = .int .i64 ((k : Nat) : Int) := hd 23 (by kernel_rfl)
          clear hd
          simp only [rgPut, rgDst, Act.put, List.getElem?_cons_zero, List.getElem?_cons_succ, Option.bind_some, List.setIfInBounds_toArray, List.set_cons_zero, List.set_cons_succ, d22, d23]
          obtain ⟨hb, hown1⟩ := hb
          have hsz := hb.size
          go_wp2
          exact ⟨rfl, relX_ne (by decide) (Below.refl _ _), rfl, fun g hg => (by cases hg)⟩
        · intro _ v wq G hb hG hd
          have d24 : v 24 = .pointer (some ⟨pb, po + k * 2, none⟩) := hd 24 (by kernel_rfl)
          clear hd
          simp only [rgPut, rgDst, Act.put, List.getElem?_cons_zero, List.getElem?_cons_succ, Option.bind_some, List.setIfInBounds_toArray, List.set_cons_zero, List.set_cons_succ, d24]
          obtain ⟨hb, hown1⟩ := hb
          have hsz := hb.size
          go_wp2
          exact ⟨rfl, relX_ne (by decide) (Below.refl _ _), rfl, fun g hg => (by cases hg)⟩
        · intro _ v wq G hb hG hd
          have d25 : v 25 = .pointer (some ⟨pb, po + k * 2, none⟩) := hd 25 (by kernel_rfl)
          clear hd
          simp only [rgPut, rgDst, Act.put, List.getElem?_cons_zero, List.getElem?_cons_succ, Option.bind_some, List.setIfInBounds_toArray, List.set_cons_zero, List.set_cons_succ, d25]
          obtain ⟨hb, hown1⟩ := hb
          have hsz := hb.size
          have ep := (RgX.Kept.cell hb (p := ⟨pb, po + k * 2, none⟩) hpbr hMpb).trans cP
          go_wp2
          exact ⟨rfl, relX_ne (by decide) (Below.refl _ _), rfl, fun g hg => (by cases hg)⟩
        · intro _ v wq G hb hG hd
          have d26 : v 26 = .int .i64 (care k) := hd 26 (by kernel_rfl)
          clear hd
          simp only [rgPut, rgDst, Act.put, List.getElem?_cons_zero, List.getElem?_cons_succ, Option.bind_some, List.setIfInBounds_toArray, List.set_cons_zero, List.set_cons_succ, d26]
          obtain ⟨hb, hown1⟩ := hb
          have hsz := hb.size
          go_wp2
          exact ⟨rfl, relX_ne (by decide) (Below.refl _ _), congrArg (Value.int .u64) hcv.out, fun g hg => (by cases hg)⟩
        · intro _ v wq G hb hG hd
          have d27 : v 27 = .int .u64 (care k) := hd 27 (by kernel_rfl)
          clear hd
          simp only [rgPut, rgDst, Act.put, List.getElem?_cons_zero, List.getElem?_cons_succ, Option.bind_some, List.setIfInBounds_toArray, List.set_cons_zero, List.set_cons_succ, d27]
          obtain ⟨hb, hown1⟩ := hb
          have hsz := hb.size
          obtain ⟨c16, hc16, hcc⟩ := hD.out.care16 k
          have hp := pop1 c16 hc16 wq
          rw [hcc]
          go_wp2_with fail
          refine hp.mono ?_
          rintro e wz ⟨rfl, hbz⟩
          go_wp2
          exact ⟨rfl, relX_ne (by decide) hbz, rfl, fun g hg => (by cases hg)⟩
        · intro _ v wq G hb hG hd
          have d18 : v 18 = .int .i64 (cstL care pre) := hd 18 (by kernel_rfl)
          have d28 : v 28 = .int .i64 (popI (care k)) := hd 28 (by kernel_rfl)
          clear hd
          simp only [rgPut, rgDst, Act.put, List.getElem?_cons_zero, List.getElem?_cons_succ, Option.bind_some, List.setIfInBounds_toArray, List.set_cons_zero, List.set_cons_succ, d18, d28]
          obtain ⟨hb, hown1⟩ := hb
          have hsz := hb.size
          go_wp2
          exact ⟨rfl, relX_ne (by decide) (Below.refl _ _), congrArg (Value.int .i64) hcs.out, fun g hg => (by cases hg)⟩
        · intro h; exact absurd h (by decide)
        · intro v wq hb hA
          have d0 : v 0 = .pointer (some ⟨bx, 0, none⟩) := hA 0 (by decide)
          have d4 : wq.ownsRow w0.heap.size 3 1 (v 4) (pre.length + 1) ((pre ++ [k]).map natV) ∧ ((v 4).ownBlock = lv.ownBlock ∨ ∃ g, (v 4).ownBlock = some g ∧ wr.heap.size ≤ g) := hA 4 (by decide)
          have d6 : v 6 = .int .i64 ((k + 1 : Nat) : Int) := hA 6 (by decide)
          have d8 : v 8 = .int .i64 ((m : Int)) := hA 8 (by decide)
          have d17 : v 17 = .int .u64 (setL st (pre ++ [k]) : Nat) := hA 17 (by decide)
          have d29 : v 29 = .int .i64 (cstL care (pre ++ [k])) := hA 29 (by decide)
          simp only [rgPut, rgDst, Act.put, List.getElem?_cons_zero, List.getElem?_cons_succ, Option.bind_some, List.setIfInBounds_toArray, List.set_cons_zero, List.set_cons_succ, d0, d6, d8, d17, d29]
          obtain ⟨hb, hown1⟩ := hb
          obtain ⟨ho4, ha4⟩ := d4
          obtain ⟨hM, hak, hkn, hIk, hsr, hkp, hnek, hbvk, hLt⟩ := HH.out
          have hlp : (pre ++ [k]).length = pre.length + 1 := by simp
          have hbvlt := best_lt hIk.best
          have hC := HI.out (np - (k + 1)) (k + 1) (pre ++ [k]) bk wq (v 4) bvk cstk (by omega) (by have := HF.out; omega) (hIk.step hD.out.lt hb (fun g hg => (hLt g hg).1) hnek) (by rw [hlp]; exact ho4) (fun g hg => by
            rcases ha4 with h | ⟨g', h, hg'⟩
            · exact hnek g (h ▸ hg)
            · intro e
              rw [h] at hg
              cases hg
              have := hbvlt g e
              omega)
          have hsq := hb.size
          have HZ := Lib.hid (And.intro hlp hbvlt)
          have HO := Lib.hid (And.intro ho4 ha4)
          clear hM hak hkn hIk hsr hkp hnek hbvk hLt hlp hbvlt ho4 ha4 HI hA c0 c1 cP cS
          refine RgX.wpList_tl (by kernel_rfl) ?_
          go_wp2_with fail
          refine hC.mono ?_
          clear hC
          rintro e w3 ⟨rfl, bv3, cst3, hI3, hk3, ho3, hn3⟩
          go_wp2_with fail
          have hw3 := hk1
          go_roundw
          case rel =>
            obtain ⟨hM, hak, hkn, hIk, hsr, hkp, hnek, hbvk, hLt⟩ := HH.out
            obtain ⟨hlp, hbvlt⟩ := HZ.out
            obtain ⟨ho4, ha4⟩ := HO.out
            have h3s := hk3.size
            have hws := hkp.size
            refine ⟨k + 1, _, bv3, cst3, congrArg (Value.int .i64) hk1.out, by omega, by omega, hI3, ?_, ?_, ?_, ?_, ?_⟩
            · rw [← hsr, show np - k = (np - (k + 1)) + 1 by omega, ← hM, srch_succ]
            · refine ⟨hk3.os.trans (hb.os.trans hkp.os), hk3.tape.trans (hb.tape.trans hkp.tape), hk3.output.trans (hb.output.trans hkp.output), by omega, fun x hx hm => ?_⟩
              refine (hk3.block x (by omega) fun e => ?_).trans ((hb.block x (by omega) fun e => hm (.inr e)).trans (hkp.block x hx hm))
              rcases e with e | e
              · exact hm (.inl e)
              · rcases ha4 with h | ⟨g', h, hg'⟩
                · exact hm (.inr (h ▸ e))
                · rw [h] at e
                  cases e
                  omega
            · rcases ha4 with h | ⟨g', h, hg'⟩
              · rw [hlp] at ho3
                exact own_pre hown1 ho4 h ho3
              · refine ownsRow_keep hown1 fun g hg => hk3.block g (hown1.lt g hg).2 fun e => ?_
                rcases e with e | e
                · exact hMbx (e ▸ hg)
                · rw [h] at e
                  have e' := Option.some.inj e
                  have := hMown g hg
                  omega
            · intro g hg
              rcases hn3 with h | ⟨g', h, hg'⟩
              · rw [h]; exact hnek g hg
              · rw [h]
                intro e
                have e' := Option.some.inj e
                have := hMown g hg
                omega
            · rcases hn3 with h | ⟨g', h, hg'⟩
              · rw [h]; exact hbvk
              · exact .inr ⟨g', h, by omega⟩
          case measure =>
            show ((np : Int) - intOf (Value.int .i64 (RowKit.wrap64 ((k : Int) + 1)))).toNat < ((np : Int) - intOf (Value.int .i64 (k : Int))).toNat
            rw [intOf_int, intOf_int, hk1.out]
            omega
      · have hkM4 : k + M ≤ 4000 := by omega
        have hekM : (k : Int) + (M : Int) = ((k + M : Nat) : Int) := by omega
        have hleN : ¬ ((k + M : Nat) : Int) ≤ (np : Int) := by omega
        have hleq : decide (RowKit.wrap64 ((k : Int) + (M : Int)) ≤ (np : Int)) = false := by
          rw [wrap_nat (k + M) hkM4 hekM]
          exact decide_eq_false hleN
        have hfew := srch_few (cvN st whole) (cstL care) (f := np - k) (m := M) (a := k) (pre := pre) (b := bk) (by omega)
        rw [hfew] at hsr
        have HE : Hid (After1 w0 bx pv sv care whole w lv pre bv (srch (cvN st whole) (cstL care) f M a pre b) wr) := Lib.hid (by
          rw [← hsr]
          exact ⟨bvk, cstk, hIk, hkp, hown, hbvk⟩)
        subst hpa
        clear hkM4 hekM hleN hfew hsr hIk hkp hown hnek hbvk hD ih hLt HF hsm hnp hM
        go_wp2
        (try simp only [Exit.inBlock, Exit.then])
        first
          | refine bodyPost_ret (results_none rfl _ _ _) rfl ?_
          | refine bodyPost_end (results_none rfl _ _ _) rfl ?_
        exact ⟨rfl, HE.out⟩
end
end Go.Proofs.YtehkaajakapkmaaGreat
