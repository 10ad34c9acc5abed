/- A row above another one, walked. -/
import Derived.Test.YtnkfbodolbfjpaaRul0
import Derived.Lib.AppendZeros
namespace Go.Proofs.Ytnkfbodolbfjpaa
open Go.RowKit
set_option maxRecDepth 100000
set_option maxHeartbeats 1000000
theorem infoI64r : (Try.prog.info? 2).map (fun i => (i.zero, i.size, i.bytes)) = some (some (.int .i64 0), 1, 8) := by kernel_rfl
theorem intOf_int (x : Int) : intOf (.int .i64 x) = x := rfl
theorem own_keep {w w' : World} {B e : Nat} {v : Value} {n : Nat} {xs : List Value} (h : w.ownsRow B e 1 v n xs) (hb : Below w.heap.size w w') : w'.ownsRow B e 1 v n xs :=
  h.kept (row := none) ⟨hb.os, hb.tape, hb.output, hb.size, fun k hk _ => hb.block k hk⟩ (by cases hu : v.ownBlock <;> simp)
/-- One number behind those of a row of the call's own. -/
theorem app_one {w : World} {B : Nat} {v : Value} {l : List Int} (h : w.ownsRow B 2 1 v l.length (l.map (Value.int .i64))) (hl : l.length ≤ 1048576) (hB : B ≤ w.heap.size) (x : Int) : ∀ ty, ∃ v' w', (Builtin.append_ #[49, 49] ty #[v, .slice (some ⟨w.heap.size, 0, none⟩) 1 1]).run Try.prog (w.alloc (.cells #[.int .i64 x] 2)) = .ok v' w' ∧ w'.ownsRow B 2 1 v' (l ++ [x]).length ((l ++ [x]).map (Value.int .i64)) ∧ Below B w w' ∧ (∀ k, k < w.heap.size → v.ownBlock ≠ some k → w'.heap[k]? = w.heap[k]?) := fun ty => by
  obtain ⟨i0, hi, hz0, hz1, hz2⟩ := info_parts infoI64r
  have hal : Below w.heap.size w (w.alloc (.cells #[.int .i64 x] 2)) := (Below.refl _ w).alloc (Nat.le_refl _) _
  obtain ⟨v', w', hr, h1, h2, _⟩ := run_append_own_at (P := Try.prog) (w.alloc (.cells #[.int .i64 x] 2)) B 49 ty 2 i0 (.int .i64 0) 1 8 Try.underlying49 hi hz0 hz1 hz2 rfl (by decide) v l.length _ (own_keep h hal) ⟨w.heap.size, 0, none⟩ 1 1 [.int .i64 x] rfl (cell_one_new _ _ _) (by simp [Value.oneCell']) (by unfold maxLen; omega) (by omega) (by rw [World.size_alloc]; omega)
  refine ⟨v', w', hr, ?_, ?_, ?_⟩
  · rw [List.length_append, List.map_append]
    exact h1
  · refine (hal.mono hB).grown h2 (by rw [World.size_alloc]; omega) (fun k e => ?_)
    exact (h.lt k e).1
  · intro k hk hne
    exact (h2.block k (by rw [World.size_alloc]; omega) (fun e => hne e.symm)).trans (hal.block k hk)
theorem fill1 {st : Int} {tb : List Int} (h : okT st tb) {wv : Int} (hw : inS st wv) {sw : List Int} (hsw : ∀ b ∈ sw, inS st b) (hsl : sw.length ≤ 1048576) (tv sv : Value) (w : World) (hT : RowI w w.heap.size tv tb) (hS : RowI w w.heap.size sv sw) :
    Calls Try.prog 126 #[.int .i64 wv, sv, .func (.func 127) #[.agg #[.int .i64 st, tv]] #[]] w fun e w' => ∃ v, e = .returned v ∧ w'.ownsRow w.heap.size 2 1 v sw.length ((stp st tb wv sw sw.length).map (Value.int .i64)) ∧ Below w.heap.size w w' := by
  obtain ⟨sa, sc, rfl, hcs⟩ := hS
  go_enter Try.func126, Try.ntmps126
  go_wp2
  go_loopw [0, 7, 12] (fun v0 v7 i wr => ∃ k : Nat, k ≤ sw.length ∧ i = .int .i64 k ∧ v0 = .int .i64 ((stp st tb wv sw k).getLastD wv) ∧ wr.ownsRow w.heap.size 2 1 v7 (stp st tb wv sw k).length ((stp st tb wv sw k).map (Value.int .i64)) ∧ Below w.heap.size w wr) (fun _ _ i _ => (sw.length - intOf i).toNat)
  case atStart => exact ⟨0, Nat.zero_le _, rfl, rfl, World.ownsRow_nil _ _ _ _, Below.refl _ _⟩
  case round =>
    obtain ⟨k, hk, rfl, rfl, hown, hBb⟩ := hrel
    by_cases hkl : k < sw.length
    · obtain ⟨s, hg⟩ : ∃ s, sw[k]? = some s := ⟨_, List.getElem?_eq_getElem hkl⟩
      have hsb := hsw s (List.mem_of_getElem? hg)
      obtain ⟨gb, off, rfl, hgb, hcell⟩ := hcs k s hg
      have cS := (hBb.cell (p := ⟨gb, off + k, none⟩) hgb).trans hcell
      have hst := (stp_bd h hw hsw k hk).1
      have hN := nextC h hst hsb tv wr (hT.keep hBb hBb.size)
      have hw3 : RowKit.wrap64 ((k : Int) + 1) = ((k + 1 : Nat) : Int) := IntWalk.wrap64_in _ (by omega)
      have hsd : sw.getD k 0 = s := by rw [List.getD, hg]; rfl
      have hnew : stp st tb wv sw (k + 1) = stp st tb wv sw k ++ [nx st tb ((stp st tb wv sw k).getLastD wv) s] := by rw [stp, hsd]
      have hlim : (stp st tb wv sw k).length ≤ 1048576 := by rw [stp_len]; omega
      have hkx := Lib.hid (And.intro hk hkl)
      have hBz := hBb.size
      have hnw := Lib.hid hnew
      have HS := Lib.hid (And.intro hsw (And.intro hsl hlim))
      clear hk hsl hcs hnew hsd hsb hst hsw hlim
      generalize hlast : (stp st tb wv sw k).getLastD wv = lv at *
      have hlv := Lib.hid hlast
      clear hlast
      go_wp2_with fail
      refine hN.mono ?_
      rintro e w3 ⟨rfl, hb3⟩
      have ho3 := own_keep hown hb3
      have hz3 := hb3.size
      obtain ⟨v4, w4, hr4, ho4, hb4, _⟩ := app_one ho3 HS.out.2.2 (by omega) (nx st tb lv s) 49
      go_wp2_with (at_builtin; refine Lib.wpList_append_run _ rfl _ _ _ _ rfl _ _ rfl rfl _ _ hr4 ?_)
      go_roundw
      case rel =>
        refine ⟨k + 1, hkx.out.2, by rw [hw3], ?_, by rw [hnw.out]; exact ho4, hBb.trans ((hb3.mono hBz).trans hb4)⟩
        rw [hnw.out]
        simp
      case measure =>
        show ((sw.length : Int) - intOf (Value.int .i64 (RowKit.wrap64 ((k : Int) + 1)))).toNat < ((sw.length : Int) - intOf (Value.int .i64 (k : Int))).toNat
        have := hkx.out.2
        rw [intOf_int, intOf_int, hw3]
        clear hw3
        omega
    · obtain rfl : k = sw.length := by omega
      rw [stp_len] at hown
      clear hcs hsl
      go_wp2
      refine bodyPost_ret (results_tmp rfl _ _ _) rfl ⟨_, rfl, ?_, hBb⟩
      exact hown
end Go.Proofs.Ytnkfbodolbfjpaa
