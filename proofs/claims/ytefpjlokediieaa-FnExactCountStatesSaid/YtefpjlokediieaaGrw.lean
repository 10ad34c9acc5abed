/- slices.Grow of no slice, slices.Concat: what they hand back is the call's own. -/
import Derived.Test.YtefpjlokediieaaLibR
import Derived.Test.YtefpjlokediieaaOutN
import Derived.Lib.AppendZeros
import Derived.Lib.SliceRun
import Derived.WalkKit
import Derived.Lib.Walk
namespace Go.Proofs.Ytefpjlokediieaa
open Go.RowKit
set_option maxRecDepth 100000
set_option maxHeartbeats 4000000
theorem infoI64g : (Try.prog.info? 2).map (fun i => (i.zero, i.size, i.bytes)) = some (some (.int .i64 0), 1, 8) := by kernel_rfl
theorem grow_run (n : Nat) (hn : n ≤ 1048576) (w : World) : Calls Try.prog 40 #[.slice none 0 0, .int .i64 n] w (fun e w' => ∃ v, e = .returned v ∧ w'.ownsRow w.heap.size 2 1 v 0 [] ∧ Below w.heap.size w w') := by
  obtain ⟨i0, hi, hz0, hz1, hz2⟩ := info_parts infoI64g
  by_cases h0 : n = 0
  · subst h0
    go_enter Try.func40, Try.ntmps40
    go_wp2
    go_ret
    exact ⟨_, rfl, World.ownsRow_nil _ _ _ _, Below.refl _ _⟩
  · have h1 : ¬ ((n : Int) < 0) := by omega
    have h4 : (n : Int) > 0 := by omega
    have h3 : RowKit.wrap64 ((n : Int) - 0) = (n : Int) := by rw [Int.sub_zero]; exact IntWalk.wrap64_in _ (by omega)
    have hz : ∀ ty, (Builtin.append_ #[22, 3] ty #[.slice none 0 0, .int .i64 (n : Int)]).run Try.prog w =
      .ok (.slice (some ⟨w.heap.size, 0, none⟩) n (grownCap w n 0 2)) (w.drew.alloc (.cells (Builtin.zeroCells (Value.int .i64 0).cells n ++ Builtin.zeroCells (Value.int .i64 0).cells (grownCap w n 0 2 - n)) 2)) := fun ty =>
      Lib.run_append_nil_zeros (P := Try.prog) w 22 3 ty 2 i0 (.int .i64 0) .i64 .i64 Try.underlying22 Try.underlying3 hi hz0 n (by omega) (by omega) (by omega) (by rw [hz2]; omega)
    have hg1 : n ≤ grownCap w n 0 2 := grownCap_ge w _ _ _
    have hg2 : grownCap w n 0 2 ≤ maxLen := grownCap_le_maxLen w n 0 2 (by unfold maxLen; omega)
    generalize grownCap w n 0 2 = G at hz hg1 hg2
    obtain ⟨Z, hZ⟩ : ∃ Z, Z = Builtin.zeroCells (Value.int .i64 0).cells n ++ Builtin.zeroCells (Value.int .i64 0).cells (G - n) := ⟨_, rfl⟩
    have hZs : Z.size = G := by rw [hZ]; simp [size_zeroCells, Value.cells]; omega
    rw [← hZ] at hz
    clear hZ
    have hG := Lib.hid hg2
    have hG3 : G ≤ 9223372036854775807 := by unfold maxLen at hg2; omega
    clear hg2
    have hbl : Below w.heap.size w (w.alloc (.cells Z 2)).drew := by
      have h := (Below.refl w.heap.size w).alloc (Nat.le_refl _) (.cells Z 2)
      exact ⟨h.os, h.tape, h.output, h.size, h.block⟩
    go_enter Try.func40, Try.ntmps40
    go_wp2_with (at_builtin; refine Lib.wpList_append_run _ rfl _ _ _ _ rfl _ _ rfl rfl _ _ (hz _) ?_)
    all_goals go_ret
    all_goals exact ⟨_, rfl, ⟨rfl, .inr ⟨_, G, Z, rfl, Nat.le_refl _, (by unfold World.alloc World.drew; simp), Nat.zero_le _, hG.out, by rw [hZs]; simp, by simp⟩⟩, hbl⟩
end Go.Proofs.Ytefpjlokediieaa
