/- LpT. -/
import Derived.Test.YtlblmofimjhbbaaDoorLPa
import Derived.RangeFuncNested
import Derived.RangeFuncBound
import Derived.RangeFuncCalls
import Derived.RangeFuncLeaves
import Derived.Shelf.RegionOpen
import Derived.WalkKit
import Derived.OwnWalkIn
import Derived.TacticsInMore
import Derived.LoopNIn
import Derived.LoopIn
import Derived.Maps.AppendAt
import Derived.Lib.Hide
namespace Go.Proofs.YtlblmofimjhbbaaDoor
open Go.RowKit
set_option maxRecDepth 20000
set_option maxHeartbeats 8000000
theorem parts1 (m w e : Int) (hm : 1 ≤ m ∧ m ≤ 12) (W : World) : Calls Tryd.prog 39 #[.agg #[.int .i64 m, .int .i64 w, .int .i64 e]] W (fun ex W1 => ex = .returned (.tuple #[.agg #[.int .i64 (m - m / 2), .int .i64 w, .int .i64 (xOf w e)], .agg #[.int .i64 (m / 2), .int .i64 (xOf w e), .int .i64 e]]) ∧ Below W.heap.size W W1) := by
  have hx := xOf_le w e
  have hne := xOf_ne w e
  have hlt := fun x => @xOf_lt w e x
  obtain ⟨W3, hW3⟩ : ∃ W3, W3 = ((W.alloc (.cells #[.int .i64 m, .int .i64 w, .int .i64 e] 41)).alloc (.cells #[.int .i64 0, .int .i64 0, .int .i64 0] 41)).alloc (.cells #[.int .i64 0, .int .i64 0, .int .i64 0] 41) := ⟨_, rfl⟩
  have hsz : W3.heap.size = W.heap.size + 1 + 1 + 1 := by rw [hW3, World.size_alloc, World.size_alloc, World.size_alloc]
  have h12 : Below (W.heap.size + 1) (W.alloc (.cells #[.int .i64 m, .int .i64 w, .int .i64 e] 41)) W3 := by
    rw [hW3]
    exact ((Below.refl _ _).alloc (by rw [World.size_alloc]; exact Nat.le_refl _) _).alloc (by rw [World.size_alloc, World.size_alloc]; omega) _
  have h23 : Below (W.heap.size + 1 + 1) ((W.alloc (.cells #[.int .i64 m, .int .i64 w, .int .i64 e] 41)).alloc (.cells #[.int .i64 0, .int .i64 0, .int .i64 0] 41)) W3 := by
    rw [hW3]
    exact (Below.refl _ _).alloc (by rw [World.size_alloc, World.size_alloc]; exact Nat.le_refl _) _
  have b1 : W3.heap[W.heap.size]? = some (.cells #[.int .i64 m, .int .i64 w, .int .i64 e] 41 (0, 0)) := (h12.block _ (by omega)).trans (alloc_new_at _ _)
  have b2 : W3.heap[W.heap.size + 1]? = some (.cells #[.int .i64 0, .int .i64 0, .int .i64 0] 41 (0, 0)) := by
    have := alloc_new_at (W.alloc (.cells #[.int .i64 m, .int .i64 w, .int .i64 e] 41)) (.cells #[.int .i64 0, .int .i64 0, .int .i64 0] 41)
    rw [World.size_alloc] at this
    exact (h23.block _ (by omega)).trans this
  have b3 : W3.heap[W.heap.size + 1 + 1]? = some (.cells #[.int .i64 0, .int .i64 0, .int .i64 0] 41 (0, 0)) := by
    have := alloc_new_at ((W.alloc (.cells #[.int .i64 m, .int .i64 w, .int .i64 e] 41)).alloc (.cells #[.int .i64 0, .int .i64 0, .int .i64 0] 41)) (.cells #[.int .i64 0, .int .i64 0, .int .i64 0] 41)
    rw [World.size_alloc, World.size_alloc] at this
    rw [hW3]
    exact this
  have hbl : Below W.heap.size W W3 := by
    rw [hW3]
    exact (((Below.refl _ _).alloc (Nat.le_refl _) _).alloc (by rw [World.size_alloc]; omega) _).alloc (by rw [World.size_alloc, World.size_alloc]; omega) _
  have cm : W3.cell? ⟨W.heap.size, 0, none⟩ = some (.int .i64 m) := by simp [World.cell?, b1]
  have cw : W3.cell? ⟨W.heap.size, 1, none⟩ = some (.int .i64 w) := by simp [World.cell?, b1]
  have ce : W3.cell? ⟨W.heap.size, 2, none⟩ = some (.int .i64 e) := by simp [World.cell?, b1]
  have z10 : W3.cell? ⟨W.heap.size + 1, 0, none⟩ = some (.int .i64 0) := by simp [World.cell?, b2]
  have y10 : W3.frozen? ⟨W.heap.size + 1, 0, none⟩ = false := by simp [World.frozen?, b2]
  have z11 : W3.cell? ⟨W.heap.size + 1, 1, none⟩ = some (.int .i64 0) := by simp [World.cell?, b2]
  have y11 : W3.frozen? ⟨W.heap.size + 1, 1, none⟩ = false := by simp [World.frozen?, b2]
  have z12 : W3.cell? ⟨W.heap.size + 1, 2, none⟩ = some (.int .i64 0) := by simp [World.cell?, b2]
  have y12 : W3.frozen? ⟨W.heap.size + 1, 2, none⟩ = false := by simp [World.frozen?, b2]
  have z20 : W3.cell? ⟨W.heap.size + 1 + 1, 0, none⟩ = some (.int .i64 0) := by simp [World.cell?, b3]
  have y20 : W3.frozen? ⟨W.heap.size + 1 + 1, 0, none⟩ = false := by simp [World.frozen?, b3]
  have z21 : W3.cell? ⟨W.heap.size + 1 + 1, 1, none⟩ = some (.int .i64 0) := by simp [World.cell?, b3]
  have y21 : W3.frozen? ⟨W.heap.size + 1 + 1, 1, none⟩ = false := by simp [World.frozen?, b3]
  have z22 : W3.cell? ⟨W.heap.size + 1 + 1, 2, none⟩ = some (.int .i64 0) := by simp [World.cell?, b3]
  have y22 : W3.frozen? ⟨W.heap.size + 1 + 1, 2, none⟩ = false := by simp [World.frozen?, b3]
  go_enter Tryd.func39, Tryd.ntmps39
  go_wp2
  rw [← hW3]
  clear hW3
  go_loopw [4] (fun v4 wr => ∃ x : Int, 1 ≤ x ∧ x ≤ xOf w e ∧ v4 = .int .i64 x ∧ wr = W3) (fun v4 _ => (xOf w e - intOf v4).toNat)
  case atStart => exact ⟨1, by omega, by omega, rfl, rfl⟩
  case round =>
    obtain ⟨x, h1, h2, rfl, rfl⟩ := hrel
    by_cases hxe : x = xOf w e
    · have n1 : ¬ x = w := by rw [hxe]; exact hne.1
      have n2 : ¬ x = e := by rw [hxe]; exact hne.2
      go_wp2
      · exfalso; rename_i h; simp_all
      · go_region
        go_wp2
        refine bodyPost_ret (v := .tuple #[.agg #[.int .i64 (m - m / 2), .int .i64 w, .int .i64 (xOf w e)], .agg #[.int .i64 (m / 2), .int .i64 (xOf w e), .int .i64 e]]) ?_ rfl ⟨rfl, ?_⟩
        · simp [results, Tryd.results39, go_sem, World.cell?_setCell_same, World.cell?_setCell_other, z10, z11, z12, z20, z21, z22]
        · exact ((((((hbl.setCell (by show _ ≤ W.heap.size + 1; omega) _).setCell (by show _ ≤ W.heap.size + 1; omega) _).setCell (by show _ ≤ W.heap.size + 1; omega) _).setCell (by show _ ≤ W.heap.size + 1 + 1; omega) _).setCell (by show _ ≤ W.heap.size + 1 + 1; omega) _).setCell (by show _ ≤ W.heap.size + 1 + 1; omega) _).drew
    · have hwe := hlt x h1 (by omega)
      by_cases hw1 : x = w
      · subst hw1
        go_wp2
        exact ⟨⟨x + 1, by omega, by omega, rfl, trivial⟩, by simp only [intOf]; omega⟩
      · have hw2 : x = e := hwe.resolve_left hw1
        subst hw2
        go_wp2
        exact ⟨⟨x + 1, by omega, by omega, rfl, trivial⟩, by simp only [intOf]; omega⟩
abbrev oSt (s : TStrip) : R1 := .agg [.fz (iD s.m), .fz (iD s.w), .fz (iD s.e)]
theorem okI_small {n : Int} (h : -100 ≤ n ∧ n ≤ 100) : okI (.int .i64 n) := by
  show (Lit.int .i64 n).wf = true
  simp [Lit.wf, IntKind.min, IntKind.max, IntKind.signed, IntKind.bits]
  omega
theorem sParts (s : TStrip) (h : okSt s) : Spec Tryd.prog 39 [.agg (enSt s)] (.tup [oSt ⟨s.m - s.m / 2, s.w, xOf s.w s.e⟩, oSt ⟨s.m / 2, xOf s.w s.e, s.e⟩]) := by
  refine ⟨callFunc_enter Tryd.func39 rfl (by simp [Tryd.f39]), fun w R ι φ vs hR hF ho => ?_⟩
  cases hF with | cons h1 hF =>
  cases hF
  obtain ⟨us, rfl, h1⟩ := h1
  cases h1 with | cons q1 h1 => cases h1 with | cons q2 h1 => cases h1 with | cons q3 h1 =>
  cases h1
  cases q1
  cases q2
  cases q3
  obtain ⟨m1, m2, m3⟩ := h
  have hx := xOf_le s.w s.e
  refine (parts1 s.m s.w s.e m1 w).mono ?_
  rintro e w1 ⟨rfl, hbl⟩
  have hn : ∀ o x, frO [] o = some x → False := fun o x h => by simp [frO] at h
  have hO : ObjsOk w1 R ι φ (frO []) := ⟨fun o x h => (hn o x h).elim, fun o x h => (hn o x h).elim, fun o p x y g h => (hn o x h).elim, ho.2.2.2.keep (fun _ h => h) fun b hb => hbl.block b (hR b hb)⟩
  refine ⟨_, rfl, R, ι, φ, BelowM.of_below hbl, fun b h => h, fun b h => Nat.lt_of_lt_of_le (hR b h) hbl.size, fun b h _ => .inl h, ⟨_, rfl, .cons ⟨_, rfl, .cons (.pv rfl (okI_small (by omega))) (.cons (.pv rfl (okI_small (by omega))) (.cons (.pv rfl (okI_small (by omega))) .nil))⟩ (.cons ⟨_, rfl, .cons (.pv rfl (okI_small (by omega))) (.cons (.pv rfl (okI_small (by omega))) (.cons (.pv rfl (okI_small (by omega))) .nil))⟩ .nil)⟩, hO, fun g h => ?_, fun o h => rfl⟩
  obtain ⟨o, x, h, _⟩ := h
  exact (hn o x h).elim
end Go.Proofs.YtlblmofimjhbbaaDoor
