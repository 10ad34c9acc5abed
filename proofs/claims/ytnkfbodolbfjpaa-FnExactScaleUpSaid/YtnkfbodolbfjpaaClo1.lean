/- The order of placed tiles, called from the library's sort: what it hands back, and that it only draws and lays blocks. -/
import Derived.Test.YtnkfbodolbfjpaaRgD
import Derived.Test.YtnkfbodolbfjpaaAsm2
import Derived.Test.YtnkfbodolbfjpaaSh
import Derived.WalkLawsBesides
import Derived.WalkSpells
import Derived.Outline
import Derived.BigQuiet
import Derived.Deep.QuietTactic
import Derived.Lib.QuietBelow
import Derived.Lib.Hide
namespace Go.Proofs.Ytnkfbodolbfjpaa
open Go.RowKit
set_option maxRecDepth 100000
set_option maxHeartbeats 4000000
theorem orTwo (g : Nat) (a b r : Int) (W : World) (ra : a ≠ 0 → r = a) (rb : a = 0 → r = b) (h0 : W.cell? ⟨g, 0, none⟩ = some (.int .i64 a)) (h1 : W.cell? ⟨g, 1, none⟩ = some (.int .i64 b)) : Calls Try.prog 220 #[.slice (some ⟨g, 0, none⟩) 2 2] W (fun e w' => e = .returned (.int .i64 r) ∧ w' = W) := by
  have Ra := Lib.hid ra
  have Rb := Lib.hid rb
  clear ra rb
  go_enter Try.func220, Try.ntmps220
  go_wp2
  go_loopw [8] (fun i wr => ∃ k : Nat, k ≤ 2 ∧ i = .int .i64 k ∧ wr = W ∧ Hid (1 ≤ k → a = 0) ∧ Hid (2 ≤ k → b = 0)) (fun i _ => 2 - (intOf i).toNat)
  case atStart => exact ⟨0, Nat.zero_le _, rfl, rfl, Lib.hid fun h => by omega, Lib.hid fun h => by omega⟩
  case round =>
    obtain ⟨k, hk, rfl, rfl, ha, hb⟩ := hrel
    by_cases k0 : k = 0
    · subst k0
      go_wp2
      · rename_i h
        have hr := Ra.out (by simpa using h)
        exact bodyPost_ret (v := .int .i64 a) (by simp [results, Try.results220, go_sem] <;> rfl) rfl ⟨by rw [hr], rfl⟩
      · rename_i h
        have e0 : a = 0 := by simpa using h
        exact ⟨⟨1, by omega, rfl, trivial, Lib.hid fun _ => e0, Lib.hid fun h => by omega⟩, by simp [intOf]⟩
    · by_cases k1 : k = 1
      · subst k1
        go_wp2
        · have hr := Rb.out (ha.out (Nat.le_refl _))
          exact bodyPost_ret (v := .int .i64 b) (by simp [results, Try.results220, go_sem] <;> rfl) rfl ⟨by rw [hr], rfl⟩
        · rename_i h
          have e0 : b = 0 := by simpa using h
          exact ⟨⟨2, by omega, rfl, trivial, Lib.hid fun _ => ha.out (Nat.le_refl _), Lib.hid fun _ => e0⟩, by simp [intOf]⟩
      · obtain rfl : k = 2 := by omega
        go_wp2
        have hr := (Rb.out (ha.out (by omega))).trans (hb.out (by omega))
        exact bodyPost_ret (v := .int .i64 0) (by simp [results, Try.results220, go_sem] <;> rfl) rfl ⟨by rw [hr], rfl⟩
/-- A point's two cells. -/
theorem cmpPts (p q : TPoint) (W : World) : Calls Try.prog 170 #[.agg #[.int .i64 p.fX, .int .i64 p.fY], .agg #[.int .i64 q.fX, .int .i64 q.fY]] W (fun e w' => e = .returned (.int .i64 (cmpP p q)) ∧ RgD.DBelow W.heap.size W w') := by
  have hcmp := fun x y W' => AnyG.cmp_Compare_int Try.laysSlC25_f221 x y W'
  change ∀ x y W', Calls Try.prog 221 _ _ _ at hcmp
  have cX : ((W.alloc (.cells #[.int .i64 p.fX, .int .i64 p.fY] 151)).alloc (.cells #[.int .i64 q.fX, .int .i64 q.fY] 151)).cell? ⟨W.heap.size, 0, none⟩ = some (.int .i64 p.fX) :=
    (World.cell?_alloc_past _ _ _ (by rw [World.size_alloc]; omega)).trans (World.cell?_alloc_new _ _ _ _)
  have cY : ((W.alloc (.cells #[.int .i64 p.fX, .int .i64 p.fY] 151)).alloc (.cells #[.int .i64 q.fX, .int .i64 q.fY] 151)).cell? ⟨W.heap.size, 1, none⟩ = some (.int .i64 p.fY) :=
    (World.cell?_alloc_past _ _ _ (by rw [World.size_alloc]; omega)).trans (World.cell?_alloc_new _ _ _ _)
  have dX : ((W.alloc (.cells #[.int .i64 p.fX, .int .i64 p.fY] 151)).alloc (.cells #[.int .i64 q.fX, .int .i64 q.fY] 151)).cell? ⟨W.heap.size + 1, 0, none⟩ = some (.int .i64 q.fX) := by
    have := World.cell?_alloc_new (W.alloc (.cells #[.int .i64 p.fX, .int .i64 p.fY] 151)) #[.int .i64 q.fX, .int .i64 q.fY] 151 0
    rwa [World.size_alloc] at this
  have dY : ((W.alloc (.cells #[.int .i64 p.fX, .int .i64 p.fY] 151)).alloc (.cells #[.int .i64 q.fX, .int .i64 q.fY] 151)).cell? ⟨W.heap.size + 1, 1, none⟩ = some (.int .i64 q.fY) := by
    have := World.cell?_alloc_new (W.alloc (.cells #[.int .i64 p.fX, .int .i64 p.fY] 151)) #[.int .i64 q.fX, .int .i64 q.fY] 151 1
    rwa [World.size_alloc] at this
  have b0 : RgD.DBelow W.heap.size W ((W.alloc (.cells #[.int .i64 p.fX, .int .i64 p.fY] 151)).alloc (.cells #[.int .i64 q.fX, .int .i64 q.fY] 151)) := ⟨((Below.refl _ _).alloc (Nat.le_refl _) _).alloc (by rw [World.size_alloc]; omega) _, Nat.le_refl _⟩
  have hs0 : ((W.alloc (.cells #[.int .i64 p.fX, .int .i64 p.fY] 151)).alloc (.cells #[.int .i64 q.fX, .int .i64 q.fY] 151)).heap.size = W.heap.size + 2 := by rw [World.size_alloc, World.size_alloc]
  go_enter Try.func170, Try.ntmps170
  go_wp2_with fail
  generalize hW2 : (W.alloc (.cells #[.int .i64 p.fX, .int .i64 p.fY] 151)).alloc (.cells #[.int .i64 q.fX, .int .i64 q.fY] 151) = W2 at *
  refine RgD.wp_region_rgv 10 [(fun v => v = .pointer (some ⟨W.heap.size, 1, none⟩)), (fun v => v = .int .i64 p.fY), (fun v => v = .pointer (some ⟨W.heap.size + 1, 1, none⟩)), (fun v => v = .int .i64 q.fY), (fun v => v = .int .i64 (Lib.compareInt p.fY q.fY)), (fun v => v = .pointer (some ⟨W.heap.size, 0, none⟩)), (fun v => v = .int .i64 p.fX), (fun v => v = .pointer (some ⟨W.heap.size + 1, 0, none⟩)), (fun v => v = .int .i64 q.fX), (fun v => v = .int .i64 (Lib.compareInt p.fX q.fX))] (by kernel_rfl) (by rintro ⟨_, _, h⟩; simp +zetaDelta [Exit.then, bodyPost] at h) (fun _ _ _ _ _ h => h) (by kernel_rfl) (by kernel_rfl) ⟨?_, ?_, ?_, ?_, ?_, ?_, ?_, ?_, ?_, ?_, ?_, ?_, ?_, trivial⟩ ?_
  · intro _ v w1 G hb hG hd
    clear hd; simp only [rgPut, rgDst, Act.put, List.getElem?_cons_zero, List.getElem?_cons_succ, Option.bind_some, List.setIfInBounds_toArray, List.set_cons_zero, List.set_cons_succ]
    go_wp2
    exact ⟨rfl, RgD.DBelow.refl _ _, rfl, fun g hg => (by cases hg)⟩
  · intro _ v w1 G hb hG hd
    have d0 : v 0 = .pointer (some ⟨W.heap.size, 1, none⟩) := hd 0 (by kernel_rfl)
    clear hd; simp only [rgPut, rgDst, Act.put, List.getElem?_cons_zero, List.getElem?_cons_succ, Option.bind_some, List.setIfInBounds_toArray, List.set_cons_zero, List.set_cons_succ, d0]
    have e1 := (Below.cell hb.below (p := ⟨W.heap.size, 1, none⟩) (by show W.heap.size < _; omega)).trans cY
    go_wp2
    exact ⟨rfl, RgD.DBelow.refl _ _, rfl, fun g hg => (by cases hg)⟩
  · intro _ v w1 G hb hG hd
    clear hd; simp only [rgPut, rgDst, Act.put, List.getElem?_cons_zero, List.getElem?_cons_succ, Option.bind_some, List.setIfInBounds_toArray, List.set_cons_zero, List.set_cons_succ]
    go_wp2
    exact ⟨rfl, RgD.DBelow.refl _ _, rfl, fun g hg => (by cases hg)⟩
  · intro _ v w1 G hb hG hd
    have d2 : v 2 = .pointer (some ⟨W.heap.size + 1, 1, none⟩) := hd 2 (by kernel_rfl)
    clear hd; simp only [rgPut, rgDst, Act.put, List.getElem?_cons_zero, List.getElem?_cons_succ, Option.bind_some, List.setIfInBounds_toArray, List.set_cons_zero, List.set_cons_succ, d2]
    have e3 := (Below.cell hb.below (p := ⟨W.heap.size + 1, 1, none⟩) (by show W.heap.size + 1 < _; omega)).trans dY
    go_wp2
    exact ⟨rfl, RgD.DBelow.refl _ _, rfl, fun g hg => (by cases hg)⟩
  · intro _ v w1 G hb hG hd
    have d1 : v 1 = .int .i64 p.fY := hd 1 (by kernel_rfl)
    have d3 : v 3 = .int .i64 q.fY := hd 3 (by kernel_rfl)
    clear hd; simp only [rgPut, rgDst, Act.put, List.getElem?_cons_zero, List.getElem?_cons_succ, Option.bind_some, List.setIfInBounds_toArray, List.set_cons_zero, List.set_cons_succ, d1, d3]
    have hc1 := hcmp p.fY q.fY w1
    clear hcmp
    go_wp2_with (go_at_call 221; refine hc1.mono ?_; rintro e w' ⟨rfl, rfl⟩)
    exact ⟨rfl, RgD.DBelow.refl _ _, rfl, fun g hg => (by cases hg)⟩
  · intro _ v w1 G hb hG hd
    clear hd; simp only [rgPut, rgDst, Act.put, List.getElem?_cons_zero, List.getElem?_cons_succ, Option.bind_some, List.setIfInBounds_toArray, List.set_cons_zero, List.set_cons_succ]
    go_wp2
    exact ⟨rfl, RgD.DBelow.refl _ _, rfl, fun g hg => (by cases hg)⟩
  · intro _ v w1 G hb hG hd
    have d5 : v 5 = .pointer (some ⟨W.heap.size, 0, none⟩) := hd 5 (by kernel_rfl)
    clear hd; simp only [rgPut, rgDst, Act.put, List.getElem?_cons_zero, List.getElem?_cons_succ, Option.bind_some, List.setIfInBounds_toArray, List.set_cons_zero, List.set_cons_succ, d5]
    have e6 := (Below.cell hb.below (p := ⟨W.heap.size, 0, none⟩) (by show W.heap.size < _; omega)).trans cX
    go_wp2
    exact ⟨rfl, RgD.DBelow.refl _ _, rfl, fun g hg => (by cases hg)⟩
  · intro _ v w1 G hb hG hd
    clear hd; simp only [rgPut, rgDst, Act.put, List.getElem?_cons_zero, List.getElem?_cons_succ, Option.bind_some, List.setIfInBounds_toArray, List.set_cons_zero, List.set_cons_succ]
    go_wp2
    exact ⟨rfl, RgD.DBelow.refl _ _, rfl, fun g hg => (by cases hg)⟩
  · intro _ v w1 G hb hG hd
    have d7 : v 7 = .pointer (some ⟨W.heap.size + 1, 0, none⟩) := hd 7 (by kernel_rfl)
    clear hd; simp only [rgPut, rgDst, Act.put, List.getElem?_cons_zero, List.getElem?_cons_succ, Option.bind_some, List.setIfInBounds_toArray, List.set_cons_zero, List.set_cons_succ, d7]
    have e8 := (Below.cell hb.below (p := ⟨W.heap.size + 1, 0, none⟩) (by show W.heap.size + 1 < _; omega)).trans dX
    go_wp2
    exact ⟨rfl, RgD.DBelow.refl _ _, rfl, fun g hg => (by cases hg)⟩
  · intro _ v w1 G hb hG hd
    have d6 : v 6 = .int .i64 p.fX := hd 6 (by kernel_rfl)
    have d8 : v 8 = .int .i64 q.fX := hd 8 (by kernel_rfl)
    clear hd; simp only [rgPut, rgDst, Act.put, List.getElem?_cons_zero, List.getElem?_cons_succ, Option.bind_some, List.setIfInBounds_toArray, List.set_cons_zero, List.set_cons_succ, d6, d8]
    have hc1 := hcmp p.fX q.fX w1
    clear hcmp
    go_wp2_with (go_at_call 221; refine hc1.mono ?_; rintro e w' ⟨rfl, rfl⟩)
    exact ⟨rfl, RgD.DBelow.refl _ _, rfl, fun g hg => (by cases hg)⟩
  · (intro hk; exact absurd hk (by decide))
  · (intro hk; exact absurd hk (by decide))
  · (intro hk; exact absurd hk (by decide))
  intro v w1 hb hA
  have a0 : v 0 = .pointer (some ⟨W.heap.size, 1, none⟩) := hA 0 (by decide)
  have a1 : v 1 = .int .i64 p.fY := hA 1 (by decide)
  have a2 : v 2 = .pointer (some ⟨W.heap.size + 1, 1, none⟩) := hA 2 (by decide)
  have a3 : v 3 = .int .i64 q.fY := hA 3 (by decide)
  have a4 : v 4 = .int .i64 (Lib.compareInt p.fY q.fY) := hA 4 (by decide)
  have a5 : v 5 = .pointer (some ⟨W.heap.size, 0, none⟩) := hA 5 (by decide)
  have a6 : v 6 = .int .i64 p.fX := hA 6 (by decide)
  have a7 : v 7 = .pointer (some ⟨W.heap.size + 1, 0, none⟩) := hA 7 (by decide)
  have a8 : v 8 = .int .i64 q.fX := hA 8 (by decide)
  have a9 : v 9 = .int .i64 (Lib.compareInt p.fX q.fX) := hA 9 (by decide)
  clear hA; simp only [rgPut, rgDst, Act.put, List.getElem?_cons_zero, List.getElem?_cons_succ, Option.bind_some, List.setIfInBounds_toArray, List.set_cons_zero, List.set_cons_succ, a0, a1, a2, a3, a4, a5, a6, a7, a8, a9]
  refine RgD.wpList_tl (by kernel_rfl) ?_
  simp only [List.drop_succ_cons, List.drop_zero]
  have hsz := hb.size
  have hor := orTwo w1.heap.size (Lib.compareInt p.fY q.fY) (Lib.compareInt p.fX q.fX) (cmpP p q) (w1.alloc (.cells #[.int .i64 (Lib.compareInt p.fY q.fY), .int .i64 (Lib.compareInt p.fX q.fX)] 3)) (fun h => if_neg h) (fun h => if_pos h) (World.cell?_alloc_new _ _ _ _) (World.cell?_alloc_new _ _ _ _)
  have hB : RgD.DBelow W.heap.size W (w1.alloc (.cells #[.int .i64 (Lib.compareInt p.fY q.fY), .int .i64 (Lib.compareInt p.fX q.fX)] 3)) :=
    ⟨(b0.below.trans (hb.below.mono b0.below.size)).alloc (Nat.le_trans b0.below.size hsz) _, Nat.le_trans b0.drawn hb.drawn⟩
  clear hcmp cX cY dX dY b0 hs0 hW2 a0 a1 a2 a3 a4 a5 a6 a7 a8 a9 hb hsz
  generalize Lib.compareInt p.fY q.fY = A at *
  generalize Lib.compareInt p.fX q.fX = B at *
  go_wp2_with (go_at_call 220; refine hor.mono ?_; rintro e w' ⟨rfl, rfl⟩)
  exact bodyPost_ret (v := .int .i64 (cmpP p q)) (by simp [results, Try.results170, go_sem] <;> rfl) rfl ⟨rfl, hB⟩
def cellsP (t : TPlaced) : List Value := [.int .i64 t.fAt.fX, .int .i64 t.fAt.fY, .int .i64 t.fTile]
theorem closeP (t s : TPlaced) (W : World) : Calls Try.prog 169 #[.agg #[.int .i64 t.fAt.fX, .int .i64 t.fAt.fY, .int .i64 t.fTile], .agg #[.int .i64 s.fAt.fX, .int .i64 s.fAt.fY, .int .i64 s.fTile]] W (fun e w' => e = .returned (.int .i64 (cmpP t.fAt s.fAt)) ∧ ∃ q os', w' = Sort.grow (W.drewN q) os') := by
  have t0 : ((W.alloc (.cells #[.int .i64 t.fAt.fX, .int .i64 t.fAt.fY, .int .i64 t.fTile] 153)).alloc (.cells #[.int .i64 s.fAt.fX, .int .i64 s.fAt.fY, .int .i64 s.fTile] 153)).cell? ⟨W.heap.size, 0, none⟩ = some (.int .i64 t.fAt.fX) := (World.cell?_alloc_past _ _ _ (by rw [World.size_alloc]; omega)).trans (World.cell?_alloc_new _ _ _ _)
  have t1 : ((W.alloc (.cells #[.int .i64 t.fAt.fX, .int .i64 t.fAt.fY, .int .i64 t.fTile] 153)).alloc (.cells #[.int .i64 s.fAt.fX, .int .i64 s.fAt.fY, .int .i64 s.fTile] 153)).cell? ⟨W.heap.size, 1, none⟩ = some (.int .i64 t.fAt.fY) := (World.cell?_alloc_past _ _ _ (by rw [World.size_alloc]; omega)).trans (World.cell?_alloc_new _ _ _ _)
  have s0 : ((W.alloc (.cells #[.int .i64 t.fAt.fX, .int .i64 t.fAt.fY, .int .i64 t.fTile] 153)).alloc (.cells #[.int .i64 s.fAt.fX, .int .i64 s.fAt.fY, .int .i64 s.fTile] 153)).cell? ⟨W.heap.size + 1, 0, none⟩ = some (.int .i64 s.fAt.fX) := by
    have := World.cell?_alloc_new (W.alloc (.cells #[.int .i64 t.fAt.fX, .int .i64 t.fAt.fY, .int .i64 t.fTile] 153)) #[.int .i64 s.fAt.fX, .int .i64 s.fAt.fY, .int .i64 s.fTile] 153 0
    rwa [World.size_alloc] at this
  have s1 : ((W.alloc (.cells #[.int .i64 t.fAt.fX, .int .i64 t.fAt.fY, .int .i64 t.fTile] 153)).alloc (.cells #[.int .i64 s.fAt.fX, .int .i64 s.fAt.fY, .int .i64 s.fTile] 153)).cell? ⟨W.heap.size + 1, 1, none⟩ = some (.int .i64 s.fAt.fY) := by
    have := World.cell?_alloc_new (W.alloc (.cells #[.int .i64 t.fAt.fX, .int .i64 t.fAt.fY, .int .i64 t.fTile] 153)) #[.int .i64 s.fAt.fX, .int .i64 s.fAt.fY, .int .i64 s.fTile] 153 1
    rwa [World.size_alloc] at this
  have hc1 := cmpPts t.fAt s.fAt ((W.alloc (.cells #[.int .i64 t.fAt.fX, .int .i64 t.fAt.fY, .int .i64 t.fTile] 153)).alloc (.cells #[.int .i64 s.fAt.fX, .int .i64 s.fAt.fY, .int .i64 s.fTile] 153))
  have b0 : RgD.DBelow W.heap.size W ((W.alloc (.cells #[.int .i64 t.fAt.fX, .int .i64 t.fAt.fY, .int .i64 t.fTile] 153)).alloc (.cells #[.int .i64 s.fAt.fX, .int .i64 s.fAt.fY, .int .i64 s.fTile] 153)) := ⟨((Below.refl _ _).alloc (Nat.le_refl _) _).alloc (by rw [World.size_alloc]; omega) _, Nat.le_refl _⟩
  have fin : ∀ w', RgD.DBelow W.heap.size W w' → ∃ q os', w' = Sort.grow (W.drewN q) os' := fun w' h => by
    obtain ⟨⟨d, os⟩, rfl⟩ := regrown_of_below h.below
    have hd : W.drawn ≤ d := h.drawn
    refine ⟨d - W.drawn, os, ?_⟩
    unfold Sort.grow redrawn World.drewN
    simp
    omega
  go_enter Try.func169, Try.ntmps169
  go_wp2_with (go_at_call 170; refine hc1.mono ?_; rintro e w' ⟨rfl, hw⟩)
  exact bodyPost_ret (v := .int .i64 (cmpP t.fAt s.fAt)) (by simp [results, Try.results169, go_sem] <;> rfl) rfl ⟨rfl, fin _ (b0.trans (hw.mono b0.size))⟩
end Go.Proofs.Ytnkfbodolbfjpaa
