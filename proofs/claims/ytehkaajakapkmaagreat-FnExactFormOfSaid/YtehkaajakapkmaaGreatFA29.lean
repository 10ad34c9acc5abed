/- Texts of one proof, one behind the other. -/
import Derived.WalkLawsBesides
import Derived.WalkSpells
import Derived.Outline
import Derived.BigQuiet
import Derived.Deep.QuietTactic
import Derived.Lib.QuietBelow
import Derived.Lib.Hide
import Derived.Shelf.SlSortCmp.NoneTotal
import Derived.Laws.CopyRow
import Derived.Shelf.RegionOpenPlain
import Derived.WalkKit
import Derived.Deep.Draws
import Derived.Lib.SlKept
import Derived.Test.YtehkaajakapkmaaGreatFA17
import Derived.Test.YtehkaajakapkmaaGreatFA23
import Derived.Test.YtehkaajakapkmaaGreatFA27
import Derived.Test.YtehkaajakapkmaaGreatFA28
namespace Go.Proofs.YtehkaajakapkmaaGreat
section
open Go.RowKit Go.Sort
set_option maxRecDepth 100000
set_option maxHeartbeats 4000000
theorem orTwo (g : Nat) (a b r : Int) (W : World) (ra : a ≠ 0 → r = a) (rb : a = 0 → r = b) (h0 : W.cell? ⟨g, 0, none⟩ = some (.int .i64 a)) (h1 : W.cell? ⟨g, 1, none⟩ = some (.int .i64 b)) : Calls Tryz.prog 82 #[.slice (some ⟨g, 0, none⟩) 2 2] W (fun e w' => e = .returned (.int .i64 r) ∧ w' = W) := by
  have Ra := Lib.hid ra
  have Rb := Lib.hid rb
  clear ra rb
  go_enter Tryz.func82, Tryz.ntmps82
  go_wp2
  go_loopw [8] (fun i wr => ∃ k : Nat, k ≤ 2 ∧ i = .int .i64 k ∧ wr = W ∧ Hid (1 ≤ k → a = 0) ∧ Hid (2 ≤ k → b = 0)) (fun i _ => 2 - (intOf i).toNat)
  case atStart => exact ⟨0, Nat.zero_le _, rfl, rfl, Lib.hid fun h => by omega, Lib.hid fun h => by omega⟩
  case round =>
    obtain ⟨k, hk, rfl, rfl, ha, hb⟩ := hrel
    by_cases k0 : k = 0
    · subst k0
      go_wp2
      · rename_i h
        have hr := Ra.out (by simpa using h)
        exact bodyPost_ret (v := .int .i64 a) (by simp [results, Tryz.results82, go_sem] <;> rfl) rfl ⟨by rw [hr], rfl⟩
      · rename_i h
        have e0 : a = 0 := by simpa using h
        exact ⟨⟨1, by omega, rfl, trivial, Lib.hid fun _ => e0, Lib.hid fun h => by omega⟩, by simp [intOf]⟩
    · by_cases k1 : k = 1
      · subst k1
        go_wp2
        · have hr := Rb.out (ha.out (Nat.le_refl _))
          exact bodyPost_ret (v := .int .i64 b) (by simp [results, Tryz.results82, go_sem] <;> rfl) rfl ⟨by rw [hr], rfl⟩
        · rename_i h
          have e0 : b = 0 := by simpa using h
          exact ⟨⟨2, by omega, rfl, trivial, Lib.hid fun _ => ha.out (Nat.le_refl _), Lib.hid fun _ => e0⟩, by simp [intOf]⟩
      · obtain rfl : k = 2 := by omega
        go_wp2
        have hr := (Rb.out (ha.out (by omega))).trans (hb.out (by omega))
        exact bodyPost_ret (v := .int .i64 0) (by simp [results, Tryz.results82, go_sem] <;> rfl) rfl ⟨by rw [hr], rfl⟩
theorem cmpQs (p q : TCube) (W : World) : Calls Tryz.prog 51 #[.agg #[.int .i64 p.fCare, .int .i64 p.fValue], .agg #[.int .i64 q.fCare, .int .i64 q.fValue]] W (fun e w' => e = .returned (.int .i64 (cmpQ p q)) ∧ RgD.DBelow W.heap.size W w') := by
  have hcmp := fun x y W' => AnyG.cmp_Compare_int Tryz.laysSlC25_f83 x y W'
  change ∀ x y W', Calls Tryz.prog 83 _ _ _ at hcmp
  have cX : ((W.alloc (.cells #[.int .i64 p.fCare, .int .i64 p.fValue] 56)).alloc (.cells #[.int .i64 q.fCare, .int .i64 q.fValue] 56)).cell? ⟨W.heap.size, 1, none⟩ = some (.int .i64 p.fValue) :=
    (World.cell?_alloc_past _ _ _ (by rw [World.size_alloc]; omega)).trans (World.cell?_alloc_new _ _ _ _)
  have cY : ((W.alloc (.cells #[.int .i64 p.fCare, .int .i64 p.fValue] 56)).alloc (.cells #[.int .i64 q.fCare, .int .i64 q.fValue] 56)).cell? ⟨W.heap.size, 0, none⟩ = some (.int .i64 p.fCare) :=
    (World.cell?_alloc_past _ _ _ (by rw [World.size_alloc]; omega)).trans (World.cell?_alloc_new _ _ _ _)
  have dX : ((W.alloc (.cells #[.int .i64 p.fCare, .int .i64 p.fValue] 56)).alloc (.cells #[.int .i64 q.fCare, .int .i64 q.fValue] 56)).cell? ⟨W.heap.size + 1, 1, none⟩ = some (.int .i64 q.fValue) := by
    have := World.cell?_alloc_new (W.alloc (.cells #[.int .i64 p.fCare, .int .i64 p.fValue] 56)) #[.int .i64 q.fCare, .int .i64 q.fValue] 56 1
    rwa [World.size_alloc] at this
  have dY : ((W.alloc (.cells #[.int .i64 p.fCare, .int .i64 p.fValue] 56)).alloc (.cells #[.int .i64 q.fCare, .int .i64 q.fValue] 56)).cell? ⟨W.heap.size + 1, 0, none⟩ = some (.int .i64 q.fCare) := by
    have := World.cell?_alloc_new (W.alloc (.cells #[.int .i64 p.fCare, .int .i64 p.fValue] 56)) #[.int .i64 q.fCare, .int .i64 q.fValue] 56 0
    rwa [World.size_alloc] at this
  have b0 : RgD.DBelow W.heap.size W ((W.alloc (.cells #[.int .i64 p.fCare, .int .i64 p.fValue] 56)).alloc (.cells #[.int .i64 q.fCare, .int .i64 q.fValue] 56)) := ⟨((Below.refl _ _).alloc (Nat.le_refl _) _).alloc (by rw [World.size_alloc]; omega) _, Nat.le_refl _⟩
  have hs0 : ((W.alloc (.cells #[.int .i64 p.fCare, .int .i64 p.fValue] 56)).alloc (.cells #[.int .i64 q.fCare, .int .i64 q.fValue] 56)).heap.size = W.heap.size + 2 := by rw [World.size_alloc, World.size_alloc]
  go_enter Tryz.func51, Tryz.ntmps51
  go_wp2_with fail
  generalize hW2 : (W.alloc (.cells #[.int .i64 p.fCare, .int .i64 p.fValue] 56)).alloc (.cells #[.int .i64 q.fCare, .int .i64 q.fValue] 56) = W2 at *
  refine RgD.wp_region_rgv 10 [(fun v => v = .pointer (some ⟨W.heap.size, 0, none⟩)), (fun v => v = .int .i64 p.fCare), (fun v => v = .pointer (some ⟨W.heap.size + 1, 0, none⟩)), (fun v => v = .int .i64 q.fCare), (fun v => v = .int .i64 (Lib.compareInt p.fCare q.fCare)), (fun v => v = .pointer (some ⟨W.heap.size, 1, none⟩)), (fun v => v = .int .i64 p.fValue), (fun v => v = .pointer (some ⟨W.heap.size + 1, 1, none⟩)), (fun v => v = .int .i64 q.fValue), (fun v => v = .int .i64 (Lib.compareInt p.fValue q.fValue))] (by kernel_rfl) (by rintro ⟨_, _, h⟩; simp +zetaDelta [Exit.then, bodyPost] at h) (fun _ _ _ _ _ h => h) (by kernel_rfl) (by kernel_rfl) ⟨?_, ?_, ?_, ?_, ?_, ?_, ?_, ?_, ?_, ?_, ?_, ?_, ?_, trivial⟩ ?_
  · intro _ v w1 G hb hG hd
    clear hd; simp only [rgPut, rgDst, Act.put, List.getElem?_cons_zero, List.getElem?_cons_succ, Option.bind_some, List.setIfInBounds_toArray, List.set_cons_zero, List.set_cons_succ]
    go_wp2
    exact ⟨rfl, RgD.DBelow.refl _ _, rfl, fun g hg => (by cases hg)⟩
  · intro _ v w1 G hb hG hd
    have d0 : v 0 = .pointer (some ⟨W.heap.size, 0, none⟩) := hd 0 (by kernel_rfl)
    clear hd; simp only [rgPut, rgDst, Act.put, List.getElem?_cons_zero, List.getElem?_cons_succ, Option.bind_some, List.setIfInBounds_toArray, List.set_cons_zero, List.set_cons_succ, d0]
    have e1 := (Below.cell hb.below (p := ⟨W.heap.size, 0, none⟩) (by show W.heap.size < _; omega)).trans cY
    go_wp2
    exact ⟨rfl, RgD.DBelow.refl _ _, rfl, fun g hg => (by cases hg)⟩
  · intro _ v w1 G hb hG hd
    clear hd; simp only [rgPut, rgDst, Act.put, List.getElem?_cons_zero, List.getElem?_cons_succ, Option.bind_some, List.setIfInBounds_toArray, List.set_cons_zero, List.set_cons_succ]
    go_wp2
    exact ⟨rfl, RgD.DBelow.refl _ _, rfl, fun g hg => (by cases hg)⟩
  · intro _ v w1 G hb hG hd
    have d2 : v 2 = .pointer (some ⟨W.heap.size + 1, 0, none⟩) := hd 2 (by kernel_rfl)
    clear hd; simp only [rgPut, rgDst, Act.put, List.getElem?_cons_zero, List.getElem?_cons_succ, Option.bind_some, List.setIfInBounds_toArray, List.set_cons_zero, List.set_cons_succ, d2]
    have e3 := (Below.cell hb.below (p := ⟨W.heap.size + 1, 0, none⟩) (by show W.heap.size + 1 < _; omega)).trans dY
    go_wp2
    exact ⟨rfl, RgD.DBelow.refl _ _, rfl, fun g hg => (by cases hg)⟩
  · intro _ v w1 G hb hG hd
    have d1 : v 1 = .int .i64 p.fCare := hd 1 (by kernel_rfl)
    have d3 : v 3 = .int .i64 q.fCare := hd 3 (by kernel_rfl)
    clear hd; simp only [rgPut, rgDst, Act.put, List.getElem?_cons_zero, List.getElem?_cons_succ, Option.bind_some, List.setIfInBounds_toArray, List.set_cons_zero, List.set_cons_succ, d1, d3]
    have hc1 := hcmp p.fCare q.fCare w1
    clear hcmp
    go_wp2_with (go_at_call 83; refine hc1.mono ?_; rintro e w' ⟨rfl, rfl⟩)
    exact ⟨rfl, RgD.DBelow.refl _ _, rfl, fun g hg => (by cases hg)⟩
  · intro _ v w1 G hb hG hd
    clear hd; simp only [rgPut, rgDst, Act.put, List.getElem?_cons_zero, List.getElem?_cons_succ, Option.bind_some, List.setIfInBounds_toArray, List.set_cons_zero, List.set_cons_succ]
    go_wp2
    exact ⟨rfl, RgD.DBelow.refl _ _, rfl, fun g hg => (by cases hg)⟩
  · intro _ v w1 G hb hG hd
    have d5 : v 5 = .pointer (some ⟨W.heap.size, 1, none⟩) := hd 5 (by kernel_rfl)
    clear hd; simp only [rgPut, rgDst, Act.put, List.getElem?_cons_zero, List.getElem?_cons_succ, Option.bind_some, List.setIfInBounds_toArray, List.set_cons_zero, List.set_cons_succ, d5]
    have e6 := (Below.cell hb.below (p := ⟨W.heap.size, 1, none⟩) (by show W.heap.size < _; omega)).trans cX
    go_wp2
    exact ⟨rfl, RgD.DBelow.refl _ _, rfl, fun g hg => (by cases hg)⟩
  · intro _ v w1 G hb hG hd
    clear hd; simp only [rgPut, rgDst, Act.put, List.getElem?_cons_zero, List.getElem?_cons_succ, Option.bind_some, List.setIfInBounds_toArray, List.set_cons_zero, List.set_cons_succ]
    go_wp2
    exact ⟨rfl, RgD.DBelow.refl _ _, rfl, fun g hg => (by cases hg)⟩
  · intro _ v w1 G hb hG hd
    have d7 : v 7 = .pointer (some ⟨W.heap.size + 1, 1, none⟩) := hd 7 (by kernel_rfl)
    clear hd; simp only [rgPut, rgDst, Act.put, List.getElem?_cons_zero, List.getElem?_cons_succ, Option.bind_some, List.setIfInBounds_toArray, List.set_cons_zero, List.set_cons_succ, d7]
    have e8 := (Below.cell hb.below (p := ⟨W.heap.size + 1, 1, none⟩) (by show W.heap.size + 1 < _; omega)).trans dX
    go_wp2
    exact ⟨rfl, RgD.DBelow.refl _ _, rfl, fun g hg => (by cases hg)⟩
  · intro _ v w1 G hb hG hd
    have d6 : v 6 = .int .i64 p.fValue := hd 6 (by kernel_rfl)
    have d8 : v 8 = .int .i64 q.fValue := hd 8 (by kernel_rfl)
    clear hd; simp only [rgPut, rgDst, Act.put, List.getElem?_cons_zero, List.getElem?_cons_succ, Option.bind_some, List.setIfInBounds_toArray, List.set_cons_zero, List.set_cons_succ, d6, d8]
    have hc1 := hcmp p.fValue q.fValue w1
    clear hcmp
    go_wp2_with (go_at_call 83; refine hc1.mono ?_; rintro e w' ⟨rfl, rfl⟩)
    exact ⟨rfl, RgD.DBelow.refl _ _, rfl, fun g hg => (by cases hg)⟩
  · (intro hk; exact absurd hk (by decide))
  · (intro hk; exact absurd hk (by decide))
  · (intro hk; exact absurd hk (by decide))
  intro v w1 hb hA
  have a0 : v 0 = .pointer (some ⟨W.heap.size, 0, none⟩) := hA 0 (by decide)
  have a1 : v 1 = .int .i64 p.fCare := hA 1 (by decide)
  have a2 : v 2 = .pointer (some ⟨W.heap.size + 1, 0, none⟩) := hA 2 (by decide)
  have a3 : v 3 = .int .i64 q.fCare := hA 3 (by decide)
  have a4 : v 4 = .int .i64 (Lib.compareInt p.fCare q.fCare) := hA 4 (by decide)
  have a5 : v 5 = .pointer (some ⟨W.heap.size, 1, none⟩) := hA 5 (by decide)
  have a6 : v 6 = .int .i64 p.fValue := hA 6 (by decide)
  have a7 : v 7 = .pointer (some ⟨W.heap.size + 1, 1, none⟩) := hA 7 (by decide)
  have a8 : v 8 = .int .i64 q.fValue := hA 8 (by decide)
  have a9 : v 9 = .int .i64 (Lib.compareInt p.fValue q.fValue) := hA 9 (by decide)
  clear hA; simp only [rgPut, rgDst, Act.put, List.getElem?_cons_zero, List.getElem?_cons_succ, Option.bind_some, List.setIfInBounds_toArray, List.set_cons_zero, List.set_cons_succ, a0, a1, a2, a3, a4, a5, a6, a7, a8, a9]
  refine RgD.wpList_tl (by kernel_rfl) ?_
  simp only [List.drop_succ_cons, List.drop_zero]
  have hsz := hb.size
  have hor := orTwo w1.heap.size (Lib.compareInt p.fCare q.fCare) (Lib.compareInt p.fValue q.fValue) (cmpQ p q) (w1.alloc (.cells #[.int .i64 (Lib.compareInt p.fCare q.fCare), .int .i64 (Lib.compareInt p.fValue q.fValue)] 3)) (fun h => if_neg h) (fun h => if_pos h) (World.cell?_alloc_new _ _ _ _) (World.cell?_alloc_new _ _ _ _)
  have hB : RgD.DBelow W.heap.size W (w1.alloc (.cells #[.int .i64 (Lib.compareInt p.fCare q.fCare), .int .i64 (Lib.compareInt p.fValue q.fValue)] 3)) :=
    ⟨(b0.below.trans (hb.below.mono b0.below.size)).alloc (Nat.le_trans b0.below.size hsz) _, Nat.le_trans b0.drawn hb.drawn⟩
  clear hcmp cX cY dX dY b0 hs0 hW2 a0 a1 a2 a3 a4 a5 a6 a7 a8 a9 hb hsz
  generalize Lib.compareInt p.fCare q.fCare = A at *
  generalize Lib.compareInt p.fValue q.fValue = B at *
  go_wp2_with (go_at_call 82; refine hor.mono ?_; rintro e w' ⟨rfl, rfl⟩)
  exact bodyPost_ret (v := .int .i64 (cmpQ p q)) (by simp [results, Tryz.results51, go_sem] <;> rfl) rfl ⟨rfl, hB⟩
def cellsQ (t : TCube) : List Value := [.int .i64 t.fCare, .int .i64 t.fValue]
theorem closeQ (t s : TCube) (W : World) : Calls Tryz.prog 51 #[.agg #[.int .i64 t.fCare, .int .i64 t.fValue], .agg #[.int .i64 s.fCare, .int .i64 s.fValue]] W (fun e w' => e = .returned (.int .i64 (cmpQ t s)) ∧ ∃ q os', w' = Sort.grow (W.drewN q) os') :=
  (cmpQs t s W).mono fun e w' ⟨he, h⟩ => ⟨he, by
    obtain ⟨⟨d, os⟩, rfl⟩ := regrown_of_below h.below
    have hd : W.drawn ≤ d := h.drawn
    refine ⟨d - W.drawn, os, ?_⟩
    unfold Sort.grow redrawn World.drewN
    simp
    omega⟩
instance : Inhabited TCube := ⟨⟨0, 0⟩⟩
def flatI (l : List TCube) : List Int := l.flatMap fun t => [t.fCare, t.fValue]
theorem flat_en (l : List TCube) : (l.map enCube).flatten = (flatI l).map iD := by
  induction l with
  | nil => rfl
  | cons t l ih =>
    show enCube t ++ (l.map enCube).flatten = ([t.fCare, t.fValue] ++ flatI l).map iD
    rw [ih, List.map_append]; rfl
theorem flat_cells (l : List TCube) : (l.map cellsQ).flatten = (flatI l).map (Value.int .i64) := by
  induction l with
  | nil => rfl
  | cons t l ih =>
    show cellsQ t ++ (l.map cellsQ).flatten = ([t.fCare, t.fValue] ++ flatI l).map (Value.int .i64)
    rw [ih, List.map_append]; rfl
theorem flatI_len (l : List TCube) : (flatI l).length = l.length * 2 := by
  induction l with
  | nil => rfl
  | cons t l ih =>
    show ([t.fCare, t.fValue] ++ flatI l).length = _
    rw [List.length_append, ih, List.length_cons]
    simp; omega
theorem flatK_eq (l : List TCube) : flatK cellsQ 2 l.toArray = ((flatI l).map (Value.int .i64)).toArray := by
  rw [← flat_cells]
  have hl : ∀ es ∈ l.map cellsQ, es.length = 2 := fun es h => by obtain ⟨t, _, rfl⟩ := List.mem_map.1 h; rfl
  have hlen : (l.map cellsQ).flatten.length = l.length * 2 := by rw [flatten_len hl, List.length_map]
  refine ext_get! (by rw [size_flatK]; simp only [List.size_toArray]; rw [hlen]) fun t ht => ?_
  rw [size_flatK] at ht
  have ht' : t < l.length * 2 := by simpa using ht
  rw [get_flatK _ _ _ _ ht]
  obtain ⟨x, hx⟩ : ∃ x, l[t / 2]? = some x := ⟨_, List.getElem?_eq_getElem (by omega)⟩
  have h1 := flatten_get (xs := l.map cellsQ) (i := t / 2) (j := t % 2) (es := cellsQ x) hl (by rw [List.getElem?_map, hx]; rfl) (by omega)
  rw [show t / 2 * 2 + t % 2 = t by omega] at h1
  have h2 : l.toArray[t / 2]! = x := by
    rw [List.getElem!_toArray, List.getElem!_eq_getElem?_getD, hx]; rfl
  rw [h2, List.getElem!_toArray, List.getElem!_eq_getElem?_getD, List.getElem!_eq_getElem?_getD, h1]
theorem ET.ofI {W : World} : ∀ {l : List Int} {vs : List Value} {S1 : List Nat}, ET W vs (l.map iD) S1 → vs = l.map (Value.int .i64) ∧ S1 = [] ∧ ∀ n ∈ l, okI (.int .i64 n)
  | [], _, _, h => by cases h; exact ⟨rfl, rfl, fun n h => by cases h⟩
  | n :: l, _, _, h => by
    cases h with
    | pv h1 hi h2 =>
      obtain ⟨rfl, rfl, h3⟩ := ET.ofI h2
      exact ⟨rfl, rfl, fun m hm => by
        rcases List.mem_cons.1 hm with rfl | hm
        · exact hi
        · exact h3 m hm⟩
theorem ET.toI {W : World} : ∀ {l : List Int}, (∀ n ∈ l, okI (.int .i64 n)) → ET W (l.map (Value.int .i64)) (l.map iD) []
  | [], _ => .nil
  | n :: l, h => .pv rfl (h n (by simp)) (ET.toI fun m hm => h m (by simp [hm]))
theorem frO1q {i o : Nat} {x y : Ob} (h : frO [(i, x)] o = some y) : o = i ∧ y = x := by
  unfold frO upd at h
  split at h
  · rename_i e
    cases h
    exact ⟨e, rfl⟩
  · cases h
theorem ltOfQ (t s : TCube) : ltOf cmpQ t s = decide (ltQ t s) := rfl
theorem swoQ : SWO (ltOf cmpQ) where
  irrefl x := by rw [ltOfQ]; exact decide_eq_false (ltQ_irr _)
  trans x y z h1 h2 := by rw [ltOfQ, decide_eq_true_eq] at *; exact ltQ_trans h1 h2
  ntrans x y z h1 h2 := by rw [ltOfQ, decide_eq_false_iff_not, ltQ_iff] at *; omega
theorem cmpLaysQ (blk off size : Nat) (w : World) : CmpLays Tryz.prog 51 #[] cellsQ 2 cmpQ blk off size w :=
  fun _ _ _ _ x y => closeQ x y _
theorem lib_sortQ (l : List TCube) (hl : l.length ≤ 1048576) : SpecM Tryz.prog 72 [.c (.own (pin 0)), .c (.d (.fn 51 []))] [(pin 0, .arr kCube (l.map enCube) [])] (.tup []) [(pin 0, .arr kCube ((srtQ l).map enCube) [])] := by
  refine ⟨fun vs w => by kernel_rfl, fun w R ι φ vs hR hF ho => ?_⟩
  cases hF with
  | cons hv hF =>
  cases hF with
  | cons hv2 hF =>
  cases hF
  rename_i v v2
  have hv2 : RD w R v2 (.fn 51 []) := hv2
  cases hv2
  rename_i us hul hur
  obtain rfl : us = [] := List.eq_nil_of_length_eq_zero hul
  obtain ⟨hdom, hv⟩ := hv
  have hX : frO [(pin 0, Ob.arr kCube (l.map enCube) [])] (pin 0) = some (.arr kCube (l.map enCube) []) := rfl
  obtain ⟨hk, xs, S1, how, heh, hS, hnd⟩ := ho.1 _ _ hX
  have heh : EH w ι (domO (frO [(pin 0, Ob.arr kCube (l.map enCube) [])])) xs ((l.map enCube).flatten.map .d) S1 := heh
  have het := EH.to_ET heh
  rw [flat_en] at het
  obtain ⟨rfl, rfl, hok⟩ := ET.ofI het
  have hlen : (l.map enCube).length = l.length := List.length_map ..
  rw [← hv, hlen] at how
  have hp := srtQ_perm l
  have hmem : ∀ n ∈ flatI (srtQ l), okI (.int .i64 n) := fun n hn => hok n (by
    unfold flatI at hn ⊢
    obtain ⟨t, ht, hn⟩ := List.mem_flatMap.1 hn
    exact List.mem_flatMap.2 ⟨t, hp.mem_iff.1 ht, hn⟩)
  have hsl : (srtQ l).length = l.length := (srtQ_perm l).length_eq
  have hmine := ho.2.1 _ _ hX
  obtain ⟨_, ⟨hv0, hn⟩ | ⟨g, cap, cur, rfl, hlc, hg, hnc, hcm, hcs, htake⟩⟩ := how
  · obtain rfl : l = [] := List.eq_nil_of_length_eq_zero hn
    subst hv0
    rw [show srtQ ([] : List TCube) = [] from by simp [srtQ]]
    refine (AnyF.slices_SortFunc_none { Tryz.laysSortQ with } none 0 _ w).mono fun e w' => ?_
    rintro ⟨rfl, rfl⟩
    exact ⟨_, rfl, R, ι, φ, BelowM.refl _ _, fun b h => h, hR, fun b h _ => .inl h, ⟨[], rfl, .nil⟩, ho, fun b hb => .inl hb, fun _ _ => rfl⟩
  have hgs : g < w.heap.size := by
    rcases Nat.lt_or_ge g w.heap.size with h | h
    · exact h
    · rw [Array.getElem?_eq_none h] at hg; cases hg
  rw [← hv] at hS
  have hφ : φ (pin 0) = [g] := hS
  have hfl := flatI_len l
  have hfl2 := flatI_len (srtQ l)
  have hcur : ∀ j, j < l.length * 2 → cur[j]? = ((flatI l).map (Value.int .i64))[j]? := fun j hj => by
    have h1 : (cur.toList.take (l.length * 2))[j]? = ((flatI l).map (Value.int .i64))[j]? := by rw [htake]
    rwa [List.getElem?_take_of_lt hj, Array.getElem?_toList] at h1
  have hH : HoldsK cellsQ 2 w g 0 l.toArray := by
    unfold HoldsK
    rw [flatK_eq]
    intro j hj
    have hj' : j < l.length * 2 := by simpa [hfl] using hj
    obtain ⟨n, hn⟩ : ∃ n, (flatI l)[j]? = some n := ⟨_, List.getElem?_eq_getElem (by omega)⟩
    have h1 := hcur j hj'
    rw [List.getElem?_map, hn] at h1
    have h2 : ((flatI l).map (Value.int .i64)).toArray[j]! = .int .i64 n := by
      rw [List.getElem!_toArray, List.getElem!_eq_getElem?_getD, List.getElem?_map, hn]; rfl
    refine ⟨?_, ?_⟩
    · show w.cell? ⟨g, 0 + j, none⟩ = some (id _)
      unfold World.cell?
      rw [hg, Nat.zero_add, h2]
      exact h1
    · show w.frozen? ⟨g, 0 + j, none⟩ = false
      unfold World.frozen?
      rw [hg]
      simp
  have hcon := AnyQ.slices_SortFunc Tryz.laysSortQ 2 Tryz.isAgg56 Tryz.sizeOf56 cellsQ (fun _ => rfl) (fun x v hv => by simp [cellsQ] at hv; rcases hv with rfl | rfl <;> rfl) cmpQ swoQ 51 #[] g 0 cap l.toArray w (enters_of Tryz.func51 (by kernel_rfl) rfl) (cmpLaysQ g 0 l.toArray.size w) hH hgs (by simp; omega)
  refine hcon.mono fun e w' => ?_
  rintro ⟨rfl, d', n, os, hpm, hso, rfl⟩
  have hds : d'.size = l.length := by simpa using hpm.1
  have hml : d'.toList = srtQ l := by
    refine srtQ_uniq ?_ (List.pairwise_iff_getElem.2 fun i j hi hj hij hlt => ?_)
    · have h3 := hpm.2.2
      have e1 : d'.extract 0 l.toArray.size = d' := by simp [← hds]
      have e2 : l.toArray.extract 0 l.toArray.size = l.toArray := by simp
      rw [e1, e2] at h3
      simpa using h3
    · have h4 := hso i j (Nat.zero_le _) hij (by simpa [hds] using hj)
      rw [ltOfQ, decide_eq_false_iff_not] at h4
      have ei : d'[i]! = d'.toList[i] := by rw [getElem!_pos d' i (by simpa using hi)]; simp
      have ej : d'[j]! = d'.toList[j] := by rw [getElem!_pos d' j (by simpa using hj)]; simp
      rw [ei, ej] at h4
      exact h4 hlt
  obtain rfl : d' = (srtQ l).toArray := by rw [← hml]
  clear hpm hso hds hml hcon hH
  have hwd : sortWorldK cellsQ 2 w g 0 n (srtQ l).toArray os = grow (putRow id (Sort.ahead w n) g 0 ((flatI (srtQ l)).map (Value.int .i64)).toArray) os := by
    unfold sortWorldK putRowK
    rw [flatK_eq]
  rw [hwd]
  have hsz : (putRow id (Sort.ahead w n) g 0 ((flatI (srtQ l)).map (Value.int .i64)).toArray).heap.size = w.heap.size := by simp [putRow, mapBlock, Sort.ahead]
  have hold : ∀ k, k < w.heap.size → (grow (putRow id (Sort.ahead w n) g 0 ((flatI (srtQ l)).map (Value.int .i64)).toArray) os).heap[k]? = (putRow id (Sort.ahead w n) g 0 ((flatI (srtQ l)).map (Value.int .i64)).toArray).heap[k]? := fun k hk => by
    unfold grow
    exact Array.getElem?_append_left (by rw [hsz]; exact hk)
  have hgn : (grow (putRow id (Sort.ahead w n) g 0 ((flatI (srtQ l)).map (Value.int .i64)).toArray) os).heap[g]? = some (.cells (putCells id 0 ((flatI (srtQ l)).map (Value.int .i64)).toArray cur) 56 (0, 0)) := by
    rw [hold g hgs]
    simp only [putRow, mapBlock, Sort.ahead, Array.getElem?_modify, if_true, hg, Option.map_some, onCells]
  have hsize : w.heap.size ≤ (grow (putRow id (Sort.ahead w n) g 0 ((flatI (srtQ l)).map (Value.int .i64)).toArray) os).heap.size := by
    unfold grow
    simp only [Array.size_append, hsz]
    omega
  have hblk : ∀ k, k < w.heap.size → k ≠ g → (grow (putRow id (Sort.ahead w n) g 0 ((flatI (srtQ l)).map (Value.int .i64)).toArray) os).heap[k]? = w.heap[k]? := fun k hk hne => by
    rw [hold k hk]
    simp only [putRow, mapBlock, Sort.ahead, Array.getElem?_modify]
    rw [if_neg fun h => hne h.symm]
  refine ⟨_, rfl, R, ι, φ, ⟨rfl, rfl, rfl, hsize, fun k hk hM => hblk k hk fun e => hM ⟨pin 0, _, hX, by rw [hφ, e]; simp⟩⟩, fun b h => h, fun b h => Nat.lt_of_lt_of_le (hR b h) hsize, fun b h _ => .inl h, ⟨[], rfl, .nil⟩, ⟨?_, ?_, ?_, ho.2.2.2.keep (fun _ h => h) fun b hb => hblk b (hR b hb) fun e => (ho.2.1 _ _ hX g (by rw [hφ]; simp)).1 (e ▸ hb)⟩, ?_, fun _ _ => rfl⟩
  · intro o x hx
    obtain ⟨rfl, rfl⟩ := frO1q hx
    refine ⟨fun es hes => by obtain ⟨m, _, rfl⟩ := List.mem_map.1 hes; rfl, (flatI (srtQ l)).map (Value.int .i64), [], ?_, ?_, ?_, by rw [hφ]; simp⟩
    · rw [← hv]
      have hlen2 : ((srtQ l).map enCube).length = l.length := by rw [List.length_map, hsl]
      rw [hlen2]
      refine ⟨by rw [List.length_map, hfl2, hsl], .inr ⟨g, cap, _, rfl, hlc, hgn, hnc, hcm, by simp [putCells, hcs], ?_⟩⟩
      show (putCells id 0 ((flatI (srtQ l)).map (Value.int .i64)).toArray cur).toList.take (l.length * 2) = (flatI (srtQ l)).map (Value.int .i64)
      apply List.ext_getElem?
      intro j
      by_cases hj : j < l.length * 2
      · obtain ⟨m, hm⟩ : ∃ m, (flatI (srtQ l))[j]? = some m := ⟨_, List.getElem?_eq_getElem (by omega)⟩
        obtain ⟨m0, hm0⟩ : ∃ m, (flatI l)[j]? = some m := ⟨_, List.getElem?_eq_getElem (by omega)⟩
        have hc := hcur j hj
        rw [List.getElem?_map, hm0] at hc
        have hj3 : j < ((flatI (srtQ l)).map (Value.int .i64)).toArray.size := by simp; omega
        have h2 : ((flatI (srtQ l)).map (Value.int .i64)).toArray[j]! = .int .i64 m := by
          rw [List.getElem!_toArray, List.getElem!_eq_getElem?_getD, List.getElem?_map, hm]; rfl
        rw [List.getElem?_take_of_lt hj, Array.getElem?_toList, List.getElem?_map, hm]
        unfold putCells
        rw [Array.getElem?_mapIdx, hc]
        simp only [Option.map_some]
        rw [if_pos ⟨Nat.zero_le _, by omega⟩, Nat.sub_zero, h2]
        rfl
      · rw [List.getElem?_eq_none (by rw [List.length_take]; omega), List.getElem?_eq_none (by rw [List.length_map]; omega)]
    · show EH _ ι _ _ (((srtQ l).map enCube).flatten.map .d) []
      rw [flat_en]
      exact EH.of_ET (ET.toI hmem)
    · rw [← hv, hφ]; rfl
  · intro o x hx b hb
    obtain ⟨rfl, rfl⟩ := frO1q hx
    exact ⟨(hmine b hb).1, Nat.lt_of_lt_of_le (hmine b hb).2 hsize⟩
  · intro o p x y b h1 h2 _ _
    rw [(frO1q h1).1, (frO1q h2).1]
  · rintro b ⟨o, x, hx, hb⟩
    obtain ⟨rfl, rfl⟩ := frO1q hx
    exact .inl ⟨pin 0, _, hX, hb⟩
end
section
open Go.RowKit
set_option maxRecDepth 100000
set_option maxHeartbeats 1000000
def c2 (q : TCube) : List Value := [.int .i64 q.fCare, .int .i64 q.fValue]
def flat2 : List TCube → List Value
  | [] => []
  | q :: l => c2 q ++ flat2 l
theorem c2_len (q : TCube) : (c2 q).length = 2 := rfl
theorem flat2_len : ∀ l : List TCube, (flat2 l).length = l.length * 2
  | [] => rfl
  | q :: l => by rw [flat2, List.length_append, c2_len, flat2_len l, List.length_cons]; omega
theorem flat2_append : ∀ a b : List TCube, flat2 (a ++ b) = flat2 a ++ flat2 b
  | [], b => rfl
  | q :: a, b => by rw [List.cons_append, flat2, flat2_append a b, flat2, List.append_assoc]
theorem flat2_take : ∀ (l : List TCube) (i : Nat), (flat2 l).take (i * 2) = flat2 (l.take i)
  | [], i => by simp [flat2]
  | q :: l, 0 => by simp [flat2]
  | q :: l, i + 1 => by
    rw [flat2, List.take_append, List.take_of_length_le (by rw [c2_len]; omega), c2_len, show (i + 1) * 2 - 2 = i * 2 by omega, flat2_take l i]
    rfl
theorem flat2_drop : ∀ (l : List TCube) (i : Nat), (flat2 l).drop (i * 2) = flat2 (l.drop i)
  | [], i => by simp [flat2]
  | q :: l, 0 => by simp
  | q :: l, i + 1 => by
    rw [flat2, List.drop_append, List.drop_of_length_le (by rw [c2_len]; omega), c2_len, show (i + 1) * 2 - 2 = i * 2 by omega, flat2_drop l i]
    rfl
theorem flat2_get {l : List TCube} {i : Nat} {q : TCube} (h : l[i]? = some q) {j : Nat} (hj : j < 2) : (flat2 l)[i * 2 + j]? = (c2 q)[j]? := by
  have h1 : l = l.take i ++ q :: l.drop (i + 1) := by
    have := List.getElem?_eq_some_iff.1 h
    obtain ⟨hi, rfl⟩ := this
    simp
  have hi : i < l.length := (List.getElem?_eq_some_iff.1 h).1
  have h2 : (flat2 (l.take i)).length = i * 2 := by rw [flat2_len, List.length_take]; omega
  rw [h1, flat2_append, List.getElem?_append_right (by omega), h2, flat2, List.getElem?_append_left (by rw [c2_len]; omega)]
  congr 1
  omega
def Bk (w : World) (g : Nat) (X : List Value) : Prop := w.heap[g]? = some (.cells X.toArray 56 (0, 0))
theorem Bk.cell {w : World} {g : Nat} {X : List Value} (h : Bk w g X) {o : Nat} {v : Value} (hx : X[o]? = some v) : w.cell? ⟨g, o, none⟩ = some v := by
  have h : w.heap[g]? = _ := h
  simp [World.cell?, h, hx]
theorem Bk.frz {w : World} {g : Nat} {X : List Value} (h : Bk w g X) (o : Nat) : w.frozen? ⟨g, o, none⟩ = false := by
  have h : w.heap[g]? = _ := h
  simp [World.frozen?, h]
theorem Bk.lt {w : World} {g : Nat} {X : List Value} (h : Bk w g X) : g < w.heap.size := by
  have h : w.heap[g]? = _ := h
  exact (Array.getElem?_eq_some_iff.1 h).1
theorem Bk.keep {w w' : World} {g : Nat} {X : List Value} (h : Bk w g X) (hb : Below w.heap.size w w') : Bk w' g X := (hb.block g h.lt).trans h
theorem Bk.tile {w : World} {g : Nat} {X : List Value} {n : Nat} {l : List TCube} (h : Bk w g X) (hX : X.take (n * 2) = flat2 l) {i : Nat} {q : TCube} (hq : l[i]? = some q) (hi : i < n) : w.cell? ⟨g, i * 2, none⟩ = some (.int .i64 q.fCare) ∧ w.cell? ⟨g, i * 2 + 1, none⟩ = some (.int .i64 q.fValue) := by
  have key : ∀ j, j < 2 → X[i * 2 + j]? = (c2 q)[j]? := fun j hj => by
    rw [← flat2_get hq hj, ← hX, List.getElem?_take_of_lt (by omega)]
  exact ⟨h.cell (key 0 (by omega)), h.cell (key 1 (by omega))⟩
abbrev But (g : Nat) (w w' : World) : Prop := BelowM (fun b => b = g) w w'
theorem But.below {g : Nat} {a b c : World} (h : But g a b) (hb : Below b.heap.size b c) : But g a c := h.then hb
theorem But.trans {g : Nat} {a b c : World} (h : But g a b) (k : But g b c) : But g a c := BelowM.trans h k fun _ h => .inl h
theorem Bk.row {w : World} {g : Nat} {X : List Value} (h : Bk w g X) (Y : List Value) : Bk (w.setRow g Y.toArray) g Y ∧ But g w (w.setRow g Y.toArray) ∧ (w.setRow g Y.toArray).heap.size = w.heap.size := by
  have hs : (w.setRow g Y.toArray).heap.size = w.heap.size := by simp [World.setRow]
  exact ⟨setRow_heap w g _ _ _ _ h, ⟨rfl, rfl, rfl, by rw [hs]; exact Nat.le_refl _, fun k _ hk => setRow_other w g k _ hk⟩, hs⟩
def putX (X : List Value) (o : Nat) (vs : List Value) : List Value := X.take o ++ vs ++ X.drop (o + vs.length)
theorem putX_len {X vs : List Value} {o : Nat} (h : o + vs.length ≤ X.length) : (putX X o vs).length = X.length := by
  unfold putX
  simp only [List.length_append, List.length_take, List.length_drop]
  omega
theorem Bk.put {w : World} {g : Nat} {X : List Value} (h : Bk w g X) {o : Nat} {vs : List Value} (hfit : o + vs.length ≤ X.length) (h1 : ∀ v ∈ vs, v.oneCell' = true) : (storeCells ⟨g, o, none⟩ vs 0).run Tryz.prog w = .ok () (w.setRow g (putX X o vs).toArray) := by
  have := run_storeCells_at Tryz.prog g o 56 vs 0 X.toArray w h (by simpa using hfit) h1
  simpa [putX] using this
theorem put2_list (X : List Value) (o : Nat) (x y : Value) (h : o + 2 ≤ X.length) : (X.set o x).set (o + 1) y = putX X o [x, y] := by
  have h3 : (X.take o).length = o := by rw [List.length_take]; omega
  unfold putX
  apply List.ext_getElem?
  intro j
  rw [List.append_assoc]
  by_cases hj : j < o
  · rw [List.getElem?_append_left (by omega), List.getElem?_take_of_lt hj, List.getElem?_set_ne (by omega), List.getElem?_set_ne (by omega)]
  · rw [List.getElem?_append_right (by omega), h3]
    by_cases h0 : j = o
    · subst h0
      rw [List.getElem?_set_ne (by omega), List.getElem?_set_self (by omega)]
      simp
    · by_cases h1 : j = o + 1
      · subst h1
        rw [List.getElem?_set_self (by rw [List.length_set]; omega), show o + 1 - o = 1 by omega]
        rfl
      · rw [List.getElem?_set_ne (by omega), List.getElem?_set_ne (by omega), List.getElem?_append_right (by simp; omega), List.getElem?_drop]
        congr 1
        simp
        omega
theorem Bk.set2 {w : World} {g : Nat} {X : List Value} (h : Bk w g X) (o : Nat) (x y : Value) (hfit : o + 2 ≤ X.length) : (w.setCell ⟨g, o, none⟩ x).setCell ⟨g, o + 1, none⟩ y = w.setRow g (putX X o [x, y]).toArray := by
  have h0 : w.heap[g]? = _ := h
  rw [setCell_eq_setRow w g o _ _ _ x h0]
  have h1 := setRow_heap w g _ (X.toArray.setIfInBounds o x) _ _ h0
  rw [setCell_eq_setRow _ g (o + 1) _ _ _ y h1, setRow_setRow, ← put2_list X o x y hfit]
  simp
theorem Bk.some2 {w : World} {g : Nat} {X : List Value} (h : Bk w g X) {o : Nat} (hfit : o < X.length) : ∃ v, w.cell? ⟨g, o, none⟩ = some v := ⟨X[o], h.cell (List.getElem?_eq_getElem hfit)⟩
theorem take3 {A B C : List Value} {N : Nat} (h : A.length + B.length ≤ N) : (A ++ B ++ C).take N = A ++ B ++ C.take (N - A.length - B.length) := by
  rw [List.take_append, List.take_of_length_le (by rw [List.length_append]; omega), List.length_append, Nat.sub_sub]
theorem putX_row {X : List Value} {l m : List TCube} {n i : Nat} (hX : X.take (n * 2) = flat2 l) (hi : i + m.length ≤ n) (hn : n * 2 ≤ X.length) : (putX X (i * 2) (flat2 m)).take (n * 2) = flat2 (l.take i ++ m ++ l.drop (i + m.length)) := by
  have hm := flat2_len m
  have h1 : X.take (i * 2) = flat2 (l.take i) := by
    rw [← flat2_take, ← hX, List.take_take, Nat.min_eq_left (by omega)]
  have h2 : (X.drop (i * 2 + (flat2 m).length)).take (n * 2 - (i * 2 + (flat2 m).length)) = flat2 (l.drop (i + m.length)) := by
    rw [← flat2_drop, ← hX, List.drop_take, hm, show (i + m.length) * 2 = i * 2 + m.length * 2 by omega]
  have h3 : (X.take (i * 2)).length = i * 2 := by rw [List.length_take]; omega
  unfold putX
  rw [take3 (by rw [h3]; omega), h3, flat2_append, flat2_append, h1, ← h2, show n * 2 - i * 2 - (flat2 m).length = n * 2 - (i * 2 + (flat2 m).length) by omega]
theorem own_bk {w : World} {B : Nat} {v : Value} {n : Nat} {l : List TCube} (h : w.ownsRow B 56 2 v n (flat2 l)) : (v = .slice none 0 0 ∧ l = [] ∧ n = 0) ∨ ∃ g cap X, v = .slice (some ⟨g, 0, none⟩) n cap ∧ B ≤ g ∧ Bk w g X ∧ n ≤ cap ∧ cap ≤ maxLen ∧ X.length = cap * 2 ∧ X.take (n * 2) = flat2 l ∧ l.length = n := by
  have hn : l.length = n := by
    have := h.1
    rw [flat2_len] at this
    omega
  rcases h.2 with ⟨h1, h2⟩ | ⟨g, cap, cur, h1, h2, h3, h4, h5, h6, h7⟩
  · exact .inl ⟨h1, List.eq_nil_of_length_eq_zero (by omega), h2⟩
  · exact .inr ⟨g, cap, cur.toList, h1, h2, by unfold Bk; rw [Array.toArray_toList]; exact h3, h4, h5, by rw [← h6]; simp, h7, hn⟩
theorem bk_own {w : World} {B : Nat} {n cap g : Nat} {X : List Value} {l : List TCube} (hB : B ≤ g) (h : Bk w g X) (hc : n ≤ cap) (hm : cap ≤ maxLen) (hx : X.length = cap * 2) (ht : X.take (n * 2) = flat2 l) (hl : l.length = n) : w.ownsRow B 56 2 (.slice (some ⟨g, 0, none⟩) n cap) n (flat2 l) :=
  ⟨by rw [flat2_len, hl], .inr ⟨g, cap, X.toArray, rfl, hB, h, hc, hm, by simpa using hx, by simpa using ht⟩⟩
theorem ET.ofCubes {W : World} : ∀ {l : List TCube} {vs : List Value} {S : List Nat}, ET W vs (l.map enCube).flatten S → vs = flat2 l ∧ S = [] ∧ ∀ q ∈ l, okI (.int .i64 q.fCare) ∧ okI (.int .i64 q.fValue)
  | [], _, _, h => by cases h; exact ⟨rfl, rfl, fun n h => by cases h⟩
  | q :: l, _, _, h => by
    cases h with
    | pv h1 i1 h2 => cases h2 with
      | pv h3 i2 h4 =>
        obtain ⟨rfl, rfl, h3⟩ := ET.ofCubes h4
        exact ⟨rfl, rfl, fun m hm => by
          rcases List.mem_cons.1 hm with rfl | hm
          · exact ⟨i1, i2⟩
          · exact h3 m hm⟩
theorem ET.toCubes {W : World} : ∀ {l : List TCube}, (∀ q ∈ l, okI (.int .i64 q.fCare) ∧ okI (.int .i64 q.fValue)) → ET W (flat2 l) (l.map enCube).flatten []
  | [], _ => .nil
  | q :: l, h => .pv rfl (h q (by simp)).1 (.pv rfl (h q (by simp)).2 (ET.toCubes fun m hm => h m (by simp [hm])))
end
section
open Go.RowKit Go.Lib
set_option maxRecDepth 100000
set_option maxHeartbeats 2000000
structure KI (l : List TCube) (n i j : Nat) (dk : List TCube) : Prop where
  len : dk.length = n
  lt : i < j
  le : j ≤ n
  cnt : (cu l j).length = i
  low : dk.take i = cu l j
  high : dk.drop i = l.drop i
theorem KI.start {l : List TCube} {n k : Nat} {q : TCube} (hl : l.length = n) (hk : 0 < k) (hq : l[k]? = some q) (hp : l[k - 1]? = some q) (h : cu l k = l.take k) : KI l n k (k + 1) l := by
  have hkl := (List.getElem?_eq_some_iff.1 hq).1
  have e := cu_skip hq hk hp
  exact ⟨hl, by omega, by omega, by rw [e, h, List.length_take]; omega, by rw [e, h], rfl⟩
theorem KI.get {l : List TCube} {n i j m : Nat} {dk : List TCube} (h : KI l n i j dk) (hm : i ≤ m) : dk[m]? = l[m]? := by
  have := congrArg (·[m - i]?) h.high
  simp only [List.getElem?_drop] at this
  rwa [show i + (m - i) = m by omega] at this
theorem KI.skip {l : List TCube} {n i j : Nat} {dk : List TCube} {q : TCube} (h : KI l n i j dk) (hq : l[j]? = some q) (hp : l[j - 1]? = some q) (hj : j < n) : KI l n i (j + 1) dk := by
  have h1 := h.lt
  have e := cu_skip hq (by omega) hp
  exact ⟨h.len, by omega, by omega, by rw [e]; exact h.cnt, by rw [e]; exact h.low, h.high⟩
theorem KI.keep {l : List TCube} {n i j : Nat} {dk : List TCube} {q : TCube} (h : KI l n i j dk) (hq : l[j]? = some q) (hp : l[j - 1]? ≠ some q) (hj : j < n) : KI l n (i + 1) (j + 1) (dk.take i ++ [q] ++ dk.drop (i + 1)) := by
  have e := cu_keep hq (.inr hp)
  have h1 := h.lt
  have h2 := h.len
  have h3 : (dk.take i).length = i := by rw [List.length_take]; omega
  have h4 : (dk.take i ++ [q]).length = i + 1 := by rw [List.length_append, h3]; rfl
  refine ⟨?_, by omega, by omega, ?_, ?_, ?_⟩
  · rw [List.length_append, h4, List.length_drop]
    omega
  · rw [e, List.length_append, h.cnt]
    rfl
  · rw [List.take_append, h4, List.take_of_length_le (by omega), Nat.sub_self, List.take_zero, List.append_nil, e, h.low]
  · rw [List.drop_append, h4, List.drop_of_length_le (by omega), List.nil_append, Nat.sub_self, List.drop_zero, ← List.drop_drop, h.high, List.drop_drop]
theorem intOf_intC (x : Int) : intOf (.int .i64 x) = x := rfl
theorem one_zero {n : Nat} : ∀ v ∈ List.replicate n (Value.int .i64 0), v.oneCell' = true := fun v hv => by rw [List.eq_of_mem_replicate hv]; rfl
theorem zero2 (n : Nat) : (Builtin.zeroCells (Value.agg #[.int .i64 0, .int .i64 0]).cells n).toList = List.replicate (n * 2) (.int .i64 0) := by
  simp only [Builtin.zeroCells, Value.cells]
  apply List.ext_getElem
  · simp
  · intro i h1 h2
    simp only [Array.getElem_toList, Array.getElem_map, Array.getElem_range, List.getElem_replicate]
    have : i % 2 < 2 := Nat.mod_lt _ (by omega)
    show #[Value.int .i64 0, .int .i64 0][i % 2]! = _
    generalize i % 2 = k at this
    match k, this with
    | 0, _ => rfl
    | 1, _ => rfl
theorem run_clear2 {w : World} {b o n c : Nat} {X : List Value} (h : Bk w b X) (hn : 0 < n) (hfit : o + n * 2 ≤ X.length) : ∀ ty, (Builtin.clear_ #[27] ty #[.slice (some ⟨b, o, none⟩) n c]).run Tryz.prog w = .ok (.tuple #[]) (w.setRow b (putX X o (List.replicate (n * 2) (.int .i64 0))).toArray) := fun ty => by
  have hst := h.put (o := o) (vs := List.replicate (n * 2) (.int .i64 0)) (by simpa using hfit) one_zero
  have hz := zero2 n
  obtain ⟨m, rfl⟩ : ∃ m, n = m + 1 := ⟨n - 1, by omega⟩
  simp [Builtin.clear_, run_underlying Tryz.underlying27, hz, hst, Result.andThen]
theorem eqlQ (p q : TCube) (w : World) : (binOp .eql 56 (.agg #[.int .i64 p.fCare, .int .i64 p.fValue]) (.agg #[.int .i64 q.fCare, .int .i64 q.fValue])).run Tryz.prog w = .ok (.bool (decide (p = q))) w := by
  have hk : kdsOf Tryz.prog 6 56 = some [.i .i64, .i .i64] := by kernel_rfl
  have hs : isSt Tryz.prog 56 = true := by kernel_rfl
  have hr := eq_ok (P := Tryz.prog) (w := w) 6 56 _ hk 10000 (by omega) [.int .i64 p.fCare, .int .i64 p.fValue] [.int .i64 q.fCare, .int .i64 q.fValue] rfl rfl
  rw [hs] at hr
  simp only [valOf, if_true] at hr
  rw [run_eql_struct, hr]
  obtain ⟨a, b⟩ := p
  obtain ⟨c, d⟩ := q
  simp [eqVs, eqV, Result.andThen, Bool.decide_and]
theorem neqQ (p q : TCube) (w : World) : (binOp .neq 56 (.agg #[.int .i64 p.fCare, .int .i64 p.fValue]) (.agg #[.int .i64 q.fCare, .int .i64 q.fValue])).run Tryz.prog w = .ok (.bool (!decide (p = q))) w := by
  have h := eqlQ p q w
  rw [run_eql_struct] at h
  rw [run_neq_struct]
  generalize Sem.run Tryz.prog (Op.equalIn 10000 56 _ _) w = r at *
  cases r <;> simp_all [Result.andThen]
theorem cpt1 {l : List TCube} (w : World) (b n cap : Nat) (X : List Value) (hB : Bk w b X) (hnc : n ≤ cap) (hm : cap ≤ maxLen) (hx : X.length = cap * 2) (ht : X.take (n * 2) = flat2 l) (hl : l.length = n) (hn1 : 1 ≤ n) :
    Calls Tryz.prog 73 #[.slice (some ⟨b, 0, none⟩) n cap] w fun e w' => ∃ Y, e = .returned (.slice (some ⟨b, 0, none⟩) (cu l n).length cap) ∧ But b w w' ∧ Bk w' b Y ∧ Y.length = cap * 2 ∧ Y.take ((cu l n).length * 2) = flat2 (cu l n) := by
  have hc1 : cu l 1 = l.take 1 := by
    obtain ⟨q, hq⟩ : ∃ q, l[0]? = some q := ⟨_, List.getElem?_eq_getElem (by omega)⟩
    rw [cu_keep hq (.inl rfl), take_snoc hq]
    rfl
  have same : ∀ w', But b w w' → Bk w' b X → cu l n = l.take n → ∃ Y, Ending.returned (.slice (some ⟨b, 0, none⟩) n cap) = .returned (.slice (some ⟨b, 0, none⟩) (cu l n).length cap) ∧ But b w w' ∧ Bk w' b Y ∧ Y.length = cap * 2 ∧ Y.take ((cu l n).length * 2) = flat2 (cu l n) := fun w' h1 h2 h3 => by
    have e : cu l n = l := by rw [h3, ← hl, List.take_length]
    rw [e, hl]
    exact ⟨X, rfl, h1, h2, hx, ht⟩
  have SM := Lib.hid same
  clear same
  have hn63 : n ≤ 9223372036854775807 := by unfold maxLen at hm; omega
  have HM := Lib.hid hm
  clear hm
  go_enter Tryz.func73, Tryz.ntmps73
  by_cases h2 : n < 2
  · have hB0 := Lib.hid hB
    have hc2 := Lib.hid hc1
    clear hB hc1 hx ht hl
    go_wp2
    go_ret
    obtain rfl : n = 1 := by omega
    exact SM.out _ (BelowM.refl _ _) hB0.out hc2.out
  · have hc2 := Lib.hid hc1
    clear hc1
    have hbt0 : But b w w := BelowM.refl _ _
    have hw3 : ∀ x : Nat, x < n → RowKit.wrap64 ((x : Int) + 1) = ((x + 1 : Nat) : Int) := fun x hx => IntWalk.wrap64_in _ (by omega)
    have hw4 : ∀ x : Nat, 1 ≤ x → x < n → IntKind.i64.wrap ((x : Int) - 1) = ((x - 1 : Nat) : Int) := fun x h1 hx => by rw [IntKind.wrap_i64]; omega
    have HW := Lib.hid hw3
    have HV := Lib.hid hw4
    clear hw3 hw4
    go_wp2
    go_loopw [3] (fun v3 wr => ∃ k : Nat, 1 ≤ k ∧ k ≤ n ∧ v3 = .int .i64 k ∧ But b w wr ∧ Bk wr b X ∧ Hid (cu l k = l.take k)) (fun v3 _ => (n - intOf v3).toNat)
    case atStart => exact ⟨1, Nat.le_refl _, hn1, rfl, hbt0, hB, hc2⟩
    case round =>
      obtain ⟨k, hk1, hk, rfl, hbt, hBk, hck⟩ := hrel
      clear hB hbt0 hc2 h2
      by_cases hlt : k < n
      · obtain ⟨q, hq⟩ : ∃ q, l[k]? = some q := ⟨_, List.getElem?_eq_getElem (by omega)⟩
        obtain ⟨p, hp⟩ : ∃ p, l[k - 1]? = some p := ⟨_, List.getElem?_eq_getElem (by omega)⟩
        obtain ⟨c0, c1⟩ := hBk.tile ht hq hlt
        obtain ⟨d0, d1⟩ := hBk.tile ht hp (by omega)
        have e1 := eqlQ q p
        have hqh := Lib.hid hq
        have hph := Lib.hid hp
        have hv := HV.out k hk1 hlt
        have hw := HW.out k hlt
        have hbd : But b w wr.drew := hbt.below (Below.drew (Below.refl _ _))
        have hBd : Bk wr.drew b X := hBk.keep (Below.drew (Below.refl _ _))
        clear hq hp hbt hBk
        by_cases hdup : q = p
        · subst hdup
          have hI0 : Hid (KI l n k (k + 1) l) := Lib.hid (KI.start hl hk1 hqh.out hph.out hck.out)
          have HX := Lib.hid hx
          have HT := Lib.hid ht
          have HBt := Lib.hid hbd
          have HBd := Lib.hid hBd
          clear hbd hBd hx ht
          go_wp2_with fail
          go_region
          go_wp2
          clear c0 c1 d0 d1 e1 hv hw hck hqh hph
          generalize wr.drew = w0 at *
          go_loopw [3, 5] (fun v3 v5 wr => ∃ (i k2 : Nat) (dk : List TCube) (Y : List Value), v3 = .int .i64 i ∧ v5 = .int .i64 k2 ∧ 1 ≤ k2 ∧ k + k2 ≤ n ∧ But b w wr ∧ Bk wr b Y ∧ Y.length = cap * 2 ∧ Hid (Y.take (n * 2) = flat2 dk) ∧ Hid (KI l n i (k + k2) dk)) (fun _ v5 _ => (((n - k : Nat) : Int) - intOf v5).toNat)
          case atStart => exact ⟨k, 1, l, X, rfl, rfl, Nat.le_refl _, by omega, HBt.out, HBd.out, HX.out, HT, hI0⟩
          case round =>
            obtain ⟨i, k2, dk, Y, rfl, rfl, h1, hle, hbt, hBY, hY1, hYT, hI⟩ := hrel
            have hik := hI.out.lt
            have hwk := HW.out
            by_cases hlt2 : k + k2 < n
            · obtain ⟨u, hu⟩ : ∃ u, l[k + k2]? = some u := ⟨_, List.getElem?_eq_getElem (by omega)⟩
              obtain ⟨v, hv⟩ : ∃ v, l[k + k2 - 1]? = some v := ⟨_, List.getElem?_eq_getElem (by omega)⟩
              have c := hBY.tile hYT.out ((hI.out.get (by omega)).trans hu) hlt2
              have d := hBY.tile hYT.out ((hI.out.get (by omega)).trans hv) (by omega)
              rw [Nat.add_mul] at c
              rw [show k + k2 - 1 = k + (k2 - 1) by omega, Nat.add_mul] at d
              obtain ⟨c0, c1⟩ := c
              obtain ⟨d0, d1⟩ := d
              have e1 := neqQ u v
              have huh := Lib.hid hu
              have hvh := Lib.hid hv
              have b1 : i * 2 + 2 ≤ Y.length := by omega
              have b2 : i + 1 ≤ n := by omega
              have b3 : n * 2 ≤ Y.length := by omega
              have b4 : 1 ≤ k2 + 1 := by omega
              have b5 : k + (k2 + 1) ≤ n := by omega
              have b6 : k + k2 + 1 = k + (k2 + 1) := by omega
              have hv2 := HV.out k2 h1 (by omega)
              have hw2 := HW.out k2 (by omega)
              have hbd : But b w wr.drew := hbt.below (Below.drew (Below.refl _ _))
              have hBd : Bk wr.drew b Y := hBY.keep (Below.drew (Below.refl _ _))
              clear hu hv hbt hBY hwk
              by_cases huv : u = v
              · subst huv
                have HBt := Lib.hid hbd
                have HBd := Lib.hid hBd
                clear hbd hBd
                go_wp2_with fail
                go_region
                go_wp2
                go_roundw
                case rel => exact ⟨i, k2 + 1, dk, Y, rfl, (by first | rfl | rw [hw2] | exact congrArg (Value.int .i64) (by omega)), by omega, by omega, HBt.out, HBd.out, hY1, hYT, Lib.hid (by have := hI.out.skip huh.out hvh.out (by omega); rwa [show k + k2 + 1 = k + (k2 + 1) by omega] at this)⟩
                case measure =>
                  first
                    | (show (((n - k : Nat) : Int) - ((k2 : Int) + 1)).toNat < (((n - k : Nat) : Int) - (k2 : Int)).toNat
                       clear hw2 hv2
                       omega)
                    | (show (((n - k : Nat) : Int) - intOf (Value.int .i64 (RowKit.wrap64 ((k2 : Int) + 1)))).toNat < (((n - k : Nat) : Int) - intOf (Value.int .i64 (k2 : Int))).toNat
                       rw [intOf_intC, intOf_intC, hw2]
                       clear hw2 hv2
                       omega)
              · have hin : i < n := by omega
                have hst := hBd.set2 (i * 2) (.int .i64 u.fCare) (.int .i64 u.fValue) (by omega)
                have hrow := hBd.row (putX Y (i * 2) (c2 u))
                obtain ⟨v0, g0⟩ := hBd.some2 (o := i * 2) (by omega)
                obtain ⟨v1, g1⟩ := hBd.some2 (o := i * 2 + 1) (by omega)
                have f0 := hBd.frz (i * 2)
                have f1 := hBd.frz (i * 2 + 1)
                have k0 : wr.drew.cell? ⟨b, k * 2 + k2 * 2, none⟩ = some (.int .i64 u.fCare) := c0
                have k1 : wr.drew.cell? ⟨b, k * 2 + k2 * 2 + 1, none⟩ = some (.int .i64 u.fValue) := c1
                have HS := Lib.hid hst
                have hiX := HW.out i hin
                have hBt := Lib.hid hbd
                have hR := Lib.hid hrow
                clear hst hbd hBd hrow
                go_wp2_with fail
                go_region
                generalize wr.drew = w1 at *
                clear c0 c1 d0 d1 e1
                go_wp2
                go_roundw
                case rel =>
                  rw [HS.out]
                  refine ⟨i + 1, k2 + 1, _, putX Y (i * 2) (c2 u), (by first | rfl | rw [hiX] | exact congrArg (Value.int .i64) (by omega)), (by first | rfl | rw [hw2] | exact congrArg (Value.int .i64) (by omega)), b4, b5, hBt.out.trans hR.out.2.1, hR.out.1, by rw [putX_len (by rw [c2_len]; exact b1)]; exact hY1, Lib.hid ?_, Lib.hid (by have := hI.out.keep huh.out (fun e => huv (by rw [hvh.out] at e; cases e; rfl)) hlt2; rwa [b6] at this)⟩
                  have := putX_row (m := [u]) (i := i) hYT.out b2 b3
                  simpa [flat2] using this
                case measure =>
                  first
                    | (show (((n - k : Nat) : Int) - ((k2 : Int) + 1)).toNat < (((n - k : Nat) : Int) - (k2 : Int)).toNat
                       clear hw2 hv2 hiX
                       omega)
                    | (show (((n - k : Nat) : Int) - intOf (Value.int .i64 (RowKit.wrap64 ((k2 : Int) + 1)))).toNat < (((n - k : Nat) : Int) - intOf (Value.int .i64 (k2 : Int))).toNat
                       rw [intOf_intC, intOf_intC, hw2]
                       clear hw2 hv2 hiX
                       omega)
            · have hend : k + k2 = n := by omega
              have hcl := run_clear2 (o := i * 2) (n := n - i) (c := cap - i) hBY (by omega) (by omega)
              have hrow := hBY.row (putX Y (i * 2) (List.replicate ((n - i) * 2) (.int .i64 0)))
              have HY := Lib.hid hBY
              have HR := Lib.hid hrow
              have HBt2 := Lib.hid hbt
              clear hBY hrow hbt hwk
              go_wp2_with fail
              go_ret
              have hI := hI.out
              have hcnt := hI.cnt
              have hlow := hI.low
              rw [hend] at hcnt hlow
              have hYT := hYT.out
              rw [hcnt]
              refine ⟨_, rfl, HBt2.out.trans HR.out.2.1, HR.out.1, ?_, ?_⟩
              · rw [putX_len (by simp; omega)]
                exact hY1
              · have h3 : (Y.take (i * 2)).length = i * 2 := by rw [List.length_take]; omega
                unfold putX
                rw [List.append_assoc, List.take_append_of_le_length (by omega), List.take_of_length_le (by omega), ← hlow, ← flat2_take, ← hYT, List.take_take, Nat.min_eq_left (by omega)]
        · go_wp2_with fail
          go_region
          go_wp2
          go_roundw
          case rel => exact ⟨k + 1, by omega, by omega, (by first | rfl | rw [hw] | exact congrArg (Value.int .i64) (by omega)), hbd, hBd, Lib.hid (by rw [cu_keep hqh.out (.inr fun e => hdup (by rw [hph.out] at e; cases e; rfl)), hck.out, take_snoc hqh.out])⟩
          case measure =>
            first
              | (show ((n : Int) - ((k : Int) + 1)).toNat < ((n : Int) - (k : Int)).toNat
                 clear hw hv
                 omega)
              | (show ((n : Int) - intOf (Value.int .i64 (RowKit.wrap64 ((k : Int) + 1)))).toNat < ((n : Int) - intOf (Value.int .i64 (k : Int))).toNat
                 rw [intOf_intC, intOf_intC, hw]
                 clear hw hv
                 omega)
      · obtain rfl : k = n := by omega
        have HBk := Lib.hid hBk
        clear hBk
        go_wp2
        go_ret
        exact SM.out _ hbt HBk.out hck.out
theorem cpt0 {a : Option Addr} {cap : Nat} (w : World) : Calls Tryz.prog 73 #[.slice a 0 cap] w fun e w' => e = .returned (.slice a 0 cap) ∧ Below w.heap.size w w' := by
  have hb := Below.refl w.heap.size w
  go_enter Tryz.func73, Tryz.ntmps73
  go_wp2
  go_ret
  exact ⟨rfl, hb⟩
theorem frO1 {p o : Nat} {X x : Ob} (h : frO [(p, X)] o = some x) : o = p ∧ x = X := by
  simp only [frO, upd] at h
  split at h
  · cases h; exact ⟨by assumption, rfl⟩
  · cases h
theorem cubes_after {w w1 : World} {R : Nat → Prop} {ι : Nat → Value} {φ : Nat → List Nat} {l' : List TCube} {v' : Value} {ins : Nat → Option Ob} (hR : ∀ b, R b → b < w.heap.size) (ho : ObjsOk w R ι φ ins) (hbm : BelowM (fpO φ ins) w w1) (hrow : w1.ownsRow 0 56 2 v' l'.length (flat2 l')) (hok : ∀ q ∈ l', okI (.int .i64 q.fCare) ∧ okI (.int .i64 q.fValue)) (hnew : ∀ g, v'.ownBlock = some g → (fpO φ ins g ∨ w.heap.size ≤ g) ∧ g < w1.heap.size) : After w R ι φ ins (.v (.c (.own 0))) (frO [(0, .arr kCube (l'.map enCube) [])]) v' w1 := by
  have hkeep : ∀ b, R b → w1.heap[b]? = w.heap[b]? := fun b hb => hbm.block b (hR b hb) fun ⟨o, x, h1, h2⟩ => (ho.2.1 o x h1 b h2).1 hb
  refine ⟨R, upd ι 0 v', upd φ 0 v'.ownBlock.toList, hbm, fun b h => h, fun b h => Nat.lt_of_lt_of_le (hR b h) hbm.size, fun b h _ => .inl h, ⟨⟨_, upd_same _ _ _⟩, (upd_same _ _ _).symm⟩, ⟨fun o x hf => ?_, fun o x hf g hgm => ?_, fun o p x y g hf hf' _ _ => (frO1 hf).1.trans (frO1 hf').1.symm, ho.2.2.2.keep (fun _ h => h) hkeep⟩, fun g hf => ?_, fun o hf => upd_ne _ _ (fun e => by subst e; exact absurd hf (by decide))⟩
  · obtain ⟨rfl, rfl⟩ := frO1 hf
    rw [upd_same, upd_same]
    refine ⟨fun es he => ?_, flat2 l', [], ?_, EH.of_ET (ET.toCubes hok), by simp, by cases v'.ownBlock <;> simp⟩
    · obtain ⟨n, _, rfl⟩ := List.mem_map.1 he
      rfl
    · rw [List.length_map]
      exact hrow
  · obtain ⟨rfl, rfl⟩ := frO1 hf
    rw [upd_same] at hgm
    obtain ⟨h1, h2⟩ := hnew g (by simpa using hgm)
    exact ⟨fun hr => h1.elim (fun ⟨o, x, h3, h4⟩ => (ho.2.1 o x h3 g h4).1 hr) fun h => by have := hR g hr; omega, h2⟩
  · obtain ⟨o, x, hf, hgm⟩ := hf
    obtain ⟨rfl, rfl⟩ := frO1 hf
    rw [upd_same] at hgm
    exact (hnew g (by simpa using hgm)).1
theorem cu_mem {l : List TCube} : ∀ {j : Nat} {q : TCube}, q ∈ cu l j → q ∈ l
  | j + 1, q, h => by
    rw [cu] at h
    split at h
    · exact cu_mem h
    · rename_i x hx
      split at h
      · rcases List.mem_append.1 h with h | h
        · exact cu_mem h
        · rw [List.mem_singleton.1 h]; exact List.mem_of_getElem? hx
      · exact cu_mem h
theorem lib_cmpct (l : List TCube) : SpecM Tryz.prog 73 [.c (.own (pin 0))] [(pin 0, .arr kCube (l.map enCube) [])] (.v (.c (.own 0))) [(0, .arr kCube ((cu l l.length).map enCube) [])] := by
  refine ⟨callFunc_enter Tryz.func73 rfl (by simp [Tryz.f73]), fun w R ι φ vs hR hF ho => ?_⟩
  cases hF with | cons hv hF =>
  cases hF
  rename_i v
  obtain ⟨_, hv⟩ := hv
  have hX : frO [(pin 0, Ob.arr kCube (l.map enCube) [])] (pin 0) = some (.arr kCube (l.map enCube) []) := rfl
  obtain ⟨_, xs, S1, how, heh, hS, _⟩ := ho.1 _ _ hX
  have het := EH.to_ET heh
  obtain ⟨rfl, rfl, hok⟩ := ET.ofCubes het
  have hmine := ho.2.1 _ _ hX
  rw [← hv] at how hS
  have hlen : (l.map enCube).length = l.length := by simp
  rw [hlen] at how
  have how : w.ownsRow 0 56 2 v l.length (flat2 l) := how
  have hin : ∀ q ∈ cu l l.length, okI (.int .i64 q.fCare) ∧ okI (.int .i64 q.fValue) := fun q hq => hok q (cu_mem hq)
  rcases own_bk how with ⟨rfl, hl0, _⟩ | ⟨b, cap, X, rfl, _, hB, hnc, hm, hx, ht, hl⟩
  · subst hl0
    refine (cpt0 w).mono ?_
    rintro e w1 ⟨rfl, hb⟩
    exact ⟨_, rfl, cubes_after hR ho (BelowM.of_below hb) (World.ownsRow_nil _ _ _ _) hin (fun g hg => by simp [Value.ownBlock] at hg)⟩
  · have hφ : φ (pin 0) = [b] := by rw [hS]; rfl
    have hblt := hB.lt
    by_cases hl0 : l = []
    · subst hl0
      refine (cpt0 w).mono ?_
      rintro e w1 ⟨rfl, hb⟩
      exact ⟨_, rfl, cubes_after hR ho (BelowM.of_below hb) (bk_own (Nat.zero_le _) (hB.keep hb) hnc hm hx (by simpa [cu] using ht) rfl) hin (fun g hg => by
        obtain rfl : b = g := by simpa [Value.ownBlock] using hg
        exact ⟨.inl ⟨pin 0, _, hX, by rw [hφ]; simp⟩, Nat.lt_of_lt_of_le hblt hb.size⟩)⟩
    · have hn1 : 1 ≤ l.length := Nat.pos_of_ne_zero fun e => hl0 (List.eq_nil_of_length_eq_zero e)
      refine (cpt1 w b _ cap X hB hnc hm hx ht hl hn1).mono ?_
      rintro e w1 ⟨Y, rfl, hbt, hBY, hY1, hY2⟩
      exact ⟨_, rfl, cubes_after hR ho ⟨hbt.os, hbt.tape, hbt.output, hbt.size, fun k hk hM => hbt.block k hk fun e => hM ⟨pin 0, _, hX, by rw [hφ, e]; simp⟩⟩ (bk_own (Nat.zero_le _) hBY (Nat.le_trans (cu_len l _) hnc) hm hY1 hY2 rfl) hin (fun g' hg => by
        obtain rfl : b = g' := by simpa [Value.ownBlock] using hg
        exact ⟨.inl ⟨pin 0, _, hX, by rw [hφ]; simp⟩, hBY.lt⟩)⟩
end
end Go.Proofs.YtehkaajakapkmaaGreat
