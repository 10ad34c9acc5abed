/- Texts of one proof, one behind the other. -/
import Derived.WalkLawsBesides
import Derived.WalkSpells
import Derived.Outline
import Derived.BigQuiet
import Derived.Deep.QuietTactic
import Derived.Lib.QuietBelow
import Derived.Lib.Hide
import Derived.Shelf.SlSortCmp.NoneTotal
import Derived.Laws.CopyRow
import Derived.Test.YtehkaajakapkmaaGreatFB19
import Derived.Test.YtehkaajakapkmaaGreatFB32
import Derived.Test.YtehkaajakapkmaaGreatFB33
namespace Go.Proofs.YtehkaajakapkmaaGreat
section
open Go.RowKit Go.Sort
set_option maxRecDepth 100000
set_option maxHeartbeats 4000000
theorem orTwo (g : Nat) (a b r : Int) (W : World) (ra : a ≠ 0 → r = a) (rb : a = 0 → r = b) (h0 : W.cell? ⟨g, 0, none⟩ = some (.int .i64 a)) (h1 : W.cell? ⟨g, 1, none⟩ = some (.int .i64 b)) : Calls Tryz.prog 82 #[.slice (some ⟨g, 0, none⟩) 2 2] W (fun e w' => e = .returned (.int .i64 r) ∧ w' = W) := by
  have Ra := Lib.hid ra
  have Rb := Lib.hid rb
  clear ra rb
  go_enter Tryz.func82, Tryz.ntmps82
  go_wp2
  go_loopw [8] (fun i wr => ∃ k : Nat, k ≤ 2 ∧ i = .int .i64 k ∧ wr = W ∧ Hid (1 ≤ k → a = 0) ∧ Hid (2 ≤ k → b = 0)) (fun i _ => 2 - (intOf i).toNat)
  case atStart => exact ⟨0, Nat.zero_le _, rfl, rfl, Lib.hid fun h => by omega, Lib.hid fun h => by omega⟩
  case round =>
    obtain ⟨k, hk, rfl, rfl, ha, hb⟩ := hrel
    by_cases k0 : k = 0
    · subst k0
      go_wp2
      · rename_i h
        have hr := Ra.out (by simpa using h)
        exact bodyPost_ret (v := .int .i64 a) (by simp [results, Tryz.results82, go_sem] <;> rfl) rfl ⟨by rw [hr], rfl⟩
      · rename_i h
        have e0 : a = 0 := by simpa using h
        exact ⟨⟨1, by omega, rfl, trivial, Lib.hid fun _ => e0, Lib.hid fun h => by omega⟩, by simp [intOf]⟩
    · by_cases k1 : k = 1
      · subst k1
        go_wp2
        · have hr := Rb.out (ha.out (Nat.le_refl _))
          exact bodyPost_ret (v := .int .i64 b) (by simp [results, Tryz.results82, go_sem] <;> rfl) rfl ⟨by rw [hr], rfl⟩
        · rename_i h
          have e0 : b = 0 := by simpa using h
          exact ⟨⟨2, by omega, rfl, trivial, Lib.hid fun _ => ha.out (Nat.le_refl _), Lib.hid fun _ => e0⟩, by simp [intOf]⟩
      · obtain rfl : k = 2 := by omega
        go_wp2
        have hr := (Rb.out (ha.out (by omega))).trans (hb.out (by omega))
        exact bodyPost_ret (v := .int .i64 0) (by simp [results, Tryz.results82, go_sem] <;> rfl) rfl ⟨by rw [hr], rfl⟩
theorem cmpQs (p q : TCube) (W : World) : Calls Tryz.prog 51 #[.agg #[.int .i64 p.fCare, .int .i64 p.fValue], .agg #[.int .i64 q.fCare, .int .i64 q.fValue]] W (fun e w' => e = .returned (.int .i64 (cmpQ p q)) ∧ RgD.DBelow W.heap.size W w') := by
  have hcmp := fun x y W' => AnyG.cmp_Compare_int Tryz.laysSlC25_f83 x y W'
  change ∀ x y W', Calls Tryz.prog 83 _ _ _ at hcmp
  have cX : ((W.alloc (.cells #[.int .i64 p.fCare, .int .i64 p.fValue] 56)).alloc (.cells #[.int .i64 q.fCare, .int .i64 q.fValue] 56)).cell? ⟨W.heap.size, 1, none⟩ = some (.int .i64 p.fValue) :=
    (World.cell?_alloc_past _ _ _ (by rw [World.size_alloc]; omega)).trans (World.cell?_alloc_new _ _ _ _)
  have cY : ((W.alloc (.cells #[.int .i64 p.fCare, .int .i64 p.fValue] 56)).alloc (.cells #[.int .i64 q.fCare, .int .i64 q.fValue] 56)).cell? ⟨W.heap.size, 0, none⟩ = some (.int .i64 p.fCare) :=
    (World.cell?_alloc_past _ _ _ (by rw [World.size_alloc]; omega)).trans (World.cell?_alloc_new _ _ _ _)
  have dX : ((W.alloc (.cells #[.int .i64 p.fCare, .int .i64 p.fValue] 56)).alloc (.cells #[.int .i64 q.fCare, .int .i64 q.fValue] 56)).cell? ⟨W.heap.size + 1, 1, none⟩ = some (.int .i64 q.fValue) := by
    have := World.cell?_alloc_new (W.alloc (.cells #[.int .i64 p.fCare, .int .i64 p.fValue] 56)) #[.int .i64 q.fCare, .int .i64 q.fValue] 56 1
    rwa [World.size_alloc] at this
  have dY : ((W.alloc (.cells #[.int .i64 p.fCare, .int .i64 p.fValue] 56)).alloc (.cells #[.int .i64 q.fCare, .int .i64 q.fValue] 56)).cell? ⟨W.heap.size + 1, 0, none⟩ = some (.int .i64 q.fCare) := by
    have := World.cell?_alloc_new (W.alloc (.cells #[.int .i64 p.fCare, .int .i64 p.fValue] 56)) #[.int .i64 q.fCare, .int .i64 q.fValue] 56 0
    rwa [World.size_alloc] at this
  have b0 : RgD.DBelow W.heap.size W ((W.alloc (.cells #[.int .i64 p.fCare, .int .i64 p.fValue] 56)).alloc (.cells #[.int .i64 q.fCare, .int .i64 q.fValue] 56)) := ⟨((Below.refl _ _).alloc (Nat.le_refl _) _).alloc (by rw [World.size_alloc]; omega) _, Nat.le_refl _⟩
  have hs0 : ((W.alloc (.cells #[.int .i64 p.fCare, .int .i64 p.fValue] 56)).alloc (.cells #[.int .i64 q.fCare, .int .i64 q.fValue] 56)).heap.size = W.heap.size + 2 := by rw [World.size_alloc, World.size_alloc]
  go_enter Tryz.func51, Tryz.ntmps51
  go_wp2_with fail
  generalize hW2 : (W.alloc (.cells #[.int .i64 p.fCare, .int .i64 p.fValue] 56)).alloc (.cells #[.int .i64 q.fCare, .int .i64 q.fValue] 56) = W2 at *
  refine RgD.wp_region_rgv 10 [(fun v => v = .pointer (some ⟨W.heap.size, 0, none⟩)), (fun v => v = .int .i64 p.fCare), (fun v => v = .pointer (some ⟨W.heap.size + 1, 0, none⟩)), (fun v => v = .int .i64 q.fCare), (fun v => v = .int .i64 (Lib.compareInt p.fCare q.fCare)), (fun v => v = .pointer (some ⟨W.heap.size, 1, none⟩)), (fun v => v = .int .i64 p.fValue), (fun v => v = .pointer (some ⟨W.heap.size + 1, 1, none⟩)), (fun v => v = .int .i64 q.fValue), (fun v => v = .int .i64 (Lib.compareInt p.fValue q.fValue))] (by kernel_rfl) (by rintro ⟨_, _, h⟩; simp +zetaDelta [Exit.then, bodyPost] at h) (fun _ _ _ _ _ h => h) (by kernel_rfl) (by kernel_rfl) ⟨?_, ?_, ?_, ?_, ?_, ?_, ?_, ?_, ?_, ?_, ?_, ?_, ?_, trivial⟩ ?_
  · intro _ v w1 G hb hG hd
    clear hd; simp only [rgPut, rgDst, Act.put, List.getElem?_cons_zero, List.getElem?_cons_succ, Option.bind_some, List.setIfInBounds_toArray, List.set_cons_zero, List.set_cons_succ]
    go_wp2
    exact ⟨rfl, RgD.DBelow.refl _ _, rfl, fun g hg => (by cases hg)⟩
  · intro _ v w1 G hb hG hd
    have d0 : v 0 = .pointer (some ⟨W.heap.size, 0, none⟩) := hd 0 (by kernel_rfl)
    clear hd; simp only [rgPut, rgDst, Act.put, List.getElem?_cons_zero, List.getElem?_cons_succ, Option.bind_some, List.setIfInBounds_toArray, List.set_cons_zero, List.set_cons_succ, d0]
    have e1 := (Below.cell hb.below (p := ⟨W.heap.size, 0, none⟩) (by show W.heap.size < _; omega)).trans cY
    go_wp2
    exact ⟨rfl, RgD.DBelow.refl _ _, rfl, fun g hg => (by cases hg)⟩
  · intro _ v w1 G hb hG hd
    clear hd; simp only [rgPut, rgDst, Act.put, List.getElem?_cons_zero, List.getElem?_cons_succ, Option.bind_some, List.setIfInBounds_toArray, List.set_cons_zero, List.set_cons_succ]
    go_wp2
    exact ⟨rfl, RgD.DBelow.refl _ _, rfl, fun g hg => (by cases hg)⟩
  · intro _ v w1 G hb hG hd
    have d2 : v 2 = .pointer (some ⟨W.heap.size + 1, 0, none⟩) := hd 2 (by kernel_rfl)
    clear hd; simp only [rgPut, rgDst, Act.put, List.getElem?_cons_zero, List.getElem?_cons_succ, Option.bind_some, List.setIfInBounds_toArray, List.set_cons_zero, List.set_cons_succ, d2]
    have e3 := (Below.cell hb.below (p := ⟨W.heap.size + 1, 0, none⟩) (by show W.heap.size + 1 < _; omega)).trans dY
    go_wp2
    exact ⟨rfl, RgD.DBelow.refl _ _, rfl, fun g hg => (by cases hg)⟩
  · intro _ v w1 G hb hG hd
    have d1 : v 1 = .int .i64 p.fCare := hd 1 (by kernel_rfl)
    have d3 : v 3 = .int .i64 q.fCare := hd 3 (by kernel_rfl)
    clear hd; simp only [rgPut, rgDst, Act.put, List.getElem?_cons_zero, List.getElem?_cons_succ, Option.bind_some, List.setIfInBounds_toArray, List.set_cons_zero, List.set_cons_succ, d1, d3]
    have hc1 := hcmp p.fCare q.fCare w1
    clear hcmp
    go_wp2_with (go_at_call 83; refine hc1.mono ?_; rintro e w' ⟨rfl, rfl⟩)
    exact ⟨rfl, RgD.DBelow.refl _ _, rfl, fun g hg => (by cases hg)⟩
  · intro _ v w1 G hb hG hd
    clear hd; simp only [rgPut, rgDst, Act.put, List.getElem?_cons_zero, List.getElem?_cons_succ, Option.bind_some, List.setIfInBounds_toArray, List.set_cons_zero, List.set_cons_succ]
    go_wp2
    exact ⟨rfl, RgD.DBelow.refl _ _, rfl, fun g hg => (by cases hg)⟩
  · intro _ v w1 G hb hG hd
    have d5 : v 5 = .pointer (some ⟨W.heap.size, 1, none⟩) := hd 5 (by kernel_rfl)
    clear hd; simp only [rgPut, rgDst, Act.put, List.getElem?_cons_zero, List.getElem?_cons_succ, Option.bind_some, List.setIfInBounds_toArray, List.set_cons_zero, List.set_cons_succ, d5]
    have e6 := (Below.cell hb.below (p := ⟨W.heap.size, 1, none⟩) (by show W.heap.size < _; omega)).trans cX
    go_wp2
    exact ⟨rfl, RgD.DBelow.refl _ _, rfl, fun g hg => (by cases hg)⟩
  · intro _ v w1 G hb hG hd
    clear hd; simp only [rgPut, rgDst, Act.put, List.getElem?_cons_zero, List.getElem?_cons_succ, Option.bind_some, List.setIfInBounds_toArray, List.set_cons_zero, List.set_cons_succ]
    go_wp2
    exact ⟨rfl, RgD.DBelow.refl _ _, rfl, fun g hg => (by cases hg)⟩
  · intro _ v w1 G hb hG hd
    have d7 : v 7 = .pointer (some ⟨W.heap.size + 1, 1, none⟩) := hd 7 (by kernel_rfl)
    clear hd; simp only [rgPut, rgDst, Act.put, List.getElem?_cons_zero, List.getElem?_cons_succ, Option.bind_some, List.setIfInBounds_toArray, List.set_cons_zero, List.set_cons_succ, d7]
    have e8 := (Below.cell hb.below (p := ⟨W.heap.size + 1, 1, none⟩) (by show W.heap.size + 1 < _; omega)).trans dX
    go_wp2
    exact ⟨rfl, RgD.DBelow.refl _ _, rfl, fun g hg => (by cases hg)⟩
  · intro _ v w1 G hb hG hd
    have d6 : v 6 = .int .i64 p.fValue := hd 6 (by kernel_rfl)
    have d8 : v 8 = .int .i64 q.fValue := hd 8 (by kernel_rfl)
    clear hd; simp only [rgPut, rgDst, Act.put, List.getElem?_cons_zero, List.getElem?_cons_succ, Option.bind_some, List.setIfInBounds_toArray, List.set_cons_zero, List.set_cons_succ, d6, d8]
    have hc1 := hcmp p.fValue q.fValue w1
    clear hcmp
    go_wp2_with (go_at_call 83; refine hc1.mono ?_; rintro e w' ⟨rfl, rfl⟩)
    exact ⟨rfl, RgD.DBelow.refl _ _, rfl, fun g hg => (by cases hg)⟩
  · (intro hk; exact absurd hk (by decide))
  · (intro hk; exact absurd hk (by decide))
  · (intro hk; exact absurd hk (by decide))
  intro v w1 hb hA
  have a0 : v 0 = .pointer (some ⟨W.heap.size, 0, none⟩) := hA 0 (by decide)
  have a1 : v 1 = .int .i64 p.fCare := hA 1 (by decide)
  have a2 : v 2 = .pointer (some ⟨W.heap.size + 1, 0, none⟩) := hA 2 (by decide)
  have a3 : v 3 = .int .i64 q.fCare := hA 3 (by decide)
  have a4 : v 4 = .int .i64 (Lib.compareInt p.fCare q.fCare) := hA 4 (by decide)
  have a5 : v 5 = .pointer (some ⟨W.heap.size, 1, none⟩) := hA 5 (by decide)
  have a6 : v 6 = .int .i64 p.fValue := hA 6 (by decide)
  have a7 : v 7 = .pointer (some ⟨W.heap.size + 1, 1, none⟩) := hA 7 (by decide)
  have a8 : v 8 = .int .i64 q.fValue := hA 8 (by decide)
  have a9 : v 9 = .int .i64 (Lib.compareInt p.fValue q.fValue) := hA 9 (by decide)
  clear hA; simp only [rgPut, rgDst, Act.put, List.getElem?_cons_zero, List.getElem?_cons_succ, Option.bind_some, List.setIfInBounds_toArray, List.set_cons_zero, List.set_cons_succ, a0, a1, a2, a3, a4, a5, a6, a7, a8, a9]
  refine RgD.wpList_tl (by kernel_rfl) ?_
  simp only [List.drop_succ_cons, List.drop_zero]
  have hsz := hb.size
  have hor := orTwo w1.heap.size (Lib.compareInt p.fCare q.fCare) (Lib.compareInt p.fValue q.fValue) (cmpQ p q) (w1.alloc (.cells #[.int .i64 (Lib.compareInt p.fCare q.fCare), .int .i64 (Lib.compareInt p.fValue q.fValue)] 3)) (fun h => if_neg h) (fun h => if_pos h) (World.cell?_alloc_new _ _ _ _) (World.cell?_alloc_new _ _ _ _)
  have hB : RgD.DBelow W.heap.size W (w1.alloc (.cells #[.int .i64 (Lib.compareInt p.fCare q.fCare), .int .i64 (Lib.compareInt p.fValue q.fValue)] 3)) :=
    ⟨(b0.below.trans (hb.below.mono b0.below.size)).alloc (Nat.le_trans b0.below.size hsz) _, Nat.le_trans b0.drawn hb.drawn⟩
  clear hcmp cX cY dX dY b0 hs0 hW2 a0 a1 a2 a3 a4 a5 a6 a7 a8 a9 hb hsz
  generalize Lib.compareInt p.fCare q.fCare = A at *
  generalize Lib.compareInt p.fValue q.fValue = B at *
  go_wp2_with (go_at_call 82; refine hor.mono ?_; rintro e w' ⟨rfl, rfl⟩)
  exact bodyPost_ret (v := .int .i64 (cmpQ p q)) (by simp [results, Tryz.results51, go_sem] <;> rfl) rfl ⟨rfl, hB⟩
def cellsQ (t : TCube) : List Value := [.int .i64 t.fCare, .int .i64 t.fValue]
theorem closeQ (t s : TCube) (W : World) : Calls Tryz.prog 51 #[.agg #[.int .i64 t.fCare, .int .i64 t.fValue], .agg #[.int .i64 s.fCare, .int .i64 s.fValue]] W (fun e w' => e = .returned (.int .i64 (cmpQ t s)) ∧ ∃ q os', w' = Sort.grow (W.drewN q) os') :=
  (cmpQs t s W).mono fun e w' ⟨he, h⟩ => ⟨he, by
    obtain ⟨⟨d, os⟩, rfl⟩ := regrown_of_below h.below
    have hd : W.drawn ≤ d := h.drawn
    refine ⟨d - W.drawn, os, ?_⟩
    unfold Sort.grow redrawn World.drewN
    simp
    omega⟩
instance : Inhabited TCube := ⟨⟨0, 0⟩⟩
def flatI (l : List TCube) : List Int := l.flatMap fun t => [t.fCare, t.fValue]
theorem flat_en (l : List TCube) : (l.map enCube).flatten = (flatI l).map iD := by
  induction l with
  | nil => rfl
  | cons t l ih =>
    show enCube t ++ (l.map enCube).flatten = ([t.fCare, t.fValue] ++ flatI l).map iD
    rw [ih, List.map_append]; rfl
theorem flat_cells (l : List TCube) : (l.map cellsQ).flatten = (flatI l).map (Value.int .i64) := by
  induction l with
  | nil => rfl
  | cons t l ih =>
    show cellsQ t ++ (l.map cellsQ).flatten = ([t.fCare, t.fValue] ++ flatI l).map (Value.int .i64)
    rw [ih, List.map_append]; rfl
theorem flatI_len (l : List TCube) : (flatI l).length = l.length * 2 := by
  induction l with
  | nil => rfl
  | cons t l ih =>
    show ([t.fCare, t.fValue] ++ flatI l).length = _
    rw [List.length_append, ih, List.length_cons]
    simp; omega
theorem flatK_eq (l : List TCube) : flatK cellsQ 2 l.toArray = ((flatI l).map (Value.int .i64)).toArray := by
  rw [← flat_cells]
  have hl : ∀ es ∈ l.map cellsQ, es.length = 2 := fun es h => by obtain ⟨t, _, rfl⟩ := List.mem_map.1 h; rfl
  have hlen : (l.map cellsQ).flatten.length = l.length * 2 := by rw [flatten_len hl, List.length_map]
  refine ext_get! (by rw [size_flatK]; simp only [List.size_toArray]; rw [hlen]) fun t ht => ?_
  rw [size_flatK] at ht
  have ht' : t < l.length * 2 := by simpa using ht
  rw [get_flatK _ _ _ _ ht]
  obtain ⟨x, hx⟩ : ∃ x, l[t / 2]? = some x := ⟨_, List.getElem?_eq_getElem (by omega)⟩
  have h1 := flatten_get (xs := l.map cellsQ) (i := t / 2) (j := t % 2) (es := cellsQ x) hl (by rw [List.getElem?_map, hx]; rfl) (by omega)
  rw [show t / 2 * 2 + t % 2 = t by omega] at h1
  have h2 : l.toArray[t / 2]! = x := by
    rw [List.getElem!_toArray, List.getElem!_eq_getElem?_getD, hx]; rfl
  rw [h2, List.getElem!_toArray, List.getElem!_eq_getElem?_getD, List.getElem!_eq_getElem?_getD, h1]
theorem ET.ofI {W : World} : ∀ {l : List Int} {vs : List Value} {S1 : List Nat}, ET W vs (l.map iD) S1 → vs = l.map (Value.int .i64) ∧ S1 = [] ∧ ∀ n ∈ l, okI (.int .i64 n)
  | [], _, _, h => by cases h; exact ⟨rfl, rfl, fun n h => by cases h⟩
  | n :: l, _, _, h => by
    cases h with
    | pv h1 hi h2 =>
      obtain ⟨rfl, rfl, h3⟩ := ET.ofI h2
      exact ⟨rfl, rfl, fun m hm => by
        rcases List.mem_cons.1 hm with rfl | hm
        · exact hi
        · exact h3 m hm⟩
theorem ET.toI {W : World} : ∀ {l : List Int}, (∀ n ∈ l, okI (.int .i64 n)) → ET W (l.map (Value.int .i64)) (l.map iD) []
  | [], _ => .nil
  | n :: l, h => .pv rfl (h n (by simp)) (ET.toI fun m hm => h m (by simp [hm]))
theorem frO1q {i o : Nat} {x y : Ob} (h : frO [(i, x)] o = some y) : o = i ∧ y = x := by
  unfold frO upd at h
  split at h
  · rename_i e
    cases h
    exact ⟨e, rfl⟩
  · cases h
theorem ltOfQ (t s : TCube) : ltOf cmpQ t s = decide (ltQ t s) := rfl
theorem swoQ : SWO (ltOf cmpQ) where
  irrefl x := by rw [ltOfQ]; exact decide_eq_false (ltQ_irr _)
  trans x y z h1 h2 := by rw [ltOfQ, decide_eq_true_eq] at *; exact ltQ_trans h1 h2
  ntrans x y z h1 h2 := by rw [ltOfQ, decide_eq_false_iff_not, ltQ_iff] at *; omega
theorem cmpLaysQ (blk off size : Nat) (w : World) : CmpLays Tryz.prog 51 #[] cellsQ 2 cmpQ blk off size w :=
  fun _ _ _ _ x y => closeQ x y _
theorem lib_sortQ (l : List TCube) (hl : l.length ≤ 1048576) : SpecM Tryz.prog 72 [.c (.own (pin 0)), .c (.d (.fn 51 []))] [(pin 0, .arr kCube (l.map enCube) [])] (.tup []) [(pin 0, .arr kCube ((srtQ l).map enCube) [])] := by
  refine ⟨fun vs w => by kernel_rfl, fun w R ι φ vs hR hF ho => ?_⟩
  cases hF with
  | cons hv hF =>
  cases hF with
  | cons hv2 hF =>
  cases hF
  rename_i v v2
  have hv2 : RD w R v2 (.fn 51 []) := hv2
  cases hv2
  rename_i us hul hur
  obtain rfl : us = [] := List.eq_nil_of_length_eq_zero hul
  obtain ⟨hdom, hv⟩ := hv
  have hX : frO [(pin 0, Ob.arr kCube (l.map enCube) [])] (pin 0) = some (.arr kCube (l.map enCube) []) := rfl
  obtain ⟨hk, xs, S1, how, heh, hS, hnd⟩ := ho.1 _ _ hX
  have heh : EH w ι (domO (frO [(pin 0, Ob.arr kCube (l.map enCube) [])])) xs ((l.map enCube).flatten.map .d) S1 := heh
  have het := EH.to_ET heh
  rw [flat_en] at het
  obtain ⟨rfl, rfl, hok⟩ := ET.ofI het
  have hlen : (l.map enCube).length = l.length := List.length_map ..
  rw [← hv, hlen] at how
  have hp := srtQ_perm l
  have hmem : ∀ n ∈ flatI (srtQ l), okI (.int .i64 n) := fun n hn => hok n (by
    unfold flatI at hn ⊢
    obtain ⟨t, ht, hn⟩ := List.mem_flatMap.1 hn
    exact List.mem_flatMap.2 ⟨t, hp.mem_iff.1 ht, hn⟩)
  have hsl : (srtQ l).length = l.length := (srtQ_perm l).length_eq
  have hmine := ho.2.1 _ _ hX
  obtain ⟨_, ⟨hv0, hn⟩ | ⟨g, cap, cur, rfl, hlc, hg, hnc, hcm, hcs, htake⟩⟩ := how
  · obtain rfl : l = [] := List.eq_nil_of_length_eq_zero hn
    subst hv0
    rw [show srtQ ([] : List TCube) = [] from by simp [srtQ]]
    refine (AnyF.slices_SortFunc_none { Tryz.laysSortQ with } none 0 _ w).mono fun e w' => ?_
    rintro ⟨rfl, rfl⟩
    exact ⟨_, rfl, R, ι, φ, BelowM.refl _ _, fun b h => h, hR, fun b h _ => .inl h, ⟨[], rfl, .nil⟩, ho, fun b hb => .inl hb, fun _ _ => rfl⟩
  have hgs : g < w.heap.size := by
    rcases Nat.lt_or_ge g w.heap.size with h | h
    · exact h
    · rw [Array.getElem?_eq_none h] at hg; cases hg
  rw [← hv] at hS
  have hφ : φ (pin 0) = [g] := hS
  have hfl := flatI_len l
  have hfl2 := flatI_len (srtQ l)
  have hcur : ∀ j, j < l.length * 2 → cur[j]? = ((flatI l).map (Value.int .i64))[j]? := fun j hj => by
    have h1 : (cur.toList.take (l.length * 2))[j]? = ((flatI l).map (Value.int .i64))[j]? := by rw [htake]
    rwa [List.getElem?_take_of_lt hj, Array.getElem?_toList] at h1
  have hH : HoldsK cellsQ 2 w g 0 l.toArray := by
    unfold HoldsK
    rw [flatK_eq]
    intro j hj
    have hj' : j < l.length * 2 := by simpa [hfl] using hj
    obtain ⟨n, hn⟩ : ∃ n, (flatI l)[j]? = some n := ⟨_, List.getElem?_eq_getElem (by omega)⟩
    have h1 := hcur j hj'
    rw [List.getElem?_map, hn] at h1
    have h2 : ((flatI l).map (Value.int .i64)).toArray[j]! = .int .i64 n := by
      rw [List.getElem!_toArray, List.getElem!_eq_getElem?_getD, List.getElem?_map, hn]; rfl
    refine ⟨?_, ?_⟩
    · show w.cell? ⟨g, 0 + j, none⟩ = some (id _)
      unfold World.cell?
      rw [hg, Nat.zero_add, h2]
      exact h1
    · show w.frozen? ⟨g, 0 + j, none⟩ = false
      unfold World.frozen?
      rw [hg]
      simp
  have hcon := AnyQ.slices_SortFunc Tryz.laysSortQ 2 Tryz.isAgg56 Tryz.sizeOf56 cellsQ (fun _ => rfl) (fun x v hv => by simp [cellsQ] at hv; rcases hv with rfl | rfl <;> rfl) cmpQ swoQ 51 #[] g 0 cap l.toArray w (enters_of Tryz.func51 (by kernel_rfl) rfl) (cmpLaysQ g 0 l.toArray.size w) hH hgs (by simp; omega)
  refine hcon.mono fun e w' => ?_
  rintro ⟨rfl, d', n, os, hpm, hso, rfl⟩
  have hds : d'.size = l.length := by simpa using hpm.1
  have hml : d'.toList = srtQ l := by
    refine srtQ_uniq ?_ (List.pairwise_iff_getElem.2 fun i j hi hj hij hlt => ?_)
    · have h3 := hpm.2.2
      have e1 : d'.extract 0 l.toArray.size = d' := by simp [← hds]
      have e2 : l.toArray.extract 0 l.toArray.size = l.toArray := by simp
      rw [e1, e2] at h3
      simpa using h3
    · have h4 := hso i j (Nat.zero_le _) hij (by simpa [hds] using hj)
      rw [ltOfQ, decide_eq_false_iff_not] at h4
      have ei : d'[i]! = d'.toList[i] := by rw [getElem!_pos d' i (by simpa using hi)]; simp
      have ej : d'[j]! = d'.toList[j] := by rw [getElem!_pos d' j (by simpa using hj)]; simp
      rw [ei, ej] at h4
      exact h4 hlt
  obtain rfl : d' = (srtQ l).toArray := by rw [← hml]
  clear hpm hso hds hml hcon hH
  have hwd : sortWorldK cellsQ 2 w g 0 n (srtQ l).toArray os = grow (putRow id (Sort.ahead w n) g 0 ((flatI (srtQ l)).map (Value.int .i64)).toArray) os := by
    unfold sortWorldK putRowK
    rw [flatK_eq]
  rw [hwd]
  have hsz : (putRow id (Sort.ahead w n) g 0 ((flatI (srtQ l)).map (Value.int .i64)).toArray).heap.size = w.heap.size := by simp [putRow, mapBlock, Sort.ahead]
  have hold : ∀ k, k < w.heap.size → (grow (putRow id (Sort.ahead w n) g 0 ((flatI (srtQ l)).map (Value.int .i64)).toArray) os).heap[k]? = (putRow id (Sort.ahead w n) g 0 ((flatI (srtQ l)).map (Value.int .i64)).toArray).heap[k]? := fun k hk => by
    unfold grow
    exact Array.getElem?_append_left (by rw [hsz]; exact hk)
  have hgn : (grow (putRow id (Sort.ahead w n) g 0 ((flatI (srtQ l)).map (Value.int .i64)).toArray) os).heap[g]? = some (.cells (putCells id 0 ((flatI (srtQ l)).map (Value.int .i64)).toArray cur) 56 (0, 0)) := by
    rw [hold g hgs]
    simp only [putRow, mapBlock, Sort.ahead, Array.getElem?_modify, if_true, hg, Option.map_some, onCells]
  have hsize : w.heap.size ≤ (grow (putRow id (Sort.ahead w n) g 0 ((flatI (srtQ l)).map (Value.int .i64)).toArray) os).heap.size := by
    unfold grow
    simp only [Array.size_append, hsz]
    omega
  have hblk : ∀ k, k < w.heap.size → k ≠ g → (grow (putRow id (Sort.ahead w n) g 0 ((flatI (srtQ l)).map (Value.int .i64)).toArray) os).heap[k]? = w.heap[k]? := fun k hk hne => by
    rw [hold k hk]
    simp only [putRow, mapBlock, Sort.ahead, Array.getElem?_modify]
    rw [if_neg fun h => hne h.symm]
  refine ⟨_, rfl, R, ι, φ, ⟨rfl, rfl, rfl, hsize, fun k hk hM => hblk k hk fun e => hM ⟨pin 0, _, hX, by rw [hφ, e]; simp⟩⟩, fun b h => h, fun b h => Nat.lt_of_lt_of_le (hR b h) hsize, fun b h _ => .inl h, ⟨[], rfl, .nil⟩, ⟨?_, ?_, ?_, ho.2.2.2.keep (fun _ h => h) fun b hb => hblk b (hR b hb) fun e => (ho.2.1 _ _ hX g (by rw [hφ]; simp)).1 (e ▸ hb)⟩, ?_, fun _ _ => rfl⟩
  · intro o x hx
    obtain ⟨rfl, rfl⟩ := frO1q hx
    refine ⟨fun es hes => by obtain ⟨m, _, rfl⟩ := List.mem_map.1 hes; rfl, (flatI (srtQ l)).map (Value.int .i64), [], ?_, ?_, ?_, by rw [hφ]; simp⟩
    · rw [← hv]
      have hlen2 : ((srtQ l).map enCube).length = l.length := by rw [List.length_map, hsl]
      rw [hlen2]
      refine ⟨by rw [List.length_map, hfl2, hsl], .inr ⟨g, cap, _, rfl, hlc, hgn, hnc, hcm, by simp [putCells, hcs], ?_⟩⟩
      show (putCells id 0 ((flatI (srtQ l)).map (Value.int .i64)).toArray cur).toList.take (l.length * 2) = (flatI (srtQ l)).map (Value.int .i64)
      apply List.ext_getElem?
      intro j
      by_cases hj : j < l.length * 2
      · obtain ⟨m, hm⟩ : ∃ m, (flatI (srtQ l))[j]? = some m := ⟨_, List.getElem?_eq_getElem (by omega)⟩
        obtain ⟨m0, hm0⟩ : ∃ m, (flatI l)[j]? = some m := ⟨_, List.getElem?_eq_getElem (by omega)⟩
        have hc := hcur j hj
        rw [List.getElem?_map, hm0] at hc
        have hj3 : j < ((flatI (srtQ l)).map (Value.int .i64)).toArray.size := by simp; omega
        have h2 : ((flatI (srtQ l)).map (Value.int .i64)).toArray[j]! = .int .i64 m := by
          rw [List.getElem!_toArray, List.getElem!_eq_getElem?_getD, List.getElem?_map, hm]; rfl
        rw [List.getElem?_take_of_lt hj, Array.getElem?_toList, List.getElem?_map, hm]
        unfold putCells
        rw [Array.getElem?_mapIdx, hc]
        simp only [Option.map_some]
        rw [if_pos ⟨Nat.zero_le _, by omega⟩, Nat.sub_zero, h2]
        rfl
      · rw [List.getElem?_eq_none (by rw [List.length_take]; omega), List.getElem?_eq_none (by rw [List.length_map]; omega)]
    · show EH _ ι _ _ (((srtQ l).map enCube).flatten.map .d) []
      rw [flat_en]
      exact EH.of_ET (ET.toI hmem)
    · rw [← hv, hφ]; rfl
  · intro o x hx b hb
    obtain ⟨rfl, rfl⟩ := frO1q hx
    exact ⟨(hmine b hb).1, Nat.lt_of_lt_of_le (hmine b hb).2 hsize⟩
  · intro o p x y b h1 h2 _ _
    rw [(frO1q h1).1, (frO1q h2).1]
  · rintro b ⟨o, x, hx, hb⟩
    obtain ⟨rfl, rfl⟩ := frO1q hx
    exact .inl ⟨pin 0, _, hX, hb⟩
end
section
open Go.RowKit
set_option maxRecDepth 100000
set_option maxHeartbeats 1000000
def c2 (q : TCube) : List Value := [.int .i64 q.fCare, .int .i64 q.fValue]
def flat2 : List TCube → List Value
  | [] => []
  | q :: l => c2 q ++ flat2 l
theorem c2_len (q : TCube) : (c2 q).length = 2 := rfl
theorem flat2_len : ∀ l : List TCube, (flat2 l).length = l.length * 2
  | [] => rfl
  | q :: l => by rw [flat2, List.length_append, c2_len, flat2_len l, List.length_cons]; omega
theorem flat2_append : ∀ a b : List TCube, flat2 (a ++ b) = flat2 a ++ flat2 b
  | [], b => rfl
  | q :: a, b => by rw [List.cons_append, flat2, flat2_append a b, flat2, List.append_assoc]
theorem flat2_take : ∀ (l : List TCube) (i : Nat), (flat2 l).take (i * 2) = flat2 (l.take i)
  | [], i => by simp [flat2]
  | q :: l, 0 => by simp [flat2]
  | q :: l, i + 1 => by
    rw [flat2, List.take_append, List.take_of_length_le (by rw [c2_len]; omega), c2_len, show (i + 1) * 2 - 2 = i * 2 by omega, flat2_take l i]
    rfl
theorem flat2_drop : ∀ (l : List TCube) (i : Nat), (flat2 l).drop (i * 2) = flat2 (l.drop i)
  | [], i => by simp [flat2]
  | q :: l, 0 => by simp
  | q :: l, i + 1 => by
    rw [flat2, List.drop_append, List.drop_of_length_le (by rw [c2_len]; omega), c2_len, show (i + 1) * 2 - 2 = i * 2 by omega, flat2_drop l i]
    rfl
theorem flat2_get {l : List TCube} {i : Nat} {q : TCube} (h : l[i]? = some q) {j : Nat} (hj : j < 2) : (flat2 l)[i * 2 + j]? = (c2 q)[j]? := by
  have h1 : l = l.take i ++ q :: l.drop (i + 1) := by
    have := List.getElem?_eq_some_iff.1 h
    obtain ⟨hi, rfl⟩ := this
    simp
  have hi : i < l.length := (List.getElem?_eq_some_iff.1 h).1
  have h2 : (flat2 (l.take i)).length = i * 2 := by rw [flat2_len, List.length_take]; omega
  rw [h1, flat2_append, List.getElem?_append_right (by omega), h2, flat2, List.getElem?_append_left (by rw [c2_len]; omega)]
  congr 1
  omega
def Bk (w : World) (g : Nat) (X : List Value) : Prop := w.heap[g]? = some (.cells X.toArray 56 (0, 0))
theorem Bk.cell {w : World} {g : Nat} {X : List Value} (h : Bk w g X) {o : Nat} {v : Value} (hx : X[o]? = some v) : w.cell? ⟨g, o, none⟩ = some v := by
  have h : w.heap[g]? = _ := h
  simp [World.cell?, h, hx]
theorem Bk.frz {w : World} {g : Nat} {X : List Value} (h : Bk w g X) (o : Nat) : w.frozen? ⟨g, o, none⟩ = false := by
  have h : w.heap[g]? = _ := h
  simp [World.frozen?, h]
theorem Bk.lt {w : World} {g : Nat} {X : List Value} (h : Bk w g X) : g < w.heap.size := by
  have h : w.heap[g]? = _ := h
  exact (Array.getElem?_eq_some_iff.1 h).1
theorem Bk.keep {w w' : World} {g : Nat} {X : List Value} (h : Bk w g X) (hb : Below w.heap.size w w') : Bk w' g X := (hb.block g h.lt).trans h
theorem Bk.tile {w : World} {g : Nat} {X : List Value} {n : Nat} {l : List TCube} (h : Bk w g X) (hX : X.take (n * 2) = flat2 l) {i : Nat} {q : TCube} (hq : l[i]? = some q) (hi : i < n) : w.cell? ⟨g, i * 2, none⟩ = some (.int .i64 q.fCare) ∧ w.cell? ⟨g, i * 2 + 1, none⟩ = some (.int .i64 q.fValue) := by
  have key : ∀ j, j < 2 → X[i * 2 + j]? = (c2 q)[j]? := fun j hj => by
    rw [← flat2_get hq hj, ← hX, List.getElem?_take_of_lt (by omega)]
  exact ⟨h.cell (key 0 (by omega)), h.cell (key 1 (by omega))⟩
abbrev But (g : Nat) (w w' : World) : Prop := BelowM (fun b => b = g) w w'
theorem But.below {g : Nat} {a b c : World} (h : But g a b) (hb : Below b.heap.size b c) : But g a c := h.then hb
theorem But.trans {g : Nat} {a b c : World} (h : But g a b) (k : But g b c) : But g a c := BelowM.trans h k fun _ h => .inl h
theorem Bk.row {w : World} {g : Nat} {X : List Value} (h : Bk w g X) (Y : List Value) : Bk (w.setRow g Y.toArray) g Y ∧ But g w (w.setRow g Y.toArray) ∧ (w.setRow g Y.toArray).heap.size = w.heap.size := by
  have hs : (w.setRow g Y.toArray).heap.size = w.heap.size := by simp [World.setRow]
  exact ⟨setRow_heap w g _ _ _ _ h, ⟨rfl, rfl, rfl, by rw [hs]; exact Nat.le_refl _, fun k _ hk => setRow_other w g k _ hk⟩, hs⟩
def putX (X : List Value) (o : Nat) (vs : List Value) : List Value := X.take o ++ vs ++ X.drop (o + vs.length)
theorem putX_len {X vs : List Value} {o : Nat} (h : o + vs.length ≤ X.length) : (putX X o vs).length = X.length := by
  unfold putX
  simp only [List.length_append, List.length_take, List.length_drop]
  omega
theorem Bk.put {w : World} {g : Nat} {X : List Value} (h : Bk w g X) {o : Nat} {vs : List Value} (hfit : o + vs.length ≤ X.length) (h1 : ∀ v ∈ vs, v.oneCell' = true) : (storeCells ⟨g, o, none⟩ vs 0).run Tryz.prog w = .ok () (w.setRow g (putX X o vs).toArray) := by
  have := run_storeCells_at Tryz.prog g o 56 vs 0 X.toArray w h (by simpa using hfit) h1
  simpa [putX] using this
theorem put2_list (X : List Value) (o : Nat) (x y : Value) (h : o + 2 ≤ X.length) : (X.set o x).set (o + 1) y = putX X o [x, y] := by
  have h3 : (X.take o).length = o := by rw [List.length_take]; omega
  unfold putX
  apply List.ext_getElem?
  intro j
  rw [List.append_assoc]
  by_cases hj : j < o
  · rw [List.getElem?_append_left (by omega), List.getElem?_take_of_lt hj, List.getElem?_set_ne (by omega), List.getElem?_set_ne (by omega)]
  · rw [List.getElem?_append_right (by omega), h3]
    by_cases h0 : j = o
    · subst h0
      rw [List.getElem?_set_ne (by omega), List.getElem?_set_self (by omega)]
      simp
    · by_cases h1 : j = o + 1
      · subst h1
        rw [List.getElem?_set_self (by rw [List.length_set]; omega), show o + 1 - o = 1 by omega]
        rfl
      · rw [List.getElem?_set_ne (by omega), List.getElem?_set_ne (by omega), List.getElem?_append_right (by simp; omega), List.getElem?_drop]
        congr 1
        simp
        omega
theorem Bk.set2 {w : World} {g : Nat} {X : List Value} (h : Bk w g X) (o : Nat) (x y : Value) (hfit : o + 2 ≤ X.length) : (w.setCell ⟨g, o, none⟩ x).setCell ⟨g, o + 1, none⟩ y = w.setRow g (putX X o [x, y]).toArray := by
  have h0 : w.heap[g]? = _ := h
  rw [setCell_eq_setRow w g o _ _ _ x h0]
  have h1 := setRow_heap w g _ (X.toArray.setIfInBounds o x) _ _ h0
  rw [setCell_eq_setRow _ g (o + 1) _ _ _ y h1, setRow_setRow, ← put2_list X o x y hfit]
  simp
theorem Bk.some2 {w : World} {g : Nat} {X : List Value} (h : Bk w g X) {o : Nat} (hfit : o < X.length) : ∃ v, w.cell? ⟨g, o, none⟩ = some v := ⟨X[o], h.cell (List.getElem?_eq_getElem hfit)⟩
theorem take3 {A B C : List Value} {N : Nat} (h : A.length + B.length ≤ N) : (A ++ B ++ C).take N = A ++ B ++ C.take (N - A.length - B.length) := by
  rw [List.take_append, List.take_of_length_le (by rw [List.length_append]; omega), List.length_append, Nat.sub_sub]
theorem putX_row {X : List Value} {l m : List TCube} {n i : Nat} (hX : X.take (n * 2) = flat2 l) (hi : i + m.length ≤ n) (hn : n * 2 ≤ X.length) : (putX X (i * 2) (flat2 m)).take (n * 2) = flat2 (l.take i ++ m ++ l.drop (i + m.length)) := by
  have hm := flat2_len m
  have h1 : X.take (i * 2) = flat2 (l.take i) := by
    rw [← flat2_take, ← hX, List.take_take, Nat.min_eq_left (by omega)]
  have h2 : (X.drop (i * 2 + (flat2 m).length)).take (n * 2 - (i * 2 + (flat2 m).length)) = flat2 (l.drop (i + m.length)) := by
    rw [← flat2_drop, ← hX, List.drop_take, hm, show (i + m.length) * 2 = i * 2 + m.length * 2 by omega]
  have h3 : (X.take (i * 2)).length = i * 2 := by rw [List.length_take]; omega
  unfold putX
  rw [take3 (by rw [h3]; omega), h3, flat2_append, flat2_append, h1, ← h2, show n * 2 - i * 2 - (flat2 m).length = n * 2 - (i * 2 + (flat2 m).length) by omega]
theorem own_bk {w : World} {B : Nat} {v : Value} {n : Nat} {l : List TCube} (h : w.ownsRow B 56 2 v n (flat2 l)) : (v = .slice none 0 0 ∧ l = [] ∧ n = 0) ∨ ∃ g cap X, v = .slice (some ⟨g, 0, none⟩) n cap ∧ B ≤ g ∧ Bk w g X ∧ n ≤ cap ∧ cap ≤ maxLen ∧ X.length = cap * 2 ∧ X.take (n * 2) = flat2 l ∧ l.length = n := by
  have hn : l.length = n := by
    have := h.1
    rw [flat2_len] at this
    omega
  rcases h.2 with ⟨h1, h2⟩ | ⟨g, cap, cur, h1, h2, h3, h4, h5, h6, h7⟩
  · exact .inl ⟨h1, List.eq_nil_of_length_eq_zero (by omega), h2⟩
  · exact .inr ⟨g, cap, cur.toList, h1, h2, by unfold Bk; rw [Array.toArray_toList]; exact h3, h4, h5, by rw [← h6]; simp, h7, hn⟩
theorem bk_own {w : World} {B : Nat} {n cap g : Nat} {X : List Value} {l : List TCube} (hB : B ≤ g) (h : Bk w g X) (hc : n ≤ cap) (hm : cap ≤ maxLen) (hx : X.length = cap * 2) (ht : X.take (n * 2) = flat2 l) (hl : l.length = n) : w.ownsRow B 56 2 (.slice (some ⟨g, 0, none⟩) n cap) n (flat2 l) :=
  ⟨by rw [flat2_len, hl], .inr ⟨g, cap, X.toArray, rfl, hB, h, hc, hm, by simpa using hx, by simpa using ht⟩⟩
theorem ET.ofCubes {W : World} : ∀ {l : List TCube} {vs : List Value} {S : List Nat}, ET W vs (l.map enCube).flatten S → vs = flat2 l ∧ S = [] ∧ ∀ q ∈ l, okI (.int .i64 q.fCare) ∧ okI (.int .i64 q.fValue)
  | [], _, _, h => by cases h; exact ⟨rfl, rfl, fun n h => by cases h⟩
  | q :: l, _, _, h => by
    cases h with
    | pv h1 i1 h2 => cases h2 with
      | pv h3 i2 h4 =>
        obtain ⟨rfl, rfl, h3⟩ := ET.ofCubes h4
        exact ⟨rfl, rfl, fun m hm => by
          rcases List.mem_cons.1 hm with rfl | hm
          · exact ⟨i1, i2⟩
          · exact h3 m hm⟩
theorem ET.toCubes {W : World} : ∀ {l : List TCube}, (∀ q ∈ l, okI (.int .i64 q.fCare) ∧ okI (.int .i64 q.fValue)) → ET W (flat2 l) (l.map enCube).flatten []
  | [], _ => .nil
  | q :: l, h => .pv rfl (h q (by simp)).1 (.pv rfl (h q (by simp)).2 (ET.toCubes fun m hm => h m (by simp [hm])))
end
end Go.Proofs.YtehkaajakapkmaaGreat
