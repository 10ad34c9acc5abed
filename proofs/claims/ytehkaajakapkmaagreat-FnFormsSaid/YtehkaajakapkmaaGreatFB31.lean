/- Texts of one proof, one behind the other. -/
import Derived.Test.YtehkaajakapkmaaGreatFB24
import Derived.Test.YtehkaajakapkmaaGreatFB27
import Derived.Test.YtehkaajakapkmaaGreatFB30
namespace Go.Proofs.YtehkaajakapkmaaGreat
section
open Go.RowKit Go.Lib
set_option maxRecDepth 100000
set_option maxHeartbeats 2000000
theorem tabQ_zero {n : Nat} {tb : List Int} (hlen : tb.length = 2 ^ n) (hz : ∀ (i : Nat) (v : Int), tb[i]? = some v → v = 0) : tabQ n tb (2 ^ n) = [] := by
  refine List.eq_nil_iff_forall_not_mem.2 fun q hq => ?_
  obtain ⟨hok, a, v, h1, h2, rfl⟩ := tabQ_ok hq
  have hv : tb[v]? = some tb[v] := List.getElem?_eq_getElem (by omega)
  have h3 := hok.2.1 v _ (by omega) hv (hz v _ hv)
  have h4 : hasQ (⟨(a : Int), (v : Int)⟩ : TCube) v = true := decide_eq_true hok.1
  rw [h3] at h4
  cases h4
def RowI (w : World) (n0 : Nat) (v : Value) (l : List Int) : Prop := ∃ (a : Option Addr) (cap : Nat), v = .slice a l.length cap ∧ ∀ (k : Nat) (n : Int), l[k]? = some n → ∃ b off, a = some ⟨b, off, none⟩ ∧ b < n0 ∧ w.cell? ⟨b, off + k, none⟩ = some (.int .i64 n)
theorem RowI.keep {w w' : World} {n0 n1 : Nat} {v : Value} {l : List Int} (h : RowI w n0 v l) (hb : Below n0 w w') (hn : n0 ≤ n1) : RowI w' n1 v l := by
  obtain ⟨a, cap, e, h⟩ := h
  refine ⟨a, cap, e, fun k n hk => ?_⟩
  obtain ⟨b, off, h1, h2, h3⟩ := h k n hk
  exact ⟨b, off, h1, by omega, (hb.cell (p := ⟨b, _, none⟩) h2).trans h3⟩
theorem rowI_of {w : World} {R : Nat → Prop} {n0 : Nat} (hR : ∀ b, R b → b < n0) {v : Value} {l : List Int} (h : RD w R v (.rd kI (ints l))) : RowI w n0 v l := by
  generalize hxs : ints l = xs at h
  cases h with
  | nil =>
    obtain rfl : l = [] := List.map_eq_nil_iff.1 hxs
    exact ⟨_, _, rfl, fun k p hp => by cases hp⟩
  | rd cc g0 g1 g2 gR gk gc gr =>
    rename_i b0 off0 cap0
    have hln : xs.length = l.length := by rw [← hxs]; simp
    refine ⟨some ⟨b0, off0, none⟩, cap0, by rw [hln], fun k n hk => ⟨b0, off0, rfl, hR _ gR, ?_⟩⟩
    have hx : xs[k]? = some (enI n) := by rw [← hxs, List.getElem?_map, hk]; rfl
    have e1 := gc k _ 0 hx (by decide)
    have r1 := gr k _ 0 _ hx rfl
    generalize cc k 0 = u1 at e1 r1
    cases r1
    have e3 : ∀ o : Nat, o + k * kI.k + 0 = o + k := fun o => by show o + k * 1 + 0 = o + k; omega
    rw [e3] at e1
    exact e1
theorem spec_callE {P : Program} {k : FuncId} {args : List VD} (h : Spec P k args (oN kCube [])) {W : World} {R : Nat → Prop} {vs : List Value} (hR : ∀ b, R b → b < W.heap.size) (hF : F2 (RVD W R) vs args) :
    Calls P k vs.toArray W fun e W' => ∃ a c, e = .returned (.slice a 0 c) ∧ Below W.heap.size W W' := by
  refine (h.2 W R (fun _ => undef) (fun _ => []) vs hR (spec_args hF) ⟨fun o x h => (by cases h), fun o x h => (by cases h), fun o p x y g h => (by cases h), noTab _ _⟩).mono fun e W' => ?_
  rintro ⟨v, rfl, R', ι', φ', hb, hs, hz, _, hra, hO, hfp, _⟩
  have hX : frO (oN kCube []).outs 0 = some (.arr kCube [] []) := rfl
  obtain ⟨_, hv⟩ := hra
  obtain ⟨_, xs, S1, how, heh, hS, _⟩ := hO.1 _ _ hX
  rw [← hv] at how
  have hB := hb.below (fun g ⟨o, x, h, _⟩ => by cases h)
  rcases how.2 with ⟨rfl, _⟩ | ⟨g, cap, cur, rfl, _⟩
  · exact ⟨_, _, rfl, hB⟩
  · exact ⟨_, _, rfl, hB⟩
theorem below_kept {B B' : Nat} {a b c : World} {M : Nat → Prop} (h : Below B a b) (k : Kept M B' b c) (hB : B ≤ B') (hM : ∀ x, x < B → ¬ M x) : Below B a c := ⟨k.os.trans h.os, k.tape.trans h.tape, k.output.trans h.output, Nat.le_trans h.size k.size, fun x hx => (k.block x (by omega) (hM x hx)).trans (h.block x hx)⟩
theorem least0 (n : Nat) (tb : List Int) (hn : 1 ≤ n ∧ n ≤ 4) (hlen : tb.length = 2 ^ n) (hz : ∀ (i : Nat) (v : Int), tb[i]? = some v → v = 0) (w : World) (R : Nat → Prop) (hR : ∀ b, R b → b < w.heap.size) (tv : Value) (q : RD w R tv (.rd kI (ints tb))) :
    Calls Tryz.prog 61 #[.int .i64 n, tv] w fun e w' => e = .returned (.slice none 0 0) ∧ Below w.heap.size w w' := by
  have hp := p16 hn
  have hpr := iPrimes1 n tb hn
  rw [tabQ_zero hlen hz] at hpr
  have hP := spec_callE hpr hR (vs := [.int .i64 n, tv]) (.cons (.pv rfl (okI_lit ⟨by omega, by omega⟩)) (.cons q .nil))
  obtain ⟨ta, tc, rfl, hct⟩ := rowI_of hR q
  have ht16 : tb.length ≤ 16 := by omega
  have HX := Lib.hid (And.intro hn (And.intro hlen (And.intro hp (And.intro hz (And.intro hR q)))))
  clear hn hlen hp hpr hz hR q
  go_enter Tryz.func61, Tryz.ntmps61
  go_wp2_with fail
  refine hP.mono ?_
  clear hP
  rintro e w1 ⟨a, c, rfl, hb1⟩
  have hz1 := hb1.size
  have hbx : (w1.alloc (.cells #[.slice a 0 c, .slice none 0 0, .int .u64 0, .slice none 0 0, .int .i64 0] 121)).heap[w1.heap.size]? = some (.cells #[.slice a 0 c, .slice none 0 0, .int .u64 0, .slice none 0 0, .int .i64 0] 121 (0, 0)) := alloc_new_at _ _
  have hb2 : Below w.heap.size w (w1.alloc (.cells #[.slice a 0 c, .slice none 0 0, .int .u64 0, .slice none 0 0, .int .i64 0] 121)) := hb1.alloc hz1 _
  go_wp2_with fail
  go_loopw [21] (fun v21 wr => ∃ i : Nat, i ≤ tb.length ∧ v21 = .int .i64 ((i : Nat) : Int) ∧ wr.heap[w1.heap.size]? = some (.cells #[.slice a 0 c, .slice none 0 0, .int .u64 0, .slice none 0 0, .int .i64 0] 121 (0, 0)) ∧ Below w.heap.size w wr) (fun v21 _ => (tb.length - intOf v21).toNat)
  case atStart => exact ⟨0, Nat.zero_le _, rfl, hbx, hb2⟩
  case round =>
    obtain ⟨i, hi, rfl, hbr, hBr⟩ := hrel
    clear hbx hb2
    by_cases hil : i < tb.length
    · have hx := Lib.hid HX.out
      have hv : tb[i]? = some tb[i] := List.getElem?_eq_getElem hil
      have hv0 : tb[i] = 0 := HX.out.2.2.2.1 i _ hv
      obtain ⟨gb, off, rfl, hgb, hcell⟩ := hct i _ hv
      rw [hv0] at hcell
      have cT := (hBr.cell (p := ⟨gb, off + i, none⟩) hgb).trans hcell
      have k2 : wr.cell? ⟨w1.heap.size, 2, none⟩ = some (.int .u64 0) := by simp [World.cell?, hbr]
      have kf : wr.frozen? ⟨w1.heap.size, 2, none⟩ = false := by simp [World.frozen?, hbr]
      have hbl : w1.heap.size < wr.heap.size := heap_lt hbr
      have hw3 := Lib.hid (wrap_nat (i + 1) (by omega) (x := (i : Int) + 1) (by omega))
      have HV := Lib.hid (And.intro hv hv0)
      have HC := Lib.hid hct
      clear hv hv0 hcell hct
      go_wp2_with fail
      refine RgX.wp_region_rgx 11 99 (fun _ => False) (fun w w' => Below w.heap.size w w') (fun _ _ h => RgX.Kept.of h) (fun _ => True) trivial (fun _ _ _ _ => trivial) (fun _ _ _ _ => trivial) [(fun (v : Value) (_ : World) => v = .pointer (some ⟨w1.heap.size, 0, none⟩)), (fun (v : Value) (_ : World) => v = .pointer (some ⟨w1.heap.size, 0, none⟩)), (fun (v : Value) (_ : World) => v = .pointer (some ⟨w1.heap.size, 2, none⟩)), (fun (v : Value) (_ : World) => v = .int .u64 0), (fun (v : Value) (_ : World) => v = .int .i64 0), (fun (v : Value) (_ : World) => v = .int .u64 0), (fun (v : Value) (_ : World) => v = .int .i64 ((i : Nat) : Int)), (fun (v : Value) (_ : World) => v = .int .u64 0), (fun (v : Value) (_ : World) => v = .int .u64 0), (fun (v : Value) (_ : World) => v = .pointer (some ⟨w1.heap.size, 0, none⟩)), (fun (v : Value) (_ : World) => v = .pointer (some ⟨w1.heap.size, 2, none⟩))] (by kernel_rfl) (by rintro ⟨_, _, h⟩; simp +zetaDelta [Exit.then, Exit.inBlock, bodyPost] at h) (fun _ _ _ _ _ h => h) (by kernel_rfl) (by kernel_rfl) ⟨fun _ _ _ _ _ h => h, fun _ _ _ _ _ h => h, fun _ _ _ _ _ h => h, fun _ _ _ _ _ h => h, fun _ _ _ _ _ h => h, fun _ _ _ _ _ h => h, fun _ _ _ _ _ h => h, fun _ _ _ _ _ h => h, fun _ _ _ _ _ h => h, fun _ _ _ _ _ h => h, fun _ _ _ _ _ h => h, trivial⟩ ⟨?_, ?_, ?_, ?_, ?_, ?_, ?_, ?_, ?_, ?_, ?_, ?_, trivial⟩ ?_
      · intro _ v wq G hb hG hd
        clear hd
        simp only [rgPut, rgDst, Act.put, List.getElem?_cons_zero, List.getElem?_cons_succ, Option.bind_some, List.setIfInBounds_toArray, List.set_cons_zero, List.set_cons_succ]
        obtain ⟨hb, _⟩ := hb
        go_wp2
        exact ⟨rfl, relX_ne (by decide) (Below.refl _ _), rfl, fun g hg => (by cases hg)⟩
      · intro _ v wq G hb hG hd
        have d0 : v 0 = .pointer (some ⟨w1.heap.size, 0, none⟩) := hd 0 (by kernel_rfl)
        clear hd
        simp only [rgPut, rgDst, Act.put, List.getElem?_cons_zero, List.getElem?_cons_succ, Option.bind_some, List.setIfInBounds_toArray, List.set_cons_zero, List.set_cons_succ, d0]
        obtain ⟨hb, _⟩ := hb
        go_wp2
        exact ⟨rfl, relX_ne (by decide) (Below.refl _ _), rfl, fun g hg => (by cases hg)⟩
      · intro _ v wq G hb hG hd
        have d1 : v 1 = .pointer (some ⟨w1.heap.size, 0, none⟩) := hd 1 (by kernel_rfl)
        clear hd
        simp only [rgPut, rgDst, Act.put, List.getElem?_cons_zero, List.getElem?_cons_succ, Option.bind_some, List.setIfInBounds_toArray, List.set_cons_zero, List.set_cons_succ, d1]
        obtain ⟨hb, _⟩ := hb
        go_wp2
        exact ⟨rfl, relX_ne (by decide) (Below.refl _ _), rfl, fun g hg => (by cases hg)⟩
      · intro _ v wq G hb hG hd
        have d2 : v 2 = .pointer (some ⟨w1.heap.size, 2, none⟩) := hd 2 (by kernel_rfl)
        clear hd
        simp only [rgPut, rgDst, Act.put, List.getElem?_cons_zero, List.getElem?_cons_succ, Option.bind_some, List.setIfInBounds_toArray, List.set_cons_zero, List.set_cons_succ, d2]
        obtain ⟨hb, _⟩ := hb
        have e2 := (RgX.Kept.cell hb (p := ⟨w1.heap.size, 2, none⟩) hbl (fun h => h)).trans k2
        go_wp2
        exact ⟨rfl, relX_ne (by decide) (Below.refl _ _), rfl, fun g hg => (by cases hg)⟩
      · intro _ v wq G hb hG hd
        clear hd
        simp only [rgPut, rgDst, Act.put, List.getElem?_cons_zero, List.getElem?_cons_succ, Option.bind_some, List.setIfInBounds_toArray, List.set_cons_zero, List.set_cons_succ]
        obtain ⟨hb, _⟩ := hb
        go_wp2
        exact ⟨rfl, relX_ne (by decide) (Below.refl _ _), rfl, fun g hg => (by cases hg)⟩
      · intro _ v wq G hb hG hd
        have d4 : v 4 = .int .i64 0 := hd 4 (by kernel_rfl)
        clear hd
        simp only [rgPut, rgDst, Act.put, List.getElem?_cons_zero, List.getElem?_cons_succ, Option.bind_some, List.setIfInBounds_toArray, List.set_cons_zero, List.set_cons_succ, d4]
        obtain ⟨hb, _⟩ := hb
        go_wp2
        exact ⟨rfl, relX_ne (by decide) (Below.refl _ _), (by rfl), fun g hg => (by cases hg)⟩
      · intro _ v wq G hb hG hd
        clear hd
        simp only [rgPut, rgDst, Act.put, List.getElem?_cons_zero, List.getElem?_cons_succ, Option.bind_some, List.setIfInBounds_toArray, List.set_cons_zero, List.set_cons_succ]
        obtain ⟨hb, _⟩ := hb
        go_wp2
        exact ⟨rfl, relX_ne (by decide) (Below.refl _ _), rfl, fun g hg => (by cases hg)⟩
      · intro _ v wq G hb hG hd
        have d5 : v 5 = .int .u64 0 := hd 5 (by kernel_rfl)
        have d6 : v 6 = .int .i64 ((i : Nat) : Int) := hd 6 (by kernel_rfl)
        clear hd
        simp only [rgPut, rgDst, Act.put, List.getElem?_cons_zero, List.getElem?_cons_succ, Option.bind_some, List.setIfInBounds_toArray, List.set_cons_zero, List.set_cons_succ, d5, d6]
        obtain ⟨hb, _⟩ := hb
        go_wp2
        exact ⟨rfl, relX_ne (by decide) (Below.refl _ _), (by rfl), fun g hg => (by cases hg)⟩
      · intro _ v wq G hb hG hd
        have d3 : v 3 = .int .u64 0 := hd 3 (by kernel_rfl)
        have d7 : v 7 = .int .u64 0 := hd 7 (by kernel_rfl)
        clear hd
        simp only [rgPut, rgDst, Act.put, List.getElem?_cons_zero, List.getElem?_cons_succ, Option.bind_some, List.setIfInBounds_toArray, List.set_cons_zero, List.set_cons_succ, d3, d7]
        obtain ⟨hb, _⟩ := hb
        go_wp2
        exact ⟨rfl, relX_ne (by decide) (Below.refl _ _), (by rfl), fun g hg => (by cases hg)⟩
      · intro _ v wq G hb hG hd
        have d0 : v 0 = .pointer (some ⟨w1.heap.size, 0, none⟩) := hd 0 (by kernel_rfl)
        clear hd
        simp only [rgPut, rgDst, Act.put, List.getElem?_cons_zero, List.getElem?_cons_succ, Option.bind_some, List.setIfInBounds_toArray, List.set_cons_zero, List.set_cons_succ, d0]
        obtain ⟨hb, _⟩ := hb
        go_wp2
        exact ⟨rfl, relX_ne (by decide) (Below.refl _ _), rfl, fun g hg => (by cases hg)⟩
      · intro _ v wq G hb hG hd
        have d9 : v 9 = .pointer (some ⟨w1.heap.size, 0, none⟩) := hd 9 (by kernel_rfl)
        clear hd
        simp only [rgPut, rgDst, Act.put, List.getElem?_cons_zero, List.getElem?_cons_succ, Option.bind_some, List.setIfInBounds_toArray, List.set_cons_zero, List.set_cons_succ, d9]
        obtain ⟨hb, _⟩ := hb
        go_wp2
        exact ⟨rfl, relX_ne (by decide) (Below.refl _ _), rfl, fun g hg => (by cases hg)⟩
      · intro h; exact absurd h (by decide)
      · intro v wq hb hA
        have d8 : v 8 = .int .u64 0 := hA 8 (by decide)
        have d10 : v 10 = .pointer (some ⟨w1.heap.size, 2, none⟩) := hA 10 (by decide)
        simp only [rgPut, rgDst, Act.put, List.getElem?_cons_zero, List.getElem?_cons_succ, Option.bind_some, List.setIfInBounds_toArray, List.set_cons_zero, List.set_cons_succ, d8, d10]
        obtain ⟨hb, _⟩ := hb
        have hbq := (hb.block _ hbl fun h => h).trans hbr
        have k2 : wq.cell? ⟨w1.heap.size, 2, none⟩ = some (.int .u64 0) := by simp [World.cell?, hbq]
        have kf : wq.frozen? ⟨w1.heap.size, 2, none⟩ = false := by simp [World.frozen?, hbq]
        refine RgX.wpList_tl (by kernel_rfl) ?_
        go_wp2_with fail
        obtain ⟨g1, g2, g3⟩ := box_set hbq 2 (.int .u64 0)
        have hsz := hBr.size
        refine ⟨⟨i + 1, hil, congrArg (Value.int .i64) (by omega), g1, below_kept (below_kept hBr hb (by omega) (fun _ _ h => h)) g2 (by have := hb.size; omega) (fun x hx h => by omega)⟩, ?_⟩
        show ((tb.length : Int) - ((i : Int) + 1)).toNat < ((tb.length : Int) - (i : Int)).toNat
        omega
    · obtain rfl : i = tb.length := by omega
      have k0 : wr.cell? ⟨w1.heap.size, 0, none⟩ = some (.slice a 0 c) := by simp [World.cell?, hbr]
      go_wp2_with fail
      go_loopw [43] (fun v43 wr2 => v43 = .int .i64 0 ∧ wr2 = wr) (fun _ _ => 0)
      case atStart => exact ⟨rfl, rfl⟩
      case round =>
        obtain ⟨rfl, rfl⟩ := hrel
        go_wp2_with fail
        go_loopw [10] (fun v10 W => (v10 = .int .i64 0 ∧ W = wr) ∨ (v10 = .int .i64 1 ∧ ∃ ad k cst, W.heap[w1.heap.size]? = some (.cells #[.slice a 0 c, .slice none 0 0, .int .u64 0, .slice (some ad) 0 k, .int .i64 cst] 121 (0, 0)) ∧ Below w.heap.size w W)) (fun v10 _ => (1 - intOf v10).toNat)
        case atStart => exact .inl ⟨rfl, rfl⟩
        case round =>
          rcases hrel with ⟨rfl, rfl⟩ | ⟨rfl, ad, k, cst, hbW, hBW⟩
          · have hD : CovD wr w1.heap.size (.slice a 0 c) (.slice none 0 0) 0 (fun _ => 0) (fun _ => 0) := ⟨heap_lt hbr, fun k hk => absurd hk (Nat.not_lt_zero _), fun k hk => absurd hk (Nat.not_lt_zero _), ⟨a, c, rfl⟩, fun _ => ⟨0, by omega, rfl⟩, fun _ => by decide, by omega⟩
            have hS : Calls Tryz.prog 90 #[.pointer (some ⟨w1.heap.size, 0, none⟩), .slice none 0 0, .int .i64 0, .int .i64 0, .int .u64 0, .int .i64 0] wr fun e w' => e = .returned (.tuple #[]) ∧ After1 wr w1.heap.size (.slice a 0 c) (.slice none 0 0) (fun _ => 0) 0 wr (.slice none 0 0) [] (.slice none 0 0) (srch (cvN (fun _ => 0) 0) (cstL fun _ => 0) 0 0 0 [] none) w' := search0 hD 0 0 [] none wr (.slice none 0 0) (.slice none 0 0) 0 (by simp) ⟨RgX.Kept.refl _ _ _, hbr, rfl, rfl⟩ (World.ownsRow_nil _ _ _ _) (fun g hg => by cases hg)
            rw [srch_zero, show updI (cvN (fun _ => 0) 0) (cstL fun _ => 0) none [] = some [] from if_pos ⟨rfl, fun x hx => by cases hx⟩] at hS
            have k3 : wr.cell? ⟨w1.heap.size, 3, none⟩ = some (.slice none 0 0) := by simp [World.cell?, hbr]
            have hnil := run_eqnil0 wr
            have hbl := heap_lt hbr
            have HB := Lib.hid (And.intro hBr hbl)
            clear hD k0 hBr hbl
            go_wp2_with fail
            refine hS.mono ?_
            clear hS
            rintro e w3 ⟨rfl, bv, cst, hI, hk, -, -⟩
            obtain ⟨⟨ad, nn, kk, rfl⟩, hown, rfl⟩ := hI.best
            have hnn : nn = 0 := by
              rcases hown.2 with ⟨e1, _⟩ | ⟨g, cap, cur, e1, _⟩
              · cases e1
              · cases e1; rfl
            subst hnn
            go_wp2_with fail
            have hws := HB.out.1.size
            refine ⟨.inr ⟨rfl, ad, kk, _, hI.box, below_kept HB.out.1 hk (by omega) fun x hx h => ?_⟩, ?_⟩
            · rcases h with h | h
              · omega
              · cases h
            · show ((1 : Int) - 1).toNat < ((1 : Int) - 0).toNat
              decide
          · have k3 : wr.cell? ⟨w1.heap.size, 3, none⟩ = some (.slice (some ad) 0 k) := by simp [World.cell?, hbW]
            have hnil := run_eqnil wr ad 0 k
            go_wp2_with fail
            go_loopw [11, 75] (fun v11 v75 W2 => v11 = .slice none 0 0 ∧ v75 = .int .i64 0 ∧ W2 = wr) (fun _ _ _ => 0)
            case atStart => exact ⟨rfl, rfl, rfl⟩
            case round =>
              obtain ⟨rfl, rfl, rfl⟩ := hrel
              go_wp2
              go_ret
              exact ⟨rfl, hBW⟩
theorem iLeast0 (n : Nat) (tb : List Int) (hn : 1 ≤ n ∧ n ≤ 4) (hlen : tb.length = 2 ^ n) (hz : ∀ (i : Nat) (v : Int), tb[i]? = some v → v = 0) : Spec Tryz.prog 61 [vI n, vL kI (ints tb)] (oN kCube []) := by
  refine ⟨callFunc_enter Tryz.func61 rfl (by simp [Tryz.f61]), fun w R ι φ vs hR hF ho => ?_⟩
  cases hF with | cons q1 hF => cases hF with | cons q2 hF =>
  cases hF
  rename_i u1 u2
  have q1 : RD w R u1 (.pv (.int .i64 n)) := q1
  have q2 : RD w R u2 (.rd kI (ints tb)) := q2
  cases q1
  refine (least0 n tb hn hlen hz w R hR u2 q2).mono ?_
  rintro e w' ⟨rfl, hb⟩
  have hO : ∀ {o : Nat} {X : Ob}, frO (oN kCube []).outs o = some X → o = 0 ∧ X = .arr kCube [] [] := fun {o X} h => frOp h
  have hnone : (fun _ : Nat => (none : Option Ob)) = frO [] := rfl
  refine ⟨_, rfl, R, upd ι 0 (.slice none 0 0), fun _ => [], BelowM.of_below hb, fun b h => h, fun b h => Nat.lt_of_lt_of_le (hR b h) hb.size, fun b h _ => .inl h, ⟨⟨_, rfl⟩, (upd_same _ _ _).symm⟩, ⟨fun o x hf => ?_, fun o x hf g hg => (by cases hg), fun o p x y g hf hf' hg _ => (by cases hg), noTab _ _⟩, fun g hf => ?_, fun o hf => ?_⟩
  · obtain ⟨rfl, rfl⟩ := hO hf
    rw [upd_same]
    exact RArr.nil _ _ _ _
  · obtain ⟨o, x, hf, hg⟩ := hf
    cases hg
  · exact upd_ne _ _ (fun e => by subst e; exact absurd hf (by decide))
theorem iLeastAll (n : Nat) (tb : List Int) (hn : 1 ≤ n ∧ n ≤ 4) (h : inK tb (2 ^ n)) : Spec Tryz.prog 61 [vI n, vL kI (ints tb)] (oN kCube ((cubs (tabQ n tb (2 ^ n)) (lcX n tb)).map enCube)) := by
  obtain ⟨m, h1, h2, h3, h4, h5, h6⟩ := lcX_ok hn h
  have hlen := inK_len h
  have hp := p16 hn
  have h01 := inK_01 h
  have hps := tab_len (tb := tb) hn
  cases hx : lcX n tb with
  | nil =>
    rw [hx] at h3
    have hcv : cvQ tb (tabQ n tb (2 ^ n)) [] := by
      rcases foldI_mem (cvQ tb (tabQ n tb (2 ^ n))) (costQ (tabQ n tb (2 ^ n))) h3 with e | ⟨l, _, e, e2⟩
      · cases e
      · exact e2
    refine iLeast0 n tb hn hlen fun i v hv => ?_
    rcases h01 i v hv with h0 | h1'
    · exact h0
    · subst h1'
      have := hcv i (List.getElem?_eq_some_iff.1 hv).1 (decide_eq_true hv)
      cases this
  | cons k0 x0 =>
    rw [hx] at h3 h5
    exact iLeast n tb hn (by omega) h01 (by omega) (tab_care hn) m k0 x0 _ rfl h1 h5 h2 h3
end
end Go.Proofs.YtehkaajakapkmaaGreat
