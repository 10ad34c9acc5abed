/- A rule's rectangle: the reference, walked. -/
import Derived.Test.YtnkfbodolbfjpaaRul2
namespace Go.Proofs.Ytnkfbodolbfjpaa
open Go.RowKit
set_option maxRecDepth 100000
set_option maxHeartbeats 2000000
/-- The first rows. -/
def rws (st : Int) (tb west south : List Int) : Nat → List (List Int)
  | 0 => []
  | y + 1 => rws st tb west south y ++ [stp st tb (west.getD y 0) ((rws st tb west south y).getLastD south) south.length]
theorem rws_len (st : Int) (tb west south : List Int) : ∀ y, (rws st tb west south y).length = y
  | 0 => rfl
  | y + 1 => by rw [rws, List.length_append, rws_len st tb west south y, List.length_singleton]
theorem bel_succ (st : Int) (tb west south : List Int) (y : Nat) : (rws st tb west south (y + 1)).getLastD south = stp st tb (west.getD y 0) ((rws st tb west south y).getLastD south) south.length := by
  rw [rws]
  simp
theorem bel_ok {st : Int} {tb west south : List Int} (h : okT st tb) (hw : ∀ b ∈ west, inS st b) (hs : ∀ b ∈ south, inS st b) : ∀ y, y ≤ west.length → (∀ b ∈ (rws st tb west south y).getLastD south, inS st b) ∧ ((rws st tb west south y).getLastD south).length = south.length
  | 0, _ => ⟨hs, rfl⟩
  | y + 1, hy => by
    obtain ⟨h1, h2⟩ := bel_ok h hw hs y (by omega)
    have hg : west[y]? = some (west[y]'(by omega)) := List.getElem?_eq_getElem (by omega)
    have hd : west.getD y 0 = west[y]'(by omega) := by rw [List.getD, hg]; rfl
    rw [bel_succ, hd]
    exact ⟨(stp_bd h (hw _ (List.mem_of_getElem? hg)) h1 _ (by omega)).2, stp_len _ _ _ _ _⟩
theorem inS_ok {st x : Int} (h : 1 ≤ st ∧ st ≤ 5) (hx : inS st x) : okI (.int .i64 x) := okI_small ⟨by have := hx.1; omega, by have := hx.2; omega⟩
/-- No cells yet, in a new block. -/
theorem own_none (w : World) (e : TypeId) : (w.alloc (.cells #[] e)).ownsRow w.heap.size e 1 (.slice (some ⟨w.heap.size, 0, none⟩) 0 0) 0 [] :=
  ⟨rfl, .inr ⟨w.heap.size, 0, #[], rfl, Nat.le_refl _, heap_alloc_new w _, Nat.le_refl _, Nat.zero_le _, rfl, rfl⟩⟩
/-- Rows in a row of the call's own. -/
theorem rd_rows {w : World} {B n : Nat} {v : Value} {us : List Value} {rows : List (List Int)} {R R' : Nat → Prop} (h : w.ownsRow B 49 1 v n us) (hn : n = rows.length) (hus : ∀ (i : Nat) (u : Value) (l : List Int), us[i]? = some u → rows[i]? = some l → RD w R u (.rd kI (ints l))) (hs : ∀ b, R b → R' b) (hv : ∀ b, v.ownBlock = some b → R' b) : RD w R' v (.rd kR (rows.map enR)) := by
  subst hn
  have hul : us.length = rows.length := by have := h.1; omega
  rcases h.2 with ⟨rfl, h0⟩ | ⟨g, cap, cur, rfl, hb, hg, hnc, hcm, hcs, htake⟩
  · obtain rfl : rows = [] := List.eq_nil_of_length_eq_zero h0
    exact .nil
  · by_cases h0 : rows.length = 0
    · obtain rfl : rows = [] := List.eq_nil_of_length_eq_zero h0
      exact .nil
    · have hln : (rows.map enR).length = rows.length := by simp
      rw [← hln]
      refine RD.rd (κ := kR) (xs := rows.map enR) (b := g) (off := 0) (fun i _ => us.getD i undef) (by omega) (by omega) hcm (hv g rfl) (fun i es hi => ?_) (fun i es j hi hj => ?_) (fun i es j d hi hd => ?_)
      · rw [List.getElem?_map] at hi
        obtain ⟨x, _, rfl⟩ := Option.map_eq_some_iff.1 hi
        rfl
      · rw [List.getElem?_map] at hi
        obtain ⟨x, hx, rfl⟩ := Option.map_eq_some_iff.1 hi
        have hj0 : j = 0 := by have : j < 1 := hj; omega
        subst hj0
        have hlt := (List.getElem?_eq_some_iff.1 hx).1
        have hu : us[i]? = some (us.getD i undef) := by rw [List.getD, List.getElem?_eq_getElem (by omega)]; rfl
        have := h.cells (g := g) rfl i _ hu
        rw [add_at] at this
        have e3 : 0 + i * kR.k + 0 = 0 + i := by show 0 + i * 1 + 0 = 0 + i; omega
        rw [e3]
        exact this
      · rw [List.getElem?_map] at hi
        obtain ⟨x, hx, rfl⟩ := Option.map_eq_some_iff.1 hi
        have hlt := (List.getElem?_eq_some_iff.1 hx).1
        have hu : us[i]? = some (us.getD i undef) := by rw [List.getD, List.getElem?_eq_getElem (by omega)]; rfl
        have hd' : d = .rd kI (ints x) := by
          rcases j with _ | j
          · exact (Option.some.inj hd).symm
          · cases hd
        rw [hd']
        exact (hus i _ x hu hx).keep hs fun _ _ => rfl
theorem run16 {st : Int} {tb west south : List Int} (h : okT st tb) (hwt : ∀ b ∈ west, inS st b) (hst : ∀ b ∈ south, inS st b) (hwl : west.length ≤ 15) (hsl : south.length ≤ 15) (rb ro : Nat) (tv wv sv : Value) (w : World) (R : Nat → Prop) (hR : ∀ b, R b → b < w.heap.size) (hrb : rb < w.heap.size) (hr0 : w.cell? ⟨rb, ro, none⟩ = some (.int .i64 st)) (hr1 : w.cell? ⟨rb, ro + 1, none⟩ = some tv) (hT : RowI w w.heap.size tv tb) (hW : RowI w w.heap.size wv west) (hS : RD w R sv (.rd kI (ints south))) :
    Calls Try.prog 124 #[.pointer (some ⟨rb, ro, none⟩), wv, sv] w fun e w' => ∃ v, e = .returned v ∧ Below w.heap.size w w' ∧ RD w' (fun b => R b ∨ (w.heap.size ≤ b ∧ b < w'.heap.size)) v (.rd kR ((rws st tb west south west.length).map enR)) := by
  obtain ⟨wa, wc, rfl, hcw⟩ := hW
  obtain ⟨sa, sc, hsv, _⟩ := rowI_of hR hS
  subst hsv
  have hT0 := hT
  obtain ⟨ta, tc, htv, hct⟩ := hT
  subst htv
  have hb0 : Below w.heap.size w (w.alloc (.cells #[] 49)) := (Below.refl _ w).alloc (Nat.le_refl _) _
  have ho0 := own_none w 49
  have hz0 : (w.alloc (.cells #[] 49)).heap.size = w.heap.size + 1 := World.size_alloc _ _
  have hS0 : RD (w.alloc (.cells #[] 49)) (RnD R w.heap.size (w.alloc (.cells #[] 49)) (.slice (some ⟨w.heap.size, 0, none⟩) 0 0)) (.slice sa south.length sc) (.rd kI (ints south)) := hS.keep (fun b hb => ⟨.inl hb, fun e => by
    have := hR b hb
    simp only [Value.ownBlock, Option.some.injEq] at e
    omega⟩) fun b hb => hb0.block b (hR b hb)
  go_enter Try.func124, Try.ntmps124
  go_wp2
  generalize w.alloc (.cells #[] 49) = W0 at *
  go_loopw [7, 8, 9] (fun v7 v8 v9 wr => ∃ y : Nat, y ≤ west.length ∧ v9 = .int .i64 y ∧ ∃ us, wr.ownsRow w.heap.size 49 1 v7 y us ∧ (∀ (i : Nat) (u : Value) (l : List Int), us[i]? = some u → (rws st tb west south y)[i]? = some l → RD wr (RnD R w.heap.size wr v7) u (.rd kI (ints l))) ∧ RD wr (RnD R w.heap.size wr v7) v8 (.rd kI (ints ((rws st tb west south y).getLastD south))) ∧ Below w.heap.size w wr) (fun _ _ v9 _ => (west.length - intOf v9).toNat)
  case atStart => exact ⟨0, Nat.zero_le _, rfl, [], ho0, fun i u l hi => (by cases hi), hS0, hb0⟩
  case round =>
    obtain ⟨y, hy, rfl, us, hown, hus, hbel, hBb⟩ := hrel
    clear ho0 hS0 hb0
    by_cases hyl : y < west.length
    · obtain ⟨wx, hg⟩ : ∃ wx, west[y]? = some wx := ⟨_, List.getElem?_eq_getElem hyl⟩
      have hwx := hwt wx (List.mem_of_getElem? hg)
      obtain ⟨gb, off, rfl, hgb, hcell⟩ := hcw y wx hg
      have cW := (hBb.cell (p := ⟨gb, off + y, none⟩) hgb).trans hcell
      obtain ⟨hbs, hbl⟩ := bel_ok h hwt hst y hy
      have hsuc := bel_succ st tb west south y
      have hwd : west.getD y 0 = wx := by rw [List.getD, hg]; rfl
      have hrw : rws st tb west south (y + 1) = rws st tb west south y ++ [stp st tb wx ((rws st tb west south y).getLastD south) south.length] := by rw [rws, hwd]
      rw [hwd] at hsuc
      have hw3 : RowKit.wrap64 ((y : Int) + 1) = ((y + 1 : Nat) : Int) := IntWalk.wrap64_in _ (by omega)
      have hRw : ∀ b, RnD R w.heap.size wr u7 b → b < wr.heap.size := fun b hb => hb.1.elim (fun h => Nat.lt_of_lt_of_le (hR b h) hBb.size) fun h => h.2
      have hbr := rowI_of hRw hbel
      generalize (rws st tb west south y).getLastD south = below at *
      obtain ⟨ba, bc, hbv, hcb⟩ := hbr
      rw [hbl] at hbv
      subst hbv
      have HL := Lib.hid hbl
      clear hbl
      have HX := Lib.hid (And.intro hsuc (And.intro hrw (And.intro hy hyl)))
      have HU := Lib.hid hus
      have HB := Lib.hid (And.intro hbel (And.intro hRw hcw))
      have HR := Lib.hid hwd
      clear hsuc hrw hy hus hbel hRw hcw hwd hg
      generalize wr = wo at *
      have hb1 : Below wo.heap.size wo (wo.alloc (.cells #[] 2)) := (Below.refl _ wo).alloc (Nat.le_refl _) _
      have ho1 := own_none wo 2
      have cW1 := (hb1.cell (p := ⟨gb, off + y, none⟩) (by have := hBb.size; show gb < _; omega)).trans cW
      have hBz := hBb.size
      go_wp2
      go_loopw [10, 11, 12] (fun v10 v11 v12 wi => ∃ x : Nat, x ≤ south.length ∧ v12 = .int .i64 x ∧ v11 = .int .i64 ((stp st tb wx below x).getLastD wx) ∧ wi.ownsRow wo.heap.size 2 1 v10 (stp st tb wx below x).length ((stp st tb wx below x).map (Value.int .i64)) ∧ Below wo.heap.size wo wi) (fun _ _ v12 _ => (south.length - intOf v12).toNat)
      case atStart => exact ⟨0, Nat.zero_le _, rfl, rfl, ho1, hb1⟩
      case round =>
        obtain ⟨x, hx, rfl, rfl, hrow, hBi⟩ := hrel
        clear ho1 hb1 cW1
        by_cases hxl : x < south.length
        · have hxb : x < below.length := by have := HL.out; omega
          obtain ⟨s, hs⟩ : ∃ s, below[x]? = some s := ⟨_, List.getElem?_eq_getElem hxb⟩
          have hsb := hbs s (List.mem_of_getElem? hs)
          obtain ⟨bb, bo, rfl, hbb, hbc⟩ := hcb x s hs
          have cB := (hBi.cell (p := ⟨bb, bo + x, none⟩) hbb).trans hbc
          have hlv := (stp_bd h hwx hbs x (Nat.le_of_lt hxb)).1
          have hsd : below.getD x 0 = s := by rw [List.getD, hs]; rfl
          have hnew : stp st tb wx below (x + 1) = stp st tb wx below x ++ [nx st tb ((stp st tb wx below x).getLastD wx) s] := by rw [stp, hsd]
          have hlim : (stp st tb wx below x).length ≤ 1048576 := by rw [stp_len]; omega
          generalize hlast : (stp st tb wx below x).getLastD wx = lv at *
          obtain ⟨m, hm, hmt, hnx⟩ := nx_ok h hlv hsb
          obtain ⟨tbk, tof, rfl, htb, htc⟩ := hct m _ hmt
          have hBw : Below w.heap.size w wr := hBb.trans (hBi.mono hBz)
          have cT := (hBw.cell (p := ⟨tbk, tof + m, none⟩) htb).trans htc
          have c0 := (hBw.cell (p := ⟨rb, ro, none⟩) hrb).trans hr0
          have c1 := (hBw.cell (p := ⟨rb, ro + 1, none⟩) hrb).trans hr1
          have hml := (List.getElem?_eq_some_iff.1 hmt).1
          have hl25 : tb.length ≤ 25 := by
            have := sq_bd h.1
            have := h.2.1
            omega
          have h0 : 0 ≤ lv * st := Int.mul_nonneg hlv.1 (by have := h.1; omega)
          have hw1 : RowKit.wrap64 (lv * st) = lv * st := IntWalk.wrap64_in _ (by have := hsb.1; omega)
          have hw2 : RowKit.wrap64 (lv * st + s) = (m : Int) := by rw [hm]; exact IntWalk.wrap64_in _ (by omega)
          have hw4 : RowKit.wrap64 ((x : Int) + 1) = ((x + 1 : Nat) : Int) := IntWalk.wrap64_in _ (by omega)
          have HN := Lib.hid (And.intro hnew (And.intro hlast (And.intro hx (And.intro hxl hlim))))
          have HC := Lib.hid (And.intro hct hcb)
          clear hnew hlast hx hlim h0 hm hmt hs hsd hct hcb hxb
          go_wp2
          go_quiet (fail)
          have hBd : Below wo.heap.size wo (wr.drewN nq) := ⟨hBi.os, hBi.tape, hBi.output, hBi.size, hBi.block⟩
          have hrd : (wr.drewN nq).ownsRow wo.heap.size 2 1 u10 (stp st tb wx below x).length ((stp st tb wx below x).map (Value.int .i64)) := hrow
          generalize wr.drewN nq = wd at *
          obtain ⟨v4, w4, hr4, ho4, hb4, _⟩ := app_one hrd HN.out.2.2.2.2 hBd.size (nx st tb lv s) 49
          go_wp2_with (at_builtin; refine Lib.wpList_append_run _ rfl _ _ _ _ rfl _ _ rfl rfl _ _ hr4 ?_)
          go_roundw
          case rel =>
            refine ⟨x + 1, HN.out.2.2.2.1, by rw [hw4], ?_, by rw [HN.out.1]; exact ho4, hBd.trans hb4⟩
            rw [HN.out.1]
            simp
          case measure =>
            show ((south.length : Int) - intOf (Value.int .i64 (RowKit.wrap64 ((x : Int) + 1)))).toNat < ((south.length : Int) - intOf (Value.int .i64 (x : Int))).toNat
            rw [intOf_int, intOf_int, hw4]
            clear hw4 hw1 hw2
            omega
        · obtain rfl : x = south.length := by omega
          rw [stp_len] at hrow
          have hok : ∀ z ∈ stp st tb wx below south.length, okI (.int .i64 z) := fun z hz => inS_ok h.1 ((stp_bd h hwx hbs south.length (by have := HL.out; omega)).2 z hz)
          have hzi := hBi.size
          have hRow : RD wr (RnD R w.heap.size wr u7) u10 (.rd kI (ints (stp st tb wx below south.length))) := rd_own hrow (stp_len _ _ _ _ _).symm (fun b hb => ⟨.inr ⟨Nat.le_trans hBz (hrow.lt b hb).1, (hrow.lt b hb).2⟩, fun e => by
            have h1 := (hown.lt b e).2
            have h2 := (hrow.lt b hb).1
            omega⟩) hok
          obtain ⟨ao, nn, cc, hu10⟩ : ∃ ao nn cc, u10 = .slice ao nn cc := by
            rcases hrow.2 with ⟨hv, _⟩ | ⟨g, cap, cur, hv, _⟩
            · exact ⟨_, _, _, hv⟩
            · exact ⟨_, _, _, hv⟩
          subst hu10
          obtain ⟨v4, w4, hr4, ho4, hb4, hk4, ha4⟩ := app_val (own_keep hown hBi) (by have := HX.out.2.2.1; omega) (by omega) (.slice ao nn cc) rfl 98
          have hz4 := hb4.size
          clear hok hcb hct
          go_wp2_with (at_builtin; refine Lib.wpList_append_run _ rfl _ _ _ _ rfl _ _ rfl rfl _ _ hr4 ?_)
          go_roundw
          case rel =>
            have hRr : ∀ b, R b → b < wr.heap.size := fun b hb => by have := hR b hb; omega
            refine ⟨y + 1, HX.out.2.2.2, (by first | rw [hw3] | exact congrArg (Value.int .i64) (by omega)), us ++ [.slice ao nn cc], ho4, fun i u l hi hl => ?_, ?_, (hBb.trans (hBi.mono hBz)).trans hb4⟩
            · rw [HX.out.2.1] at hl
              have hul : us.length = y := by have := hown.1; omega
              have hrl := rws_len st tb west south y
              by_cases hiy : i < y
              · rw [List.getElem?_append_left (by omega)] at hi hl
                exact rnd_app hRr (rnd_step (fun b hb => by have := hR b hb; omega) (HU.out i u l hi hl) hBi) (by omega) hk4 ha4
              · rw [List.getElem?_append_right (by omega)] at hi hl
                rw [hul] at hi
                rw [hrl] at hl
                rcases hi0 : i - y with _ | j
                · rw [hi0] at hi hl
                  cases hi
                  cases hl
                  exact rnd_app hRr hRow (by omega) hk4 ha4
                · rw [hi0] at hi
                  simp at hi
            · rw [HX.out.1]
              exact rnd_app hRr hRow (by omega) hk4 ha4
          case measure =>
            have := HX.out.2.2.2
            first
              | (show ((west.length : Int) - ((y : Int) + 1)).toNat < ((west.length : Int) - (y : Int)).toNat
                 clear hw3
                 omega)
              | (show ((west.length : Int) - intOf (Value.int .i64 (RowKit.wrap64 ((y : Int) + 1)))).toNat < ((west.length : Int) - intOf (Value.int .i64 (y : Int))).toNat
                 rw [intOf_int, intOf_int, hw3]
                 clear hw3
                 omega)
    · obtain rfl : y = west.length := by omega
      clear hcw hwl
      go_wp2
      refine bodyPost_ret (results_tmp rfl _ _ _) rfl ⟨_, rfl, hBb, ?_⟩
      exact rd_rows hown (rws_len _ _ _ _ _).symm hus (fun b hb => hb.1) (fun b hb => .inr (hown.lt b hb))
end Go.Proofs.Ytnkfbodolbfjpaa
