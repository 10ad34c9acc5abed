/- A rule's rectangle: what it is; a rule's next state and a row, walked. -/
import Derived.Test.YtnkfbodolbfjpaaCSt1
import Derived.WalkLawsBesides
import Derived.WalkSpells
import Derived.Outline
import Derived.BigQuiet
import Derived.Deep.QuietTactic
import Derived.WalkKit
import Derived.Maps.AppendAt
import Derived.Lib.Walk
import Derived.Lib.Hide
namespace Go.Proofs.Ytnkfbodolbfjpaa
open Go.RowKit
set_option maxRecDepth 100000
set_option maxHeartbeats 4000000
def nx (st : Int) (tb : List Int) (a b : Int) : Int := tb.getD (a * st + b).toNat 0
/-- The first states of the row above another one. -/
def stp (st : Int) (tb : List Int) (w : Int) (sw : List Int) : Nat → List Int
  | 0 => []
  | k + 1 => stp st tb w sw k ++ [nx st tb ((stp st tb w sw k).getLastD w) (sw.getD k 0)]
theorem stp_len (st : Int) (tb : List Int) (w : Int) (sw : List Int) : ∀ k, (stp st tb w sw k).length = k
  | 0 => rfl
  | k + 1 => by rw [stp, List.length_append, stp_len st tb w sw k, List.length_singleton]
def okT (st : Int) (tb : List Int) : Prop := (1 ≤ st ∧ st ≤ 5) ∧ (tb.length : Int) = st * st ∧ ∀ w ∈ tb, 0 ≤ w ∧ w ≤ st - 1
def inS (st : Int) (a : Int) : Prop := 0 ≤ a ∧ a ≤ st - 1
theorem nx_ok {st : Int} {tb : List Int} (h : okT st tb) {a b : Int} (ha : inS st a) (hb : inS st b) : ∃ m : Nat, a * st + b = (m : Int) ∧ tb[m]? = some (nx st tb a b) ∧ inS st (nx st tb a b) := by
  obtain ⟨hs, hl, ht⟩ := h
  obtain ⟨a0, a1⟩ := ha
  obtain ⟨b0, b1⟩ := hb
  have h0 : 0 ≤ a * st := Int.mul_nonneg a0 (by omega)
  have h1 : a * st ≤ (st - 1) * st := Int.mul_le_mul_of_nonneg_right a1 (by omega)
  have h2 : (st - 1) * st = st * st - st := by rw [Int.sub_mul, Int.one_mul]
  obtain ⟨m, hm⟩ : ∃ m : Nat, a * st + b = (m : Int) := ⟨(a * st + b).toNat, by omega⟩
  have hlt : m < tb.length := by omega
  have e : tb[m]? = some (nx st tb a b) := by
    unfold nx
    rw [hm, Int.toNat_natCast, List.getD, List.getElem?_eq_getElem hlt]
    rfl
  exact ⟨m, hm, e, ht _ (List.mem_of_getElem? e)⟩
theorem stp_bd {st : Int} {tb : List Int} (h : okT st tb) {w : Int} (hw : inS st w) {sw : List Int} (hsw : ∀ b ∈ sw, inS st b) : ∀ k, k ≤ sw.length → inS st ((stp st tb w sw k).getLastD w) ∧ ∀ x ∈ stp st tb w sw k, inS st x
  | 0, _ => ⟨hw, fun x hx => by cases hx⟩
  | k + 1, hk => by
    obtain ⟨h1, h2⟩ := stp_bd h hw hsw k (by omega)
    have hg : sw[k]? = some (sw[k]'(by omega)) := List.getElem?_eq_getElem (by omega)
    have hb := hsw _ (List.mem_of_getElem? hg)
    have hd : sw.getD k 0 = sw[k]'(by omega) := by rw [List.getD, hg]; rfl
    obtain ⟨m, _, _, h3⟩ := nx_ok h h1 hb
    rw [stp, hd]
    refine ⟨by simpa using h3, fun x hx => ?_⟩
    rcases List.mem_append.1 hx with hx | hx
    · exact h2 x hx
    · rw [List.mem_singleton.1 hx]; exact h3
/-- The value is a slice with these numbers, in a block below n0, or an empty one. -/
def RowI (w : World) (n0 : Nat) (v : Value) (l : List Int) : Prop := ∃ (a : Option Addr) (cap : Nat), v = .slice a l.length cap ∧ ∀ (k : Nat) (n : Int), l[k]? = some n → ∃ b off, a = some ⟨b, off, none⟩ ∧ b < n0 ∧ w.cell? ⟨b, off + k, none⟩ = some (.int .i64 n)
theorem RowI.keep {w w' : World} {n0 n1 : Nat} {v : Value} {l : List Int} (h : RowI w n0 v l) (hb : Below n0 w w') (hn : n0 ≤ n1) : RowI w' n1 v l := by
  obtain ⟨a, cap, e, h⟩ := h
  refine ⟨a, cap, e, fun k n hk => ?_⟩
  obtain ⟨b, off, h1, h2, h3⟩ := h k n hk
  exact ⟨b, off, h1, by omega, (hb.cell (p := ⟨b, _, none⟩) h2).trans h3⟩
theorem rowI_of {w : World} {R : Nat → Prop} {n0 : Nat} (hR : ∀ b, R b → b < n0) {v : Value} {l : List Int} (h : RD w R v (.rd kI (ints l))) : RowI w n0 v l := by
  generalize hxs : ints l = xs at h
  cases h with
  | nil =>
    obtain rfl : l = [] := List.map_eq_nil_iff.1 hxs
    exact ⟨_, _, rfl, fun k p hp => by cases hp⟩
  | rd cc g0 g1 g2 gR gk gc gr =>
    rename_i b0 off0 cap0
    have hln : xs.length = l.length := by rw [← hxs]; simp
    refine ⟨some ⟨b0, off0, none⟩, cap0, by rw [hln], fun k n hk => ⟨b0, off0, rfl, hR _ gR, ?_⟩⟩
    have hx : xs[k]? = some (enI n) := by rw [← hxs, List.getElem?_map, hk]; rfl
    have e1 := gc k _ 0 hx (by decide)
    have r1 := gr k _ 0 _ hx rfl
    generalize cc k 0 = u1 at e1 r1
    cases r1
    have e3 : ∀ o : Nat, o + k * kI.k + 0 = o + k := fun o => by show o + k * 1 + 0 = o + k; omega
    rw [e3] at e1
    exact e1
theorem rowI_own {w : World} {B e n : Nat} {v : Value} {l : List Int} (h : w.ownsRow B e 1 v n (l.map (Value.int .i64))) (hn : n = l.length) : RowI w w.heap.size v l := by
  subst hn
  rcases h.2 with ⟨rfl, h0⟩ | ⟨g, cap, cur, rfl, hb, hg, hnc, hcm, hcs, htake⟩
  · obtain rfl : l = [] := List.eq_nil_of_length_eq_zero h0
    exact ⟨none, 0, rfl, fun k n hk => by cases hk⟩
  · refine ⟨some ⟨g, 0, none⟩, cap, rfl, fun k n hk => ⟨g, 0, rfl, (Array.getElem?_eq_some_iff.1 hg).1, ?_⟩⟩
    have := h.cells (g := g) rfl k (.int .i64 n) (by rw [List.getElem?_map, hk]; rfl)
    rw [add_at] at this
    exact this
theorem nextC {st : Int} {tb : List Int} (h : okT st tb) {a b : Int} (ha : inS st a) (hb : inS st b) (tv : Value) (w : World) (hT : RowI w w.heap.size tv tb) :
    Calls Try.prog 127 #[.agg #[.int .i64 st, tv], .int .i64 a, .int .i64 b] w fun e w' => e = .returned (.int .i64 (nx st tb a b)) ∧ Below w.heap.size w w' := by
  obtain ⟨m, hm, hg, _⟩ := nx_ok h ha hb
  obtain ⟨ta, tc, rfl, hc⟩ := hT
  obtain ⟨gb, off, rfl, hgb, hcell⟩ := hc m _ hg
  have hlt := (List.getElem?_eq_some_iff.1 hg).1
  have hl25 : tb.length ≤ 25 := by
    have := sq_bd h.1
    have := h.2.1
    omega
  have h0 : 0 ≤ a * st := Int.mul_nonneg ha.1 (by have := h.1; omega)
  have hw1 : RowKit.wrap64 (a * st) = a * st := IntWalk.wrap64_in _ (by have := hb.1; omega)
  have hw2 : RowKit.wrap64 (a * st + b) = (m : Int) := by rw [hm]; exact IntWalk.wrap64_in _ (by omega)
  have hal : Below w.heap.size w (w.alloc (.cells #[.int .i64 st, .slice (some ⟨gb, off, none⟩) tb.length tc] 101)) := (Below.refl _ w).alloc (Nat.le_refl _) _
  have hcell2 := (hal.cell (p := ⟨gb, off + m, none⟩) hgb).trans hcell
  clear hm h0 hc
  go_enter Try.func127, Try.ntmps127
  go_wp2
  go_ret
  exact ⟨rfl, hal⟩
end Go.Proofs.Ytnkfbodolbfjpaa
