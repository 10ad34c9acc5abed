/- Texts of one proof, one behind the other. -/
import Derived.Test.YtehkaajakapkmaaGreatFB16
import Derived.Test.YtehkaajakapkmaaGreatFB17
import Derived.Test.YtehkaajakapkmaaGreatFB19
import Derived.Test.YtehkaajakapkmaaGreatFB22
import Derived.Test.YtehkaajakapkmaaGreatFB24
import Derived.Test.YtehkaajakapkmaaGreatFB26
namespace Go.Proofs.YtehkaajakapkmaaGreat
section
open Go.RowKit
noncomputable def cov (n : Int) (t : List Int) : List TCube := cubs (tabQ n.toNat t (2 ^ n.toNat)) (lcX n.toNat t)
theorem cov_len {n : Int} {t : List Int} (hn : 1 ≤ n ∧ n ≤ 4) (h : inK t (2 ^ n.toNat)) : (cov n t).length ≤ 256 := by
  have e : fLC n t = (cov n t, 0) := if_pos ⟨hn, h⟩
  have := fLC_len (n := n) (l := t)
  rwa [e] at this
noncomputable def covs (c : TCircuit) : List (List TCube) := (tabT c (2 ^ c.fInputs.toNat) 0).map (cov c.fInputs)
noncomputable def cubF (c : TCircuit) : List TCube := (covs c).flatten.foldl putQ []
noncomputable def sumsF (c : TCircuit) : List (List Int) := (covs c).map fun cv => sumK (cubF c) cv (cubF c).length
open Classical in
noncomputable def fFO (c : TCircuit) : TForm × Int := if okC c then (⟨c.fInputs, cubF c, sumsF c⟩, 0) else (⟨0, [], []⟩, 1)
theorem evC_bit {c : TCircuit} {l : List Int} (h : ∀ w ∈ l, 0 ≤ w ∧ w ≤ 1) : ∀ w ∈ evC c l, 0 ≤ w ∧ w ≤ 1 := fun w hw => by
  unfold evC at hw
  obtain ⟨x, _, rfl⟩ := List.mem_map.1 hw
  exact getD_bit (wr_bit h _) _
theorem tab_inK {c : TCircuit} (h : okC c) : ∀ r ∈ tabT c (2 ^ c.fInputs.toNat) 0, inK r (2 ^ c.fInputs.toNat) := fun r hr => by
  obtain ⟨i, _, rfl⟩ := List.mem_map.1 hr
  rw [if_neg (by omega)]
  refine ⟨by rw [rowT_len]; exact q16c, fun w hw => ?_⟩
  unfold rowT at hw
  obtain ⟨k, _, rfl⟩ := List.mem_map.1 hw
  exact getD_bit (evC_bit (inp_ok (k := k) h.1.1).2) _
theorem covs_len {c : TCircuit} : (covs c).length = c.fOutputs.length := by unfold covs; rw [List.length_map, tabT_len]
theorem covs_get {c : TCircuit} {i : Nat} {t : List Int} (h : (tabT c (2 ^ c.fInputs.toNat) 0)[i]? = some t) : (covs c)[i]? = some (cov c.fInputs t) := by
  unfold covs
  rw [List.getElem?_map, h]
  rfl
theorem covs_mem {c : TCircuit} (h : okC c) {cv : List TCube} (hc : cv ∈ covs c) : cv.length ≤ 256 := by
  unfold covs at hc
  obtain ⟨t, ht, rfl⟩ := List.mem_map.1 hc
  exact cov_len h.1 (tab_inK h t ht)
theorem flat_len : ∀ {l : List (List TCube)} {m : Nat}, (∀ r ∈ l, r.length ≤ m) → l.flatten.length ≤ l.length * m
  | [], _, _ => by simp
  | r :: l, m, h => by
    have h1 := flat_len (l := l) (m := m) fun x hx => h x (by simp [hx])
    have h2 := h r (by simp)
    rw [List.flatten_cons, List.length_append, List.length_cons, Nat.succ_mul]
    omega
theorem cubF_len {c : TCircuit} (h : okC c) : (cubF c).length ≤ 768 := by
  have h1 := flat_len (l := covs c) (m := 256) fun r hr => covs_mem h hr
  have h2 := putAll_len (covs c).flatten []
  have h3 := h.2.2.1.2
  rw [covs_len] at h1
  have h4 : c.fOutputs.length * 256 ≤ 3 * 256 := Nat.mul_le_mul_right _ h3
  unfold cubF
  simp only [List.length_nil] at h2
  omega
theorem cubF_pw (c : TCircuit) : (cubF c).Pairwise ltQ := (putAll_ok (cs := (covs c).flatten) (l := []) .nil).1
theorem cubF_mem {c : TCircuit} {x : TCube} : x ∈ cubF c ↔ ∃ cv ∈ covs c, x ∈ cv := by
  rw [cubF, (putAll_ok (cs := (covs c).flatten) (l := []) .nil).2]
  simp
theorem sumsF_len {c : TCircuit} : (sumsF c).length = c.fOutputs.length := by unfold sumsF; rw [List.length_map, covs_len]
abbrev enV (v : Value) : List D := [.pv v]
abbrev kCS : Ky := ⟨27, 1⟩
abbrev enCS (l : List TCube) : List D := [.rd kCube (l.map enCube)]
end
section
open Go.RowKit
theorem Weak.regNew {st : St} (q : Nat) (hp : freeO st.objs q) : Weak st ⟨st.env, upd st.objs q (some (.val []))⟩ := fun F R ι φ a w hs => by
  obtain ⟨hp1, hp2⟩ := hp.none
  exact ⟨R, _, _, hs.new (d := q) (u := .slice none 0 0) (S := []) (x := .val []) (w' := w) hp1 hp2 (Below.refl _ _) ⟨rfl, rfl, fun p hp => by cases hp⟩ (fun g hg => by cases hg)⟩
theorem okI_rd {W : World} {R : Nat → Prop} {v : Value} {κ : Ky} {xs : List (List D)} (h : RD W R v (.rd κ xs)) : okI v := by cases h <;> trivial
theorem Wk.reveal {st : St} (j q : Nat) {κ : Ky} {xs : List (List D)} {l : List (Value × D)} (h : st.env j = .v (.c (.d (.rd κ xs)))) (hq : st.objs q = some (.val l)) : Wk st (fun s => ∃ v, s = ⟨upd st.env j (pvA v), upd st.objs q (some (.val (l ++ [(v, .rd κ xs)])))⟩) := fun F R ι φ a w hs => by
  have hj := hs.env j
  rw [h] at hj
  have hj : RD w R (a.tmps.getD j undef) (.rd κ xs) := hj
  have hq0 := hs.objs q _ hq
  have hφ : φ q = [] := hq0.2.1
  have hd : ∀ p, st.dom p → domO (upd st.objs q (some (.val (l ++ [(a.tmps.getD j undef, D.rd κ xs)])))) p := fun p ⟨x, hx⟩ => by
    by_cases hp : p = q
    · subst hp; exact ⟨_, upd_same _ _ _⟩
    · exact ⟨x, by rw [upd_ne _ _ hp]; exact hx⟩
  refine ⟨_, ⟨a.tmps.getD j undef, rfl⟩, R, ι, φ, hs.below, hs.rlt, hs.rsub, hs.rnew, hs.size, hs.defers, fun t => ?_, fun p x hx => ?_, fun p x hx g hg => ?_, fun p r x y g hx hy h1 h2 => ?_, hs.pin⟩
  · by_cases ht : t = j
    · subst ht
      show RA _ _ _ _ _ (upd st.env t _ t)
      rw [upd_same]
      exact RD.pv hj.one (okI_rd hj)
    · show RA _ _ _ _ _ (upd st.env j _ t)
      rw [upd_ne _ _ ht]
      exact RA.keep (fun _ h => h) (fun _ _ => rfl) hd (fun _ _ => rfl) (hs.env t)
  · by_cases hp : p = q
    · subst hp
      have hx : upd st.objs p _ p = some x := hx
      rw [upd_same] at hx
      cases hx
      refine ⟨hq0.1, hφ, fun y hy => ?_⟩
      rcases List.mem_append.1 hy with hy | hy
      · exact hq0.2.2 y hy
      · rw [List.mem_singleton.1 hy]; exact hj
    · have hx : upd st.objs q _ p = some x := hx
      rw [upd_ne _ _ hp] at hx
      exact RO.keep (fun _ h => h) (fun _ _ => rfl) hd (fun _ _ => rfl) (fun _ _ => rfl) (hs.objs p x hx)
  · by_cases hp : p = q
    · subst hp; rw [hφ] at hg; cases hg
    · have hx : upd st.objs q _ p = some x := hx
      rw [upd_ne _ _ hp] at hx
      exact hs.mine p x hx g hg
  · by_cases hp : p = q
    · subst hp; rw [hφ] at h1; cases h1
    · by_cases hr : r = q
      · subst hr; rw [hφ] at h2; cases h2
      · have hx : upd st.objs q _ p = some x := hx
        have hy : upd st.objs q _ r = some y := hy
        rw [upd_ne _ _ hp] at hx
        rw [upd_ne _ _ hr] at hy
        exact hs.apart p r x y g hx hy h1 h2
theorem Weak.env1 {st : St} (j : Nat) (x : AV) (h : ∀ (R : Nat → Prop) (ι : Nat → Value) (φ : Nat → List Nat) (w : World) (v : Value), (∀ p y, st.objs p = some y → RO w R ι st.dom (ι p) (φ p) y) → RA w R ι st.dom v (st.env j) → RA w R ι st.dom v x) : Weak st ⟨upd st.env j x, st.objs⟩ := fun F R ι φ a w hs => by
  refine ⟨R, ι, φ, hs.below, hs.rlt, hs.rsub, hs.rnew, hs.size, hs.defers, fun t => ?_, hs.objs, hs.mine, hs.apart, hs.pin⟩
  by_cases ht : t = j
  · subst ht
    show RA _ _ _ _ _ (upd st.env t _ t)
    rw [upd_same]
    exact h R ι φ w _ hs.objs (hs.env t)
  · show RA _ _ _ _ _ (upd st.env j _ t)
    rw [upd_ne _ _ ht]
    exact hs.env t
theorem Weak.hide {st : St} (j q : Nat) {v : Value} {d : D} {l : List (Value × D)} (h : st.env j = pvA v) (hq : st.objs q = some (.val l)) (hm : (v, d) ∈ l) : Weak st ⟨upd st.env j (.v (.c (.d d))), st.objs⟩ :=
  Weak.env1 j _ fun R ι φ w u ho he => by
    rw [h] at he
    obtain ⟨rfl, _⟩ := RA.pv he
    exact (ho q _ hq).2.2 _ hm
theorem RD.rows {W : World} {R : Nat → Prop} {v : Value} {κ : Ky} {xs xs' : List (List D)} (h : RD W R v (.rd κ xs)) (hl : xs'.length = xs.length)
    (hc : ∀ (i : Nat) (es' : List D), xs'[i]? = some es' → ∃ es, xs[i]? = some es ∧ es'.length = es.length ∧ ∀ (j : Nat) (d' : D), es'[j]? = some d' → ∃ d, es[j]? = some d ∧ ∀ u, RD W R u d → RD W R u d') : RD W R v (.rd κ xs') := by
  cases h with
  | nil =>
    obtain rfl : xs' = [] := List.eq_nil_of_length_eq_zero hl
    exact .nil
  | rd c h0 h1 h2 hR hk hcc hr =>
    rw [← hl]
    refine .rd c (by omega) (by omega) h2 hR (fun i es' hi => ?_) (fun i es' j hi hj => ?_) (fun i es' j d' hi hj => ?_)
    · obtain ⟨es, q1, q2, _⟩ := hc i es' hi
      rw [q2]; exact hk i es q1
    · obtain ⟨es, q1, q2, _⟩ := hc i es' hi
      exact hcc i es j q1 hj
    · obtain ⟨es, q1, q2, q3⟩ := hc i es' hi
      obtain ⟨d, q4, q5⟩ := q3 j d' hj
      exact q5 _ (hr i es j d q1 q4)
theorem Weak.hideRows {st : St} {α : Type} (j q : Nat) {κ : Ky} (g : List α) (fv : α → Value) (fd : α → D) (h : st.env j = .v (.c (.d (.rd κ (g.map fun x => [.pv (fv x)]))))) (hq : st.objs q = some (.val (g.map fun x => (fv x, fd x)))) : Weak st ⟨upd st.env j (.v (.c (.d (.rd κ (g.map fun x => [fd x]))))), st.objs⟩ :=
  Weak.env1 j _ fun R ι φ w u ho he => by
    rw [h] at he
    have he : RD w R u (.rd κ (g.map fun x => [.pv (fv x)])) := he
    refine RD.rows he (by simp) fun i es' hi => ?_
    rw [List.getElem?_map, Option.map_eq_some_iff] at hi
    obtain ⟨x, hx, rfl⟩ := hi
    refine ⟨[.pv (fv x)], by rw [List.getElem?_map, hx]; rfl, rfl, fun k d' hk => ?_⟩
    cases k with
    | zero =>
      cases hk
      refine ⟨_, rfl, fun u hu => ?_⟩
      cases hu
      exact (ho q _ hq).2.2 _ (List.mem_map.2 ⟨x, List.mem_of_getElem? hx, rfl⟩)
    | succ k => cases hk
section
variable {P : Program} {Q : Exit → St → Prop} {ks : List Fr} {e : Nat → AV} {o : Nat → Option Ob} {d : Nat} {fr : Bool} {x y z : Operand} {rest : List SR}
theorem R.appN {α : Type} {f : α → List D} {l l' : List α} {κ : Ky} {by' p q : Nat} (h : ev e x = .v (.c (.own p))) (h1 : ev e y = .v (.c (.own q))) (hq : o q = some (.arr κ (l'.map f) [])) (h0 : (oK [q] o) p = some (.arr κ (l.map f) [])) (hpin : Nat.blt p pinN = true) (h3 : (l.length + l'.length) * by' ≤ 140737488355328 ∧ l.length + l'.length ≤ 140737488355328) (k : WL P rest ks Q ⟨upd (eK [p] (eK [q] e)) d (.v (.c (.own p))), upd (oK [p] (oK [q] o)) p (some (.arr κ ((l ++ l').map f) []))⟩) : WL P (⟨some d, none, false, .app κ by' x y⟩ :: rest) ks Q ⟨e, o⟩ := by
  unfold WL at k
  rw [List.map_append] at k
  refine WL.wr ⟨d, .own p, .own q, l'.map f, rfl, h, h1, by simp [elemsOf, hq], [q], .inr ⟨q, rfl, rfl⟩, .inl ⟨p, l.map f, rfl, by rw [kill_eq]; exact h0, by rw [Nat.blt] at hpin; exact Nat.le_of_ble_eq_true hpin, by unfold maxLen; simp; omega, by simpa using h3.1, ?_⟩⟩
  rw [kill_eq, kill_eq]
  exact k
theorem R.revealL {dst : Option Tmp} {s : SOp} {rest : List SR} (j q : Nat) {κ : Ky} {xs : List (List D)} {l : List (Value × D)} (h : e j = .v (.c (.d (.rd κ xs)))) (hq : o q = some (.val l)) (k : ∀ v, WL P (⟨dst, none, false, s⟩ :: rest) ks Q ⟨upd e j (pvA v), upd o q (some (.val (l ++ [(v, .rd κ xs)])))⟩) : WL P (⟨dst, none, false, s⟩ :: rest) ks Q ⟨e, o⟩ := by
  unfold WL
  intro F R ι φ a w hs
  obtain ⟨s', ⟨v, rfl⟩, R', ι', φ', hs'⟩ := Wk.reveal (st := ⟨e, o⟩) j q h hq F R ι φ a w hs
  have := k v
  unfold WL at this
  exact this F R' ι' φ' a w hs'
theorem R.reveal {b : SC} (j q : Nat) {κ : Ky} {xs : List (List D)} {l : List (Value × D)} (h : e j = .v (.c (.d (.rd κ xs)))) (hq : o q = some (.val l)) (k : ∀ v, WC P b ks Q ⟨upd e j (pvA v), upd o q (some (.val (l ++ [(v, .rd κ xs)])))⟩) : WN P (.seq b :: ks) Q ⟨e, o⟩ := by
  unfold WN
  refine Wk.mono (fun s hs => ?_) (Wk.reveal (st := ⟨e, o⟩) j q h hq)
  obtain ⟨v, rfl⟩ := hs
  have := k v
  unfold WC at this
  exact this
end
end
section
open Go.RowKit
def sw2 (p q o : Nat) : Nat := if o = p then q else if o = q then p else o
theorem sw2_sw2 (p q o : Nat) : sw2 p q (sw2 p q o) = o := by
  unfold sw2
  by_cases h1 : o = p
  · subst h1
    rw [if_pos rfl]
    by_cases h2 : q = o
    · subst h2; simp
    · rw [if_neg h2, if_pos rfl]
  · rw [if_neg h1]
    by_cases h2 : o = q
    · subst h2; rw [if_pos rfl, if_pos rfl]
    · rw [if_neg h2, if_neg h1, if_neg h2]
theorem sw2_pin {p q o : Nat} (hp : p < pinN) (hq : q < pinN) (ho : pinN ≤ o) : sw2 p q o = o := by
  unfold sw2
  rw [if_neg (by omega), if_neg (by omega)]
def St.swap (p q : Nat) (st : St) : St := ⟨fun d => (st.env d).ren (sw2 p q), fun o => (st.objs (sw2 p q o)).map (Ob.ren (sw2 p q))⟩
theorem Weak.swap {st : St} (p q : Nat) (hp : Nat.blt p pinN = true) (hq : Nat.blt q pinN = true) : Weak st (st.swap p q) := fun F R ι φ a w hs => by
  have hp : p < pinN := Nat.le_of_ble_eq_true hp
  have hq : q < pinN := Nat.le_of_ble_eq_true hq
  have hσ : ∀ j, st.dom j → (st.swap p q).dom (sw2 p q j) ∧ (fun o => ι (sw2 p q o)) (sw2 p q j) = ι j := fun j ⟨x, hx⟩ =>
    ⟨⟨x.ren (sw2 p q), by show (st.objs (sw2 p q (sw2 p q j))).map _ = _; rw [sw2_sw2, hx]; rfl⟩, by show ι (sw2 p q (sw2 p q j)) = _; rw [sw2_sw2]⟩
  have hob : ∀ o x, (st.swap p q).objs o = some x → ∃ y, st.objs (sw2 p q o) = some y ∧ x = y.ren (sw2 p q) := fun o x hx => by
    have hx : (st.objs (sw2 p q o)).map (Ob.ren (sw2 p q)) = some x := hx
    cases hy : st.objs (sw2 p q o) with
    | none => rw [hy] at hx; cases hx
    | some y => rw [hy] at hx; cases hx; exact ⟨y, rfl, rfl⟩
  refine ⟨R, fun o => ι (sw2 p q o), fun o => φ (sw2 p q o), hs.below, hs.rlt, hs.rsub, hs.rnew, hs.size, hs.defers, fun d => RA.ren hσ (.inl fun _ h => h) (hs.env d), fun o x hx => ?_, fun o x hx => ?_, fun o o' x x' g hx hx' h1 h2 => ?_, fun o ho => ?_⟩
  · obtain ⟨y, hy, rfl⟩ := hob o x hx
    exact RO.ren hσ (.inl fun _ h => h) (hs.objs _ y hy)
  · obtain ⟨y, hy, rfl⟩ := hob o x hx
    exact hs.mine _ y hy
  · obtain ⟨y, hy, rfl⟩ := hob o x hx
    obtain ⟨y', hy', rfl⟩ := hob o' x' hx'
    have := hs.apart _ _ y y' g hy hy' h1 h2
    rw [← sw2_sw2 p q o, this, sw2_sw2]
  · show ι (sw2 p q o) = _
    rw [sw2_pin hp hq ho]
    exact hs.pin o ho
end
section
open Go.RowKit
theorem spec_args {W : World} {R : Nat → Prop} {vs : List Value} {args : List VD} (h : F2 (RVD W R) vs args) : F2 (RV1 W R (fun _ => undef) (domO (frO []))) vs (args.map VD.v1) := by
  induction h with
  | nil => exact .nil
  | cons h1 _ ih =>
    refine .cons ?_ ih
    rename_i v x _ _ _
    cases x with
    | c y => exact h1
    | agg ys => obtain ⟨us, e, h2⟩ := h1; exact ⟨us, e, F2.map_right (f := B.d) (fun _ _ h => h) h2⟩
theorem noTab (w : World) (R : Nat → Prop) : TabW w R := fun x hx => by simp [tabG] at hx
end
section
open Go.RowKit Go.Lib
set_option maxRecDepth 100000
set_option maxHeartbeats 2000000
abbrev Kept := RgX.Kept
theorem run_eqnil (w : World) (a : Addr) (n c : Nat) : (binOp BinOp.eql 119 (.slice (some a) n c) (.slice none 0 0)).run Tryz.prog w = .ok (.bool false) w := by
  simp only [binOp, Sem.run_bind, run_equal_slice_nil w 119 3 (some a) n c Tryz.underlying119, Result.andThen_ok, Sem.run_pure, Option.isNone_some]
theorem run_eqnil0 (w : World) : (binOp BinOp.eql 119 (.slice none 0 0) (.slice none 0 0)).run Tryz.prog w = .ok (.bool true) w := by
  simp only [binOp, Sem.run_bind, run_equal_slice_nil w 119 3 none 0 0 Tryz.underlying119, Result.andThen_ok, Sem.run_pure, Option.isNone_none]
theorem natV_one {l : List Nat} {v : Value} (h : v ∈ l.map natV) : v.oneCell' = true := by
  obtain ⟨k, _, rfl⟩ := List.mem_map.1 h
  rfl
theorem app_copy {w : World} {B : Nat} {lv : Value} {pre : List Nat} (hL : w.ownsRow B 3 1 lv pre.length (pre.map natV)) (hl : pre.length ≤ 1000) : ∀ ty, ∃ v' w', (Builtin.append_ #[119, 119] ty #[.slice (some ⟨w.heap.size, 0, none⟩) 0 0, lv]).run Tryz.prog (w.alloc (.cells #[] 3)) = .ok v' w' ∧ (∃ a n k, v' = .slice (some a) n k) ∧ w'.ownsRow w.heap.size 3 1 v' pre.length (pre.map natV) ∧ Below w.heap.size w w' := fun ty => by
  obtain ⟨i0, hi, hz0, hz1, hz2⟩ := info_parts infoInt
  have hal : Below w.heap.size w (w.alloc (.cells #[] 3)) := (Below.refl _ w).alloc (Nat.le_refl _) _
  have hnew : (w.alloc (.cells #[] 3)).heap[w.heap.size]? = some (.cells #[] 3 (0, 0)) := alloc_new_at w _
  have h1 : (w.alloc (.cells #[] 3)).ownsRow w.heap.size 3 1 (.slice (some ⟨w.heap.size, 0, none⟩) 0 0) 0 [] := ⟨rfl, .inr ⟨_, 0, #[], rfl, Nat.le_refl _, hnew, Nat.le_refl _, Nat.zero_le _, rfl, rfl⟩⟩
  rcases hL.2 with ⟨rfl, hz⟩ | ⟨g, cap, cur, rfl, hg, hgb, hnc, hm, hcs, hct⟩
  · obtain rfl : pre = [] := List.eq_nil_of_length_eq_zero hz
    exact ⟨_, _, run_append_owned_none (P := Tryz.prog) _ w.heap.size 119 ty 3 i0 1 Tryz.underlying119 hi _ 0 _ h1, ⟨_, _, _, rfl⟩, h1, hal⟩
  · have hgl : g < w.heap.size := by
      rcases Nat.lt_or_ge g w.heap.size with h | h
      · exact h
      · simp [Array.getElem?_eq_none h] at hgb
    have hgn : (w.alloc (.cells #[] 3)).heap[g]? = some (.cells cur 3 (0, 0)) := (hal.block g hgl).trans hgb
    obtain ⟨v', w', hr, r1, r2, r3, r4⟩ := run_append_own_at (P := Tryz.prog) (w.alloc (.cells #[] 3)) w.heap.size 119 ty 3 i0 (.int .i64 0) 1 8 Tryz.underlying119 hi hz0 hz1 hz2 rfl (by decide) _ 0 _ h1 ⟨g, 0, none⟩ pre.length cap (pre.map natV) (by simp) (fun j u hj => by
      rw [Addr.add_lit, Nat.zero_add]
      rw [← hct, List.getElem?_take] at hj
      split at hj
      · simp [World.cell?, hgn]
        simpa using hj
      · cases hj) (fun u hu => natV_one hu) (by unfold maxLen; omega) (by omega) (by rw [World.size_alloc]; omega)
    rw [Nat.zero_add, List.nil_append] at r1
    refine ⟨v', w', hr, ?_, r1, hal.grown r2 (by rw [World.size_alloc]; omega) fun k e => ?_⟩
    · rcases r1.2 with ⟨e, _⟩ | ⟨g', cap', cur', e, _⟩
      · have := (r3.1 e).1
        cases this
      · exact ⟨_, _, _, e⟩
    · cases e
      exact Nat.le_refl _
theorem box_set {w : World} {g : Nat} {c : Array Value} {T : TypeId} {fz : Nat × Nat} (h : w.heap[g]? = some (.cells c T fz)) (i : Nat) (v : Value) : (w.setCell ⟨g, i, none⟩ v).heap[g]? = some (.cells (c.setIfInBounds i v) T fz) ∧ Kept (fun b => b = g) w.heap.size w (w.setCell ⟨g, i, none⟩ v) ∧ (w.setCell ⟨g, i, none⟩ v).heap.size = w.heap.size := by
  rw [setCell_eq_setRow w g i _ _ _ v h]
  have hs : (w.setRow g (c.setIfInBounds i v)).heap.size = w.heap.size := by simp [World.setRow]
  exact ⟨setRow_heap w g _ _ _ _ h, ⟨rfl, rfl, rfl, by rw [hs]; exact Nat.le_refl _, fun k _ hk => setRow_other w g k _ hk⟩, hs⟩
theorem ownsRow_mono {w : World} {B B' e n : Nat} {v : Value} {xs : List Value} (h : w.ownsRow B e 1 v n xs) (hb : B' ≤ B) : w.ownsRow B' e 1 v n xs := ⟨h.1, h.2.imp id fun ⟨g, cap, cur, h1, h2, h3⟩ => ⟨g, cap, cur, h1, Nat.le_trans hb h2, h3⟩⟩
def BestOk (B : Nat) (care : Nat → Int) (w : World) : Option (List Nat) → Value → Int → Prop
  | none, bv, c => bv = .slice none 0 0 ∧ c = 0
  | some l, bv, c => (∃ a n k, bv = .slice (some a) n k) ∧ w.ownsRow B 3 1 bv l.length (l.map natV) ∧ c = cstL care l
structure CovI (w0 : World) (bx : Nat) (pv sv : Value) (care : Nat → Int) (whole : Nat) (w : World) (b : Option (List Nat)) (bv : Value) (cst : Int) : Prop where
  kept : Kept (fun x => x = bx) w0.heap.size w0 w
  box : w.heap[bx]? = some (.cells #[pv, sv, .int .u64 whole, bv, .int .i64 cst] 121 (0, 0))
  best : BestOk w0.heap.size care w b bv cst
structure CovD (w0 : World) (bx : Nat) (pv sv : Value) (np : Nat) (care : Nat → Int) (st : Nat → Nat) : Prop where
  lt : bx < w0.heap.size
  prim : ∀ k, k < np → ∃ pb po pc, pv = .slice (some ⟨pb, po, none⟩) np pc ∧ pb < w0.heap.size ∧ pb ≠ bx ∧ w0.cell? ⟨pb, po + k * 2, none⟩ = some (.int .i64 (care k))
  sets : ∀ k, k < np → ∃ sb so sc, sv = .slice (some ⟨sb, so, none⟩) np sc ∧ sb < w0.heap.size ∧ sb ≠ bx ∧ w0.cell? ⟨sb, so + k, none⟩ = some (.int .u64 (st k))
  plen : ∃ a c, pv = .slice a np c
  care16 : ∀ k, ∃ c : Nat, c < 16 ∧ care k = c
  st63 : ∀ k, st k < 2 ^ 63
  np : np ≤ 1000
abbrev cvN (st : Nat → Nat) (whole : Nat) (x : List Nat) : Prop := setL st x = whole
def After1 (w0 : World) (bx : Nat) (pv sv : Value) (care : Nat → Int) (whole : Nat) (w : World) (lv : Value) (pre : List Nat) (bv : Value) (b' : Option (List Nat)) (w' : World) : Prop :=
  ∃ bv' cst', CovI w0 bx pv sv care whole w' b' bv' cst' ∧ Kept (fun x => x = bx ∨ lv.ownBlock = some x) w.heap.size w w' ∧ w'.ownsRow w0.heap.size 3 1 lv pre.length (pre.map natV) ∧ (bv'.ownBlock = bv.ownBlock ∨ ∃ g, bv'.ownBlock = some g ∧ w.heap.size ≤ g)
theorem search0 {w0 : World} {bx : Nat} {pv sv : Value} {np : Nat} {care : Nat → Int} {st : Nat → Nat} {whole : Nat} (hD : CovD w0 bx pv sv np care st) (f a : Nat) (pre : List Nat) (b : Option (List Nat)) (w : World) (lv bv : Value) (cst : Int) (hl : pre.length ≤ 1000) (hI : CovI w0 bx pv sv care whole w b bv cst) (hL : w.ownsRow w0.heap.size 3 1 lv pre.length (pre.map natV)) (hne : ∀ g, lv.ownBlock = some g → bv.ownBlock ≠ some g) :
    Calls Tryz.prog 90 #[.pointer (some ⟨bx, 0, none⟩), lv, .int .i64 a, .int .i64 0, .int .u64 (setL st pre : Nat), .int .i64 (cstL care pre)] w fun e w' => e = .returned (.tuple #[]) ∧ After1 w0 bx pv sv care whole w lv pre bv (srch (cvN st whole) (cstL care) f 0 a pre b) w' := by
  have h2 : w.cell? ⟨bx, 2, none⟩ = some (.int .u64 whole) := by simp [World.cell?, hI.box]
  have h3 : w.cell? ⟨bx, 3, none⟩ = some bv := by simp [World.cell?, hI.box]
  have h4 : w.cell? ⟨bx, 4, none⟩ = some (.int .i64 cst) := by simp [World.cell?, hI.box]
  have f3 : ∀ W : World, W.heap[bx]? = w.heap[bx]? → W.frozen? ⟨bx, 3, none⟩ = false ∧ W.frozen? ⟨bx, 4, none⟩ = false := fun W h => by simp [World.frozen?, h, hI.box]
  rw [srch_zero]
  have hkeep : After1 w0 bx pv sv care whole w lv pre bv b w := ⟨bv, cst, hI, RgX.Kept.refl _ _ _, hL, .inl rfl⟩
  by_cases hc : setL st pre = whole
  case neg =>
    have hq : (((setL st pre : Nat) : Int) == (whole : Int)) = false := beq_eq_false_iff_ne.2 (by omega)
    have hu : updI (cvN st whole) (cstL care) b pre = b := updI_keep _ _ hc
    rw [hu]
    have HK := Lib.hid hkeep
    clear hkeep hu hI hL hne hD hc
    go_enter Tryz.func90, Tryz.ntmps90
    go_wp2
    (try simp only [Exit.inBlock, Exit.then])
    refine bodyPost_ret (results_none rfl _ _ _) rfl ?_
    exact ⟨rfl, HK.out⟩
  have hq : (((setL st pre : Nat) : Int) == (whole : Int)) = true := beq_iff_eq.2 (by omega)
  have hput : ∀ ty, ∃ a' n' k' w', (Builtin.append_ #[119, 119] ty #[.slice (some ⟨w.heap.size, 0, none⟩) 0 0, lv]).run Tryz.prog (w.alloc (.cells #[] 3)) = .ok (.slice (some a') n' k') w' ∧ w'.frozen? ⟨bx, 3, none⟩ = false ∧ w'.frozen? ⟨bx, 4, none⟩ = false ∧ w'.cell? ⟨bx, 3, none⟩ = some bv ∧ w'.cell? ⟨bx, 4, none⟩ = some (.int .i64 cst) ∧ Hid (After1 w0 bx pv sv care whole w lv pre bv (some pre) ((w'.setCell ⟨bx, 3, none⟩ (.slice (some a') n' k')).setCell ⟨bx, 4, none⟩ (.int .i64 (cstL care pre)))) := fun ty => by
    obtain ⟨v', w', hr, ⟨a', n', k', rfl⟩, how, hbel⟩ := app_copy hL hl ty
    have hbx : bx < w.heap.size := Nat.lt_of_lt_of_le hD.lt hI.kept.size
    have hb0 := (hbel.block bx hbx).trans hI.box
    obtain ⟨g1, g2, g3⟩ := box_set hb0 3 (.slice (some a') n' k')
    obtain ⟨q1, q2, q3⟩ := box_set g1 4 (.int .i64 (cstL care pre))
    have hK : Kept (fun x => x = bx) w.heap.size w ((w'.setCell ⟨bx, 3, none⟩ (.slice (some a') n' k')).setCell ⟨bx, 4, none⟩ (.int .i64 (cstL care pre))) := ((RgX.Kept.of hbel).trans g2 hbel.size).trans q2 (by rw [g3]; exact hbel.size)
    have hown : ((w'.setCell ⟨bx, 3, none⟩ (.slice (some a') n' k')).setCell ⟨bx, 4, none⟩ (.int .i64 (cstL care pre))).ownsRow w0.heap.size 3 1 (.slice (some a') n' k') pre.length (pre.map natV) := by
      have h5 := ownsRow_keep (W' := (w'.setCell ⟨bx, 3, none⟩ (.slice (some a') n' k')).setCell ⟨bx, 4, none⟩ (.int .i64 (cstL care pre))) how fun g hg => by
        have h6 := how.lt g hg
        exact (q2.block g (by rw [g3]; exact h6.2) (by omega)).trans (g2.block g h6.2 (by omega))
      exact ownsRow_mono h5 hI.kept.size
    refine ⟨a', n', k', w', hr, by simp [World.frozen?, hb0], by simp [World.frozen?, hb0], by simp [World.cell?, hb0], by simp [World.cell?, hb0], Lib.hid ⟨_, cstL care pre, ⟨hI.kept.trans hK hI.kept.size, q1, ⟨_, _, _, rfl⟩, hown, rfl⟩, ⟨hK.os, hK.tape, hK.output, hK.size, fun x hx hm => hK.block x hx fun e => hm (.inl e)⟩, ?_, ?_⟩⟩
    · exact ownsRow_keep hL fun g hg => hK.block g (hL.lt g hg).2 (by have := (hL.lt g hg).1; have := hD.lt; omega)
    · exact .inr ⟨_, rfl, (how.lt _ rfl).1⟩
  have hBest := hI.best
  cases b with
  | none =>
    obtain ⟨rfl, rfl⟩ := hBest
    have hnil := run_eqnil0
    have hu : updI (cvN st whole) (cstL care) none pre = some pre := if_pos ⟨hc, fun x hx => by cases hx⟩
    rw [hu]
    clear hkeep hu hI hL hne hD hc f3
    obtain ⟨a', n', k', w', hr, hf3, hf4, hc3, hc4, HA⟩ := hput 119
    clear hput
    go_enter Tryz.func90, Tryz.ntmps90
    go_wp2_with (at_builtin; refine Lib.wpList_append_run _ rfl _ _ _ _ rfl _ _ rfl rfl _ _ hr ?_)
    (try simp only [Exit.inBlock, Exit.then])
    refine bodyPost_ret (results_none rfl _ _ _) rfl ?_
    exact ⟨rfl, HA.out⟩
  | some l =>
    obtain ⟨⟨ba, bn, bc, rfl⟩, hbo, rfl⟩ := hBest
    have hnil := fun W => run_eqnil W ba bn bc
    by_cases hlt : cstL care pre < cstL care l
    · have hu : updI (cvN st whole) (cstL care) (some l) pre = some pre := if_pos ⟨hc, fun x hx => by cases hx; exact hlt⟩
      rw [hu]
      clear hkeep hu hI hL hne hD hc f3 hbo
      obtain ⟨a', n', k', w', hr, hf3, hf4, hc3, hc4, HA⟩ := hput 119
      clear hput
      go_enter Tryz.func90, Tryz.ntmps90
      go_wp2_with (at_builtin; refine Lib.wpList_append_run _ rfl _ _ _ _ rfl _ _ rfl rfl _ _ hr ?_)
      (try simp only [Exit.inBlock, Exit.then])
      refine bodyPost_ret (results_none rfl _ _ _) rfl ?_
      exact ⟨rfl, HA.out⟩
    · have hu : updI (cvN st whole) (cstL care) (some l) pre = some l := if_neg fun h => hlt (h.2 l rfl)
      rw [hu]
      have HK := Lib.hid hkeep
      clear hkeep hu hI hL hne hD hc f3 hbo hput
      go_enter Tryz.func90, Tryz.ntmps90
      go_wp2
      (try simp only [Exit.inBlock, Exit.then])
      refine bodyPost_ret (results_none rfl _ _ _) rfl ?_
      exact ⟨rfl, HK.out⟩
end
end Go.Proofs.YtehkaajakapkmaaGreat
