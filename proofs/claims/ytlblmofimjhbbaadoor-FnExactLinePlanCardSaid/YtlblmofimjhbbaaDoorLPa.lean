/- RegV and OutN and NeqS and MkT and LpP and LpE and Swp. -/
import Derived.Test.YtlblmofimjhbbaaDoorY23
import Derived.Test.YtlblmofimjhbbaaDoorBel
import Derived.Lib.Strings
import Derived.Test.YtlblmofimjhbbaaDoorBase
import Derived.Test.YtlblmofimjhbbaaDoorY22
namespace Go.Proofs.YtlblmofimjhbbaaDoor
open Go.RowKit
set_option maxRecDepth 100000 in
def S.s53 : SC := (.seq (.reg [⟨(.some 2), .none, .false, (.mv (.const (Go.Value.string { data := #[] })))⟩]) (.seq (.seq (.reg [⟨(.some 4), .none, .false, (.mv (.tmp 0))⟩, ⟨(.some 5), .none, .false, (.bin .leq (.tmp 4) (.const (Go.Value.int Go.IntKind.i64 0)))⟩]) (.cond (.tmp 5) (.seq (.reg [⟨(.some 2), .none, .false, (.mv (.const (Go.Value.string { data := #[109, 48] })))⟩]) .ret) .skip)) (.seq (.reg [⟨(.some 3), .none, .false, (.mv (.const (Go.Value.string { data := #[] })))⟩]) (.seq (.block 0 (.loop (.seq (.seq (.reg [⟨(.some 6), .none, .false, (.mv (.tmp 0))⟩, ⟨(.some 7), .none, .false, (.bin .gtr (.tmp 6) (.const (Go.Value.int Go.IntKind.i64 0)))⟩]) (.cond (.tmp 7) .skip (.exit 0))) (.block 1 (.seq (.reg [⟨(.some 8), .none, .false, (.mv (.tmp 0))⟩, ⟨(.some 9), .none, .false, (.bin .rem (.tmp 8) (.const (Go.Value.int Go.IntKind.i64 10)))⟩, ⟨(.some 10), .none, .false, (.bin .add (.const (Go.Value.int Go.IntKind.i64 48)) (.tmp 9))⟩, ⟨(.some 11), .none, .false, (.cv .u8 (.tmp 10))⟩, ⟨(.some 12), .none, .false, (.bsl (.mk 5 1) 1 [(0, (.tmp 11))])⟩, ⟨(.some 13), .none, .false, (.b2s (.tmp 12))⟩, ⟨(.some 14), .none, .false, (.mv (.tmp 3))⟩, ⟨(.some 15), .none, .false, (.bin .add (.tmp 13) (.tmp 14))⟩, ⟨(.some 3), .none, .false, (.mv (.tmp 15))⟩]) (.reg [⟨(.some 16), .none, .false, (.mv (.tmp 0))⟩, ⟨(.some 17), .none, .false, (.bin .quo (.tmp 16) (.const (Go.Value.int Go.IntKind.i64 10)))⟩, ⟨(.some 0), .none, .false, (.mv (.tmp 17))⟩])))))) (.seq (.reg [⟨(.some 18), .none, .false, (.mv (.tmp 3))⟩, ⟨(.some 19), .none, .false, (.bin .add (.const (Go.Value.string { data := #[109] })) (.tmp 18))⟩, ⟨(.some 2), .none, .false, (.mv (.tmp 19))⟩]) .ret)))))
set_option maxRecDepth 100000 in
theorem S.ok53 : stripF Tryd.prog Tryd.f53 = some S.s53 := by kernel_rfl
set_option maxRecDepth 20000
set_option maxHeartbeats 8000000
theorem Weak.regNew {st : St} (q : Nat) (hp : freeO st.objs q) : Weak st ⟨st.env, upd st.objs q (some (.val []))⟩ := fun F R ι φ a w hs => by
  obtain ⟨hp1, hp2⟩ := hp.none
  exact ⟨R, _, _, hs.new (d := q) (u := .slice none 0 0) (S := []) (x := .val []) (w' := w) hp1 hp2 (Below.refl _ _) ⟨rfl, rfl, fun p hp => by cases hp⟩ (fun g hg => by cases hg)⟩
theorem okI_rd {W : World} {R : Nat → Prop} {v : Value} {κ : Ky} {xs : List (List D)} (h : RD W R v (.rd κ xs)) : okI v := by cases h <;> trivial
theorem Wk.reveal {st : St} (j q : Nat) {κ : Ky} {xs : List (List D)} {l : List (Value × D)} (h : st.env j = .v (.c (.d (.rd κ xs)))) (hq : st.objs q = some (.val l)) : Wk st (fun s => ∃ v, s = ⟨upd st.env j (pvA v), upd st.objs q (some (.val (l ++ [(v, .rd κ xs)])))⟩) := fun F R ι φ a w hs => by
  have hj := hs.env j
  rw [h] at hj
  have hj : RD w R (a.tmps.getD j undef) (.rd κ xs) := hj
  have hq0 := hs.objs q _ hq
  have hφ : φ q = [] := hq0.2.1
  have hd : ∀ p, st.dom p → domO (upd st.objs q (some (.val (l ++ [(a.tmps.getD j undef, D.rd κ xs)])))) p := fun p ⟨x, hx⟩ => by
    by_cases hp : p = q
    · subst hp; exact ⟨_, upd_same _ _ _⟩
    · exact ⟨x, by rw [upd_ne _ _ hp]; exact hx⟩
  refine ⟨_, ⟨a.tmps.getD j undef, rfl⟩, R, ι, φ, hs.below, hs.rlt, hs.rsub, hs.rnew, hs.size, hs.defers, fun t => ?_, fun p x hx => ?_, fun p x hx g hg => ?_, fun p r x y g hx hy h1 h2 => ?_, hs.pin⟩
  · by_cases ht : t = j
    · subst ht
      show RA _ _ _ _ _ (upd st.env t _ t)
      rw [upd_same]
      exact RD.pv hj.one (okI_rd hj)
    · show RA _ _ _ _ _ (upd st.env j _ t)
      rw [upd_ne _ _ ht]
      exact RA.keep (fun _ h => h) (fun _ _ => rfl) hd (fun _ _ => rfl) (hs.env t)
  · by_cases hp : p = q
    · subst hp
      have hx : upd st.objs p _ p = some x := hx
      rw [upd_same] at hx
      cases hx
      refine ⟨hq0.1, hφ, fun y hy => ?_⟩
      rcases List.mem_append.1 hy with hy | hy
      · exact hq0.2.2 y hy
      · rw [List.mem_singleton.1 hy]; exact hj
    · have hx : upd st.objs q _ p = some x := hx
      rw [upd_ne _ _ hp] at hx
      exact RO.keep (fun _ h => h) (fun _ _ => rfl) hd (fun _ _ => rfl) (fun _ _ => rfl) (hs.objs p x hx)
  · by_cases hp : p = q
    · subst hp; rw [hφ] at hg; cases hg
    · have hx : upd st.objs q _ p = some x := hx
      rw [upd_ne _ _ hp] at hx
      exact hs.mine p x hx g hg
  · by_cases hp : p = q
    · subst hp; rw [hφ] at h1; cases h1
    · by_cases hr : r = q
      · subst hr; rw [hφ] at h2; cases h2
      · have hx : upd st.objs q _ p = some x := hx
        have hy : upd st.objs q _ r = some y := hy
        rw [upd_ne _ _ hp] at hx
        rw [upd_ne _ _ hr] at hy
        exact hs.apart p r x y g hx hy h1 h2
/-- A value that one cell holds. -/
structure CV where
  v : Value
  one : v.oneCell' = true
  ok : okI v
theorem Wk.revealC {st : St} (j q : Nat) {κ : Ky} {xs : List (List D)} {l : List (Value × D)} (h : st.env j = .v (.c (.d (.rd κ xs)))) (hq : st.objs q = some (.val l)) : Wk st (fun s => ∃ c : CV, s = ⟨upd st.env j (pvA c.v), upd st.objs q (some (.val (l ++ [(c.v, .rd κ xs)])))⟩) := fun F R ι φ a w hs => by
  obtain ⟨s, ⟨v, rfl⟩, R', ι', φ', hs'⟩ := Wk.reveal j q h hq F R ι φ a w hs
  have hj := hs'.env j
  have hj : RD w R' (a.tmps.getD j undef) (.pv v) := by
    have e : (⟨upd st.env j (pvA v), upd st.objs q (some (.val (l ++ [(v, .rd κ xs)])))⟩ : St).env j = pvA v := upd_same _ _ _
    rw [e] at hj
    exact hj
  have h1 := hj.one
  generalize a.tmps.getD j undef = u at *
  cases hj with
  | pv _ hi => exact ⟨_, ⟨⟨v, h1, hi⟩, rfl⟩, R', ι', φ', hs'⟩
theorem Weak.env1 {st : St} (j : Nat) (x : AV) (h : ∀ (R : Nat → Prop) (ι : Nat → Value) (φ : Nat → List Nat) (w : World) (v : Value), (∀ p y, st.objs p = some y → RO w R ι st.dom (ι p) (φ p) y) → RA w R ι st.dom v (st.env j) → RA w R ι st.dom v x) : Weak st ⟨upd st.env j x, st.objs⟩ := fun F R ι φ a w hs => by
  refine ⟨R, ι, φ, hs.below, hs.rlt, hs.rsub, hs.rnew, hs.size, hs.defers, fun t => ?_, hs.objs, hs.mine, hs.apart, hs.pin⟩
  by_cases ht : t = j
  · subst ht
    show RA _ _ _ _ _ (upd st.env t _ t)
    rw [upd_same]
    exact h R ι φ w _ hs.objs (hs.env t)
  · show RA _ _ _ _ _ (upd st.env j _ t)
    rw [upd_ne _ _ ht]
    exact hs.env t
/-- A value that is kept is read as what it is. -/
theorem Weak.hide {st : St} (j q : Nat) {v : Value} {d : D} {l : List (Value × D)} (h : st.env j = pvA v) (hq : st.objs q = some (.val l)) (hm : (v, d) ∈ l) : Weak st ⟨upd st.env j (.v (.c (.d d))), st.objs⟩ :=
  Weak.env1 j _ fun R ι φ w u ho he => by
    rw [h] at he
    obtain ⟨rfl, _⟩ := RA.pv he
    exact (ho q _ hq).2.2 _ hm
theorem RD.rows {W : World} {R : Nat → Prop} {v : Value} {κ : Ky} {xs xs' : List (List D)} (h : RD W R v (.rd κ xs)) (hl : xs'.length = xs.length)
    (hc : ∀ (i : Nat) (es' : List D), xs'[i]? = some es' → ∃ es, xs[i]? = some es ∧ es'.length = es.length ∧ ∀ (j : Nat) (d' : D), es'[j]? = some d' → ∃ d, es[j]? = some d ∧ ∀ u, RD W R u d → RD W R u d') : RD W R v (.rd κ xs') := by
  cases h with
  | nil =>
    obtain rfl : xs' = [] := List.eq_nil_of_length_eq_zero hl
    exact .nil
  | rd c h0 h1 h2 hR hk hcc hr =>
    rw [← hl]
    refine .rd c (by omega) (by omega) h2 hR (fun i es' hi => ?_) (fun i es' j hi hj => ?_) (fun i es' j d' hi hj => ?_)
    · obtain ⟨es, q1, q2, _⟩ := hc i es' hi
      rw [q2]; exact hk i es q1
    · obtain ⟨es, q1, q2, _⟩ := hc i es' hi
      exact hcc i es j q1 hj
    · obtain ⟨es, q1, q2, q3⟩ := hc i es' hi
      obtain ⟨d, q4, q5⟩ := q3 j d' hj
      exact q5 _ (hr i es j d q1 q4)
/-- A row of values that are kept is read as a row of what they are. -/
theorem Weak.hideRows {st : St} {α : Type} (j q : Nat) {κ : Ky} (g : List α) (fv : α → Value) (fd : α → D) (h : st.env j = .v (.c (.d (.rd κ (g.map fun x => [.pv (fv x)]))))) (hq : st.objs q = some (.val (g.map fun x => (fv x, fd x)))) : Weak st ⟨upd st.env j (.v (.c (.d (.rd κ (g.map fun x => [fd x]))))), st.objs⟩ :=
  Weak.env1 j _ fun R ι φ w u ho he => by
    rw [h] at he
    have he : RD w R u (.rd κ (g.map fun x => [.pv (fv x)])) := he
    refine RD.rows he (by simp) fun i es' hi => ?_
    rw [List.getElem?_map, Option.map_eq_some_iff] at hi
    obtain ⟨x, hx, rfl⟩ := hi
    refine ⟨[.pv (fv x)], by rw [List.getElem?_map, hx]; rfl, rfl, fun k d' hk => ?_⟩
    cases k with
    | zero =>
      cases hk
      refine ⟨_, rfl, fun u hu => ?_⟩
      cases hu
      exact (ho q _ hq).2.2 _ (List.mem_map.2 ⟨x, List.mem_of_getElem? hx, rfl⟩)
    | succ k => cases hk
section
variable {P : Program} {Q : Exit → St → Prop} {ks : List Fr} {e : Nat → AV} {o : Nat → Option Ob} {d : Nat} {fr : Bool} {x y z : Operand} {rest : List SR}
/-- What an own slice holds goes over into another. -/
theorem R.appN {α : Type} {f : α → List D} {l l' : List α} {κ : Ky} {by' p q : Nat} (h : ev e x = .v (.c (.own p))) (h1 : ev e y = .v (.c (.own q))) (hq : o q = some (.arr κ (l'.map f) [])) (h0 : (oK [q] o) p = some (.arr κ (l.map f) [])) (hpin : Nat.blt p pinN = true) (h3 : (l.length + l'.length) * by' ≤ 140737488355328 ∧ l.length + l'.length ≤ 140737488355328) (k : WL P rest ks Q ⟨upd (eK [p] (eK [q] e)) d (.v (.c (.own p))), upd (oK [p] (oK [q] o)) p (some (.arr κ ((l ++ l').map f) []))⟩) : WL P (⟨some d, none, false, .app κ by' x y⟩ :: rest) ks Q ⟨e, o⟩ := by
  unfold WL at k
  rw [List.map_append] at k
  refine WL.wr ⟨d, .own p, .own q, l'.map f, rfl, h, h1, by simp [elemsOf, hq], [q], .inr ⟨q, rfl, rfl⟩, .inl ⟨p, l.map f, rfl, by rw [kill_eq]; exact h0, by rw [Nat.blt] at hpin; exact Nat.le_of_ble_eq_true hpin, by unfold maxLen; simp; omega, by simpa using h3.1, ?_⟩⟩
  rw [kill_eq, kill_eq]
  exact k
theorem R.revealL {dst : Option Tmp} {s : SOp} {rest : List SR} (j q : Nat) {κ : Ky} {xs : List (List D)} {l : List (Value × D)} (h : e j = .v (.c (.d (.rd κ xs)))) (hq : o q = some (.val l)) (k : ∀ v, WL P (⟨dst, none, false, s⟩ :: rest) ks Q ⟨upd e j (pvA v), upd o q (some (.val (l ++ [(v, .rd κ xs)])))⟩) : WL P (⟨dst, none, false, s⟩ :: rest) ks Q ⟨e, o⟩ := by
  unfold WL
  intro F R ι φ a w hs
  obtain ⟨s', ⟨v, rfl⟩, R', ι', φ', hs'⟩ := Wk.reveal (st := ⟨e, o⟩) j q h hq F R ι φ a w hs
  have := k v
  unfold WL at this
  exact this F R' ι' φ' a w hs'
theorem R.revealC {dst : Option Tmp} {s : SOp} {rest : List SR} (j q : Nat) {κ : Ky} {xs : List (List D)} {l : List (Value × D)} (h : e j = .v (.c (.d (.rd κ xs)))) (hq : o q = some (.val l)) (k : ∀ c : CV, WL P (⟨dst, none, false, s⟩ :: rest) ks Q ⟨upd e j (pvA c.v), upd o q (some (.val (l ++ [(c.v, .rd κ xs)])))⟩) : WL P (⟨dst, none, false, s⟩ :: rest) ks Q ⟨e, o⟩ := by
  unfold WL
  intro F R ι φ a w hs
  obtain ⟨s', ⟨v, rfl⟩, R', ι', φ', hs'⟩ := Wk.revealC (st := ⟨e, o⟩) j q h hq F R ι φ a w hs
  have := k v
  unfold WL at this
  exact this F R' ι' φ' a w hs'
/-- What a datum's value is, whatever it is. -/
theorem R.reveal {b : SC} (j q : Nat) {κ : Ky} {xs : List (List D)} {l : List (Value × D)} (h : e j = .v (.c (.d (.rd κ xs)))) (hq : o q = some (.val l)) (k : ∀ v, WC P b ks Q ⟨upd e j (pvA v), upd o q (some (.val (l ++ [(v, .rd κ xs)])))⟩) : WN P (.seq b :: ks) Q ⟨e, o⟩ := by
  unfold WN
  refine Wk.mono (fun s hs => ?_) (Wk.reveal (st := ⟨e, o⟩) j q h hq)
  obtain ⟨v, rfl⟩ := hs
  have := k v
  unfold WC at this
  exact this
end
/-- The end, where a slice is nil. -/
theorem R.outNilI {P : Program} {fn : Func} {t1 t2 : Nat} {u u' : Int} {κ : Ky} {e : Nat → AV} {o : Nat → Option Ob} (hrs : fn.results.toList = [.tmp t1, .tmp t2]) (hne : Nat.beq t2 t1 = false) (h : e t1 = .v (.c nilB)) (h0 : freeO o 900000) (h2 : e t2 = pvA (.int .i64 u')) (hu : u' = u) : RetOk P fn.results.toList (RT.tup [cN κ [], cI u]).av (RT.tup [cN κ [], cI u]).outs ⟨e, o⟩ := by
  subst hu
  have hne' : t2 ≠ t1 := fun e => by subst e; simp at hne
  exact R.outW (Weak.reify (st := ⟨e, o⟩) t1 900000 κ h h0) (R.out hrs (ys := [.c (.own 900000), .c (.d (iD u'))]) (.cons (R.tmp (upd_same _ _ _)) (.cons (R.tmp ((upd_ne _ _ hne').trans h2)) .nil)) [(900000, 0)] rfl (by simp [insC, upd_same, cOb, vAll]; rfl) rfl ⟨by show ¬ (2 = 1); omega, rfl⟩)
theorem R.outNI {P : Program} {fn : Func} {t1 t2 p : Nat} {u u' : Int} {κ : Ky} {xs : List (List D)} {st : St} (hrs : fn.results.toList = [.tmp t1, .tmp t2]) (h : st.env t1 = .v (.c (.own p))) (h1 : st.objs p = some (.arr κ xs [])) (h2 : st.env t2 = pvA (.int .i64 u')) (hu : u' = u) : RetOk P fn.results.toList (RT.tup [cN κ xs, cI u]).av (RT.tup [cN κ xs, cI u]).outs st := by
  subst hu
  exact R.out hrs (ys := [.c (.own p), .c (.d (iD u'))]) (.cons (R.tmp h) (.cons (R.tmp h2) .nil)) [(p, 0)] (by simp [vAll, cV1, cB, look1]; rfl) (by simp [insC, h1, cOb, vAll]; rfl) (by simp [okρ, nodupB, Nat.blt, pinN]) ⟨by show ¬ (2 = 1); omega, rfl⟩
section
variable {P : Program} {Q : Exit → St → Prop} {ks : List Fr} {e : Nat → AV} {o : Nat → Option Ob} {d : Nat} {fr : Bool} {x y z : Operand} {rest : List SR}
theorem toList_eq {s t : ByteArray} : (s.toList == t.toList) = decide (s = t) := by
  rw [Bool.eq_iff_iff, beq_iff_eq, decide_eq_true_eq]
  constructor
  · intro h
    have h2 : s.data.toList = t.data.toList := by rw [← Lib.toList_data, ← Lib.toList_data]; exact h
    cases s; cases t
    simp at h2
    rw [h2]
  · intro h; rw [h]
theorem R.eqlS {s t : ByteArray} (h1 : ev e x = pvA (.string s)) (h2 : ev e y = pvA (.string t)) (k : WL P rest ks Q ⟨upd e d (pvA (.bool (decide (s = t)))), o⟩) : WL P (⟨some d, none, fr, .bin .eql x y⟩ :: rest) ks Q ⟨e, o⟩ := R.bin h1 h2 (by simp only [binI, strV, toList_eq]) k
theorem R.neqS {s t : ByteArray} (h1 : ev e x = pvA (.string s)) (h2 : ev e y = pvA (.string t)) (k : WL P rest ks Q ⟨upd e d (pvA (.bool !(decide (s = t)))), o⟩) : WL P (⟨some d, none, fr, .bin .neq x y⟩ :: rest) ks Q ⟨e, o⟩ := R.bin h1 h2 (by simp only [binI, strV, toList_eq]) k
end
section
variable {P : Program} {Q : Exit → St → Prop} {ks : List Fr} {e : Nat → AV} {o : Nat → Option Ob} {d : Nat} {fr : Bool} {x y z : Operand} {rest : List SR}
theorem R.addS {s t : ByteArray} (h1 : ev e x = pvA (.string s)) (h2 : ev e y = pvA (.string t)) (h : s.size + t.size ≤ 9223372036854775807) (k : WL P rest ks Q ⟨upd e d (pvA (.string (s ++ t))), o⟩) : WL P (⟨some d, none, fr, .bin .add x y⟩ :: rest) ks Q ⟨e, o⟩ :=
  R.bin h1 h2 (by unfold binI strV maxLen; exact if_pos h) k
theorem wrapU8 {m : Int} (h : 0 ≤ m ∧ m ≤ 255) : IntKind.wrap .u8 m = m := by
  have h2 : m % 256 = m := Int.emod_eq_of_lt h.1 (by omega)
  simp [IntKind.wrap, IntKind.bits, IntKind.signed, h2]
theorem R.cvU8 {k1 : IntKind} {m : Int} (h : ev e x = pvA (.int k1 m)) (hr : 0 ≤ m ∧ m ≤ 255) (k : WL P rest ks Q ⟨upd e d (pvA (.int .u8 m)), o⟩) : WL P (⟨some d, none, fr, .cv .u8 x⟩ :: rest) ks Q ⟨e, o⟩ := R.cv h (by rw [wrapU8 hr]; exact k)
end
theorem size_app (s t : ByteArray) : (s ++ t).size = s.size + t.size := ByteArray.size_append
/-- The digits of a number, ahead of a text. -/
def dgs (n : Nat) (acc : ByteArray) : ByteArray := if n = 0 then acc else dgs (n / 10) (bsOf [48 + (n : Int) % 10] ++ acc)
termination_by n
decreasing_by omega
theorem dgs_zero (acc : ByteArray) : dgs 0 acc = acc := by rw [dgs, if_pos rfl]
theorem dgs_step {n : Nat} (h : 0 < n) (acc : ByteArray) : dgs n acc = dgs (n / 10) (bsOf [48 + (n : Int) % 10] ++ acc) := by rw [dgs, if_neg (by omega)]
theorem dgs_size : ∀ (n : Nat) (acc : ByteArray), (dgs n acc).size ≤ n + acc.size := by
  intro n
  induction n using Nat.strongRecOn with
  | _ n ih =>
    intro acc
    by_cases h : n = 0
    · subst h; rw [dgs_zero]; omega
    · rw [dgs_step (by omega)]
      have := ih (n / 10) (by omega) (bsOf [48 + (n : Int) % 10] ++ acc)
      rw [size_app, bsOf_size] at this
      simp only [List.length_singleton] at this
      omega
def mText (k : Int) : ByteArray := if k ≤ 0 then ⟨#[109, 48]⟩ else ⟨#[109]⟩ ++ dgs k.toNat ByteArray.empty
theorem markText_ok (k : Int) (h : k ≤ 4611686018427387904) : Spec Tryd.prog 53 [vI k] (oS (mText k)) := by
  refine Spec.walk T.mixed Tryd.func53 S.ok53 (by simp [Tryd.f53]) fun hk => ?_
  clear hk
  unfold S.s53
  by_cases hk0 : k ≤ 0
  · rw [show mText k = ⟨#[109, 48]⟩ from if_pos hk0]
    repeat' (first | refine R.mv rfl ?_ | refine R.reg ?_ | refine R.nil ?_ | refine R.seq ?_ | refine R.nseq ?_ | refine R.nblk ?_ | refine R.skip ?_ | refine R.blk ?_ | refine R.exit rfl ?_ | refine R.leq rfl rfl ?_ | refine R.gtr rfl rfl ?_ | refine R.add rfl rfl (by omega) ?_ | refine R.cv64 rfl (by omega) ?_ | refine R.cvU rfl (by omega) ?_ | refine R.quo rfl rfl (by omega) ?_ | refine R.rem rfl rfl (by omega) ?_ | refine R.condT rfl ?_ | refine R.condF rfl ?_ | refine R.cond rfl (fun hc => ?_) (fun hc => ?_) | refine R.condN rfl (fun hc => ?_) (fun hc => ?_) | refine R.condB rfl (fun hc => ?_) (fun hc => ?_))
    all_goals first | (exfalso; omega) | exact R.ret ⟨.inr rfl, R.outS rfl rfl rfl⟩
  rw [show mText k = ⟨#[109]⟩ ++ dgs k.toNat ByteArray.empty from if_neg hk0]
  obtain ⟨n0, hn0⟩ : ∃ n0 : Nat, k = n0 := ⟨k.toNat, by omega⟩
  subst hn0
  rw [Int.toNat_natCast]
  repeat' (first | refine R.mv rfl ?_ | refine R.reg ?_ | refine R.nil ?_ | refine R.seq ?_ | refine R.nseq ?_ | refine R.nblk ?_ | refine R.skip ?_ | refine R.blk ?_ | refine R.exit rfl ?_ | refine R.leq rfl rfl ?_ | refine R.gtr rfl rfl ?_ | refine R.add rfl rfl (by omega) ?_ | refine R.cv64 rfl (by omega) ?_ | refine R.cvU rfl (by omega) ?_ | refine R.quo rfl rfl (by omega) ?_ | refine R.rem rfl rfl (by omega) ?_ | refine R.condT rfl ?_ | refine R.condF rfl ?_ | refine R.cond rfl (fun hc => ?_) (fun hc => ?_) | refine R.condN rfl (fun hc => ?_) (fun hc => ?_) | refine R.condB rfl (fun hc => ?_) (fun hc => ?_))
  all_goals first | (exfalso; omega) | skip
  refine R.loop (G := Nat × ByteArray) (fun g => [(0, pvA (.int .i64 (g.1 : Int))), (3, pvA (.string g.2))]) (fun _ => []) (fun g => dgs g.1 g.2 = dgs n0 ByteArray.empty ∧ g.2.size + g.1 ≤ n0) (fun g => g.1) (n0, ByteArray.empty) ⟨rfl, by simp⟩ (Weak.frame _ _ ⟨rfl, rfl, trivial⟩ trivial rfl rfl) fun g hg => ?_
  obtain ⟨hg1, hg2⟩ := hg
  by_cases hp : 0 < g.1
  · have hs1 := bsOf_size [48 + (g.1 : Int) % 10]
    simp only [List.length_singleton] at hs1
    have hF : dgs (g.1 / 10) (bsOf [48 + (g.1 : Int) % 10] ++ g.2) = dgs n0 ByteArray.empty ∧ (bsOf [48 + (g.1 : Int) % 10] ++ g.2).size + g.1 / 10 ≤ n0 := ⟨by rw [← dgs_step hp]; exact hg1, by rw [size_app, hs1]; omega⟩
    repeat' (first | refine R.cvU8 rfl (by omega) ?_ | refine R.mv rfl ?_ | refine R.reg ?_ | refine R.nil ?_ | refine R.seq ?_ | refine R.nseq ?_ | refine R.nblk ?_ | refine R.skip ?_ | refine R.blk ?_ | refine R.exit rfl ?_ | refine R.leq rfl rfl ?_ | refine R.gtr rfl rfl ?_ | refine R.add rfl rfl (by omega) ?_ | refine R.cv64 rfl (by omega) ?_ | refine R.cvU rfl (by omega) ?_ | refine R.quo rfl rfl (by omega) ?_ | refine R.rem rfl rfl (by omega) ?_ | refine R.condT rfl ?_ | refine R.condF rfl ?_ | refine R.bsl (f := enB8) [48 + (g.1 : Int) % 10] rfl rfl rfl rfl rfl ?_ | refine R.b2s (κ := ⟨5, 1⟩) [48 + (g.1 : Int) % 10] rfl rfl rfl ?_ | refine R.addS rfl rfl (by omega) ?_ | refine R.cond rfl (fun hc => ?_) (fun hc => ?_) | refine R.condN rfl (fun hc => ?_) (fun hc => ?_) | refine R.condB rfl (fun hc => ?_) (fun hc => ?_))
    all_goals first
      | (exfalso; omega)
      | exact R.nloop (R.again (g.1 / 10, bsOf [48 + (g.1 : Int) % 10] ++ g.2) (by exact hF) (by show g.1 / 10 < g.1; omega) ⟨(congrArg (fun z => pvA (.int .i64 z)) (by show (g.1 : Int) / 10 = ((g.1 / 10 : Nat) : Int); omega)), rfl, trivial⟩ trivial rfl rfl)
      | skip
  have h0 : g.1 = 0 := by omega
  have hd : g.2 = dgs n0 ByteArray.empty := by rw [← hg1, h0, dgs_zero]
  have hsz := dgs_size n0 ByteArray.empty
  rw [← hd] at hsz ⊢
  have he : ByteArray.empty.size = 0 := rfl
  have hm1 : (⟨#[109]⟩ : ByteArray).size = 1 := rfl
  repeat' (first | refine R.mv rfl ?_ | refine R.reg ?_ | refine R.nil ?_ | refine R.seq ?_ | refine R.nseq ?_ | refine R.nblk ?_ | refine R.skip ?_ | refine R.blk ?_ | refine R.exit rfl ?_ | refine R.leq rfl rfl ?_ | refine R.gtr rfl rfl ?_ | refine R.add rfl rfl (by omega) ?_ | refine R.cv64 rfl (by omega) ?_ | refine R.cvU rfl (by omega) ?_ | refine R.quo rfl rfl (by omega) ?_ | refine R.rem rfl rfl (by omega) ?_ | refine R.condT rfl ?_ | refine R.condF rfl ?_ | refine R.addS rfl rfl (by rw [hm1]; omega) ?_ | refine R.cond rfl (fun hc => ?_) (fun hc => ?_) | refine R.condN rfl (fun hc => ?_) (fun hc => ?_) | refine R.condB rfl (fun hc => ?_) (fun hc => ?_))
  all_goals first
    | (exfalso; omega)
    | exact R.ret ⟨.inr rfl, R.outS rfl rfl rfl⟩
/-- A line of tiles with the glues at its ends. -/
structure TStrip where
  m : Int
  w : Int
  e : Int
  deriving DecidableEq
def xOf (w e : Int) : Int := if 1 = w ∨ 1 = e then (if 2 = w ∨ 2 = e then 3 else 2) else 1
def hlv (s : TStrip) : List TStrip := [⟨s.m - s.m / 2, s.w, xOf s.w s.e⟩, ⟨s.m / 2, xOf s.w s.e, s.e⟩]
def prt (s : TStrip) : List TStrip := if s.m = 1 then [s] else hlv s
def putS (out : List TStrip) (p : TStrip) : List TStrip := if p ∈ out then out else out ++ [p]
def bef (st : List TStrip) : List TStrip := (st.flatMap prt).foldl putS []
/-- The number of a strip. -/
def ixS : List TStrip → TStrip → Nat
  | [], _ => 0
  | a :: l, p => if a = p then 0 else ixS l p + 1
/-- Where a strip's parts lie, ascending. -/
def frm (l : List TStrip) (s : TStrip) : List Int := match prt s with
  | [p, q] => [min (ixS l p : Int) (ixS l q), max (ixS l p : Int) (ixS l q)]
  | ps => ps.map fun p => (ixS l p : Int)
def stg (n : Int) : Nat → List TStrip
  | 0 => [⟨n, 0, 0⟩]
  | k + 1 => bef (stg n k)
/-- How many stages. -/
def stN (n : Int) : Nat := if n ≤ 1 then 0 else if n ≤ 2 then 1 else if n ≤ 4 then 2 else if n ≤ 8 then 3 else 4
def big (l : List TStrip) : Bool := l.any fun s => decide (1 < s.m)
theorem stg_facts : ∀ n : Fin 13, 1 ≤ n.val → (∀ k : Fin 5, k.val ≤ stN (n.val : Nat) → big (stg (n.val : Nat) k.val) = decide (k.val < stN (n.val : Nat)) ∧ (stg (n.val : Nat) k.val).length ≤ 12 ∧ 1 ≤ (stg (n.val : Nat) k.val).length ∧ ∀ s ∈ stg (n.val : Nat) k.val, (1 ≤ s.m ∧ s.m ≤ 12) ∧ (0 ≤ s.w ∧ s.w ≤ 3) ∧ (0 ≤ s.e ∧ s.e ≤ 3) ∧ (s.m = 1 ∨ xOf s.w s.e ≤ 3)) := by decide +kernel
abbrev enSt (s : TStrip) : List D := [iD s.m, iD s.w, iD s.e]
theorem eqSt {p q : TStrip} : eqVs [.int .i64 p.m, .int .i64 p.w, .int .i64 p.e] [.int .i64 q.m, .int .i64 q.w, .int .i64 q.e] = decide (p = q) := by
  obtain ⟨a1, a2, a3⟩ := p
  obtain ⟨b1, b2, b3⟩ := q
  rw [Bool.eq_iff_iff]
  simp [eqVs, eqV]
theorem ixS_in : ∀ {l : List TStrip} {p : TStrip}, p ∈ l → l[ixS l p]? = some p ∧ ∀ i, i < ixS l p → l[i]? ≠ some p
  | a :: l, p, h => by
    unfold ixS
    by_cases e : a = p
    · rw [if_pos e, e]; exact ⟨rfl, fun i hi => by omega⟩
    · rw [if_neg e]
      have hp : p ∈ l := (List.mem_cons.1 h).resolve_left fun h => e h.symm
      obtain ⟨h1, h2⟩ := ixS_in hp
      refine ⟨h1, fun i hi => ?_⟩
      cases i with
      | zero => simpa using e
      | succ i => exact h2 i (by omega)
theorem ixS_out : ∀ {l : List TStrip} {p : TStrip}, p ∉ l → ixS l p = l.length
  | [], _, _ => rfl
  | a :: l, p, h => by
    unfold ixS
    rw [if_neg fun e => h (by simp [e]), ixS_out fun hp => h (by simp [hp])]
    rfl
/-- A strip within bounds. -/
def okSt (s : TStrip) : Prop := (1 ≤ s.m ∧ s.m ≤ 12) ∧ (0 ≤ s.w ∧ s.w ≤ 3) ∧ (0 ≤ s.e ∧ s.e ≤ 3)
theorem xOf_le (w e : Int) : 1 ≤ xOf w e ∧ xOf w e ≤ 3 := by
  unfold xOf
  split
  · split <;> omega
  · omega
theorem xOf_ne (w e : Int) : xOf w e ≠ w ∧ xOf w e ≠ e := by
  unfold xOf
  split
  · split <;> omega
  · omega
theorem xOf_lt {w e x : Int} (h1 : 1 ≤ x) (h2 : x < xOf w e) : x = w ∨ x = e := by
  unfold xOf at h2
  split at h2
  · split at h2
    · have : x = 1 ∨ x = 2 := by omega
      omega
    · omega
  · omega
theorem prt_len (s : TStrip) : 1 ≤ (prt s).length ∧ (prt s).length ≤ 2 := by
  unfold prt
  split
  · exact ⟨Nat.le_refl _, by show 1 ≤ 2; omega⟩
  · exact ⟨by show 1 ≤ 2; omega, Nat.le_refl _⟩
theorem putS_len (l : List TStrip) (p : TStrip) : (putS l p).length ≤ l.length + 1 := by
  unfold putS
  split
  · omega
  · rw [List.length_append, List.length_singleton]; omega
theorem fold_len : ∀ (ps l : List TStrip), (ps.foldl putS l).length ≤ l.length + ps.length
  | [], l => by simp
  | p :: ps, l => by
    have h1 := fold_len ps (putS l p)
    have h2 := putS_len l p
    rw [List.foldl_cons, List.length_cons]
    omega
theorem flat_prt_len : ∀ l : List TStrip, (l.flatMap prt).length ≤ 2 * l.length
  | [] => by simp
  | s :: l => by
    have h1 := flat_prt_len l
    have h2 := prt_len s
    rw [List.flatMap_cons, List.length_append, List.length_cons]
    omega
theorem fold_snoc {ps : List TStrip} {l : List TStrip} {j : Nat} {p : TStrip} (h : ps[j]? = some p) : (ps.take (j + 1)).foldl putS l = putS ((ps.take j).foldl putS l) p := by
  rw [take_snoc h, List.foldl_append]; rfl
theorem flat_snoc {l : List TStrip} {i : Nat} {s : TStrip} (h : l[i]? = some s) : (l.take (i + 1)).flatMap prt = (l.take i).flatMap prt ++ prt s := by
  rw [take_snoc h, List.flatMap_append]; simp
def sw2 (p q o : Nat) : Nat := if o = p then q else if o = q then p else o
theorem sw2_sw2 (p q o : Nat) : sw2 p q (sw2 p q o) = o := by
  unfold sw2
  by_cases h1 : o = p
  · subst h1
    rw [if_pos rfl]
    by_cases h2 : q = o
    · subst h2; simp
    · rw [if_neg h2, if_pos rfl]
  · rw [if_neg h1]
    by_cases h2 : o = q
    · subst h2; rw [if_pos rfl, if_pos rfl]
    · rw [if_neg h2, if_neg h1, if_neg h2]
theorem sw2_pin {p q o : Nat} (hp : p < pinN) (hq : q < pinN) (ho : pinN ≤ o) : sw2 p q o = o := by
  unfold sw2
  rw [if_neg (by omega), if_neg (by omega)]
def St.swap (p q : Nat) (st : St) : St := ⟨fun d => (st.env d).ren (sw2 p q), fun o => (st.objs (sw2 p q o)).map (Ob.ren (sw2 p q))⟩
/-- Two objects change their names. -/
theorem Weak.swap {st : St} (p q : Nat) (hp : Nat.blt p pinN = true) (hq : Nat.blt q pinN = true) : Weak st (st.swap p q) := fun F R ι φ a w hs => by
  have hp : p < pinN := Nat.le_of_ble_eq_true hp
  have hq : q < pinN := Nat.le_of_ble_eq_true hq
  have hσ : ∀ j, st.dom j → (st.swap p q).dom (sw2 p q j) ∧ (fun o => ι (sw2 p q o)) (sw2 p q j) = ι j := fun j ⟨x, hx⟩ =>
    ⟨⟨x.ren (sw2 p q), by show (st.objs (sw2 p q (sw2 p q j))).map _ = _; rw [sw2_sw2, hx]; rfl⟩, by show ι (sw2 p q (sw2 p q j)) = _; rw [sw2_sw2]⟩
  have hob : ∀ o x, (st.swap p q).objs o = some x → ∃ y, st.objs (sw2 p q o) = some y ∧ x = y.ren (sw2 p q) := fun o x hx => by
    have hx : (st.objs (sw2 p q o)).map (Ob.ren (sw2 p q)) = some x := hx
    cases hy : st.objs (sw2 p q o) with
    | none => rw [hy] at hx; cases hx
    | some y => rw [hy] at hx; cases hx; exact ⟨y, rfl, rfl⟩
  refine ⟨R, fun o => ι (sw2 p q o), fun o => φ (sw2 p q o), hs.below, hs.rlt, hs.rsub, hs.rnew, hs.size, hs.defers, fun d => RA.ren hσ (.inl fun _ h => h) (hs.env d), fun o x hx => ?_, fun o x hx => ?_, fun o o' x x' g hx hx' h1 h2 => ?_, fun o ho => ?_⟩
  · obtain ⟨y, hy, rfl⟩ := hob o x hx
    exact RO.ren hσ (.inl fun _ h => h) (hs.objs _ y hy)
  · obtain ⟨y, hy, rfl⟩ := hob o x hx
    exact hs.mine _ y hy
  · obtain ⟨y, hy, rfl⟩ := hob o x hx
    obtain ⟨y', hy', rfl⟩ := hob o' x' hx'
    have := hs.apart _ _ y y' g hy hy' h1 h2
    rw [← sw2_sw2 p q o, this, sw2_sw2]
  · show ι (sw2 p q o) = _
    rw [sw2_pin hp hq ho]
    exact hs.pin o ho
end Go.Proofs.YtlblmofimjhbbaaDoor
