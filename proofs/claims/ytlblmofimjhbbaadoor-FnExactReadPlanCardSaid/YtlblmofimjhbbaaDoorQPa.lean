/- RegV and NeqS and MkT and SpT and Cnt. -/
import Derived.Test.YtlblmofimjhbbaaDoorY23
import Derived.Test.YtlblmofimjhbbaaDoorBel
import Derived.Lib.Strings
import Derived.Test.YtlblmofimjhbbaaDoorBoil
namespace Go.Proofs.YtlblmofimjhbbaaDoor
open Go.RowKit
set_option maxRecDepth 100000 in
def S.s53 : SC := (.seq (.reg [⟨(.some 2), .none, .false, (.mv (.const (Go.Value.string { data := #[] })))⟩]) (.seq (.seq (.reg [⟨(.some 4), .none, .false, (.mv (.tmp 0))⟩, ⟨(.some 5), .none, .false, (.bin .leq (.tmp 4) (.const (Go.Value.int Go.IntKind.i64 0)))⟩]) (.cond (.tmp 5) (.seq (.reg [⟨(.some 2), .none, .false, (.mv (.const (Go.Value.string { data := #[109, 48] })))⟩]) .ret) .skip)) (.seq (.reg [⟨(.some 3), .none, .false, (.mv (.const (Go.Value.string { data := #[] })))⟩]) (.seq (.block 0 (.loop (.seq (.seq (.reg [⟨(.some 6), .none, .false, (.mv (.tmp 0))⟩, ⟨(.some 7), .none, .false, (.bin .gtr (.tmp 6) (.const (Go.Value.int Go.IntKind.i64 0)))⟩]) (.cond (.tmp 7) .skip (.exit 0))) (.block 1 (.seq (.reg [⟨(.some 8), .none, .false, (.mv (.tmp 0))⟩, ⟨(.some 9), .none, .false, (.bin .rem (.tmp 8) (.const (Go.Value.int Go.IntKind.i64 10)))⟩, ⟨(.some 10), .none, .false, (.bin .add (.const (Go.Value.int Go.IntKind.i64 48)) (.tmp 9))⟩, ⟨(.some 11), .none, .false, (.cv .u8 (.tmp 10))⟩, ⟨(.some 12), .none, .false, (.bsl (.mk 5 1) 1 [(0, (.tmp 11))])⟩, ⟨(.some 13), .none, .false, (.b2s (.tmp 12))⟩, ⟨(.some 14), .none, .false, (.mv (.tmp 3))⟩, ⟨(.some 15), .none, .false, (.bin .add (.tmp 13) (.tmp 14))⟩, ⟨(.some 3), .none, .false, (.mv (.tmp 15))⟩]) (.reg [⟨(.some 16), .none, .false, (.mv (.tmp 0))⟩, ⟨(.some 17), .none, .false, (.bin .quo (.tmp 16) (.const (Go.Value.int Go.IntKind.i64 10)))⟩, ⟨(.some 0), .none, .false, (.mv (.tmp 17))⟩])))))) (.seq (.reg [⟨(.some 18), .none, .false, (.mv (.tmp 3))⟩, ⟨(.some 19), .none, .false, (.bin .add (.const (Go.Value.string { data := #[109] })) (.tmp 18))⟩, ⟨(.some 2), .none, .false, (.mv (.tmp 19))⟩]) .ret)))))
set_option maxRecDepth 100000 in
theorem S.ok53 : stripF Tryd.prog Tryd.f53 = some S.s53 := by kernel_rfl
set_option maxRecDepth 20000
set_option maxHeartbeats 8000000
theorem Weak.regNew {st : St} (q : Nat) (hp : freeO st.objs q) : Weak st ⟨st.env, upd st.objs q (some (.val []))⟩ := fun F R ι φ a w hs => by
  obtain ⟨hp1, hp2⟩ := hp.none
  exact ⟨R, _, _, hs.new (d := q) (u := .slice none 0 0) (S := []) (x := .val []) (w' := w) hp1 hp2 (Below.refl _ _) ⟨rfl, rfl, fun p hp => by cases hp⟩ (fun g hg => by cases hg)⟩
theorem okI_rd {W : World} {R : Nat → Prop} {v : Value} {κ : Ky} {xs : List (List D)} (h : RD W R v (.rd κ xs)) : okI v := by cases h <;> trivial
theorem Wk.reveal {st : St} (j q : Nat) {κ : Ky} {xs : List (List D)} {l : List (Value × D)} (h : st.env j = .v (.c (.d (.rd κ xs)))) (hq : st.objs q = some (.val l)) : Wk st (fun s => ∃ v, s = ⟨upd st.env j (pvA v), upd st.objs q (some (.val (l ++ [(v, .rd κ xs)])))⟩) := fun F R ι φ a w hs => by
  have hj := hs.env j
  rw [h] at hj
  have hj : RD w R (a.tmps.getD j undef) (.rd κ xs) := hj
  have hq0 := hs.objs q _ hq
  have hφ : φ q = [] := hq0.2.1
  have hd : ∀ p, st.dom p → domO (upd st.objs q (some (.val (l ++ [(a.tmps.getD j undef, D.rd κ xs)])))) p := fun p ⟨x, hx⟩ => by
    by_cases hp : p = q
    · subst hp; exact ⟨_, upd_same _ _ _⟩
    · exact ⟨x, by rw [upd_ne _ _ hp]; exact hx⟩
  refine ⟨_, ⟨a.tmps.getD j undef, rfl⟩, R, ι, φ, hs.below, hs.rlt, hs.rsub, hs.rnew, hs.size, hs.defers, fun t => ?_, fun p x hx => ?_, fun p x hx g hg => ?_, fun p r x y g hx hy h1 h2 => ?_, hs.pin⟩
  · by_cases ht : t = j
    · subst ht
      show RA _ _ _ _ _ (upd st.env t _ t)
      rw [upd_same]
      exact RD.pv hj.one (okI_rd hj)
    · show RA _ _ _ _ _ (upd st.env j _ t)
      rw [upd_ne _ _ ht]
      exact RA.keep (fun _ h => h) (fun _ _ => rfl) hd (fun _ _ => rfl) (hs.env t)
  · by_cases hp : p = q
    · subst hp
      have hx : upd st.objs p _ p = some x := hx
      rw [upd_same] at hx
      cases hx
      refine ⟨hq0.1, hφ, fun y hy => ?_⟩
      rcases List.mem_append.1 hy with hy | hy
      · exact hq0.2.2 y hy
      · rw [List.mem_singleton.1 hy]; exact hj
    · have hx : upd st.objs q _ p = some x := hx
      rw [upd_ne _ _ hp] at hx
      exact RO.keep (fun _ h => h) (fun _ _ => rfl) hd (fun _ _ => rfl) (fun _ _ => rfl) (hs.objs p x hx)
  · by_cases hp : p = q
    · subst hp; rw [hφ] at hg; cases hg
    · have hx : upd st.objs q _ p = some x := hx
      rw [upd_ne _ _ hp] at hx
      exact hs.mine p x hx g hg
  · by_cases hp : p = q
    · subst hp; rw [hφ] at h1; cases h1
    · by_cases hr : r = q
      · subst hr; rw [hφ] at h2; cases h2
      · have hx : upd st.objs q _ p = some x := hx
        have hy : upd st.objs q _ r = some y := hy
        rw [upd_ne _ _ hp] at hx
        rw [upd_ne _ _ hr] at hy
        exact hs.apart p r x y g hx hy h1 h2
/-- A value that one cell holds. -/
structure CV where
  v : Value
  one : v.oneCell' = true
  ok : okI v
theorem Wk.revealC {st : St} (j q : Nat) {κ : Ky} {xs : List (List D)} {l : List (Value × D)} (h : st.env j = .v (.c (.d (.rd κ xs)))) (hq : st.objs q = some (.val l)) : Wk st (fun s => ∃ c : CV, s = ⟨upd st.env j (pvA c.v), upd st.objs q (some (.val (l ++ [(c.v, .rd κ xs)])))⟩) := fun F R ι φ a w hs => by
  obtain ⟨s, ⟨v, rfl⟩, R', ι', φ', hs'⟩ := Wk.reveal j q h hq F R ι φ a w hs
  have hj := hs'.env j
  have hj : RD w R' (a.tmps.getD j undef) (.pv v) := by
    have e : (⟨upd st.env j (pvA v), upd st.objs q (some (.val (l ++ [(v, .rd κ xs)])))⟩ : St).env j = pvA v := upd_same _ _ _
    rw [e] at hj
    exact hj
  have h1 := hj.one
  generalize a.tmps.getD j undef = u at *
  cases hj with
  | pv _ hi => exact ⟨_, ⟨⟨v, h1, hi⟩, rfl⟩, R', ι', φ', hs'⟩
theorem Weak.env1 {st : St} (j : Nat) (x : AV) (h : ∀ (R : Nat → Prop) (ι : Nat → Value) (φ : Nat → List Nat) (w : World) (v : Value), (∀ p y, st.objs p = some y → RO w R ι st.dom (ι p) (φ p) y) → RA w R ι st.dom v (st.env j) → RA w R ι st.dom v x) : Weak st ⟨upd st.env j x, st.objs⟩ := fun F R ι φ a w hs => by
  refine ⟨R, ι, φ, hs.below, hs.rlt, hs.rsub, hs.rnew, hs.size, hs.defers, fun t => ?_, hs.objs, hs.mine, hs.apart, hs.pin⟩
  by_cases ht : t = j
  · subst ht
    show RA _ _ _ _ _ (upd st.env t _ t)
    rw [upd_same]
    exact h R ι φ w _ hs.objs (hs.env t)
  · show RA _ _ _ _ _ (upd st.env j _ t)
    rw [upd_ne _ _ ht]
    exact hs.env t
/-- A value that is kept is read as what it is. -/
theorem Weak.hide {st : St} (j q : Nat) {v : Value} {d : D} {l : List (Value × D)} (h : st.env j = pvA v) (hq : st.objs q = some (.val l)) (hm : (v, d) ∈ l) : Weak st ⟨upd st.env j (.v (.c (.d d))), st.objs⟩ :=
  Weak.env1 j _ fun R ι φ w u ho he => by
    rw [h] at he
    obtain ⟨rfl, _⟩ := RA.pv he
    exact (ho q _ hq).2.2 _ hm
theorem RD.rows {W : World} {R : Nat → Prop} {v : Value} {κ : Ky} {xs xs' : List (List D)} (h : RD W R v (.rd κ xs)) (hl : xs'.length = xs.length)
    (hc : ∀ (i : Nat) (es' : List D), xs'[i]? = some es' → ∃ es, xs[i]? = some es ∧ es'.length = es.length ∧ ∀ (j : Nat) (d' : D), es'[j]? = some d' → ∃ d, es[j]? = some d ∧ ∀ u, RD W R u d → RD W R u d') : RD W R v (.rd κ xs') := by
  cases h with
  | nil =>
    obtain rfl : xs' = [] := List.eq_nil_of_length_eq_zero hl
    exact .nil
  | rd c h0 h1 h2 hR hk hcc hr =>
    rw [← hl]
    refine .rd c (by omega) (by omega) h2 hR (fun i es' hi => ?_) (fun i es' j hi hj => ?_) (fun i es' j d' hi hj => ?_)
    · obtain ⟨es, q1, q2, _⟩ := hc i es' hi
      rw [q2]; exact hk i es q1
    · obtain ⟨es, q1, q2, _⟩ := hc i es' hi
      exact hcc i es j q1 hj
    · obtain ⟨es, q1, q2, q3⟩ := hc i es' hi
      obtain ⟨d, q4, q5⟩ := q3 j d' hj
      exact q5 _ (hr i es j d q1 q4)
/-- A row of values that are kept is read as a row of what they are. -/
theorem Weak.hideRows {st : St} {α : Type} (j q : Nat) {κ : Ky} (g : List α) (fv : α → Value) (fd : α → D) (h : st.env j = .v (.c (.d (.rd κ (g.map fun x => [.pv (fv x)]))))) (hq : st.objs q = some (.val (g.map fun x => (fv x, fd x)))) : Weak st ⟨upd st.env j (.v (.c (.d (.rd κ (g.map fun x => [fd x]))))), st.objs⟩ :=
  Weak.env1 j _ fun R ι φ w u ho he => by
    rw [h] at he
    have he : RD w R u (.rd κ (g.map fun x => [.pv (fv x)])) := he
    refine RD.rows he (by simp) fun i es' hi => ?_
    rw [List.getElem?_map, Option.map_eq_some_iff] at hi
    obtain ⟨x, hx, rfl⟩ := hi
    refine ⟨[.pv (fv x)], by rw [List.getElem?_map, hx]; rfl, rfl, fun k d' hk => ?_⟩
    cases k with
    | zero =>
      cases hk
      refine ⟨_, rfl, fun u hu => ?_⟩
      cases hu
      exact (ho q _ hq).2.2 _ (List.mem_map.2 ⟨x, List.mem_of_getElem? hx, rfl⟩)
    | succ k => cases hk
section
variable {P : Program} {Q : Exit → St → Prop} {ks : List Fr} {e : Nat → AV} {o : Nat → Option Ob} {d : Nat} {fr : Bool} {x y z : Operand} {rest : List SR}
/-- What an own slice holds goes over into another. -/
theorem R.appN {α : Type} {f : α → List D} {l l' : List α} {κ : Ky} {by' p q : Nat} (h : ev e x = .v (.c (.own p))) (h1 : ev e y = .v (.c (.own q))) (hq : o q = some (.arr κ (l'.map f) [])) (h0 : (oK [q] o) p = some (.arr κ (l.map f) [])) (hpin : Nat.blt p pinN = true) (h3 : (l.length + l'.length) * by' ≤ 140737488355328 ∧ l.length + l'.length ≤ 140737488355328) (k : WL P rest ks Q ⟨upd (eK [p] (eK [q] e)) d (.v (.c (.own p))), upd (oK [p] (oK [q] o)) p (some (.arr κ ((l ++ l').map f) []))⟩) : WL P (⟨some d, none, false, .app κ by' x y⟩ :: rest) ks Q ⟨e, o⟩ := by
  unfold WL at k
  rw [List.map_append] at k
  refine WL.wr ⟨d, .own p, .own q, l'.map f, rfl, h, h1, by simp [elemsOf, hq], [q], .inr ⟨q, rfl, rfl⟩, .inl ⟨p, l.map f, rfl, by rw [kill_eq]; exact h0, by rw [Nat.blt] at hpin; exact Nat.le_of_ble_eq_true hpin, by unfold maxLen; simp; omega, by simpa using h3.1, ?_⟩⟩
  rw [kill_eq, kill_eq]
  exact k
theorem R.revealL {dst : Option Tmp} {s : SOp} {rest : List SR} (j q : Nat) {κ : Ky} {xs : List (List D)} {l : List (Value × D)} (h : e j = .v (.c (.d (.rd κ xs)))) (hq : o q = some (.val l)) (k : ∀ v, WL P (⟨dst, none, false, s⟩ :: rest) ks Q ⟨upd e j (pvA v), upd o q (some (.val (l ++ [(v, .rd κ xs)])))⟩) : WL P (⟨dst, none, false, s⟩ :: rest) ks Q ⟨e, o⟩ := by
  unfold WL
  intro F R ι φ a w hs
  obtain ⟨s', ⟨v, rfl⟩, R', ι', φ', hs'⟩ := Wk.reveal (st := ⟨e, o⟩) j q h hq F R ι φ a w hs
  have := k v
  unfold WL at this
  exact this F R' ι' φ' a w hs'
theorem R.revealC {dst : Option Tmp} {s : SOp} {rest : List SR} (j q : Nat) {κ : Ky} {xs : List (List D)} {l : List (Value × D)} (h : e j = .v (.c (.d (.rd κ xs)))) (hq : o q = some (.val l)) (k : ∀ c : CV, WL P (⟨dst, none, false, s⟩ :: rest) ks Q ⟨upd e j (pvA c.v), upd o q (some (.val (l ++ [(c.v, .rd κ xs)])))⟩) : WL P (⟨dst, none, false, s⟩ :: rest) ks Q ⟨e, o⟩ := by
  unfold WL
  intro F R ι φ a w hs
  obtain ⟨s', ⟨v, rfl⟩, R', ι', φ', hs'⟩ := Wk.revealC (st := ⟨e, o⟩) j q h hq F R ι φ a w hs
  have := k v
  unfold WL at this
  exact this F R' ι' φ' a w hs'
/-- What a datum's value is, whatever it is. -/
theorem R.reveal {b : SC} (j q : Nat) {κ : Ky} {xs : List (List D)} {l : List (Value × D)} (h : e j = .v (.c (.d (.rd κ xs)))) (hq : o q = some (.val l)) (k : ∀ v, WC P b ks Q ⟨upd e j (pvA v), upd o q (some (.val (l ++ [(v, .rd κ xs)])))⟩) : WN P (.seq b :: ks) Q ⟨e, o⟩ := by
  unfold WN
  refine Wk.mono (fun s hs => ?_) (Wk.reveal (st := ⟨e, o⟩) j q h hq)
  obtain ⟨v, rfl⟩ := hs
  have := k v
  unfold WC at this
  exact this
end
section
variable {P : Program} {Q : Exit → St → Prop} {ks : List Fr} {e : Nat → AV} {o : Nat → Option Ob} {d : Nat} {fr : Bool} {x y z : Operand} {rest : List SR}
theorem toList_eq {s t : ByteArray} : (s.toList == t.toList) = decide (s = t) := by
  rw [Bool.eq_iff_iff, beq_iff_eq, decide_eq_true_eq]
  constructor
  · intro h
    have h2 : s.data.toList = t.data.toList := by rw [← Lib.toList_data, ← Lib.toList_data]; exact h
    cases s; cases t
    simp at h2
    rw [h2]
  · intro h; rw [h]
theorem R.eqlS {s t : ByteArray} (h1 : ev e x = pvA (.string s)) (h2 : ev e y = pvA (.string t)) (k : WL P rest ks Q ⟨upd e d (pvA (.bool (decide (s = t)))), o⟩) : WL P (⟨some d, none, fr, .bin .eql x y⟩ :: rest) ks Q ⟨e, o⟩ := R.bin h1 h2 (by simp only [binI, strV, toList_eq]) k
theorem R.neqS {s t : ByteArray} (h1 : ev e x = pvA (.string s)) (h2 : ev e y = pvA (.string t)) (k : WL P rest ks Q ⟨upd e d (pvA (.bool !(decide (s = t)))), o⟩) : WL P (⟨some d, none, fr, .bin .neq x y⟩ :: rest) ks Q ⟨e, o⟩ := R.bin h1 h2 (by simp only [binI, strV, toList_eq]) k
end
section
variable {P : Program} {Q : Exit → St → Prop} {ks : List Fr} {e : Nat → AV} {o : Nat → Option Ob} {d : Nat} {fr : Bool} {x y z : Operand} {rest : List SR}
theorem R.addS {s t : ByteArray} (h1 : ev e x = pvA (.string s)) (h2 : ev e y = pvA (.string t)) (h : s.size + t.size ≤ 9223372036854775807) (k : WL P rest ks Q ⟨upd e d (pvA (.string (s ++ t))), o⟩) : WL P (⟨some d, none, fr, .bin .add x y⟩ :: rest) ks Q ⟨e, o⟩ :=
  R.bin h1 h2 (by unfold binI strV maxLen; exact if_pos h) k
theorem wrapU8 {m : Int} (h : 0 ≤ m ∧ m ≤ 255) : IntKind.wrap .u8 m = m := by
  have h2 : m % 256 = m := Int.emod_eq_of_lt h.1 (by omega)
  simp [IntKind.wrap, IntKind.bits, IntKind.signed, h2]
theorem R.cvU8 {k1 : IntKind} {m : Int} (h : ev e x = pvA (.int k1 m)) (hr : 0 ≤ m ∧ m ≤ 255) (k : WL P rest ks Q ⟨upd e d (pvA (.int .u8 m)), o⟩) : WL P (⟨some d, none, fr, .cv .u8 x⟩ :: rest) ks Q ⟨e, o⟩ := R.cv h (by rw [wrapU8 hr]; exact k)
end
theorem size_app (s t : ByteArray) : (s ++ t).size = s.size + t.size := ByteArray.size_append
/-- The digits of a number, ahead of a text. -/
def dgs (n : Nat) (acc : ByteArray) : ByteArray := if n = 0 then acc else dgs (n / 10) (bsOf [48 + (n : Int) % 10] ++ acc)
termination_by n
decreasing_by omega
theorem dgs_zero (acc : ByteArray) : dgs 0 acc = acc := by rw [dgs, if_pos rfl]
theorem dgs_step {n : Nat} (h : 0 < n) (acc : ByteArray) : dgs n acc = dgs (n / 10) (bsOf [48 + (n : Int) % 10] ++ acc) := by rw [dgs, if_neg (by omega)]
theorem dgs_size : ∀ (n : Nat) (acc : ByteArray), (dgs n acc).size ≤ n + acc.size := by
  intro n
  induction n using Nat.strongRecOn with
  | _ n ih =>
    intro acc
    by_cases h : n = 0
    · subst h; rw [dgs_zero]; omega
    · rw [dgs_step (by omega)]
      have := ih (n / 10) (by omega) (bsOf [48 + (n : Int) % 10] ++ acc)
      rw [size_app, bsOf_size] at this
      simp only [List.length_singleton] at this
      omega
def mText (k : Int) : ByteArray := if k ≤ 0 then ⟨#[109, 48]⟩ else ⟨#[109]⟩ ++ dgs k.toNat ByteArray.empty
theorem markText_ok (k : Int) (h : k ≤ 4611686018427387904) : Spec Tryd.prog 53 [vI k] (oS (mText k)) := by
  refine Spec.walk T.mixed Tryd.func53 S.ok53 (by simp [Tryd.f53]) fun hk => ?_
  clear hk
  unfold S.s53
  by_cases hk0 : k ≤ 0
  · rw [show mText k = ⟨#[109, 48]⟩ from if_pos hk0]
    repeat' (first | refine R.mv rfl ?_ | refine R.reg ?_ | refine R.nil ?_ | refine R.seq ?_ | refine R.nseq ?_ | refine R.nblk ?_ | refine R.skip ?_ | refine R.blk ?_ | refine R.exit rfl ?_ | refine R.leq rfl rfl ?_ | refine R.gtr rfl rfl ?_ | refine R.add rfl rfl (by omega) ?_ | refine R.cv64 rfl (by omega) ?_ | refine R.cvU rfl (by omega) ?_ | refine R.quo rfl rfl (by omega) ?_ | refine R.rem rfl rfl (by omega) ?_ | refine R.condT rfl ?_ | refine R.condF rfl ?_ | refine R.cond rfl (fun hc => ?_) (fun hc => ?_) | refine R.condN rfl (fun hc => ?_) (fun hc => ?_) | refine R.condB rfl (fun hc => ?_) (fun hc => ?_))
    all_goals first | (exfalso; omega) | exact R.ret ⟨.inr rfl, R.outS rfl rfl rfl⟩
  rw [show mText k = ⟨#[109]⟩ ++ dgs k.toNat ByteArray.empty from if_neg hk0]
  obtain ⟨n0, hn0⟩ : ∃ n0 : Nat, k = n0 := ⟨k.toNat, by omega⟩
  subst hn0
  rw [Int.toNat_natCast]
  repeat' (first | refine R.mv rfl ?_ | refine R.reg ?_ | refine R.nil ?_ | refine R.seq ?_ | refine R.nseq ?_ | refine R.nblk ?_ | refine R.skip ?_ | refine R.blk ?_ | refine R.exit rfl ?_ | refine R.leq rfl rfl ?_ | refine R.gtr rfl rfl ?_ | refine R.add rfl rfl (by omega) ?_ | refine R.cv64 rfl (by omega) ?_ | refine R.cvU rfl (by omega) ?_ | refine R.quo rfl rfl (by omega) ?_ | refine R.rem rfl rfl (by omega) ?_ | refine R.condT rfl ?_ | refine R.condF rfl ?_ | refine R.cond rfl (fun hc => ?_) (fun hc => ?_) | refine R.condN rfl (fun hc => ?_) (fun hc => ?_) | refine R.condB rfl (fun hc => ?_) (fun hc => ?_))
  all_goals first | (exfalso; omega) | skip
  refine R.loop (G := Nat × ByteArray) (fun g => [(0, pvA (.int .i64 (g.1 : Int))), (3, pvA (.string g.2))]) (fun _ => []) (fun g => dgs g.1 g.2 = dgs n0 ByteArray.empty ∧ g.2.size + g.1 ≤ n0) (fun g => g.1) (n0, ByteArray.empty) ⟨rfl, by simp⟩ (Weak.frame _ _ ⟨rfl, rfl, trivial⟩ trivial rfl rfl) fun g hg => ?_
  obtain ⟨hg1, hg2⟩ := hg
  by_cases hp : 0 < g.1
  · have hs1 := bsOf_size [48 + (g.1 : Int) % 10]
    simp only [List.length_singleton] at hs1
    have hF : dgs (g.1 / 10) (bsOf [48 + (g.1 : Int) % 10] ++ g.2) = dgs n0 ByteArray.empty ∧ (bsOf [48 + (g.1 : Int) % 10] ++ g.2).size + g.1 / 10 ≤ n0 := ⟨by rw [← dgs_step hp]; exact hg1, by rw [size_app, hs1]; omega⟩
    repeat' (first | refine R.cvU8 rfl (by omega) ?_ | refine R.mv rfl ?_ | refine R.reg ?_ | refine R.nil ?_ | refine R.seq ?_ | refine R.nseq ?_ | refine R.nblk ?_ | refine R.skip ?_ | refine R.blk ?_ | refine R.exit rfl ?_ | refine R.leq rfl rfl ?_ | refine R.gtr rfl rfl ?_ | refine R.add rfl rfl (by omega) ?_ | refine R.cv64 rfl (by omega) ?_ | refine R.cvU rfl (by omega) ?_ | refine R.quo rfl rfl (by omega) ?_ | refine R.rem rfl rfl (by omega) ?_ | refine R.condT rfl ?_ | refine R.condF rfl ?_ | refine R.bsl (f := enB8) [48 + (g.1 : Int) % 10] rfl rfl rfl rfl rfl ?_ | refine R.b2s (κ := ⟨5, 1⟩) [48 + (g.1 : Int) % 10] rfl rfl rfl ?_ | refine R.addS rfl rfl (by omega) ?_ | refine R.cond rfl (fun hc => ?_) (fun hc => ?_) | refine R.condN rfl (fun hc => ?_) (fun hc => ?_) | refine R.condB rfl (fun hc => ?_) (fun hc => ?_))
    all_goals first
      | (exfalso; omega)
      | exact R.nloop (R.again (g.1 / 10, bsOf [48 + (g.1 : Int) % 10] ++ g.2) (by exact hF) (by show g.1 / 10 < g.1; omega) ⟨(congrArg (fun z => pvA (.int .i64 z)) (by show (g.1 : Int) / 10 = ((g.1 / 10 : Nat) : Int); omega)), rfl, trivial⟩ trivial rfl rfl)
      | skip
  have h0 : g.1 = 0 := by omega
  have hd : g.2 = dgs n0 ByteArray.empty := by rw [← hg1, h0, dgs_zero]
  have hsz := dgs_size n0 ByteArray.empty
  rw [← hd] at hsz ⊢
  have he : ByteArray.empty.size = 0 := rfl
  have hm1 : (⟨#[109]⟩ : ByteArray).size = 1 := rfl
  repeat' (first | refine R.mv rfl ?_ | refine R.reg ?_ | refine R.nil ?_ | refine R.seq ?_ | refine R.nseq ?_ | refine R.nblk ?_ | refine R.skip ?_ | refine R.blk ?_ | refine R.exit rfl ?_ | refine R.leq rfl rfl ?_ | refine R.gtr rfl rfl ?_ | refine R.add rfl rfl (by omega) ?_ | refine R.cv64 rfl (by omega) ?_ | refine R.cvU rfl (by omega) ?_ | refine R.quo rfl rfl (by omega) ?_ | refine R.rem rfl rfl (by omega) ?_ | refine R.condT rfl ?_ | refine R.condF rfl ?_ | refine R.addS rfl rfl (by rw [hm1]; omega) ?_ | refine R.cond rfl (fun hc => ?_) (fun hc => ?_) | refine R.condN rfl (fun hc => ?_) (fun hc => ?_) | refine R.condB rfl (fun hc => ?_) (fun hc => ?_))
  all_goals first
    | (exfalso; omega)
    | exact R.ret ⟨.inr rfl, R.outS rfl rfl rfl⟩
theorem specT_args {W : World} {R : Nat → Prop} {vs : List Value} {args : List VD} (h : F2 (RVD W R) vs args) : F2 (RV1 W R (fun _ => undef) (domO (frO []))) vs (args.map VD.v1) := by
  induction h with
  | nil => exact .nil
  | cons h1 _ ih =>
    refine .cons ?_ ih
    rename_i v x _ _ _
    cases x with
    | c y => exact h1
    | agg ys => obtain ⟨us, e, h2⟩ := h1; exact ⟨us, e, F2.map_right (f := B.d) (fun _ _ h => h) h2⟩
/-- The library's variables stand in a world. -/
def TabsOk (w : World) : Prop := ∀ x ∈ tabG, tabAt w x.1 x.2
theorem TabsOk.keep {n : Nat} {w w' : World} (h : TabsOk w) (hn : w.heap.size ≤ n) (hb : Below n w w') : TabsOk w' := fun x hx => (h x hx).keep (hb.block _ (Nat.lt_of_lt_of_le (h x hx).lt hn))
theorem TabsOk.below {w w' : World} (h : TabsOk w) (hb : Below w.heap.size w w') : TabsOk w' := h.keep (Nat.le_refl _) hb
/-- A contract whose result is data, at a world. -/
theorem specT_call {P : Program} {k : FuncId} {args : List VD} {d : D} (h : Spec P k args (.v (.c (.fz d)))) {W : World} {R : Nat → Prop} {vs : List Value} (hT : TabsOk W) (hR : ∀ b, R b → b < W.heap.size) (hF : F2 (RVD W (fun b => R b ∨ ∃ x ∈ tabG, x.1 = b)) vs args) :
    Calls P k vs.toArray W fun e W' => ∃ v, e = .returned v ∧ Below W.heap.size W W' ∧ ∃ R' : Nat → Prop, RD W' R' v d := by
  have hR' : ∀ b, (R b ∨ ∃ x ∈ tabG, x.1 = b) → b < W.heap.size := fun b hb => by
    rcases hb with hb | ⟨x, hx, rfl⟩
    · exact hR b hb
    · exact (hT x hx).lt
  refine (h.2 W _ (fun _ => undef) (fun _ => []) vs hR' (specT_args hF) ⟨fun o x h => (by cases h), fun o x h => (by cases h), fun o p x y g h => (by cases h), fun x hx => ⟨.inr ⟨x, hx, rfl⟩, hT x hx⟩⟩).mono fun e W' => ?_
  rintro ⟨v, rfl, R', ι', φ', hb, hs, hz, _, hra, _⟩
  exact ⟨v, rfl, hb.below (fun g ⟨o, x, h, _⟩ => by cases h), R', hra⟩
theorem specT_B {P : Program} {k : FuncId} {args : List VD} {b : Bool} (h : Spec P k args (oB b)) {W : World} {R : Nat → Prop} {vs : List Value} (hT : TabsOk W) (hR : ∀ b, R b → b < W.heap.size) (hF : F2 (RVD W (fun b => R b ∨ ∃ x ∈ tabG, x.1 = b)) vs args) :
    Calls P k vs.toArray W fun e W' => e = .returned (.bool b) ∧ Below W.heap.size W W' :=
  (specT_call h hT hR hF).mono fun e W' ⟨v, he, hb, R', hd⟩ => by cases hd; exact ⟨he, hb⟩
theorem specT_S {P : Program} {k : FuncId} {args : List VD} {b : ByteArray} (h : Spec P k args (oS b)) {W : World} {R : Nat → Prop} {vs : List Value} (hT : TabsOk W) (hR : ∀ b, R b → b < W.heap.size) (hF : F2 (RVD W (fun b => R b ∨ ∃ x ∈ tabG, x.1 = b)) vs args) :
    Calls P k vs.toArray W fun e W' => e = .returned (.string b) ∧ Below W.heap.size W W' :=
  (specT_call h hT hR hF).mono fun e W' ⟨v, he, hb, R', hd⟩ => by cases hd; exact ⟨he, hb⟩
/-- A row of numbers that somebody owns, read as data. -/
theorem RD_row {W : World} {R : Nat → Prop} {t n₀ : Nat} {v : Value} {cs : List Int} (h : W.ownsRow n₀ t 1 v cs.length (cs.map (Value.int .i64))) (hR : ∀ g, v.ownBlock = some g → R g) (hi : ∀ c ∈ cs, okI (.int .i64 c)) : RD W R v (.rd kI (cs.map enI)) := by
  rcases h.2 with ⟨rfl, h0⟩ | ⟨g, cap, cur, rfl, _, hg, hnc, hcm, hcs, htake⟩
  · obtain rfl : cs = [] := List.eq_nil_of_length_eq_zero h0
    exact .nil
  · by_cases hz : cs.length = 0
    · obtain rfl : cs = [] := List.eq_nil_of_length_eq_zero hz
      exact .nil
    · have hl : cs.length = (cs.map enI).length := by simp
      rw [hl]
      refine .rd (fun i _ => .int .i64 (cs.getD i 0)) (by simp; omega) (by simpa using hnc) hcm (hR g rfl) (fun i es hi => ?_) (fun i es j hi hj => ?_) (fun i es j d hi' hd => ?_)
      · rw [List.getElem?_map] at hi
        cases hc : cs[i]? with
        | none => rw [hc] at hi; cases hi
        | some c => rw [hc] at hi; cases hi; rfl
      · have hj0 : j = 0 := by have : j < 1 := hj; omega
        subst hj0
        rw [List.getElem?_map] at hi
        cases hc : cs[i]? with
        | none => rw [hc] at hi; cases hi
        | some c =>
          have hil := (List.getElem?_eq_some_iff.1 hc).1
          have h1 : (cur.toList.take (cs.length * 1))[i]? = (cs.map (Value.int .i64))[i]? := by rw [htake]
          rw [List.getElem?_take_of_lt (by omega), Array.getElem?_toList, List.getElem?_map, hc] at h1
          have e3 : 0 + i * kI.k + 0 = i := by show 0 + i * 1 + 0 = i; omega
          unfold World.cell?
          rw [hg, e3]
          simpa [List.getD, hc] using h1
      · rw [List.getElem?_map] at hi'
        cases hc : cs[i]? with
        | none => rw [hc] at hi'; cases hi'
        | some c =>
          rw [hc] at hi'
          cases hi'
          cases j with
          | zero =>
            cases hd
            simp only [List.getD, hc, Option.getD_some]
            exact .pv rfl (hi c (List.mem_of_getElem? hc))
          | succ j => cases hd
theorem cnt_const {α : Type} {c : α → Nat} {K : Nat} (h : ∀ a, c a = K) : ∀ {l : List α}, cnt c l = l.length * K
  | [] => by rw [cnt_nil]; simp
  | a :: l => by rw [cnt_cons, h a, cnt_const h, List.length_cons, Nat.succ_mul]; omega
theorem cnt_bd {α : Type} {c : α → Nat} {M : Nat} : ∀ {l : List α}, (∀ a ∈ l, c a ≤ M) → cnt c l ≤ l.length * M
  | [], _ => by rw [cnt_nil]; simp
  | a :: l, h => by
    have h1 := h a (by simp)
    have h2 := cnt_bd (c := c) (M := M) (l := l) fun b hb => h b (by simp [hb])
    rw [cnt_cons, List.length_cons, Nat.succ_mul]
    omega
end Go.Proofs.YtlblmofimjhbbaaDoor
