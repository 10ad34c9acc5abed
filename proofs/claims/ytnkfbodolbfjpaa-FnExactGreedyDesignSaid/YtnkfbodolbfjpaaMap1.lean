/- Maps of the call's own: they are made, written, looked into, counted. No program is named here. -/
import Derived.Test.YtnkfbodolbfjpaaY23
import Derived.MapKept
namespace Go.Proofs.Ytnkfbodolbfjpaa
open Go.RowKit
open Classical in
/-- A key is written. -/
noncomputable def putE (k v : Value) : List (Value × Value) → List (Value × Value)
  | [] => [(k, v)]
  | (a, b) :: es => if a = k then (a, v) :: es else (a, b) :: putE k v es
open Classical in
/-- What a key leads to. -/
noncomputable def getE (k : Value) : List (Value × Value) → Option Value
  | [] => none
  | (a, b) :: es => if a = k then some b else getE k es
def pairE (e : MapEntry) : Value × Value := (e.key, e.val)
/-- Keys of this kind are compared, and never twice in a map. -/
structure KeyOk (P : Program) (kt : TypeId) (ok : Value → Prop) : Prop where
  check : ∀ k, ok k → ∀ b w, (Instr.checkKey b 10000 kt k).run P w = .ok () w
  find : ∀ k, ok k → ∀ ms : List MapEntry, (∀ e ∈ ms, ok e.key) → ∀ w,
    (∃ j e, (Instr.findKey kt k ms).run P w = .ok (some (j, e.val)) w ∧ ms[j]? = some e ∧ e.key = k ∧ ∀ i f, i < j → ms[i]? = some f → f.key ≠ k) ∨ ((Instr.findKey kt k ms).run P w = .ok none w ∧ ∀ e ∈ ms, e.key ≠ k)
  stays : ∀ k, ok k → ∀ w, (Instr.keyThatStays k k).run P w = .ok k w
theorem putE_new {k v : Value} : ∀ {es : List (Value × Value)}, (∀ e ∈ es, e.1 ≠ k) → putE k v es = es ++ [(k, v)]
  | [], _ => rfl
  | (a, b) :: es, h => by
    rw [putE, if_neg (h (a, b) (by simp)), putE_new fun e he => h e (by simp [he])]
    rfl
theorem putE_old {k v : Value} : ∀ {es : List (Value × Value)} {j : Nat} {e : Value × Value}, es[j]? = some e → e.1 = k → (∀ i f, i < j → es[i]? = some f → f.1 ≠ k) → putE k v es = es.set j (k, v)
  | [], j, e, h, _, _ => by simp at h
  | (a, b) :: es, 0, e, h, h1, _ => by
    simp at h; subst h
    simp only at h1
    rw [putE, if_pos h1, h1]; rfl
  | (a, b) :: es, j + 1, e, h, h1, h2 => by
    rw [putE, if_neg (h2 0 (a, b) (by omega) rfl), putE_old (j := j) (e := e) (by simpa using h) h1 fun i f hi hf => h2 (i + 1) f (by omega) (by simpa using hf)]
    rfl
theorem getE_new {k : Value} : ∀ {es : List (Value × Value)}, (∀ e ∈ es, e.1 ≠ k) → getE k es = none
  | [], _ => rfl
  | (a, b) :: es, h => by rw [getE, if_neg (h (a, b) (by simp)), getE_new fun e he => h e (by simp [he])]
theorem getE_old {k : Value} : ∀ {es : List (Value × Value)} {j : Nat} {e : Value × Value}, es[j]? = some e → e.1 = k → (∀ i f, i < j → es[i]? = some f → f.1 ≠ k) → getE k es = some e.2
  | [], j, e, h, _, _ => by simp at h
  | (a, b) :: es, 0, e, h, h1, _ => by
    simp at h; subst h
    rw [getE, if_pos h1]
  | (a, b) :: es, j + 1, e, h, h1, h2 => by
    rw [getE, if_neg (h2 0 (a, b) (by omega) rfl)]
    exact getE_old (j := j) (e := e) (by simpa using h) h1 fun i f hi hf => h2 (i + 1) f (by omega) (by simpa using hf)
theorem putE_keys {ok : Value → Prop} {k v : Value} (hk : ok k) : ∀ {es : List (Value × Value)}, (∀ e ∈ es, ok e.1) → ∀ e ∈ putE k v es, ok e.1
  | [], _, e, he => by simp [putE] at he; subst he; exact hk
  | (a, b) :: es, h, e, he => by
    rw [putE] at he
    split at he
    · rcases List.mem_cons.1 he with rfl | he
      · exact h (a, b) (by simp)
      · exact h e (by simp [he])
    · rcases List.mem_cons.1 he with rfl | he
      · exact h (a, b) (by simp)
      · exact putE_keys hk (fun e he => h e (by simp [he])) e he
section
variable {P : Program} {Q : Exit → St → Prop} {ks : List Fr} {e : Nat → AV} {o : Nat → Option Ob} {d : Nat} {fr : Bool} {x y z : Operand} {rest : List SR}
/-- The value is told whole. -/
def IsV (x : AV) (v : Value) : Prop := ∀ (w : World) (R : Nat → Prop) (ι : Nat → Value) (dom : Nat → Prop) u, RA w R ι dom u x → u = v
theorem IsV.pv {v : Value} : IsV (pvA v) v := fun _ _ _ _ _ h => (RA.pv h).1
theorem IsV.agg {cs : List B} {as : List Value} (h : pvs cs = some as) : IsV (.v (.agg cs)) (.agg as.toArray) := fun _ _ _ _ _ hu => by
  obtain ⟨vs, rfl, h2⟩ := hu
  rw [pvs_ok h2 h]
theorem run_put {w : World} {mty kt et : TypeId} {ok : Value → Prop} (hK : KeyOk P kt ok) {r clock : Nat} {ms : Array MapEntry} {es : List (Value × Value)} {k v : Value} (hm : P.underlying mty = some (.map kt et)) (hb : w.heap[r]? = some (.map ms clock)) (he : ms.toList.map pairE = es) (hk : ok k) (hes : ∀ e ∈ es, ok e.1) :
    ∃ ms' clock', (Instr.mapUpdate mty (.map (some r)) k v).run P w = .ok () { w with heap := w.heap.setIfInBounds r (.map ms' clock') } ∧ ms'.toList.map pairE = putE k v es := by
  subst he
  have hms : ∀ e ∈ ms.toList, ok e.key := fun e h => hes (pairE e) (List.mem_map_of_mem h)
  rcases hK.find k hk ms.toList hms w with ⟨j, e, hf, hj, hek, hno⟩ | ⟨hf, hno⟩
  · refine ⟨ms.modify j fun e => { e with key := k, val := v }, clock, ?_, ?_⟩
    · have hkey : ((ms[j]?).map (·.key)).getD k = k := by
        rw [← Array.getElem?_toList, hj]
        simp [hek]
      simp [Instr.mapUpdate, run_underlying hm, MapKept.run_getObj_map hb, hK.check k hk, hf, hkey, hK.stays k hk, MapKept.run_setObj_map _ hb, Result.andThen]
    · rw [putE_old (j := j) (e := pairE e) (by rw [List.getElem?_map, hj]; rfl) hek fun i f hi hf => by
        rw [List.getElem?_map, Option.map_eq_some_iff] at hf
        obtain ⟨g, hg, rfl⟩ := hf
        exact hno i g hi hg]
      rw [Array.toList_modify]
      refine List.ext_getElem? fun i => ?_
      rw [List.getElem?_map, List.getElem?_modify, List.getElem?_set, List.getElem?_map]
      by_cases hij : j = i
      · subst hij
        rw [hj]
        have hlt : j < ms.size := by simpa using (List.getElem?_eq_some_iff.1 hj).1
        simp [pairE, hlt]
      · simp [hij]
  · refine ⟨ms.push { key := k, val := v, born := clock }, clock + 1, ?_, ?_⟩
    · simp [Instr.mapUpdate, run_underlying hm, MapKept.run_getObj_map hb, hK.check k hk, hf, MapKept.run_setObj_map _ hb, Result.andThen]
    · rw [putE_new fun f hf => by
        obtain ⟨g, hg, rfl⟩ := List.mem_map.1 hf
        exact hno g hg]
      simp [pairE]
theorem run_get {w : World} {mty kt et : TypeId} {ok : Value → Prop} (hK : KeyOk P kt ok) {r clock : Nat} {ms : Array MapEntry} {es : List (Value × Value)} {k v : Value} (hm : P.underlying mty = some (.map kt et)) (hb : w.heap[r]? = some (.map ms clock)) (he : ms.toList.map pairE = es) (hk : ok k) (hes : ∀ e ∈ es, ok e.1) (hv : getE k es = some v) :
    (Instr.lookup mty (.map (some r)) k false).run P w = .ok v w ∧ (Instr.lookup mty (.map (some r)) k true).run P w = .ok (.tuple #[v, .bool true]) w := by
  subst he
  have hms : ∀ e ∈ ms.toList, ok e.key := fun e h => hes (pairE e) (List.mem_map_of_mem h)
  rcases hK.find k hk ms.toList hms w with ⟨j, e, hf, hj, hek, hno⟩ | ⟨hf, hno⟩
  · have hg := getE_old (j := j) (e := pairE e) (es := ms.toList.map pairE) (by rw [List.getElem?_map, hj]; rfl) hek fun i f hi hf => by
      rw [List.getElem?_map, Option.map_eq_some_iff] at hf
      obtain ⟨g, hg, rfl⟩ := hf
      exact hno i g hi hg
    rw [hg] at hv
    cases hv
    constructor <;> simp [Instr.lookup, run_underlying hm, MapKept.run_getObj_map hb, hK.check k hk, hf, Result.andThen, pairE]
  · rw [getE_new fun f hf => by
      obtain ⟨g, hg, rfl⟩ := List.mem_map.1 hf
      exact hno g hg] at hv
    cases hv
theorem run_get0 {w : World} {mty kt et : TypeId} {ok : Value → Prop} (hK : KeyOk P kt ok) {r clock : Nat} {ms : Array MapEntry} {es : List (Value × Value)} {k z : Value} (hm : P.underlying mty = some (.map kt et)) (hz : ∀ w : World, (zeroValue et).run P w = .ok z w) (hb : w.heap[r]? = some (.map ms clock)) (he : ms.toList.map pairE = es) (hk : ok k) (hes : ∀ e ∈ es, ok e.1) (hv : getE k es = none) :
    (Instr.lookup mty (.map (some r)) k false).run P w = .ok z w ∧ (Instr.lookup mty (.map (some r)) k true).run P w = .ok (.tuple #[z, .bool false]) w := by
  subst he
  have hms : ∀ e ∈ ms.toList, ok e.key := fun e h => hes (pairE e) (List.mem_map_of_mem h)
  rcases hK.find k hk ms.toList hms w with ⟨j, e, hf, hj, hek, hno⟩ | ⟨hf, hno⟩
  · have hg := getE_old (j := j) (e := pairE e) (es := ms.toList.map pairE) (by rw [List.getElem?_map, hj]; rfl) hek fun i f hi hf => by
      rw [List.getElem?_map, Option.map_eq_some_iff] at hf
      obtain ⟨g, hg, rfl⟩ := hf
      exact hno i g hi hg
    rw [hg] at hv
    cases hv
  · constructor <;> simp [Instr.lookup, run_underlying hm, MapKept.run_getObj_map hb, hK.check k hk, hf, hz, Result.andThen]
/-- Any operation that writes. -/
theorem R.rawV {op : Op} {ty : TypeId} {x' : AV} {o' : Nat → Option Ob} (hx : ∀ F (q : Oper), q.op = op → OpW P F ⟨e, o⟩ q x' ⟨e, o'⟩) (k : WL P rest ks Q ⟨upd e d x', o'⟩) : WL P (⟨some d, none, false, .raw op ty⟩ :: rest) ks Q ⟨e, o⟩ := by
  unfold WL at k ⊢
  exact ⟨⟨e, o⟩, Weak.refl _, fun F q h1 _ _ => OpK.of_W (hx F q h1) k⟩
theorem R.rawN {op : Op} {ty : TypeId} {x' : AV} {o' : Nat → Option Ob} (hx : ∀ F (q : Oper), q.op = op → OpW P F ⟨e, o⟩ q x' ⟨e, o'⟩) (k : WL P rest ks Q ⟨e, o'⟩) : WL P (⟨none, none, false, .raw op ty⟩ :: rest) ks Q ⟨e, o⟩ := by
  unfold WL at k ⊢
  exact ⟨⟨e, o⟩, Weak.refl _, fun F q h1 _ _ => OpK.of_W (hx F q h1) k⟩
/-- A map is made. -/
theorem R.mkMap {T ty : TypeId} (hn : freeO o d) (k : WL P rest ks Q ⟨upd e d (.v (.c (.own d))), upd o d (some (.mp []))⟩) : WL P (⟨some d, none, false, .raw (.makeMap T none) ty⟩ :: rest) ks Q ⟨e, o⟩ :=
  R.rawV (fun F q hop => by
    intro a w R ι φ hs K Q hK
    obtain ⟨n1, n2⟩ := hn.none
    have hrun : (execOp a.eval q).run P w = .ok (.value (.map (some w.heap.size))) (w.alloc (.map #[] 0)) := by
      unfold execOp
      rw [hop]
      rfl
    unfold Oper.wp
    rw [hrun, Oper.upon_value]
    have hb : Below w.heap.size w (w.alloc (.map #[] 0)) := (Below.refl _ _).alloc (Nat.le_refl _) _
    have hnew : (w.alloc (.map #[] 0)).heap[w.heap.size]? = some (.map #[] 0) := by
      unfold World.alloc
      simp
    have hsz : (w.alloc (.map #[] 0)).heap.size = w.heap.size + 1 := World.size_alloc _ _
    refine hK _ _ R _ _ (hs.new (d := d) (u := .map (some w.heap.size)) (S := [w.heap.size]) (x := .mp []) n1 n2 hb ⟨w.heap.size, 0, #[], rfl, rfl, hnew, rfl⟩ (fun g hg => by
      rw [List.mem_singleton] at hg
      subst hg
      exact ⟨Nat.le_refl _, by omega⟩)) ⟨⟨_, upd_same _ _ _⟩, (upd_same _ _ _).symm⟩) k
/-- A map is written. -/
theorem sound_put {F : Fx} {q : Oper} {mty kt et : TypeId} {ok : Value → Prop} {p : Nat} {es : List (Value × Value)} {kv xv : Value} (hop : q.op = .mapUpdate mty x y z ∨ q.op = .insert mty x y z) (hK : KeyOk P kt ok) (hm : P.underlying mty = some (.map kt et)) (h : ev e x = .v (.c (.own p))) (ho : o p = some (.mp es)) (h1 : IsV (ev e y) kv) (h2 : IsV (ev e z) xv) (hk : ok kv) (hes : ∀ e ∈ es, ok e.1) :
    OpW P F ⟨e, o⟩ q deadA ⟨e, upd o p (some (.mp (putE kv xv es)))⟩ := fun a w R ι φ hs K Q hKK => by
  have hvx := ev_ok (a := a) hs.env x
  have e1 := h1 _ _ _ _ _ (ev_ok (a := a) hs.env y)
  have e2 := h2 _ _ _ _ _ (ev_ok (a := a) hs.env z)
  have hvx : RA w R ι (St.dom ⟨e, o⟩) (a.eval x) (ev e x) := hvx
  rw [h] at hvx
  obtain ⟨_, hvx⟩ := hvx
  obtain ⟨g, c, ms, hι, hφ, hh, hes2⟩ := hs.objs _ _ ho
  have hmi := hs.mine p _ ho g (by rw [hφ]; simp)
  obtain ⟨ms', c', hrun, hes'⟩ := run_put (v := xv) hK hm hh hes2 hk hes
  have hrun' : (execOp a.eval q).run P w = .ok .skip { w with heap := w.heap.setIfInBounds g (.map ms' c') } := by
    unfold execOp
    rcases hop with hop | hop <;> rw [hop] <;> simp only [hvx, hι, e1, e2, Sem.run_bind, hrun, Result.andThen_ok, Sem.run_pure]
  unfold Oper.wp
  rw [hrun', Oper.upon_skip]
  have hlt : g < w.heap.size := (Array.getElem?_eq_some_iff.1 hh).1
  have hne : ∀ b, b ≠ g → (w.heap.setIfInBounds g (.map ms' c'))[b]? = w.heap[b]? := fun b hb => by
    rw [Array.getElem?_setIfInBounds, if_neg (fun e => hb e.symm)]
  have hbl : BelowM F.M F.w { w with heap := w.heap.setIfInBounds g (.map ms' c') } := by
    refine ⟨hs.below.os, hs.below.tape, hs.below.output, ?_, fun b hb1 hb2 => ?_⟩
    · rw [Array.size_setIfInBounds]; exact hs.below.size
    · refine (hne b fun e => ?_).trans (hs.below.block b hb1 hb2)
      subst e
      rcases hmi.1 with h | h
      · exact hb2 h
      · omega
  refine hKK _ _ R ι _ (hs.write (S := [g]) ho hbl (by rw [Array.size_setIfInBounds]; exact Nat.le_refl _) (fun b _ hb => hne b fun e => hb (by rw [hφ, e]; simp)) ⟨g, c', ms', hι, rfl, ?_, hes'⟩ (fun g' hg' => by rw [hφ]; exact hg')) trivial
  show (w.heap.setIfInBounds g (.map ms' c'))[g]? = _
  rw [Array.getElem?_setIfInBounds, if_pos rfl, if_pos hlt]
theorem R.mapPut {mty kt et ty : TypeId} {ok : Value → Prop} {p : Nat} {es : List (Value × Value)} {kv xv : Value} (hK : KeyOk P kt ok) (hm : P.underlying mty = some (.map kt et)) (h : ev e x = .v (.c (.own p))) (ho : o p = some (.mp es)) (h1 : IsV (ev e y) kv) (h2 : IsV (ev e z) xv) (hk : ok kv) (hes : ∀ e ∈ es, ok e.1) (k : WL P rest ks Q ⟨e, upd o p (some (.mp (putE kv xv es)))⟩) : WL P (⟨none, none, false, .raw (.mapUpdate mty x y z) ty⟩ :: rest) ks Q ⟨e, o⟩ :=
  R.rawN (fun _ _ hop => sound_put (.inl hop) hK hm h ho h1 h2 hk hes) k
theorem R.mapIns {mty kt et ty : TypeId} {ok : Value → Prop} {p : Nat} {es : List (Value × Value)} {kv xv : Value} (hK : KeyOk P kt ok) (hm : P.underlying mty = some (.map kt et)) (h : ev e x = .v (.c (.own p))) (ho : o p = some (.mp es)) (h1 : IsV (ev e y) kv) (h2 : IsV (ev e z) xv) (hk : ok kv) (hes : ∀ e ∈ es, ok e.1) (k : WL P rest ks Q ⟨e, upd o p (some (.mp (putE kv xv es)))⟩) : WL P (⟨none, none, false, .raw (.insert mty x y z) ty⟩ :: rest) ks Q ⟨e, o⟩ :=
  R.rawN (fun _ _ hop => sound_put (.inr hop) hK hm h ho h1 h2 hk hes) k
/-- What is told of a map: as an object, as data. -/
def mapOf (o : Nat → Option Ob) : AV → Option (List (Value × Value))
  | .v (.c (.own p)) => match o p with
    | some (.mp es) => some es
    | _ => none
  | .v (.c (.d (.mp es))) => some es
  | _ => none
theorem mapOf_ok {w : World} {R : Nat → Prop} {ι : Nat → Value} {φ : Nat → List Nat} {v : Value} {b : AV} {es : List (Value × Value)} (hob : ObjsOk w R ι φ o) (hv : RA w R ι (domO o) v b) (h : mapOf o b = some es) : ∃ g c ms, v = .map (some g) ∧ w.heap[g]? = some (.map ms c) ∧ ms.toList.map pairE = es := by
  unfold mapOf at h
  split at h
  · split at h
    · rename_i p _ es' ho
      cases h
      obtain ⟨_, rfl⟩ := hv
      obtain ⟨g, c, ms, q1, _, q3, q4⟩ := hob.1 _ _ ho
      exact ⟨g, c, ms, q1, q3, q4⟩
    · cases h
  · cases h
    have hv : RD w R v (.mp es) := hv
    cases hv with
    | mp _ h he => exact ⟨_, _, _, rfl, h, he⟩
  · cases h
/-- How many keys a map has. -/
theorem R.mapLen {T kt et ty : TypeId} {es : List (Value × Value)} (hm : P.underlying T = some (.map kt et)) (h : mapOf o (ev e x) = some es) (hn : es.length ≤ 9223372036854775807) (k : WL P rest ks Q ⟨upd e d (pvA (.int .i64 es.length)), o⟩) : WL P (⟨some d, none, fr, .raw (.call ⟨.builtin .len, #[x], #[T]⟩) ty⟩ :: rest) ks Q ⟨e, o⟩ :=
  R.raw (fun q hop _ => OpS.value fun a w R ι φ hob hxs => by
    have h1 := hxs x (by simp [hop, Op.operands, Call.operands])
    obtain ⟨g, c, ms, e1, e2, e3⟩ := mapOf_ok hob h1 h
    subst e3
    refine ⟨.int .i64 (ms.toList.map pairE).length, ?_, RA.of_pv rfl (okI_len (by unfold maxLen; omega))⟩
    rw [exec_builtin hop rfl, BigFrame.builtin_len]
    simp [Builtin.len_, e1, run_underlying hm, MapKept.run_getObj_map e2, goInt, Result.andThen]) k
/-- What a map holds at a key. -/
theorem R.mapGet {mty kt et ty : TypeId} {ok : Value → Prop} {es : List (Value × Value)} {kv v : Value} (hK : KeyOk P kt ok) (hm : P.underlying mty = some (.map kt et)) (h : mapOf o (ev e x) = some es) (h1 : IsV (ev e y) kv) (hk : ok kv) (hes : ∀ e ∈ es, ok e.1) (hv : getE kv es = some v) (hg : goodV v = true) (k : WL P rest ks Q ⟨upd e d (pvA v), o⟩) : WL P (⟨some d, none, fr, .raw (.lookup mty x y false) ty⟩ :: rest) ks Q ⟨e, o⟩ :=
  R.raw (fun q hop _ => OpS.value fun a w R ι φ hob hxs => by
    have h2 := hxs x (by simp [hop, Op.operands])
    have e4 := h1 _ _ _ _ _ (hxs y (by simp [hop, Op.operands]))
    obtain ⟨g, c, ms, e1, e2, e3⟩ := mapOf_ok hob h2 h
    refine ⟨v, ?_, RA.of_pv (goodV_ok hg).1 (goodV_ok hg).2⟩
    unfold execOp
    rw [hop]
    simp only [e1, e4, Sem.run_bind, (run_get hK hm e2 e3 hk hes hv).1, Result.andThen_ok, Sem.run_pure]) k
theorem R.mapGet0 {mty kt et ty : TypeId} {ok : Value → Prop} {es : List (Value × Value)} {kv v : Value} (hK : KeyOk P kt ok) (hm : P.underlying mty = some (.map kt et)) (hz : ∀ w : World, (zeroValue et).run P w = .ok v w) (h : mapOf o (ev e x) = some es) (h1 : IsV (ev e y) kv) (hk : ok kv) (hes : ∀ e ∈ es, ok e.1) (hv : getE kv es = none) (hg : goodV v = true) (k : WL P rest ks Q ⟨upd e d (pvA v), o⟩) : WL P (⟨some d, none, fr, .raw (.lookup mty x y false) ty⟩ :: rest) ks Q ⟨e, o⟩ :=
  R.raw (fun q hop _ => OpS.value fun a w R ι φ hob hxs => by
    have h2 := hxs x (by simp [hop, Op.operands])
    have e4 := h1 _ _ _ _ _ (hxs y (by simp [hop, Op.operands]))
    obtain ⟨g, c, ms, e1, e2, e3⟩ := mapOf_ok hob h2 h
    refine ⟨v, ?_, RA.of_pv (goodV_ok hg).1 (goodV_ok hg).2⟩
    unfold execOp
    rw [hop]
    simp only [e1, e4, Sem.run_bind, (run_get0 hK hm hz e2 e3 hk hes hv).1, Result.andThen_ok, Sem.run_pure]) k
/-- .. a value of any kind. -/
theorem R.mapGetX {mty kt et ty : TypeId} {ok : Value → Prop} {es : List (Value × Value)} {kv v : Value} {x' : AV} (hK : KeyOk P kt ok) (hm : P.underlying mty = some (.map kt et)) (h : mapOf o (ev e x) = some es) (h1 : IsV (ev e y) kv) (hk : ok kv) (hes : ∀ e ∈ es, ok e.1) (hv : getE kv es = some v) (hx : ∀ (w : World) (R : Nat → Prop) (ι : Nat → Value) (dom : Nat → Prop), RA w R ι dom v x') (k : WL P rest ks Q ⟨upd e d x', o⟩) : WL P (⟨some d, none, fr, .raw (.lookup mty x y false) ty⟩ :: rest) ks Q ⟨e, o⟩ :=
  R.raw (fun q hop _ => OpS.value fun a w R ι φ hob hxs => by
    have h2 := hxs x (by simp [hop, Op.operands])
    have e4 := h1 _ _ _ _ _ (hxs y (by simp [hop, Op.operands]))
    obtain ⟨g, c, ms, e1, e2, e3⟩ := mapOf_ok hob h2 h
    refine ⟨v, ?_, hx _ _ _ _⟩
    unfold execOp
    rw [hop]
    simp only [e1, e4, Sem.run_bind, (run_get hK hm e2 e3 hk hes hv).1, Result.andThen_ok, Sem.run_pure]) k
/-- .. and whether it is there. -/
theorem R.mapHas {mty kt et ty : TypeId} {ok : Value → Prop} {es : List (Value × Value)} {kv v : Value} {x' : V1} (hK : KeyOk P kt ok) (hm : P.underlying mty = some (.map kt et)) (h : mapOf o (ev e x) = some es) (h1 : IsV (ev e y) kv) (hk : ok kv) (hes : ∀ e ∈ es, ok e.1) (hv : getE kv es = some v) (hx : ∀ (w : World) (R : Nat → Prop) (ι : Nat → Value) (dom : Nat → Prop), RV1 w R ι dom v x') (k : WL P rest ks Q ⟨upd e d (.tup [x', .c (.d (.pv (.bool true)))]), o⟩) : WL P (⟨some d, none, fr, .raw (.lookup mty x y true) ty⟩ :: rest) ks Q ⟨e, o⟩ :=
  R.raw (fun q hop _ => OpS.value fun a w R ι φ hob hxs => by
    have h2 := hxs x (by simp [hop, Op.operands])
    have e4 := h1 _ _ _ _ _ (hxs y (by simp [hop, Op.operands]))
    obtain ⟨g, c, ms, e1, e2, e3⟩ := mapOf_ok hob h2 h
    refine ⟨.tuple #[v, .bool true], ?_, [v, .bool true], rfl, .cons (hx _ _ _ _) (.cons (RD.pv rfl trivial) .nil)⟩
    unfold execOp
    rw [hop]
    simp only [e1, e4, Sem.run_bind, (run_get hK hm e2 e3 hk hes hv).2, Result.andThen_ok, Sem.run_pure]) k
theorem R.mapHas0 {mty kt et ty : TypeId} {ok : Value → Prop} {es : List (Value × Value)} {kv v : Value} {x' : V1} (hK : KeyOk P kt ok) (hm : P.underlying mty = some (.map kt et)) (hz : ∀ w : World, (zeroValue et).run P w = .ok v w) (h : mapOf o (ev e x) = some es) (h1 : IsV (ev e y) kv) (hk : ok kv) (hes : ∀ e ∈ es, ok e.1) (hv : getE kv es = none) (hx : ∀ (w : World) (R : Nat → Prop) (ι : Nat → Value) (dom : Nat → Prop), RV1 w R ι dom v x') (k : WL P rest ks Q ⟨upd e d (.tup [x', .c (.d (.pv (.bool false)))]), o⟩) : WL P (⟨some d, none, fr, .raw (.lookup mty x y true) ty⟩ :: rest) ks Q ⟨e, o⟩ :=
  R.raw (fun q hop _ => OpS.value fun a w R ι φ hob hxs => by
    have h2 := hxs x (by simp [hop, Op.operands])
    have e4 := h1 _ _ _ _ _ (hxs y (by simp [hop, Op.operands]))
    obtain ⟨g, c, ms, e1, e2, e3⟩ := mapOf_ok hob h2 h
    refine ⟨.tuple #[v, .bool false], ?_, [v, .bool false], rfl, .cons (hx _ _ _ _) (.cons (RD.pv rfl trivial) .nil)⟩
    unfold execOp
    rw [hop]
    simp only [e1, e4, Sem.run_bind, (run_get0 hK hm hz e2 e3 hk hes hv).2, Result.andThen_ok, Sem.run_pure]) k
end
end Go.Proofs.Ytnkfbodolbfjpaa
