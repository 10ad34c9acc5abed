/- The operations that only read: why the words are true. No program is named here. -/
import Derived.Test.YthgdccokpgaicaaSx4
import Derived.BigRegion
namespace Go.Proofs.Ythgdccokpgaicaa
open Go.RowKit
section
variable {P : Program} {N0 : Nat} {st : St} {o : Oper}
theorem OpS.mono {x : AV} (h : OpS P N0 st o x) {y : AV} (e : x = y) : OpS P N0 st o y := e ▸ h
theorem sound_move {x : Operand} (hop : o.op = .move x) : OpS P N0 st o (ev st.env x) :=
  OpS.value fun a w R ι _ hx => ⟨a.eval x, BigFrame.run_move x hop w, hx x (by simp [hop, Op.operands])⟩
theorem sound_assign {x : Operand} (hop : o.op = .assign x) : OpS P N0 st o (ev st.env x) :=
  OpS.value fun a w R ι _ hx => ⟨a.eval x, BigFrame.run_assign x hop w, hx x (by simp [hop, Op.operands])⟩
theorem sound_pick {c x y : Operand} {t : Bool} (hop : o.op = .pick c x y) (hc : ev st.env c = pvA (.bool t)) : OpS P N0 st o (if t then ev st.env x else ev st.env y) :=
  OpS.value fun a w R ι _ hx => by
    have h1 := hx c (by simp [hop, Op.operands])
    have h2 := hx x (by simp [hop, Op.operands])
    have h3 := hx y (by simp [hop, Op.operands])
    rw [hc] at h1
    obtain ⟨e, _⟩ := RA.pv h1
    refine ⟨if t then a.eval x else a.eval y, ?_, by cases t <;> assumption⟩
    unfold execOp
    rw [hop]
    simp only [e, asBool, Sem.run_bind, Sem.run_pure, Result.andThen_ok]
theorem run_loadAt {w : World} {T : TypeId} {g off s : Nat} {ag : Bool} {us : List Value} (hT : tyInfo P T = some (ag, s)) (hc : ∀ (j : Nat) (u : Value), us[j]? = some u → w.cell? ⟨g, off + j, none⟩ = some u) :
    (ag = true → s ≤ us.length → (Instr.loadAt T (.pointer (some ⟨g, off, none⟩))).run P w = .ok (.agg (us.take s).toArray) w) ∧
    (ag = false → ∀ u, us[0]? = some u → (Instr.loadAt T (.pointer (some ⟨g, off, none⟩))).run P w = .ok u w) := by
  obtain ⟨h1, h2⟩ := run_tyInfo (w := w) hT
  constructor
  · rintro rfl hs
    have hl := run_loadCells_list (P := P) w ⟨g, off, none⟩ (us.take s) (fun j u hu => by
      rw [add_at]
      refine hc j u ?_
      rw [List.getElem?_take] at hu
      split at hu
      · exact hu
      · cases hu)
    rw [List.length_take, Nat.min_eq_left hs] at hl
    simp only [Instr.loadAt, Instr.sureAddr, loadVar, Sem.run_bind, Sem.run_pure, Result.andThen_ok, h1, if_true, h2, hl]
  · rintro rfl u hu
    have := hc 0 u hu
    simp only [Nat.add_zero] at this
    simp only [Instr.loadAt, Instr.sureAddr, loadVar, Sem.run_bind, Sem.run_pure, Result.andThen_ok, h1, Bool.false_eq_true, if_false, run_load, this]
theorem sound_load {T : TypeId} {x : Operand} {b : B} {cs : List B} {ag : Bool} {s : Nat} (hop : o.op = .load T x) (hx : ev st.env x = .v (.c b)) (hc : cellsAt st.objs b = some cs) (hT : tyInfo P T = some (ag, s)) :
    (ag = true → s ≤ cs.length → OpS P N0 st o (.v (.agg (cs.take s)))) ∧ (ag = false → ∀ c, cs[0]? = some c → OpS P N0 st o (.v (.c c))) := by
  have main : ∀ (a : Act) (w : World) (R : Nat → Prop) (ι : Nat → Value), (∀ p y, st.objs p = some y → RO N0 w R ι st.dom (ι p) y) → (∀ y ∈ o.op.operands.toList, RA w R ι st.dom (a.eval y) (ev st.env y)) →
      ∃ g off us, a.eval x = .pointer (some ⟨g, off, none⟩) ∧ F2 (RB w R ι st.dom) us cs ∧ ∀ (j : Nat) (u : Value), us[j]? = some u → w.cell? ⟨g, off + j, none⟩ = some u := fun a w R ι ho hxs => by
    have h1 := hxs x (by simp [hop, Op.operands])
    rw [hx] at h1
    exact cellsAt_ok ho h1 hc
  constructor
  · intro hag hs
    refine OpS.value fun a w R ι ho hxs => ?_
    obtain ⟨g, off, us, h1, h2, h3⟩ := main a w R ι ho hxs
    refine ⟨.agg (us.take s).toArray, ?_, us.take s, rfl, h2.take s⟩
    unfold execOp
    rw [hop]
    simp only [h1, Sem.run_bind, (run_loadAt hT h3).1 hag (by rw [h2.len]; exact hs), Result.andThen_ok, Sem.run_pure]
  · intro hag c hc0
    refine OpS.value fun a w R ι ho hxs => ?_
    obtain ⟨g, off, us, h1, h2, h3⟩ := main a w R ι ho hxs
    obtain ⟨u, hu, hr⟩ := h2.get hc0
    refine ⟨u, ?_, hr⟩
    unfold execOp
    rw [hop]
    simp only [h1, Sem.run_bind, (run_loadAt hT h3).2 hag u hu, Result.andThen_ok, Sem.run_pure]
theorem sound_nilCheck {x : Operand} {b : B} (hop : o.op = .nilCheck x) (hx : ev st.env x = .v (.c b)) (hb : isPtr b = true) : OpS P N0 st o (.v (.c b)) :=
  OpS.value fun a w R ι _ hxs => by
    have h1 := hxs x (by simp [hop, Op.operands])
    rw [hx] at h1
    obtain ⟨ad, h2⟩ := isPtr_ok h1 hb
    refine ⟨a.eval x, ?_, h1⟩
    unfold execOp
    rw [hop]
    simp only [h2, Sem.run_pure]
theorem sound_binOp {op : BinOp} {T T' : TypeId} {x y : Operand} {a b r : Value} (hop : o.op = .binOp op T x y T') (hx : ev st.env x = pvA a) (hy : ev st.env y = pvA b) (hr : binV P T op a b = some r) : OpS P N0 st o (pvA r) :=
  OpS.value fun ac w R ι _ hxs => by
    have h1 := hxs x (by simp [hop, Op.operands])
    have h2 := hxs y (by simp [hop, Op.operands])
    rw [hx] at h1; rw [hy] at h2
    obtain ⟨e1, _, i1⟩ := RA.pv h1
    obtain ⟨e2, _, _⟩ := RA.pv h2
    obtain ⟨o1, o2⟩ := okI_binV i1 hr
    refine ⟨r, ?_, RA.of_pv o1 o2⟩
    unfold execOp
    rw [hop]
    simp only [e1, e2]
    have := run_binV (w := w) (x := x) (y := y) hr
    rw [Sem.run_bind, this]
    rfl
theorem sound_not {T : TypeId} {x : Operand} {t : Bool} (hop : o.op = .unOp .not T x) (hx : ev st.env x = pvA (.bool t)) : OpS P N0 st o (pvA (.bool !t)) :=
  OpS.value fun a w R ι _ hxs => by
    have h1 := hxs x (by simp [hop, Op.operands])
    rw [hx] at h1
    obtain ⟨e1, _⟩ := RA.pv h1
    refine ⟨.bool !t, ?_, RA.of_pv rfl trivial⟩
    unfold execOp
    rw [hop]
    simp only [e1, Op.unary, Sem.run_bind, Sem.run_pure, Result.andThen_ok]
theorem sound_neg {T : TypeId} {x : Operand} {k : IntKind} {n : Int} (hop : o.op = .unOp .neg T x) (hx : ev st.env x = pvA (.int k n)) : OpS P N0 st o (pvA (.int k (k.wrap (0 - n)))) :=
  OpS.value fun a w R ι _ hxs => by
    have h1 := hxs x (by simp [hop, Op.operands])
    rw [hx] at h1
    obtain ⟨e1, _⟩ := RA.pv h1
    refine ⟨.int k (k.wrap (0 - n)), ?_, RA.of_pv rfl (WideShapes.wf_wrap _ _)⟩
    unfold execOp
    rw [hop]
    simp only [e1, Op.unary, Op.intArith, Sem.run_bind, Sem.run_pure, Result.andThen_ok]
theorem sound_fieldAddr {T : TypeId} {x : Operand} {f off : Nat} {b b' : B} (hop : o.op = .fieldAddr T x f) (hx : ev st.env x = .v (.c b)) (hf : fieldOff P T f = some off) (hb : addOff b off = some b') : OpS P N0 st o (.v (.c b')) :=
  OpS.value fun a w R ι _ hxs => by
    have h1 := hxs x (by simp [hop, Op.operands])
    rw [hx] at h1
    obtain ⟨g, off', e, h2⟩ := addOff_ok h1 hb
    refine ⟨_, ?_, h2⟩
    unfold execOp
    rw [hop]
    simp only [e, Sem.run_bind, run_fieldOff hf, Result.andThen_ok, Sem.run_pure]
theorem run_fieldInfo {w : World} {T : TypeId} {f off s : Nat} {ag : Bool} {us : List Value} (hf : fieldInfo P T f = some (off, ag, s)) :
    (ag = true → (Instr.field T (.agg us.toArray) f).run P w = .ok (.agg ((us.drop off).take s).toArray) w) ∧ (ag = false → ∀ u, us[off]? = some u → (Instr.field T (.agg us.toArray) f).run P w = .ok u w) := by
  unfold fieldInfo at hf
  split at hf
  · rename_i fs h1
    split at hf
    · rename_i fd h2
      cases ht : tyInfo P fd.type with
      | none => simp [ht] at hf
      | some p =>
        obtain ⟨ag', s'⟩ := p
        simp only [ht, Option.map_some, Option.some.injEq, Prod.mk.injEq] at hf
        obtain ⟨rfl, rfl, rfl⟩ := hf
        obtain ⟨r1, r2⟩ := run_tyInfo (w := w) ht
        constructor
        · rintro rfl
          simp only [Instr.field, Sem.run_bind, run_underlying h1, Result.andThen_ok, h2, asAgg, Sem.run_pure, part, r1, if_true, r2]
          congr 1
          simp [List.extract_toArray, List.take_drop]
        · rintro rfl u hu
          simp only [Instr.field, Sem.run_bind, run_underlying h1, Result.andThen_ok, h2, asAgg, Sem.run_pure, part, r1, Bool.false_eq_true, if_false, List.getElem?_toArray, hu]
    · cases hf
  · cases hf
theorem sound_field {T : TypeId} {x : Operand} {f off s : Nat} {ag : Bool} {cs : List B} (hop : o.op = .field T x f) (hx : ev st.env x = .v (.agg cs)) (hf : fieldInfo P T f = some (off, ag, s)) :
    (ag = true → OpS P N0 st o (.v (.agg ((cs.drop off).take s)))) ∧ (ag = false → ∀ c, cs[off]? = some c → OpS P N0 st o (.v (.c c))) := by
  constructor
  · intro hag
    refine OpS.value fun a w R ι _ hxs => ?_
    have h1 := hxs x (by simp [hop, Op.operands])
    rw [hx] at h1
    obtain ⟨us, e, h2⟩ := h1
    refine ⟨_, ?_, _, rfl, (h2.drop off).take s⟩
    unfold execOp
    rw [hop]
    simp only [e, Sem.run_bind, (run_fieldInfo hf).1 hag, Result.andThen_ok, Sem.run_pure]
  · intro hag c hc
    refine OpS.value fun a w R ι _ hxs => ?_
    have h1 := hxs x (by simp [hop, Op.operands])
    rw [hx] at h1
    obtain ⟨us, e, h2⟩ := h1
    obtain ⟨u, hu, hr⟩ := h2.get hc
    refine ⟨u, ?_, hr⟩
    unfold execOp
    rw [hop]
    simp only [e, Sem.run_bind, (run_fieldInfo hf).2 hag u hu, Result.andThen_ok, Sem.run_pure]
theorem run_indexAt' {w : World} {T e s : Nat} {g off len cap : Nat} {k : IntKind} {n : Int} (hT : sliceTy P T = some (e, s)) (h0 : 0 ≤ n) (hl : n < len) :
    (Instr.indexAt T (.slice (some ⟨g, off, none⟩) len cap) (.int k n)).run P w = .ok (.pointer (some ⟨g, off + n.toNat * s, none⟩)) w := by
  obtain ⟨h1, h2⟩ := run_sliceTy hT
  have he : P.elem T = e := by simp [Program.elem, h1]
  have h1' : P.underlying T = some (.slice (P.elem T)) := by rw [he]; exact h1
  rw [run_indexAt_slice w T _ len cap k n h1', if_pos ⟨h0, hl⟩, he]
  cases hi : P.info? e with
  | none => simp [hi] at h2
  | some i =>
    simp only [hi, Option.map_some, Option.some.injEq] at h2
    subst h2
    simp [sizeOf, typeInfo, hi, add_at]
theorem sound_index_rd {T e s : Nat} {x i : Operand} {k : IntKind} {n : Int} {xs : List (List D)} {es : List D} (hop : o.op = .indexAddr T x i) (hx : ev st.env x = .v (.c (.d (.rd s xs)))) (hi : ev st.env i = pvA (.int k n)) (hT : sliceTy P T = some (e, s)) (h0 : 0 ≤ n) (hes : xs[n.toNat]? = some es) :
    OpS P N0 st o (.v (.c (.d (.rp es)))) :=
  OpS.value fun a w R ι _ hxs => by
    have h1 := hxs x (by simp [hop, Op.operands])
    have h2 := hxs i (by simp [hop, Op.operands])
    rw [hx] at h1; rw [hi] at h2
    obtain ⟨e2, _⟩ := RA.pv h2
    have h1 : RD w R (a.eval x) (.rd s xs) := h1
    have hlt : n.toNat < xs.length := by
      rcases Nat.lt_or_ge n.toNat xs.length with h | h
      · exact h
      · rw [List.getElem?_eq_none h] at hes; cases hes
    generalize hv : a.eval x = v at h1
    cases h1 with
    | nil => simp at hlt
    | rd c q0 q1 q2 hR hk hc hr =>
      rename_i b off cap
      refine ⟨.pointer (some ⟨b, off + n.toNat * s, none⟩), ?_, .rp (fun j => c n.toNat j) hR (fun j hj => ?_) (fun j d hd => hr _ es j d hes hd)⟩
      · unfold execOp
        rw [hop]
        simp only [hv, e2, Sem.run_bind, run_indexAt' hT h0 (show n < (xs.length : Int) by omega), Result.andThen_ok, Sem.run_pure]
      · exact hc _ es j hes (by rw [← hk _ es hes]; exact hj)
theorem sound_index_own {T e e' s p : Nat} {x i : Operand} {k : IntKind} {n : Int} {xs : List (List D)} (hop : o.op = .indexAddr T x i) (hx : ev st.env x = .v (.c (.own p))) (hob : st.objs p = some (.arr e' s xs)) (hi : ev st.env i = pvA (.int k n)) (hT : sliceTy P T = some (e, s)) (h0 : 0 ≤ n) (hn : n < xs.length) :
    OpS P N0 st o (.v (.c (.ep p s n.toNat 0))) :=
  OpS.value fun a w R ι ho hxs => by
    have h1 := hxs x (by simp [hop, Op.operands])
    have h2 := hxs i (by simp [hop, Op.operands])
    rw [hx] at h1; rw [hi] at h2
    obtain ⟨e2, _⟩ := RA.pv h2
    obtain ⟨hd, hv⟩ := h1
    obtain ⟨_, vs, hown, _, _⟩ := ho _ _ hob
    rcases hown.2 with ⟨hz, h⟩ | ⟨g, cap, cur, hι, _⟩
    · omega
    · rw [hι] at hv
      refine ⟨.pointer (some ⟨g, n.toNat * s, none⟩), ?_, hd, g, xs.length, cap, hι, rfl⟩
      unfold execOp
      rw [hop]
      simp only [hv, e2, Sem.run_bind, run_indexAt' hT h0 hn, Result.andThen_ok, Sem.run_pure, Nat.zero_add]
theorem sound_index {T : TypeId} {x i : Operand} {k : IntKind} {n : Int} {s : ByteArray} {b : UInt8} (hop : o.op = .index T x i) (hx : ev st.env x = pvA (.string s)) (hi : ev st.env i = pvA (.int k n)) (hT : P.underlying T = some .string) (h0 : 0 ≤ n) (hb : s[n.toNat]? = some b) : OpS P N0 st o (pvA (.int .u8 b.toNat)) :=
  OpS.value fun a w R ι ho hxs => by
    have h1 := hxs x (by simp [hop, Op.operands])
    have h2 := hxs i (by simp [hop, Op.operands])
    rw [hx] at h1; rw [hi] at h2
    obtain ⟨e1, _⟩ := RA.pv h1
    obtain ⟨e2, _⟩ := RA.pv h2
    refine ⟨.int .u8 b.toNat, ?_, RA.of_pv rfl ?_⟩
    · unfold execOp
      rw [hop]
      simp only [e1, e2, Instr.index, asIntOf, Sem.run_bind, Sem.run_pure, Result.andThen_ok, run_underlying hT, if_pos h0, hb]
    · show (Lit.int .u8 (b.toNat : Int)).wf = true
      rw [wf_iff]
      have := b.toNat_lt
      simp [IntKind.min, IntKind.max, IntKind.signed, IntKind.bits]
      omega
theorem sound_convert {src dst : TypeId} {x : Operand} {k k' : IntKind} {n : Int} (hop : o.op = .convert src dst x) (hx : ev st.env x = pvA (.int k n)) (hs : (P.underlying src).isSome = true) (hd : P.underlying dst = some (.int k')) : OpS P N0 st o (pvA (.int k' (k'.wrap n))) :=
  OpS.value fun a w R ι ho hxs => by
    have h1 := hxs x (by simp [hop, Op.operands])
    rw [hx] at h1
    obtain ⟨e1, _⟩ := RA.pv h1
    refine ⟨.int k' (k'.wrap n), ?_, RA.of_pv rfl (WideShapes.wf_wrap _ _)⟩
    unfold execOp
    rw [hop]
    have hk : P.intKind dst = k' := by simp [Program.intKind, hd]
    have := run_convert_int (P := P) w src dst k n hs (by rw [hk]; exact hd)
    rw [hk] at this
    simp only [e1, Sem.run_bind, this, Result.andThen_ok, Sem.run_pure]
theorem sound_extract {x : Operand} {j : Nat} {xs : List V1} {y : V1} (hop : o.op = .extract x j) (hx : ev st.env x = .tup xs) (hy : xs[j]? = some y) : OpS P N0 st o (.v y) :=
  OpS.value fun a w R ι ho hxs => by
    have h1 := hxs x (by simp [hop, Op.operands])
    rw [hx] at h1
    obtain ⟨vs, e1, h2⟩ := h1
    obtain ⟨u, hu, hr⟩ := h2.get hy
    refine ⟨u, ?_, hr⟩
    unfold execOp
    rw [hop]
    simp only [e1, Instr.extract, List.getElem?_toArray, hu, Sem.run_bind, Sem.run_pure, Result.andThen_ok]
theorem exec_builtin {ρ : Operand → Value} {c : Call} {b : Builtin} (hop : o.op = .call c) (hc : c.callee = .builtin b) : execOp ρ o = builtin b c.argTypes o.type (c.args.map fun | .const _ => true | _ => false) (c.args.map ρ) := by
  obtain ⟨dst, op, ty, pos, after, guard⟩ := o
  obtain ⟨cal, args, tys⟩ := c
  simp only at hop hc
  subst hop; subst hc
  rfl
theorem arr_of {α : Type} {a : Array α} {l : List α} (h : a.toList = l) : a = l.toArray := by rw [← h]
theorem sound_len {c : Call} {x : Operand} {T : TypeId} {b : B} {n : Nat} (hop : o.op = .call c) (hc : c.callee = .builtin .len) (ha : c.args.toList = [x]) (ht : c.argTypes.toList = [T]) (hx : ev st.env x = .v (.c b)) (hT : (sliceTy P T).isSome = true) (hl : lenOf st.objs b = some n) : OpS P N0 st o (pvA (.int .i64 n)) :=
  OpS.value fun a w R ι ho hxs => by
    have h1 := hxs x (by simp [hop, Op.operands, Call.operands, hc, ha])
    rw [hx] at h1
    obtain ⟨ad, cap, e, hn⟩ := lenOf_ok ho h1 hl
    refine ⟨.int .i64 n, ?_, RA.of_pv rfl (okI_len hn)⟩
    obtain ⟨p, hp⟩ := Option.isSome_iff_exists.1 hT
    obtain ⟨e1, s⟩ := p
    have hu := (run_sliceTy hp).1
    have he : P.elem T = e1 := by simp [Program.elem, hu]
    rw [exec_builtin hop hc, BigFrame.builtin_len, arr_of ha, arr_of ht]
    simp only [List.map_toArray, List.map_cons, List.map_nil, e, Sem.run_bind]
    rw [show ([T].toArray : Array TypeId) = #[T] from rfl, show ([Value.slice ad n cap].toArray : Array Value) = #[Value.slice ad n cap] from rfl, run_len_slice w T _ ad n cap (by rw [he]; exact hu)]
    rfl
theorem sound_lenS {c : Call} {x : Operand} {T : TypeId} {s : ByteArray} (hop : o.op = .call c) (hc : c.callee = .builtin .len) (ha : c.args.toList = [x]) (ht : c.argTypes.toList = [T]) (hx : ev st.env x = pvA (.string s)) (hT : P.underlying T = some .string) : OpS P N0 st o (pvA (.int .i64 s.size)) :=
  OpS.value fun a w R ι ho hxs => by
    have h1 := hxs x (by simp [hop, Op.operands, Call.operands, hc, ha])
    rw [hx] at h1
    obtain ⟨e, _, hi⟩ := RA.pv h1
    refine ⟨.int .i64 s.size, ?_, RA.of_pv rfl (okI_len hi)⟩
    rw [exec_builtin hop hc, BigFrame.builtin_len, arr_of ha, arr_of ht]
    simp [Builtin.len_, e, run_underlying hT, goInt]
theorem sound_max {c : Call} {x y : Operand} {k : IntKind} {m n : Int} (hop : o.op = .call c) (hc : c.callee = .builtin .max) (ha : c.args.toList = [x, y]) (hx : ev st.env x = pvA (.int k m)) (hy : ev st.env y = pvA (.int k n)) : OpS P N0 st o (pvA (.int k (if n > m then n else m))) :=
  OpS.value fun a w R ι ho hxs => by
    have h1 := hxs x (by simp [hop, Op.operands, Call.operands, hc, ha])
    have h2 := hxs y (by simp [hop, Op.operands, Call.operands, hc, ha])
    rw [hx] at h1; rw [hy] at h2
    obtain ⟨e1, _, i1⟩ := RA.pv h1
    obtain ⟨e2, _, i2⟩ := RA.pv h2
    refine ⟨.int k (if n > m then n else m), ?_, RA.of_pv rfl (by split <;> assumption)⟩
    rw [exec_builtin hop hc, BigFrame.builtin_max, arr_of ha]
    simp [Builtin.max_, Builtin.max2, e1, e2]
theorem sound_min {c : Call} {x y : Operand} {k : IntKind} {m n : Int} (hop : o.op = .call c) (hc : c.callee = .builtin .min) (ha : c.args.toList = [x, y]) (hx : ev st.env x = pvA (.int k m)) (hy : ev st.env y = pvA (.int k n)) : OpS P N0 st o (pvA (.int k (if n < m then n else m))) :=
  OpS.value fun a w R ι ho hxs => by
    have h1 := hxs x (by simp [hop, Op.operands, Call.operands, hc, ha])
    have h2 := hxs y (by simp [hop, Op.operands, Call.operands, hc, ha])
    rw [hx] at h1; rw [hy] at h2
    obtain ⟨e1, _, i1⟩ := RA.pv h1
    obtain ⟨e2, _, i2⟩ := RA.pv h2
    refine ⟨.int k (if n < m then n else m), ?_, RA.of_pv rfl (by split <;> assumption)⟩
    rw [exec_builtin hop hc, BigFrame.builtin_min, arr_of ha]
    simp [Builtin.min_, Builtin.min2, e1, e2]
theorem F2.toArray_append {α β : Type} {r : α → β → Prop} {as as' : List α} {bs bs' : List β} (h : F2 r as bs) (h' : F2 r as' bs') : F2 r (as ++ as') (bs ++ bs') := h.append h'
theorem sound_call {c : Call} {f : Operand} {g : FuncId} {caps : List D} {ds : List VD} {r : RT} (hop : o.op = .call c) (hc : c.callee = .value f) (hf : ev st.env f = .v (.c (.d (.fn g caps)))) (ha : vArgs st c.args.toList = some ds) (hs : Spec P g (ds ++ caps.map .c) r) : OpS P N0 st o r.fr := by
  intro a w R ι hl ho hxs K Q hK
  have hmem : ∀ y ∈ c.args.toList, y ∈ o.op.operands.toList := fun y hy => by simp only [hop, Op.operands, Call.operands, hc]; simp; right; simpa using hy
  have h1 := hxs f (by simp [hop, Op.operands, Call.operands, hc])
  rw [hf] at h1
  have h1 : RD w R (a.eval f) (.fn g caps) := h1
  generalize hv : a.eval f = v at h1
  cases h1 with
  | fn hlen hr =>
    rename_i us
    have hF : F2 (RVD w (Seen R ι st.objs)) us (caps.map .c) := F2.of_get (by simpa using hlen) fun i u d hu hd => by
      rw [List.getElem?_map] at hd
      cases hcd : caps[i]? with
      | none => simp [hcd] at hd
      | some x =>
        simp only [hcd, Option.map_some, Option.some.injEq] at hd
        subst hd
        exact RD.keep (fun b h => .inl h) (fun _ _ => rfl) (hr i u x hu hcd)
    have hA := (vArgs_ok (a := a) ho (fun y hy => hxs y (hmem y hy)) ha).append hF
    have hseen : ∀ b, Seen R ι st.objs b → b < w.heap.size := by
      rintro b (h | ⟨p, x, hp, hb⟩)
      · exact hl b h
      · exact (RO.blk_lt hb (ho p x hp)).2.1
    obtain ⟨henter, hcall⟩ := hs
    have hrun : (execOp a.eval o).run P w = .ok (.enter g (c.args.toList.map a.eval ++ us).toArray) w := by
      have : execOp a.eval o = (do let d ← resolve a.eval c o.type; invoke d.target d.args) := by unfold execOp; rw [hop]
      rw [this]
      simp only [resolve, hc, hv, Deferred.ofValue, Sem.run_bind, Sem.run_pure, Result.andThen_ok, invoke]
      rw [henter]
      congr 2
      apply Array.ext'
      simp
    unfold Oper.wp
    rw [hrun, Oper.upon_enter]
    refine (hcall w _ _ hseen hA).mono fun e w' => ?_
    rintro ⟨u, rfl, hb, R', hR', hres⟩
    obtain ⟨R2, hs2, hn2, hra⟩ := RRT.fr (ι := ι) (dom := st.dom) hres
    refine hK u w' (fun b => R b ∨ R2 b) hb (fun b h => .inl h) ?_ ?_ (RA.keep (fun b h => .inr h) (fun _ _ => rfl) (fun _ h => h) (fun _ _ => rfl) hra)
    · rintro b (h | h)
      · exact Nat.lt_of_lt_of_le (hl b h) hb.size
      · rcases hn2 b h with h | h
        · exact (hR' b h).2
        · exact h.2
    · rintro b (h | h) hlt
      · exact h
      · rcases hn2 b h with h | h
        · have := (hR' b h).1; omega
        · omega
theorem capsD_ok {w : World} {R : Nat → Prop} {ι : Nat → Value} {a : Act} : ∀ {xs : List Operand} {ds : List D}, (∀ y ∈ xs, RA w R ι st.dom (a.eval y) (ev st.env y)) → capsD st xs = some ds → (xs.map a.eval).length = ds.length ∧ ∀ (j : Nat) (v : Value) (d : D), (xs.map a.eval)[j]? = some v → ds[j]? = some d → RD w R v d
  | [], ds, _, h => by cases h; exact ⟨rfl, fun j v d h => by simp at h⟩
  | x :: xs, ds, hx, h => by
    unfold capsD at h
    split at h
    · rename_i y ys h1 h2
      cases h
      obtain ⟨q1, q2⟩ := capsD_ok (fun y hy => hx y (by simp [hy])) h2
      refine ⟨by simpa using q1, fun j v d hj hd => ?_⟩
      cases j with
      | zero =>
        simp at hj hd
        subst hj hd
        have := hx x (by simp)
        rw [h1] at this
        exact this
      | succ j => exact q2 j v d (by simpa using hj) (by simpa using hd)
    · cases h
theorem sound_makeFunc {g : FuncId} {first caps : Array Operand} {ds : List D} (hop : o.op = .makeFunc (.func g) first caps) (hf : first.toList = []) (hc : capsD st caps.toList = some ds) : OpS P N0 st o (.v (.c (.d (.fn g ds)))) :=
  OpS.value fun a w R ι _ hx => by
    obtain ⟨h1, h2⟩ := capsD_ok (a := a) (w := w) (R := R) (ι := ι) (xs := caps.toList) (fun y hy => hx y (by simp [hop, Op.operands, hf]; simpa using hy)) hc
    have hfe : first = #[] := by cases first; simpa using hf
    subst hfe
    refine ⟨.func (.func g) #[] (caps.toList.map a.eval).toArray, ?_, RD.fn h1 h2⟩
    unfold execOp
    rw [hop]
    simp only [Instr.makeFunc, Sem.run_bind, Sem.run_pure, Result.andThen_ok]
    simp
    congr 3
    apply Array.ext'
    simp
theorem VCR_sound {K : AV → Prop} (h : VCR P st o.op K) : ∃ x, OpS P N0 st o x ∧ K x := by
  unfold VCR at h
  split at h
  · rename_i x hop; exact ⟨_, sound_move hop, h⟩
  · rename_i x hop; exact ⟨_, sound_assign hop, h⟩
  · rename_i c x y hop
    obtain ⟨t, hc, h1, h2⟩ := h
    refine ⟨_, sound_pick hop hc, ?_⟩
    cases t
    · exact h2 rfl
    · exact h1 rfl
  · rename_i T x hop
    obtain ⟨b, cs, ag, s, hx, hc, hT, h1, h2⟩ := h
    cases ag
    · obtain ⟨c, hc0, hk⟩ := h2 rfl
      exact ⟨_, (sound_load hop hx hc hT).2 rfl c hc0, hk⟩
    · obtain ⟨hs, hk⟩ := h1 rfl
      exact ⟨_, (sound_load hop hx hc hT).1 rfl hs, hk⟩
  · rename_i x hop
    obtain ⟨b, hx, hb, hk⟩ := h
    exact ⟨_, sound_nilCheck hop hx hb, hk⟩
  · rename_i op T x y T' hop
    obtain ⟨a, b, r, hx, hy, hr, hk⟩ := h
    exact ⟨_, sound_binOp hop hx hy hr, hk⟩
  · rename_i T x hop
    obtain ⟨t, hx, hk⟩ := h
    exact ⟨_, sound_not hop hx, hk⟩
  · rename_i T x hop
    obtain ⟨k, n, hx, hk⟩ := h
    exact ⟨_, sound_neg hop hx, hk⟩
  · rename_i T x f hop
    obtain ⟨b, off, b', hx, hf, hb, hk⟩ := h
    exact ⟨_, sound_fieldAddr hop hx hf hb, hk⟩
  · rename_i T x f hop
    obtain ⟨cs, off, ag, s, hx, hf, h1, h2⟩ := h
    cases ag
    · obtain ⟨c, hc, hk⟩ := h2 rfl
      exact ⟨_, (sound_field hop hx hf).2 rfl c hc, hk⟩
    · exact ⟨_, (sound_field hop hx hf).1 rfl, h1 rfl⟩
  · rename_i T x i hop
    obtain ⟨b, k, n, e, s, hx, hi, hT, h0, h | h⟩ := h
    · obtain ⟨xs, es, rfl, hes, hk⟩ := h
      exact ⟨_, sound_index_rd hop hx hi hT h0 hes, hk⟩
    · obtain ⟨p, e', xs, rfl, hob, hn, hk⟩ := h
      exact ⟨_, sound_index_own hop hx hob hi hT h0 hn, hk⟩
  · rename_i T x i hop
    obtain ⟨s, k, n, b, hx, hi, hT, h0, hb, hk⟩ := h
    exact ⟨_, sound_index hop hx hi hT h0 hb, hk⟩
  · rename_i src dst x hop
    obtain ⟨k, n, k', hx, hs, hd, hk⟩ := h
    exact ⟨_, sound_convert hop hx hs hd, hk⟩
  · rename_i x j hop
    obtain ⟨xs, y, hx, hy, hk⟩ := h
    exact ⟨_, sound_extract hop hx hy, hk⟩
  · rename_i fn first caps hop
    obtain ⟨g, ds, rfl, hf, hc, hk⟩ := h
    exact ⟨_, sound_makeFunc hop hf hc, hk⟩
  · rename_i c hop
    split at h
    · rename_i hc
      obtain ⟨x, T, b, ha, ht, hx, h | h⟩ := h
      · obtain ⟨n, hT, hl, hk⟩ := h
        exact ⟨_, sound_len hop hc ha ht hx hT hl, hk⟩
      · obtain ⟨s, rfl, hT, hk⟩ := h
        exact ⟨_, sound_lenS hop hc ha ht hx hT, hk⟩
    · rename_i hc
      obtain ⟨x, y, k, m, n, ha, hx, hy, hk⟩ := h
      exact ⟨_, sound_max hop hc ha hx hy, hk⟩
    · rename_i hc
      obtain ⟨x, y, k, m, n, ha, hx, hy, hk⟩ := h
      exact ⟨_, sound_min hop hc ha hx hy, hk⟩
    · rename_i f hc
      obtain ⟨g, caps, ds, r, hf, ha, hs, hk⟩ := h
      exact ⟨_, sound_call hop hc hf ha hs, hk⟩
    · exact h.elim
  · exact h.elim
end
end Go.Proofs.Ythgdccokpgaicaa
