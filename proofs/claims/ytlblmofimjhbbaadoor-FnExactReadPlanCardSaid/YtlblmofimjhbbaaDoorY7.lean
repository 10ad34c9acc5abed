/- The operations that only read, in words about what is known; and why the words are true. No program is named here. -/
import Derived.Test.YtlblmofimjhbbaaDoorY6
import Derived.BigRegion
namespace Go.Proofs.YtlblmofimjhbbaaDoor
open Go.RowKit
/-- What a function literal captures: data. -/
def capsD (st : St) : List Operand → Option (List D)
  | [] => some []
  | x :: xs => match ev st.env x, capsD st xs with
    | .v (.c (.d y)), some ys => some (y :: ys)
    | _, _ => none
def fieldInfo (P : Program) (T : TypeId) (f : Nat) : Option (Nat × Bool × Nat) :=
  match P.underlying T with
  | some (.struct fs) => match fs[f]? with
    | some fd => (tyInfo P fd.type).map fun x => (fd.offset, x.1, x.2)
    | none => none
  | _ => none
/-- A pointer's array: its length, the cells of an element. -/
def arrTy (P : Program) (T : TypeId) : Option (Nat × Nat) :=
  match P.underlying T with
  | some (.array len e) => if len ≤ 1 then none else (P.info? e).map fun i => (len, i.size)
  | _ => none
/-- A result, all of it taken for data. -/
def fB (objs : Nat → Option Ob) : B → Option B
  | .d x => some (.d x)
  | b => (vB objs 3 b).map .d
def fV1 (objs : Nat → Option Ob) : V1 → Option V1
  | .c b => (fB objs b).map .c
  | .agg bs => (vAll (fB objs) bs).map .agg
def fAV (objs : Nat → Option Ob) : AV → Option AV
  | .v x => (fV1 objs x).map .v
  | .tup xs => (vAll (fV1 objs) xs).map .tup
/-- A call whose callee turns nothing, its result taken for data. -/
def FCall (P : Program) (st : St) (f : Operand) (xs : List Operand) (K : AV → Prop) : Prop :=
  ∃ g caps bor args r outs r', ev st.env f = .v (.c (.d (.fn g caps))) ∧ argsC (hobOf bor [] st.objs) [] st.env xs = some args ∧ SpecM P g (args ++ caps.map fun d => .c (.d d)) [] r outs ∧
    (bor = true → r.pu = true ∧ ∀ j Y, frO outs j = some Y → Y.pu = true) ∧ fAV (frO outs) r = some r' ∧ K r'
def sliceOf (xs : List (List D)) (l h : Nat) : List (List D) := (xs.drop l).take (h - l)
/-- A bound of a slice expression. -/
def bndV (st : St) (dflt : Nat) : Option Operand → Nat → Prop
  | none, n => n = dflt
  | some x, n => ∃ k, ev st.env x = pvA (.int k n)
def isNilV : B → Option Bool
  | .d (.pv (.slice none 0 0)) => some true
  | .d (.pv (.pointer none)) => some true
  | .ptr _ _ => some false
  | .ep _ _ _ _ => some false
  | .d (.rp _) => some false
  | _ => none
def VCR (P : Program) (st : St) (o : Op) (K : AV → Prop) : Prop :=
  match o with
  | .move x => K (ev st.env x)
  | .assign x => K (ev st.env x)
  | .pick c a b => ∃ t, ev st.env c = pvA (.bool t) ∧ (t = true → K (ev st.env a)) ∧ (t = false → K (ev st.env b))
  | .load T x => ∃ b cs ag s, ev st.env x = .v (.c b) ∧ cellsAt st.objs b = some cs ∧ tyInfo P T = some (ag, s) ∧
      (ag = true → s ≤ cs.length ∧ K (.v (.agg (cs.take s)))) ∧ (ag = false → ∃ c, cs[0]? = some c ∧ K (.v (.c c)))
  | .nilCheck x => ∃ b, ev st.env x = .v (.c b) ∧ isPtr b = true ∧ K (.v (.c b))
  | .binOp op T x y _ => ∃ a b r, ev st.env x = pvA a ∧ ev st.env y = pvA b ∧ binV P T op a b = some r ∧ K (pvA r)
  | .unOp .not _ x => ∃ t, ev st.env x = pvA (.bool t) ∧ K (pvA (.bool !t))
  | .unOp .neg _ x => ∃ k n, ev st.env x = pvA (.int k n) ∧ K (pvA (.int k (k.wrap (0 - n))))
  | .fieldAddr T x f => ∃ b off b', ev st.env x = .v (.c b) ∧ fieldOff P T f = some off ∧ addOff b off = some b' ∧ K (.v (.c b'))
  | .field T x f => ∃ cs off ag s, ev st.env x = .v (.agg cs) ∧ fieldInfo P T f = some (off, ag, s) ∧
      (ag = true → K (.v (.agg ((cs.drop off).take s)))) ∧ (ag = false → ∃ c, cs[off]? = some c ∧ K (.v (.c c)))
  | .indexAddr T x i => ∃ b k n, ev st.env x = .v (.c b) ∧ ev st.env i = pvA (.int k n) ∧ 0 ≤ n ∧
      ((∃ κ κ' xs es, sliceTy P T = some κ ∧ κ'.k = κ.k ∧ b = .d (.rd κ' xs) ∧ xs[n.toNat]? = some es ∧ K (.v (.c (.d (.rp es))))) ∨
       (∃ κ o xs hs, sliceTy P T = some κ ∧ b = .own o ∧ st.objs o = some (.arr κ xs hs) ∧ n < xs.length ∧ K (.v (.c (.ep o κ.k n.toNat 0)))) ∨
       (∃ len s b', arrTy P T = some (len, s) ∧ isPtr b = true ∧ n < len ∧ addOff b (n.toNat * s) = some b' ∧ K (.v (.c b'))))
  | .index T x i => ∃ s k n b, ev st.env x = pvA (.string s) ∧ ev st.env i = pvA (.int k n) ∧ P.underlying T = some .string ∧ 0 ≤ n ∧ s[n.toNat]? = some b ∧ K (pvA (.int .u8 b.toNat))
  | .slice T x lo hi none => ∃ b l h, ev st.env x = .v (.c b) ∧ l ≤ h ∧
      ((∃ κ κ' xs, sliceTy P T = some κ ∧ κ'.k = κ.k ∧ b = .d (.rd κ' xs) ∧ h ≤ xs.length ∧ bndV st 0 lo l ∧ bndV st xs.length hi h ∧ K (.v (.c (.d (.rd κ' (sliceOf xs l h)))))) ∨
       (∃ s : ByteArray, P.underlying T = some .string ∧ b = .d (.pv (.string s)) ∧ h ≤ s.size ∧ bndV st 0 lo l ∧ bndV st s.size hi h ∧ K (pvA (.string (s.extract l h)))))
  | .convert src dst x => ∃ k n k', ev st.env x = pvA (.int k n) ∧ (P.underlying src).isSome = true ∧ P.underlying dst = some (.int k') ∧ K (pvA (.int k' (k'.wrap n)))
  | .extract x j => ∃ xs y, ev st.env x = .tup xs ∧ xs[j]? = some y ∧ K (.v y)
  | .makeFunc fn first caps => ∃ g ds, fn = .func g ∧ first.toList = [] ∧ capsD st caps.toList = some ds ∧ K (.v (.c (.d (.fn g ds))))
  | .call c => match c.callee with
    | .builtin .len => ∃ x T b, c.args.toList = [x] ∧ c.argTypes.toList = [T] ∧ ev st.env x = .v (.c b) ∧
        ((∃ n, (sliceTy P T).isSome = true ∧ lenOf st.objs b = some n ∧ K (pvA (.int .i64 n))) ∨ (∃ s, b = .d (.pv (.string s)) ∧ P.underlying T = some .string ∧ K (pvA (.int .i64 s.size))))
    | .builtin .max => ∃ x y k m n, c.args.toList = [x, y] ∧ ev st.env x = pvA (.int k m) ∧ ev st.env y = pvA (.int k n) ∧ K (pvA (.int k (if n > m then n else m)))
    | .builtin .min => ∃ x y k m n, c.args.toList = [x, y] ∧ ev st.env x = pvA (.int k m) ∧ ev st.env y = pvA (.int k n) ∧ K (pvA (.int k (if n < m then n else m)))
    | .value f => FCall P st f c.args.toList K
    | _ => False
  | _ => False
/-- An operation gives x, whatever the world: what it reads is known, what it makes is new. -/
def OpS (P : Program) (st : St) (o : Oper) (x : AV) : Prop :=
  ∀ (a : Act) (w : World) (R : Nat → Prop) (ι : Nat → Value) (φ : Nat → List Nat), (∀ b, R b → b < w.heap.size) → ObjsOk w R ι φ st.objs → (∀ y ∈ o.op.operands.toList, RA w R ι st.dom (a.eval y) (ev st.env y)) →
    ∀ (K : Act → World → Prop) (Q : Exit → Act → World → Prop), (∀ v w' (R' : Nat → Prop), Below w.heap.size w w' → (∀ b, R b → R' b) → (∀ b, R' b → b < w'.heap.size) → (∀ b, R' b → b < w.heap.size → R b) → RA w' R' ι st.dom v x → K (a.put o.dst v) w') → o.wp P a w K Q
section
variable {P : Program} {st : St} {o : Oper}
theorem OpS.value {x : AV} (h : ∀ (a : Act) (w : World) (R : Nat → Prop) (ι : Nat → Value) (φ : Nat → List Nat), ObjsOk w R ι φ st.objs → (∀ y ∈ o.op.operands.toList, RA w R ι st.dom (a.eval y) (ev st.env y)) →
    ∃ v, (execOp a.eval o).run P w = .ok (.value v) w ∧ RA w R ι st.dom v x) : OpS P st o x := by
  intro a w R ι φ hl ho hop K Q hK
  obtain ⟨v, hr, hv⟩ := h a w R ι φ ho hop
  unfold Oper.wp
  rw [hr]
  exact hK v w R (Below.refl _ _) (fun _ h => h) hl (fun _ h _ => h) hv
theorem RA.pv {w : World} {R : Nat → Prop} {ι : Nat → Value} {dom : Nat → Prop} {v u : Value} (h : RA w R ι dom v (pvA u)) : v = u ∧ u.oneCell' = true ∧ okI u := by
  have h : RD w R v (.pv u) := h
  cases h with
  | pv h1 h2 => exact ⟨rfl, h1, h2⟩
theorem RA.of_pv {w : World} {R : Nat → Prop} {ι : Nat → Value} {dom : Nat → Prop} {u : Value} (h : u.oneCell' = true) (hi : okI u) : RA w R ι dom u (pvA u) := RD.pv h hi
theorem okI_len {n : Nat} (h : n ≤ maxLen) : okI (.int .i64 n) := by
  unfold maxLen at h
  show (Lit.int .i64 (n : Int)).wf = true
  rw [wf_iff]
  simp [IntKind.min, IntKind.max, IntKind.signed, IntKind.bits]
  omega
theorem add_at (b off n : Nat) : (⟨b, off, none⟩ : Addr).add n = ⟨b, off + n, none⟩ := Addr.add_lit b off n
end
section
variable {P : Program} {st : St} {o : Oper}
theorem OpS.mono {x : AV} (h : OpS P st o x) {y : AV} (e : x = y) : OpS P st o y := e ▸ h
theorem sound_move {x : Operand} (hop : o.op = .move x) : OpS P st o (ev st.env x) :=
  OpS.value fun a w R ι φ _ hx => ⟨a.eval x, BigFrame.run_move x hop w, hx x (by simp [hop, Op.operands])⟩
theorem sound_assign {x : Operand} (hop : o.op = .assign x) : OpS P st o (ev st.env x) :=
  OpS.value fun a w R ι φ _ hx => ⟨a.eval x, BigFrame.run_assign x hop w, hx x (by simp [hop, Op.operands])⟩
theorem sound_pick {c x y : Operand} {t : Bool} (hop : o.op = .pick c x y) (hc : ev st.env c = pvA (.bool t)) : OpS P st o (if t then ev st.env x else ev st.env y) :=
  OpS.value fun a w R ι φ _ hx => by
    have h1 := hx c (by simp [hop, Op.operands])
    have h2 := hx x (by simp [hop, Op.operands])
    have h3 := hx y (by simp [hop, Op.operands])
    rw [hc] at h1
    obtain ⟨e, _⟩ := RA.pv h1
    refine ⟨if t then a.eval x else a.eval y, ?_, by cases t <;> assumption⟩
    unfold execOp
    rw [hop]
    simp only [e, asBool, Sem.run_bind, Sem.run_pure, Result.andThen_ok]
theorem run_loadAt {w : World} {T : TypeId} {g off s : Nat} {ag : Bool} {us : List Value} (hT : tyInfo P T = some (ag, s)) (hc : ∀ (j : Nat) (u : Value), us[j]? = some u → w.cell? ⟨g, off + j, none⟩ = some u) :
    (ag = true → s ≤ us.length → (Instr.loadAt T (.pointer (some ⟨g, off, none⟩))).run P w = .ok (.agg (us.take s).toArray) w) ∧
    (ag = false → ∀ u, us[0]? = some u → (Instr.loadAt T (.pointer (some ⟨g, off, none⟩))).run P w = .ok u w) := by
  obtain ⟨h1, h2⟩ := run_tyInfo (w := w) hT
  constructor
  · rintro rfl hs
    have hl := run_loadCells_list (P := P) w ⟨g, off, none⟩ (us.take s) (fun j u hu => by
      rw [add_at]
      refine hc j u ?_
      rw [List.getElem?_take] at hu
      split at hu
      · exact hu
      · cases hu)
    rw [List.length_take, Nat.min_eq_left hs] at hl
    simp only [Instr.loadAt, Instr.sureAddr, loadVar, Sem.run_bind, Sem.run_pure, Result.andThen_ok, h1, if_true, h2, hl]
  · rintro rfl u hu
    have := hc 0 u hu
    simp only [Nat.add_zero] at this
    simp only [Instr.loadAt, Instr.sureAddr, loadVar, Sem.run_bind, Sem.run_pure, Result.andThen_ok, h1, Bool.false_eq_true, if_false, run_load, this]
theorem sound_load {T : TypeId} {x : Operand} {b : B} {cs : List B} {ag : Bool} {s : Nat} (hop : o.op = .load T x) (hx : ev st.env x = .v (.c b)) (hc : cellsAt st.objs b = some cs) (hT : tyInfo P T = some (ag, s)) :
    (ag = true → s ≤ cs.length → OpS P st o (.v (.agg (cs.take s)))) ∧ (ag = false → ∀ c, cs[0]? = some c → OpS P st o (.v (.c c))) := by
  have main : ∀ (a : Act) (w : World) (R : Nat → Prop) (ι : Nat → Value) (φ : Nat → List Nat), ObjsOk w R ι φ st.objs → (∀ y ∈ o.op.operands.toList, RA w R ι st.dom (a.eval y) (ev st.env y)) →
      ∃ g off us, a.eval x = .pointer (some ⟨g, off, none⟩) ∧ F2 (RB w R ι st.dom) us cs ∧ ∀ (j : Nat) (u : Value), us[j]? = some u → w.cell? ⟨g, off + j, none⟩ = some u := fun a w R ι φ ho hxs => by
    have h1 := hxs x (by simp [hop, Op.operands])
    rw [hx] at h1
    exact cellsAt_ok ho.1 h1 hc
  constructor
  · intro hag hs
    refine OpS.value fun a w R ι φ ho hxs => ?_
    obtain ⟨g, off, us, h1, h2, h3⟩ := main a w R ι φ ho hxs
    refine ⟨.agg (us.take s).toArray, ?_, us.take s, rfl, h2.take s⟩
    unfold execOp
    rw [hop]
    simp only [h1, Sem.run_bind, (run_loadAt hT h3).1 hag (by rw [h2.len]; exact hs), Result.andThen_ok, Sem.run_pure]
  · intro hag c hc0
    refine OpS.value fun a w R ι φ ho hxs => ?_
    obtain ⟨g, off, us, h1, h2, h3⟩ := main a w R ι φ ho hxs
    obtain ⟨u, hu, hr⟩ := h2.get hc0
    refine ⟨u, ?_, hr⟩
    unfold execOp
    rw [hop]
    simp only [h1, Sem.run_bind, (run_loadAt hT h3).2 hag u hu, Result.andThen_ok, Sem.run_pure]
theorem sound_nilCheck {x : Operand} {b : B} (hop : o.op = .nilCheck x) (hx : ev st.env x = .v (.c b)) (hb : isPtr b = true) : OpS P st o (.v (.c b)) :=
  OpS.value fun a w R ι φ _ hxs => by
    have h1 := hxs x (by simp [hop, Op.operands])
    rw [hx] at h1
    obtain ⟨ad, h2⟩ := isPtr_ok h1 hb
    refine ⟨a.eval x, ?_, h1⟩
    unfold execOp
    rw [hop]
    simp only [h2, Sem.run_pure]
theorem sound_binOp {op : BinOp} {T T' : TypeId} {x y : Operand} {a b r : Value} (hop : o.op = .binOp op T x y T') (hx : ev st.env x = pvA a) (hy : ev st.env y = pvA b) (hr : binV P T op a b = some r) : OpS P st o (pvA r) :=
  OpS.value fun ac w R ι φ _ hxs => by
    have h1 := hxs x (by simp [hop, Op.operands])
    have h2 := hxs y (by simp [hop, Op.operands])
    rw [hx] at h1; rw [hy] at h2
    obtain ⟨e1, _, i1⟩ := RA.pv h1
    obtain ⟨e2, _, _⟩ := RA.pv h2
    obtain ⟨o1, o2⟩ := okI_binV i1 hr
    refine ⟨r, ?_, RA.of_pv o1 o2⟩
    unfold execOp
    rw [hop]
    simp only [e1, e2]
    have := run_binV (w := w) (x := x) (y := y) hr
    rw [Sem.run_bind, this]
    rfl
theorem sound_not {T : TypeId} {x : Operand} {t : Bool} (hop : o.op = .unOp .not T x) (hx : ev st.env x = pvA (.bool t)) : OpS P st o (pvA (.bool !t)) :=
  OpS.value fun a w R ι φ _ hxs => by
    have h1 := hxs x (by simp [hop, Op.operands])
    rw [hx] at h1
    obtain ⟨e1, _⟩ := RA.pv h1
    refine ⟨.bool !t, ?_, RA.of_pv rfl trivial⟩
    unfold execOp
    rw [hop]
    simp only [e1, Op.unary, Sem.run_bind, Sem.run_pure, Result.andThen_ok]
theorem sound_neg {T : TypeId} {x : Operand} {k : IntKind} {n : Int} (hop : o.op = .unOp .neg T x) (hx : ev st.env x = pvA (.int k n)) : OpS P st o (pvA (.int k (k.wrap (0 - n)))) :=
  OpS.value fun a w R ι φ _ hxs => by
    have h1 := hxs x (by simp [hop, Op.operands])
    rw [hx] at h1
    obtain ⟨e1, _⟩ := RA.pv h1
    refine ⟨.int k (k.wrap (0 - n)), ?_, RA.of_pv rfl (WideShapes.wf_wrap _ _)⟩
    unfold execOp
    rw [hop]
    simp only [e1, Op.unary, Op.intArith, Sem.run_bind, Sem.run_pure, Result.andThen_ok]
theorem sound_fieldAddr {T : TypeId} {x : Operand} {f off : Nat} {b b' : B} (hop : o.op = .fieldAddr T x f) (hx : ev st.env x = .v (.c b)) (hf : fieldOff P T f = some off) (hb : addOff b off = some b') : OpS P st o (.v (.c b')) :=
  OpS.value fun a w R ι φ _ hxs => by
    have h1 := hxs x (by simp [hop, Op.operands])
    rw [hx] at h1
    obtain ⟨g, off', e, h2⟩ := addOff_ok h1 hb
    refine ⟨_, ?_, h2⟩
    unfold execOp
    rw [hop]
    simp only [e, Sem.run_bind, run_fieldOff hf, Result.andThen_ok, Sem.run_pure]
theorem run_fieldInfo {w : World} {T : TypeId} {f off s : Nat} {ag : Bool} {us : List Value} (hf : fieldInfo P T f = some (off, ag, s)) :
    (ag = true → (Instr.field T (.agg us.toArray) f).run P w = .ok (.agg ((us.drop off).take s).toArray) w) ∧ (ag = false → ∀ u, us[off]? = some u → (Instr.field T (.agg us.toArray) f).run P w = .ok u w) := by
  unfold fieldInfo at hf
  split at hf
  · rename_i fs h1
    split at hf
    · rename_i fd h2
      cases ht : tyInfo P fd.type with
      | none => simp [ht] at hf
      | some p =>
        obtain ⟨ag', s'⟩ := p
        simp only [ht, Option.map_some, Option.some.injEq, Prod.mk.injEq] at hf
        obtain ⟨rfl, rfl, rfl⟩ := hf
        obtain ⟨r1, r2⟩ := run_tyInfo (w := w) ht
        constructor
        · rintro rfl
          simp only [Instr.field, Sem.run_bind, run_underlying h1, Result.andThen_ok, h2, asAgg, Sem.run_pure, part, r1, if_true, r2]
          congr 1
          simp [List.extract_toArray, List.take_drop]
        · rintro rfl u hu
          simp only [Instr.field, Sem.run_bind, run_underlying h1, Result.andThen_ok, h2, asAgg, Sem.run_pure, part, r1, Bool.false_eq_true, if_false, List.getElem?_toArray, hu]
    · cases hf
  · cases hf
theorem sound_field {T : TypeId} {x : Operand} {f off s : Nat} {ag : Bool} {cs : List B} (hop : o.op = .field T x f) (hx : ev st.env x = .v (.agg cs)) (hf : fieldInfo P T f = some (off, ag, s)) :
    (ag = true → OpS P st o (.v (.agg ((cs.drop off).take s)))) ∧ (ag = false → ∀ c, cs[off]? = some c → OpS P st o (.v (.c c))) := by
  constructor
  · intro hag
    refine OpS.value fun a w R ι φ _ hxs => ?_
    have h1 := hxs x (by simp [hop, Op.operands])
    rw [hx] at h1
    obtain ⟨us, e, h2⟩ := h1
    refine ⟨_, ?_, _, rfl, (h2.drop off).take s⟩
    unfold execOp
    rw [hop]
    simp only [e, Sem.run_bind, (run_fieldInfo hf).1 hag, Result.andThen_ok, Sem.run_pure]
  · intro hag c hc
    refine OpS.value fun a w R ι φ _ hxs => ?_
    have h1 := hxs x (by simp [hop, Op.operands])
    rw [hx] at h1
    obtain ⟨us, e, h2⟩ := h1
    obtain ⟨u, hu, hr⟩ := h2.get hc
    refine ⟨u, ?_, hr⟩
    unfold execOp
    rw [hop]
    simp only [e, Sem.run_bind, (run_fieldInfo hf).2 hag u hu, Result.andThen_ok, Sem.run_pure]
theorem run_indexAt' {w : World} {T : TypeId} {κ : Ky} {g off len cap : Nat} {k : IntKind} {n : Int} (hT : sliceTy P T = some κ) (h0 : 0 ≤ n) (hl : n < len) :
    (Instr.indexAt T (.slice (some ⟨g, off, none⟩) len cap) (.int k n)).run P w = .ok (.pointer (some ⟨g, off + n.toNat * κ.k, none⟩)) w := by
  obtain ⟨h1, h2⟩ := run_sliceTy hT
  have he : P.elem T = κ.e := by simp [Program.elem, h1]
  have h1' : P.underlying T = some (.slice (P.elem T)) := by rw [he]; exact h1
  rw [run_indexAt_slice w T _ len cap k n h1', if_pos ⟨h0, hl⟩, he]
  cases hi : P.info? κ.e with
  | none => simp [hi] at h2
  | some i =>
    simp only [hi, Option.map_some, Option.some.injEq] at h2
    rw [← h2]
    simp [sizeOf, typeInfo, hi, add_at]
theorem run_indexAtA {w : World} {T : TypeId} {len s g off : Nat} {k : IntKind} {n : Int} (hT : arrTy P T = some (len, s)) (h0 : 0 ≤ n) (hl : n < len) :
    (Instr.indexAt T (.pointer (some ⟨g, off, none⟩)) (.int k n)).run P w = .ok (.pointer (some ⟨g, off + n.toNat * s, none⟩)) w := by
  unfold arrTy at hT
  split at hT
  · rename_i len' e hu
    split at hT
    · cases hT
    · rename_i hl1
      cases hi : P.info? e with
      | none => simp [hi] at hT
      | some i =>
        simp only [hi, Option.map_some, Option.some.injEq, Prod.mk.injEq] at hT
        obtain ⟨rfl, rfl⟩ := hT
        simp [Instr.indexAt, asIntOf, run_underlying hu, Instr.sureAddr, h0, hl, sizeOf, typeInfo, hi, add_at]
  · cases hT
theorem sound_index_rd {T : TypeId} {κ κ' : Ky} (hkk : κ'.k = κ.k) {x i : Operand} {k : IntKind} {n : Int} {xs : List (List D)} {es : List D} (hop : o.op = .indexAddr T x i) (hx : ev st.env x = .v (.c (.d (.rd κ' xs)))) (hi : ev st.env i = pvA (.int k n)) (hT : sliceTy P T = some κ) (h0 : 0 ≤ n) (hes : xs[n.toNat]? = some es) :
    OpS P st o (.v (.c (.d (.rp es)))) :=
  OpS.value fun a w R ι φ _ hxs => by
    have h1 := hxs x (by simp [hop, Op.operands])
    have h2 := hxs i (by simp [hop, Op.operands])
    rw [hx] at h1; rw [hi] at h2
    obtain ⟨e2, _⟩ := RA.pv h2
    have h1 : RD w R (a.eval x) (.rd κ' xs) := h1
    have hlt : n.toNat < xs.length := by
      rcases Nat.lt_or_ge n.toNat xs.length with h | h
      · exact h
      · rw [List.getElem?_eq_none h] at hes; cases hes
    generalize hv : a.eval x = v at h1
    cases h1 with
    | nil => simp at hlt
    | rd c q0 q1 q2 hR hk hc hr =>
      rename_i b off cap
      refine ⟨.pointer (some ⟨b, off + n.toNat * κ'.k, none⟩), ?_, .rp (fun j => c n.toNat j) hR (fun j hj => ?_) (fun j d hd => hr _ es j d hes hd)⟩
      · unfold execOp
        rw [hop]
        rw [hkk]
        simp only [hv, e2, Sem.run_bind, run_indexAt' hT h0 (show n < (xs.length : Int) by omega), Result.andThen_ok, Sem.run_pure]
      · exact hc _ es j hes (by rw [← hk _ es hes]; exact hj)
theorem sound_index_own {T p : Nat} {κ : Ky} {x i : Operand} {k : IntKind} {n : Int} {xs : List (List D)} {hs : List Ho} (hop : o.op = .indexAddr T x i) (hx : ev st.env x = .v (.c (.own p))) (hob : st.objs p = some (.arr κ xs hs)) (hi : ev st.env i = pvA (.int k n)) (hT : sliceTy P T = some κ) (h0 : 0 ≤ n) (hn : n < xs.length) :
    OpS P st o (.v (.c (.ep p κ.k n.toNat 0))) :=
  OpS.value fun a w R ι φ ho hxs => by
    have h1 := hxs x (by simp [hop, Op.operands])
    have h2 := hxs i (by simp [hop, Op.operands])
    rw [hx] at h1; rw [hi] at h2
    obtain ⟨e2, _⟩ := RA.pv h2
    obtain ⟨hd, hv⟩ := h1
    obtain ⟨_, vs, S1, hown, _⟩ := ho.1 _ _ hob
    rcases hown.2 with ⟨hz, h⟩ | ⟨g, cap, cur, hι, _⟩
    · omega
    · rw [hι] at hv
      refine ⟨.pointer (some ⟨g, n.toNat * κ.k, none⟩), ?_, hd, g, xs.length, cap, hι, rfl⟩
      unfold execOp
      rw [hop]
      simp only [hv, e2, Sem.run_bind, run_indexAt' hT h0 hn, Result.andThen_ok, Sem.run_pure, Nat.zero_add]
theorem sound_index_arr {T : TypeId} {len s : Nat} {x i : Operand} {k : IntKind} {n : Int} {b b' : B} (hop : o.op = .indexAddr T x i) (hx : ev st.env x = .v (.c b)) (hi : ev st.env i = pvA (.int k n)) (hT : arrTy P T = some (len, s)) (h0 : 0 ≤ n) (hn : n < len) (hb : addOff b (n.toNat * s) = some b') :
    OpS P st o (.v (.c b')) :=
  OpS.value fun a w R ι φ ho hxs => by
    have h1 := hxs x (by simp [hop, Op.operands])
    have h2 := hxs i (by simp [hop, Op.operands])
    rw [hx] at h1; rw [hi] at h2
    obtain ⟨e2, _⟩ := RA.pv h2
    obtain ⟨g, off, e, h3⟩ := addOff_ok h1 hb
    refine ⟨_, ?_, h3⟩
    unfold execOp
    rw [hop]
    simp only [e, e2, Sem.run_bind, run_indexAtA hT h0 hn, Result.andThen_ok, Sem.run_pure]
theorem run_bnd {a : Act} {w : World} {R : Nat → Prop} {ι : Nat → Value} {dflt n y : Nat} {x : Option Operand} {code : BoundsCode} (hb : bndV st dflt x n) (hx : ∀ z, x = some z → RA w R ι st.dom (a.eval z) (ev st.env z)) (hn : n ≤ y) :
    (match x.map a.eval with | some v => Instr.sliceBound v y code | none => pure n : Sem Nat).run P w = .ok n w := by
  cases x with
  | none => rfl
  | some z =>
    obtain ⟨k, hk⟩ := hb
    have := hx z rfl
    rw [hk] at this
    obtain ⟨e, _⟩ := RA.pv this
    simp [Instr.sliceBound, e, asIntOf, hn]
theorem run_bounds {a : Act} {w : World} {R : Nat → Prop} {ι : Nat → Value} {isSlice : Bool} {len cap l h : Nat} {lo hi : Option Operand} (hl : bndV st 0 lo l) (hh : bndV st len hi h) (hlh : l ≤ h) (hhl : h ≤ len) (hc : len ≤ cap)
    (hx : ∀ z, lo = some z ∨ hi = some z → RA w R ι st.dom (a.eval z) (ev st.env z)) : (Instr.sliceBounds isSlice len cap (lo.map a.eval) (hi.map a.eval) none).run P w = .ok (l, h, cap) w := by
  have b1 : (match hi.map a.eval with | some v => Instr.sliceBound v cap (if isSlice then .sliceAcap else .sliceAlen) | none => pure h : Sem Nat).run P w = .ok h w := run_bnd hh (fun z hz => hx z (.inr hz)) (by omega)
  have b2 : (match lo.map a.eval with | some v => Instr.sliceBound v h .sliceB | none => pure l : Sem Nat).run P w = .ok l w := run_bnd hl (fun z hz => hx z (.inl hz)) hlh
  unfold Instr.sliceBounds
  cases hi with
  | none =>
    have e : h = len := hh
    subst e
    cases lo with
    | none =>
      have e : l = 0 := hl
      subst e
      simp
    | some z =>
      simp only [Option.map_some] at b2
      simp [b2]
  | some z' =>
    simp only [Option.map_some] at b1
    cases lo with
    | none =>
      have e : l = 0 := hl
      subst e
      simp [b1]
    | some z =>
      simp only [Option.map_some] at b2
      simp [b1, b2]
theorem sound_slice_rd {T : TypeId} {κ κ' : Ky} (hkk : κ'.k = κ.k) {x : Operand} {lo hi : Option Operand} {l h : Nat} {xs : List (List D)} (hop : o.op = .slice T x lo hi none) (hx : ev st.env x = .v (.c (.d (.rd κ' xs)))) (hT : sliceTy P T = some κ) (hlh : l ≤ h) (hhl : h ≤ xs.length) (hl : bndV st 0 lo l) (hh : bndV st xs.length hi h) :
    OpS P st o (.v (.c (.d (.rd κ' (sliceOf xs l h))))) :=
  OpS.value fun a w R ι φ _ hxs => by
    have h1 := hxs x (by simp [hop, Op.operands])
    have hz : ∀ z, lo = some z ∨ hi = some z → RA w R ι st.dom (a.eval z) (ev st.env z) := fun z hz => hxs z (by
      rcases hz with rfl | rfl
      · cases hi <;> simp [hop, Op.operands]
      · cases lo <;> simp [hop, Op.operands])
    rw [hx] at h1
    obtain ⟨hu, hsz⟩ := run_sliceTy hT
    have h1 : RD w R (a.eval x) (.rd κ' xs) := h1
    have hsize : (sizeOf κ.e).run P w = .ok κ.k w := by
      cases hi' : P.info? κ.e with
      | none => simp [hi'] at hsz
      | some i => simp only [hi', Option.map_some, Option.some.injEq] at hsz; simp [sizeOf, typeInfo, hi', hsz]
    have exec : ∀ ad len cap u, a.eval x = .slice ad len cap → len = xs.length → len ≤ cap → (if cap = l then ad else ad.map (·.add (l * κ.k))) = u → (execOp a.eval o).run P w = .ok (.value (.slice u (h - l) (cap - l))) w := fun ad len cap u hv hlen hcap hu' => by
      subst hlen
      have hbd := run_bounds (P := P) (a := a) (isSlice := true) (len := xs.length) (cap := cap) hl hh hlh hhl hcap hz
      unfold execOp
      rw [hop]
      simp [hv, Instr.sliceAt, Instr.slice, run_underlying hu, hbd, hsize, hu']
    have hnil : ∀ ad cap, RD w R (.slice ad (h - l) cap) (.rd κ' (sliceOf xs l h)) ∨ h - l ≠ 0 := fun ad cap => by
      by_cases h0 : h - l = 0
      · left; rw [h0]; unfold sliceOf; rw [h0, List.take_zero]; exact .nil
      · exact .inr h0
    generalize hv : a.eval x = v at h1
    cases h1 with
    | nil =>
      rename_i ad cap
      simp at hhl
      subst hhl
      obtain rfl : l = 0 := by omega
      exact ⟨_, exec _ _ _ _ hv rfl (Nat.zero_le _) rfl, show RD w R _ _ from by simpa [sliceOf] using RD.nil⟩
    | rd c q0 q1 q2 hR hk hc hr =>
      rename_i b off cap
      refine ⟨_, exec _ _ _ _ hv rfl q1 rfl, ?_⟩
      by_cases h0 : h - l = 0
      · rw [h0]; unfold sliceOf; rw [h0, List.take_zero]; exact .nil
      · have hne : ¬ cap = l := by omega
        rw [if_neg hne]
        have hlen : (sliceOf xs l h).length = h - l := by simp [sliceOf]; omega
        have hget : ∀ (i : Nat) (es : List D), (sliceOf xs l h)[i]? = some es → xs[l + i]? = some es := fun i es hi => by
          unfold sliceOf at hi
          rw [List.getElem?_take] at hi
          split at hi
          · rwa [List.getElem?_drop] at hi
          · cases hi
        have := RD.rd (W := w) (R := R) (κ := κ') (xs := sliceOf xs l h) (b := b) (off := off + l * κ'.k) (cap := cap - l) (fun i j => c (l + i) j) (by omega) (by omega) (by omega) hR (fun i es hi => hk _ es (hget i es hi))
          (fun i es j hi hj => by
            have := hc (l + i) es j (hget i es hi) hj
            rw [Nat.add_mul, ← Nat.add_assoc] at this
            exact this)
          (fun i es j d hi hd => hr _ es j d (hget i es hi) hd)
        rw [hlen] at this
        show RD w R _ _
        rw [← hkk]
        simpa [add_at] using this
theorem sound_slice_str {T : TypeId} {x : Operand} {lo hi : Option Operand} {l h : Nat} {s : ByteArray} (hop : o.op = .slice T x lo hi none) (hx : ev st.env x = pvA (.string s)) (hT : P.underlying T = some .string) (hlh : l ≤ h) (hhl : h ≤ s.size) (hl : bndV st 0 lo l) (hh : bndV st s.size hi h) :
    OpS P st o (pvA (.string (s.extract l h))) :=
  OpS.value fun a w R ι φ _ hxs => by
    have h1 := hxs x (by simp [hop, Op.operands])
    have hz : ∀ z, lo = some z ∨ hi = some z → RA w R ι st.dom (a.eval z) (ev st.env z) := fun z hz => hxs z (by
      rcases hz with rfl | rfl
      · cases hi <;> simp [hop, Op.operands]
      · cases lo <;> simp [hop, Op.operands])
    rw [hx] at h1
    obtain ⟨e1, _, hi'⟩ := RA.pv h1
    have hbd := run_bounds (P := P) (a := a) (isSlice := false) (len := s.size) (cap := s.size) hl hh hlh hhl (Nat.le_refl _) hz
    refine ⟨.string (s.extract l h), ?_, RA.of_pv rfl ?_⟩
    · unfold execOp
      rw [hop]
      simp [e1, Instr.sliceAt, Instr.slice, run_underlying hT, hbd]
    · have hi' : s.size ≤ maxLen := hi'
      show (s.extract l h).size ≤ maxLen
      rw [ByteArray.size_extract]
      omega
theorem sound_index {T : TypeId} {x i : Operand} {k : IntKind} {n : Int} {s : ByteArray} {b : UInt8} (hop : o.op = .index T x i) (hx : ev st.env x = pvA (.string s)) (hi : ev st.env i = pvA (.int k n)) (hT : P.underlying T = some .string) (h0 : 0 ≤ n) (hb : s[n.toNat]? = some b) : OpS P st o (pvA (.int .u8 b.toNat)) :=
  OpS.value fun a w R ι φ ho hxs => by
    have h1 := hxs x (by simp [hop, Op.operands])
    have h2 := hxs i (by simp [hop, Op.operands])
    rw [hx] at h1; rw [hi] at h2
    obtain ⟨e1, _⟩ := RA.pv h1
    obtain ⟨e2, _⟩ := RA.pv h2
    refine ⟨.int .u8 b.toNat, ?_, RA.of_pv rfl ?_⟩
    · unfold execOp
      rw [hop]
      simp only [e1, e2, Instr.index, asIntOf, Sem.run_bind, Sem.run_pure, Result.andThen_ok, run_underlying hT, if_pos h0, hb]
    · show (Lit.int .u8 (b.toNat : Int)).wf = true
      rw [wf_iff]
      have := b.toNat_lt
      simp [IntKind.min, IntKind.max, IntKind.signed, IntKind.bits]
      omega
theorem sound_convert {src dst : TypeId} {x : Operand} {k k' : IntKind} {n : Int} (hop : o.op = .convert src dst x) (hx : ev st.env x = pvA (.int k n)) (hs : (P.underlying src).isSome = true) (hd : P.underlying dst = some (.int k')) : OpS P st o (pvA (.int k' (k'.wrap n))) :=
  OpS.value fun a w R ι φ ho hxs => by
    have h1 := hxs x (by simp [hop, Op.operands])
    rw [hx] at h1
    obtain ⟨e1, _⟩ := RA.pv h1
    refine ⟨.int k' (k'.wrap n), ?_, RA.of_pv rfl (WideShapes.wf_wrap _ _)⟩
    unfold execOp
    rw [hop]
    have hk : P.intKind dst = k' := by simp [Program.intKind, hd]
    have := run_convert_int (P := P) w src dst k n hs (by rw [hk]; exact hd)
    rw [hk] at this
    simp only [e1, Sem.run_bind, this, Result.andThen_ok, Sem.run_pure]
theorem sound_extract {x : Operand} {j : Nat} {xs : List V1} {y : V1} (hop : o.op = .extract x j) (hx : ev st.env x = .tup xs) (hy : xs[j]? = some y) : OpS P st o (.v y) :=
  OpS.value fun a w R ι φ ho hxs => by
    have h1 := hxs x (by simp [hop, Op.operands])
    rw [hx] at h1
    obtain ⟨vs, e1, h2⟩ := h1
    obtain ⟨u, hu, hr⟩ := h2.get hy
    refine ⟨u, ?_, hr⟩
    unfold execOp
    rw [hop]
    simp only [e1, Instr.extract, List.getElem?_toArray, hu, Sem.run_bind, Sem.run_pure, Result.andThen_ok]
theorem exec_builtin {ρ : Operand → Value} {c : Call} {b : Builtin} (hop : o.op = .call c) (hc : c.callee = .builtin b) : execOp ρ o = builtin b c.argTypes o.type (c.args.map fun | .const _ => true | _ => false) (c.args.map ρ) := by
  obtain ⟨dst, op, ty, pos, after, guard⟩ := o
  obtain ⟨cal, args, tys⟩ := c
  simp only at hop hc
  subst hop; subst hc
  rfl
theorem arr_of {α : Type} {a : Array α} {l : List α} (h : a.toList = l) : a = l.toArray := by rw [← h]
theorem sound_len {c : Call} {x : Operand} {T : TypeId} {b : B} {n : Nat} (hop : o.op = .call c) (hc : c.callee = .builtin .len) (ha : c.args.toList = [x]) (ht : c.argTypes.toList = [T]) (hx : ev st.env x = .v (.c b)) (hT : (sliceTy P T).isSome = true) (hl : lenOf st.objs b = some n) : OpS P st o (pvA (.int .i64 n)) :=
  OpS.value fun a w R ι φ ho hxs => by
    have h1 := hxs x (by simp [hop, Op.operands, Call.operands, hc, ha])
    rw [hx] at h1
    obtain ⟨ad, cap, e, hn⟩ := lenOf_ok ho.1 h1 hl
    refine ⟨.int .i64 n, ?_, RA.of_pv rfl (okI_len hn)⟩
    obtain ⟨p, hp⟩ := Option.isSome_iff_exists.1 hT
    have hu := (run_sliceTy hp).1
    have he : P.elem T = p.e := by simp [Program.elem, hu]
    rw [exec_builtin hop hc, BigFrame.builtin_len, arr_of ha, arr_of ht]
    simp only [List.map_toArray, List.map_cons, List.map_nil, e, Sem.run_bind]
    rw [show ([T].toArray : Array TypeId) = #[T] from rfl, show ([Value.slice ad n cap].toArray : Array Value) = #[Value.slice ad n cap] from rfl, run_len_slice w T _ ad n cap (by rw [he]; exact hu)]
    rfl
theorem sound_lenS {c : Call} {x : Operand} {T : TypeId} {s : ByteArray} (hop : o.op = .call c) (hc : c.callee = .builtin .len) (ha : c.args.toList = [x]) (ht : c.argTypes.toList = [T]) (hx : ev st.env x = pvA (.string s)) (hT : P.underlying T = some .string) : OpS P st o (pvA (.int .i64 s.size)) :=
  OpS.value fun a w R ι φ ho hxs => by
    have h1 := hxs x (by simp [hop, Op.operands, Call.operands, hc, ha])
    rw [hx] at h1
    obtain ⟨e, _, hi⟩ := RA.pv h1
    refine ⟨.int .i64 s.size, ?_, RA.of_pv rfl (okI_len hi)⟩
    rw [exec_builtin hop hc, BigFrame.builtin_len, arr_of ha, arr_of ht]
    simp [Builtin.len_, e, run_underlying hT, goInt]
theorem sound_max {c : Call} {x y : Operand} {k : IntKind} {m n : Int} (hop : o.op = .call c) (hc : c.callee = .builtin .max) (ha : c.args.toList = [x, y]) (hx : ev st.env x = pvA (.int k m)) (hy : ev st.env y = pvA (.int k n)) : OpS P st o (pvA (.int k (if n > m then n else m))) :=
  OpS.value fun a w R ι φ ho hxs => by
    have h1 := hxs x (by simp [hop, Op.operands, Call.operands, hc, ha])
    have h2 := hxs y (by simp [hop, Op.operands, Call.operands, hc, ha])
    rw [hx] at h1; rw [hy] at h2
    obtain ⟨e1, _, i1⟩ := RA.pv h1
    obtain ⟨e2, _, i2⟩ := RA.pv h2
    refine ⟨.int k (if n > m then n else m), ?_, RA.of_pv rfl (by split <;> assumption)⟩
    rw [exec_builtin hop hc, BigFrame.builtin_max, arr_of ha]
    simp [Builtin.max_, Builtin.max2, e1, e2]
theorem sound_min {c : Call} {x y : Operand} {k : IntKind} {m n : Int} (hop : o.op = .call c) (hc : c.callee = .builtin .min) (ha : c.args.toList = [x, y]) (hx : ev st.env x = pvA (.int k m)) (hy : ev st.env y = pvA (.int k n)) : OpS P st o (pvA (.int k (if n < m then n else m))) :=
  OpS.value fun a w R ι φ ho hxs => by
    have h1 := hxs x (by simp [hop, Op.operands, Call.operands, hc, ha])
    have h2 := hxs y (by simp [hop, Op.operands, Call.operands, hc, ha])
    rw [hx] at h1; rw [hy] at h2
    obtain ⟨e1, _, i1⟩ := RA.pv h1
    obtain ⟨e2, _, i2⟩ := RA.pv h2
    refine ⟨.int k (if n < m then n else m), ?_, RA.of_pv rfl (by split <;> assumption)⟩
    rw [exec_builtin hop hc, BigFrame.builtin_min, arr_of ha]
    simp [Builtin.min_, Builtin.min2, e1, e2]
theorem F2.toArray_append {α β : Type} {r : α → β → Prop} {as as' : List α} {bs bs' : List β} (h : F2 r as bs) (h' : F2 r as' bs') : F2 r (as ++ as') (bs ++ bs') := h.append h'
theorem fB_ok {w : World} {R : Nat → Prop} {ι : Nat → Value} {φ : Nat → List Nat} {objs : Nat → Option Ob} {dom dom' : Nat → Prop} (ho : ∀ p y, objs p = some y → RO w R ι dom (ι p) (φ p) y) {ι' : Nat → Value} {v : Value} {b b' : B} (h : RB w R ι dom v b) (e : fB objs b = some b') : RB w (Seen R φ objs) ι' dom' v b' := by
  unfold fB at e
  split at e
  · cases e; exact RD.keep (fun b h => .inl h) (fun _ _ => rfl) h
  · rw [Option.map_eq_some_iff] at e
    obtain ⟨d, e1, rfl⟩ := e
    exact vB_ok ho 3 h e1
theorem fV1_ok {w : World} {R : Nat → Prop} {ι : Nat → Value} {φ : Nat → List Nat} {objs : Nat → Option Ob} {dom dom' : Nat → Prop} (ho : ∀ p y, objs p = some y → RO w R ι dom (ι p) (φ p) y) {ι' : Nat → Value} {v : Value} {x x' : V1} (h : RV1 w R ι dom v x) (e : fV1 objs x = some x') : RV1 w (Seen R φ objs) ι' dom' v x' := by
  cases x with
  | c b =>
    simp only [fV1, Option.map_eq_some_iff] at e
    obtain ⟨b', e1, rfl⟩ := e
    exact fB_ok ho h e1
  | agg bs =>
    simp only [fV1, Option.map_eq_some_iff] at e
    obtain ⟨bs', e1, rfl⟩ := e
    obtain ⟨vs, h1, h2⟩ := h
    exact ⟨vs, h1, vAll_ok (f := fB objs) (r' := RB w R ι dom) (r := RB w (Seen R φ objs) ι' dom') (fun _ _ _ h e => fB_ok ho h e) h2 e1⟩
theorem fAV_ok {w : World} {R : Nat → Prop} {ι : Nat → Value} {φ : Nat → List Nat} {objs : Nat → Option Ob} {dom dom' : Nat → Prop} (ho : ∀ p y, objs p = some y → RO w R ι dom (ι p) (φ p) y) {ι' : Nat → Value} {v : Value} {x x' : AV} (h : RA w R ι dom v x) (e : fAV objs x = some x') : RA w (Seen R φ objs) ι' dom' v x' := by
  cases x with
  | v x =>
    simp only [fAV, Option.map_eq_some_iff] at e
    obtain ⟨b', e1, rfl⟩ := e
    exact fV1_ok ho h e1
  | tup bs =>
    simp only [fAV, Option.map_eq_some_iff] at e
    obtain ⟨bs', e1, rfl⟩ := e
    obtain ⟨vs, h1, h2⟩ := h
    exact ⟨vs, h1, vAll_ok (f := fV1 objs) (r' := RV1 w R ι dom) (r := RV1 w (Seen R φ objs) ι' dom') (fun _ _ _ h e => fV1_ok ho h e) h2 e1⟩
/-- Plain data is the same whatever may be read. -/
theorem fAV_pu {w : World} {R R' : Nat → Prop} {ι ι' : Nat → Value} {dom dom' : Nat → Prop} {v : Value} {x : AV} (h : RA w R ι dom v x) (hp : x.pu = true) (hd : ∀ o, dom o → dom' o ∧ ι' o = ι o) : RA w R' ι' dom' v x := by
  have := RA.ren (σ := id) (R' := R') (ι' := ι') (dom' := dom') (fun j hj => hd j hj) (.inr hp) h
  have e : ∀ b : B, b.ren id = b := fun b => by cases b <;> rfl
  have e1 : ∀ y : V1, y.ren id = y := fun y => by
    cases y with
    | c b => simp [V1.ren, e]
    | agg bs => simp only [V1.ren]; congr 1; rw [show B.ren id = id from funext e, List.map_id]
  have e2 : x.ren id = x := by
    cases x with
    | v y => simp [AV.ren, e1]
    | tup ys => simp only [AV.ren]; congr 1; rw [show V1.ren id = id from funext e1, List.map_id]
  rwa [e2] at this
theorem call_args {w : World} {R : Nat → Prop} {ι : Nat → Value} {φ : Nat → List Nat} {a : Act} {c : Call} {f : Operand} {caps : List D} {ρ : List (Nat × Nat)} {bor : Bool} {args : List V1} {domc : Nat → Prop} {us : List Value} (hop : o.op = .call c) (hc : c.callee = .value f) (hn : (ρ.map (·.2)).Nodup) (hd : ∀ i p, look2 ρ i = some p → domc i) (ho : ∀ p y, hobOf bor ρ st.objs p = some y → RO w R ι st.dom (ι p) (φ p) y)
    (hxs : ∀ y ∈ o.op.operands.toList, RA w R ι st.dom (a.eval y) (ev st.env y)) (ha : argsC (hobOf bor ρ st.objs) ρ st.env c.args.toList = some args) (hlen : us.length = caps.length) (hr : ∀ (j : Nat) (v : Value) (d : D), us[j]? = some v → caps[j]? = some d → RD w R v d) :
    F2 (RV1 w (Seen R φ (hobOf bor ρ st.objs)) (ιC ρ ι) domc) (c.args.toList.map a.eval ++ us) (args ++ caps.map fun d => .c (.d d)) := by
  have hmem : ∀ y ∈ c.args.toList, y ∈ o.op.operands.toList := fun y hy => by simp only [hop, Op.operands, Call.operands, hc]; simp; right; simpa using hy
  refine (argsC_ok hn hd ho (fun y hy => hxs y (hmem y hy)) ha).append (F2.of_get (by simpa using hlen) fun i u d hu hd' => ?_)
  rw [List.getElem?_map] at hd'
  cases hcd : caps[i]? with
  | none => simp [hcd] at hd'
  | some x =>
    simp only [hcd, Option.map_some, Option.some.injEq] at hd'
    subst hd'
    exact RD.keep (fun b h => .inl h) (fun _ _ => rfl) (hr i u x hu hcd)
theorem run_call_op {a : Act} {w : World} {c : Call} {f : Operand} {g : FuncId} {us : List Value} (hop : o.op = .call c) (hc : c.callee = .value f) (hv : a.eval f = .func (.func g) #[] us.toArray) (henter : ∀ (vs : Array Value) (w : World), (callFunc g vs).run P w = .ok (.enter g vs) w) :
    (execOp a.eval o).run P w = .ok (.enter g (c.args.toList.map a.eval ++ us).toArray) w := by
  have : execOp a.eval o = (do let d ← resolve a.eval c o.type; invoke d.target d.args) := by unfold execOp; rw [hop]
  rw [this]
  simp only [resolve, hc, hv, Deferred.ofValue, Sem.run_bind, Sem.run_pure, Result.andThen_ok, invoke]
  rw [henter]
  congr 2
  apply Array.ext'
  simp
theorem sound_fcall {c : Call} {f : Operand} {g : FuncId} {caps : List D} {bor : Bool} {args : List V1} {r r' : AV} {outs : List (Nat × Ob)} (hop : o.op = .call c) (hc : c.callee = .value f) (hf : ev st.env f = .v (.c (.d (.fn g caps)))) (ha : argsC (hobOf bor [] st.objs) [] st.env c.args.toList = some args)
    (hs : SpecM P g (args ++ caps.map fun d => .c (.d d)) [] r outs) (hp : bor = true → r.pu = true ∧ ∀ j Y, frO outs j = some Y → Y.pu = true) (hr' : fAV (frO outs) r = some r') : OpS P st o r' := by
  intro a w R ι φ hl ho hxs K Q hK
  have h1 := hxs f (by simp [hop, Op.operands, Call.operands, hc])
  rw [hf] at h1
  have h1 : RD w R (a.eval f) (.fn g caps) := h1
  generalize hv : a.eval f = v at h1
  cases h1 with
  | fn hlen hr =>
    rename_i us
    obtain ⟨pre1, pre2, pre3, pre4⟩ := call_pre (ρ := []) (bor := bor) (ins := []) ho hl .nil .nil rfl
    have hA := call_args (a := a) (domc := domO (frO [])) hop hc (ρ := []) .nil pre3 pre2 hxs ha hlen hr
    obtain ⟨henter, hcall⟩ := hs
    unfold Oper.wp
    rw [run_call_op hop hc hv henter, Oper.upon_enter]
    refine (hcall w _ _ _ _ pre1 hA pre4).mono fun e w' => ?_
    rintro ⟨u, rfl, R1, ι1, φ1, hbel, hsub, hlt, hold, hra, hok, hfp, hpin⟩
    have nofp : ∀ g, ¬ fpO (φC [] φ) (frO []) g := fun g ⟨o, x, h, _⟩ => by cases h
    have hbel' : Below w.heap.size w w' := hbel.below nofp
    have hseen := fAV_ok (ι' := ι) (dom' := st.dom) hok.1 hra hr'
    -- what may be read from here on
    let R2 : Nat → Prop := fun b => R b ∨ (Seen R1 φ1 (frO outs) b ∧ w.heap.size ≤ b)
    have hfr : ∀ b, fpO φ1 (frO outs) b → w.heap.size ≤ b ∧ b < w'.heap.size := fun b hb => ⟨(hfp b hb).elim (fun h => absurd h (nofp b)) id, by obtain ⟨o, x, h1, h2⟩ := hb; exact (hok.2.1 o x h1 b h2).2⟩
    refine hK u w' R2 hbel' (fun b h => .inl h) ?_ ?_ ?_
    · rintro b (h | ⟨h | h, _⟩)
      · exact Nat.lt_of_lt_of_le (hl b h) hbel.size
      · exact hlt b h
      · exact (hfr b h).2
    · rintro b (h | ⟨_, h⟩) hlt'
      · exact h
      · omega
    · cases bor with
      | false =>
        refine RA.keep (fun b hb => ?_) (fun _ _ => rfl) (fun _ h => h) (fun _ _ => rfl) hseen
        rcases Nat.lt_or_ge b w.heap.size with hb' | hb'
        · rcases hb with h | h
          · rcases hold b h hb' with (h2 | ⟨o, x, h2, _⟩) | h2
            · exact .inl h2
            · cases h2
            · exact absurd h2 (nofp b)
          · have := (hfr b h).1; omega
        · exact .inr ⟨hb, hb'⟩
      | true =>
        obtain ⟨hp1, hp2⟩ := hp rfl
        -- the objects hold plain data: their blocks are new
        have hnew : RA w' (Seen (fun _ => False) φ1 (frO outs)) ι st.dom u r' := by
          have hro : ∀ p y, frO outs p = some y → RO w' (fun _ => False) ι1 (domO (frO outs)) (ι1 p) (φ1 p) y := fun p y h => by
            have h1 := hok.1 p y h
            have := RO.ren (σ := id) (R' := fun _ => False) (ι' := ι1) (dom' := domO (frO outs)) (fun j hj => ⟨hj, rfl⟩) (.inr (hp2 p y h)) h1
            have e : ∀ b : B, b.ren id = b := fun b => by cases b <;> rfl
            have e2 : y.ren id = y := by
              cases y with
              | box T cs => simp only [Ob.ren]; congr 1; rw [show B.ren id = id from funext e, List.map_id]
              | mp es => rfl
              | val b => rfl
              | arr κ xs hs => simp only [Ob.ren]; congr 1; rw [show Ho.ren id = id from funext fun h => by cases h; simp [Ho.ren], List.map_id]
            rwa [e2] at this
          exact fAV_ok hro (fAV_pu (R' := fun _ => False) hra hp1 fun o h => ⟨h, rfl⟩) hr'
        refine RA.keep (fun b hb => ?_) (fun _ _ => rfl) (fun _ h => h) (fun _ _ => rfl) hnew
        rcases hb with h | h
        · exact h.elim
        · exact .inr ⟨.inr h, (hfr b h).1⟩
theorem capsD_ok {w : World} {R : Nat → Prop} {ι : Nat → Value} {a : Act} : ∀ {xs : List Operand} {ds : List D}, (∀ y ∈ xs, RA w R ι st.dom (a.eval y) (ev st.env y)) → capsD st xs = some ds → (xs.map a.eval).length = ds.length ∧ ∀ (j : Nat) (v : Value) (d : D), (xs.map a.eval)[j]? = some v → ds[j]? = some d → RD w R v d
  | [], ds, _, h => by cases h; exact ⟨rfl, fun j v d h => by simp at h⟩
  | x :: xs, ds, hx, h => by
    unfold capsD at h
    split at h
    · rename_i y ys h1 h2
      cases h
      obtain ⟨q1, q2⟩ := capsD_ok (fun y hy => hx y (by simp [hy])) h2
      refine ⟨by simpa using q1, fun j v d hj hd => ?_⟩
      cases j with
      | zero =>
        simp at hj hd
        subst hj hd
        have := hx x (by simp)
        rw [h1] at this
        exact this
      | succ j => exact q2 j v d (by simpa using hj) (by simpa using hd)
    · cases h
theorem sound_makeFunc {g : FuncId} {first caps : Array Operand} {ds : List D} (hop : o.op = .makeFunc (.func g) first caps) (hf : first.toList = []) (hc : capsD st caps.toList = some ds) : OpS P st o (.v (.c (.d (.fn g ds)))) :=
  OpS.value fun a w R ι φ _ hx => by
    obtain ⟨h1, h2⟩ := capsD_ok (a := a) (w := w) (R := R) (ι := ι) (xs := caps.toList) (fun y hy => hx y (by simp [hop, Op.operands, hf]; simpa using hy)) hc
    have hfe : first = #[] := by cases first; simpa using hf
    subst hfe
    refine ⟨.func (.func g) #[] (caps.toList.map a.eval).toArray, ?_, RD.fn h1 h2⟩
    unfold execOp
    rw [hop]
    simp only [Instr.makeFunc, Sem.run_bind, Sem.run_pure, Result.andThen_ok]
    simp
    congr 3
    apply Array.ext'
    simp
theorem VCR_sound {K : AV → Prop} (h : VCR P st o.op K) : ∃ x, OpS P st o x ∧ K x := by
  unfold VCR at h
  split at h
  · rename_i x hop; exact ⟨_, sound_move hop, h⟩
  · rename_i x hop; exact ⟨_, sound_assign hop, h⟩
  · rename_i c x y hop
    obtain ⟨t, hc, h1, h2⟩ := h
    refine ⟨_, sound_pick hop hc, ?_⟩
    cases t
    · exact h2 rfl
    · exact h1 rfl
  · rename_i T x hop
    obtain ⟨b, cs, ag, s, hx, hc, hT, h1, h2⟩ := h
    cases ag
    · obtain ⟨c, hc0, hk⟩ := h2 rfl
      exact ⟨_, (sound_load hop hx hc hT).2 rfl c hc0, hk⟩
    · obtain ⟨hs, hk⟩ := h1 rfl
      exact ⟨_, (sound_load hop hx hc hT).1 rfl hs, hk⟩
  · rename_i x hop
    obtain ⟨b, hx, hb, hk⟩ := h
    exact ⟨_, sound_nilCheck hop hx hb, hk⟩
  · rename_i op T x y T' hop
    obtain ⟨a, b, r, hx, hy, hr, hk⟩ := h
    exact ⟨_, sound_binOp hop hx hy hr, hk⟩
  · rename_i T x hop
    obtain ⟨t, hx, hk⟩ := h
    exact ⟨_, sound_not hop hx, hk⟩
  · rename_i T x hop
    obtain ⟨k, n, hx, hk⟩ := h
    exact ⟨_, sound_neg hop hx, hk⟩
  · rename_i T x f hop
    obtain ⟨b, off, b', hx, hf, hb, hk⟩ := h
    exact ⟨_, sound_fieldAddr hop hx hf hb, hk⟩
  · rename_i T x f hop
    obtain ⟨cs, off, ag, s, hx, hf, h1, h2⟩ := h
    cases ag
    · obtain ⟨c, hc, hk⟩ := h2 rfl
      exact ⟨_, (sound_field hop hx hf).2 rfl c hc, hk⟩
    · exact ⟨_, (sound_field hop hx hf).1 rfl, h1 rfl⟩
  · rename_i T x i hop
    obtain ⟨b, k, n, hx, hi, h0, h | h | h⟩ := h
    · obtain ⟨κ, κ', xs, es, hT, hkk, rfl, hes, hk⟩ := h
      exact ⟨_, sound_index_rd hkk hop hx hi hT h0 hes, hk⟩
    · obtain ⟨κ, p, xs, hs, hT, rfl, hob, hn, hk⟩ := h
      exact ⟨_, sound_index_own hop hx hob hi hT h0 hn, hk⟩
    · obtain ⟨len, s, b', hT, hb, hn, hb', hk⟩ := h
      exact ⟨_, sound_index_arr hop hx hi hT h0 hn hb', hk⟩
  · rename_i T x i hop
    obtain ⟨s, k, n, b, hx, hi, hT, h0, hb, hk⟩ := h
    exact ⟨_, sound_index hop hx hi hT h0 hb, hk⟩
  · rename_i T x lo hi hop
    obtain ⟨b, l, h', hx, hlh, h | h⟩ := h
    · obtain ⟨κ, κ', xs, hT, hkk, rfl, hhl, hl, hh, hk⟩ := h
      exact ⟨_, sound_slice_rd hkk hop hx hT hlh hhl hl hh, hk⟩
    · obtain ⟨s, hT, rfl, hhl, hl, hh, hk⟩ := h
      exact ⟨_, sound_slice_str hop hx hT hlh hhl hl hh, hk⟩
  · rename_i src dst x hop
    obtain ⟨k, n, k', hx, hs, hd, hk⟩ := h
    exact ⟨_, sound_convert hop hx hs hd, hk⟩
  · rename_i x j hop
    obtain ⟨xs, y, hx, hy, hk⟩ := h
    exact ⟨_, sound_extract hop hx hy, hk⟩
  · rename_i fn first caps hop
    obtain ⟨g, ds, rfl, hf, hc, hk⟩ := h
    exact ⟨_, sound_makeFunc hop hf hc, hk⟩
  · rename_i c hop
    split at h
    · rename_i hc
      obtain ⟨x, T, b, ha, ht, hx, h | h⟩ := h
      · obtain ⟨n, hT, hl, hk⟩ := h
        exact ⟨_, sound_len hop hc ha ht hx hT hl, hk⟩
      · obtain ⟨s, rfl, hT, hk⟩ := h
        exact ⟨_, sound_lenS hop hc ha ht hx hT, hk⟩
    · rename_i hc
      obtain ⟨x, y, k, m, n, ha, hx, hy, hk⟩ := h
      exact ⟨_, sound_max hop hc ha hx hy, hk⟩
    · rename_i hc
      obtain ⟨x, y, k, m, n, ha, hx, hy, hk⟩ := h
      exact ⟨_, sound_min hop hc ha hx hy, hk⟩
    · rename_i f hc
      obtain ⟨g, caps, bor, args, r, outs, r', hf, ha, hs, hp, hr, hk⟩ := h
      exact ⟨_, sound_fcall hop hc hf ha hs hp hr, hk⟩
    · exact h.elim
  · exact h.elim
end
end Go.Proofs.YtlblmofimjhbbaaDoor
