/- The code with its types looked up, so that nothing of the program is left in it but the numbers of functions. No program is named here. -/
import Derived.Test.YthgdccokpgaicaaSx15
namespace Go.Proofs.Ythgdccokpgaicaa
open Go.RowKit
inductive SOp where
  | mv (x : Operand)
  | pick (c a b : Operand)
  | ld (ag : Bool) (s : Nat) (x : Operand)
  | nc (x : Operand)
  | bin (op : BinOp) (x y : Operand)
  | bbin (op : BinOp) (x y : Operand)
  | not (x : Operand)
  | neg (x : Operand)
  | fa (off : Nat) (x : Operand)
  | fld (off : Nat) (ag : Bool) (s : Nat) (x : Operand)
  | ix (s : Nat) (x i : Operand)
  | six (x i : Operand)
  | cv (k : IntKind) (x : Operand)
  | ext (x : Operand) (j : Nat)
  | len (x : Operand)
  | slen (x : Operand)
  | max (x y : Operand)
  | min (x y : Operand)
  | call (f : Operand) (xs : List Operand)
  | mkf (g : FuncId) (caps : List Operand)
  | fcal (f : Operand) (xs : List Operand)
  | al (T : TypeId) (zs : List Value)
  | box (T : TypeId) (x : Operand)
  | sto (s : Nat) (x y : Operand)
  | bld (zs : List Value) (pl : List (Nat × Nat)) (parts : List (Nat × Operand))
  | bsl (e s len : Nat) (parts : List (Nat × Operand))
  | mks (e s : Nat) (zs : List Value) (l c : Operand)
  | app (e s by' : Nat) (x y : Operand)
/-- One operation: its slot, its guard (a slot, and what it must hold), what it is. -/
structure SR where
  dst : Option Tmp
  g : Option (Nat × Bool)
  op : SOp
inductive SC where
  | skip
  | reg (l : List SR)
  | seq (a b : SC)
  | cond (c : Operand) (x y : SC)
  | block (id : Nat) (c : SC)
  | loop (c : SC)
  | exit (id : Nat)
  | ret
def rdOp (P : Program) (o : Op) : Option SOp :=
  match o with
  | .move x => some (.mv x)
  | .assign x => some (.mv x)
  | .pick c a b => some (.pick c a b)
  | .load T x => (tyInfo P T).map fun i => .ld i.1 i.2 x
  | .nilCheck x => some (.nc x)
  | .binOp op T x y _ => match P.underlying T with
    | some .bool => some (.bbin op x y)
    | some (.int _) => some (.bin op x y)
    | some .string => some (.bin op x y)
    | _ => none
  | .unOp .not _ x => some (.not x)
  | .unOp .neg _ x => some (.neg x)
  | .fieldAddr T x f => (fieldOff P T f).map fun i => .fa i x
  | .field T x f => (fieldInfo P T f).map fun i => .fld i.1 i.2.1 i.2.2 x
  | .indexAddr T x i => (sliceTy P T).map fun p => .ix p.2 x i
  | .index T x i => match P.underlying T with
    | some .string => some (.six x i)
    | _ => none
  | .convert src dst x => match P.underlying src, P.underlying dst with
    | some (.int _), some (.int k) => some (.cv k x)
    | _, _ => none
  | .extract x j => some (.ext x j)
  | .makeFunc (.func g) first caps => if first.toList.isEmpty then some (.mkf g caps.toList) else none
  | .call c => match c.callee with
    | .builtin .len => match c.args.toList, c.argTypes.toList with
      | [x], [T] => match P.underlying T with
        | some .string => some (.slen x)
        | some (.slice _) => if (sliceTy P T).isSome then some (.len x) else none
        | _ => none
      | _, _ => none
    | .builtin .max => match c.args.toList with
      | [x, y] => some (.max x y)
      | _ => none
    | .builtin .min => match c.args.toList with
      | [x, y] => some (.min x y)
      | _ => none
    | .value f => some (.call f c.args.toList)
    | _ => none
  | _ => none
def wrOp (P : Program) (o : Op) : Option SOp :=
  match o with
  | .alloc T => (zeroCells P T).map fun zs => .al T zs
  | .box T x => some (.box T x)
  | .store T x y => (tyInfo P T).map fun i => .sto i.2 x y
  | .build T parts => match zeroCells P T, placesOf P T with
    | some zs, some pl => some (.bld zs pl parts.toList)
    | _, _ => none
  | .buildSlice T len parts => match sliceInfo P T with
    | some (e, s, _, _) => if len ≤ 65536 ∧ len * s ≤ 16777216 then some (.bsl e s len parts.toList) else none
    | none => none
  | .makeSlice T l c => match sliceInfo P T with
    | some (e, s, by', zs) => if by' ≤ 65536 then some (.mks e s zs l c) else none
    | none => none
  | .call c => match c.callee with
    | .builtin .append => match c.args.toList, c.argTypes.toList with
      | [x, y], [T, T'] => if T = T' then match sliceInfo P T with
        | some (e, s, by', _) => some (.app e s by' x y)
        | none => none else none
      | _, _ => none
    | _ => rdOp P o
  | _ => rdOp P o
def sGuard (ops : List Oper) (o : Oper) : Option (Option (Nat × Bool)) :=
  match o.guard with
  | none => some none
  | some (j, want) => (gslot ops j).map fun d => some (d, want)
def sOps (P : Program) (n : Nat) (ops : List Oper) : List Oper → Option (List SR)
  | [] => some []
  | o :: rest => match sGuard ops o, wrOp P o.op, sOps P n ops rest with
    | some g, some s, some r => if okDst n o.dst then some (⟨o.dst, g, s⟩ :: r) else none
    | _, _, _ => none
def sReads (P : Program) (ops : List Oper) : Nat → List Oper → Bool
  | 0, _ => true
  | _ + 1, [] => false
  | m + 1, o :: rest => (rdOp P o.op).isSome && sReads P ops m rest
/-- How many of them only read. -/
def headReads (as : Bool) : List Oper → Nat
  | [] => 0
  | o :: rest => match o.op with
    | .assign _ => if as then headReads as rest + 1 else 0
    | .alloc _ | .box _ _ | .store _ _ _ | .build _ _ | .buildSlice _ _ _ | .makeSlice _ _ _ | .call { callee := .builtin .append, .. } => 0
    | _ => headReads as rest + 1
def mark : SOp → SOp
  | .call f xs => .fcal f xs
  | s => s
/-- The first m of them: what they make is taken for data. -/
def markL : Nat → List SR → List SR
  | m + 1, o :: l => ⟨o.dst, o.g, mark o.op⟩ :: markL m l
  | _, l => l
def strip (P : Program) (n : Nat) : Code → Option SC
  | .skip => some .skip
  | .region _ ops draw => match sOps P n ops.toList ops.toList with
    | some l => if draw then
        if sReads P ops.toList (headReads true ops.toList) ops.toList && rgOk ops.toList (headReads true ops.toList) n then some (.reg (markL (headReads true ops.toList) l))
        else if sReads P ops.toList (headReads false ops.toList) ops.toList && rgOk ops.toList (headReads false ops.toList) n then some (.reg (markL (headReads false ops.toList) l)) else none
      else some (.reg l)
    | none => none
  | .seq a b => match strip P n a, strip P n b with
    | some a, some b => some (.seq a b)
    | _, _ => none
  | .cond c x y => match strip P n x, strip P n y with
    | some x, some y => some (.cond c x y)
    | _, _ => none
  | .block id c => (strip P n c).map (.block id)
  | .loop c => (strip P n c).map .loop
  | .exit id => some (.exit id)
  | .ret => some .ret
  | _ => none
/-- The words, op by op. -/
def VS (P : Program) (st : St) (d : Option Tmp) (o : SOp) (K : AV → St → Prop) : Prop :=
  match o with
  | .mv x => K (ev st.env x) st
  | .pick c a b => ∃ t, ev st.env c = pvA (.bool t) ∧ (t = true → K (ev st.env a) st) ∧ (t = false → K (ev st.env b) st)
  | .ld ag s x => ∃ b cs, ev st.env x = .v (.c b) ∧ cellsAt st.objs b = some cs ∧ (ag = true → s ≤ cs.length ∧ K (.v (.agg (cs.take s))) st) ∧ (ag = false → ∃ c, cs[0]? = some c ∧ K (.v (.c c)) st)
  | .nc x => ∃ b, ev st.env x = .v (.c b) ∧ isPtr b = true ∧ K (.v (.c b)) st
  | .bin op x y => ∃ a b r, ev st.env x = pvA a ∧ ev st.env y = pvA b ∧ (∀ u v, ¬ (a = .bool u ∧ b = .bool v)) ∧ (∀ T, binV P T op a b = some r) ∧ K (pvA r) st
  | .bbin op x y => ∃ u v, ev st.env x = pvA (.bool u) ∧ ev st.env y = pvA (.bool v) ∧ ((op = .eql ∧ K (pvA (.bool (u == v))) st) ∨ (op = .neq ∧ K (pvA (.bool (!(u == v)))) st))
  | .not x => ∃ t, ev st.env x = pvA (.bool t) ∧ K (pvA (.bool !t)) st
  | .neg x => ∃ k n, ev st.env x = pvA (.int k n) ∧ K (pvA (.int k (k.wrap (0 - n)))) st
  | .fa off x => ∃ b b', ev st.env x = .v (.c b) ∧ addOff b off = some b' ∧ K (.v (.c b')) st
  | .fld off ag s x => ∃ cs, ev st.env x = .v (.agg cs) ∧ (ag = true → K (.v (.agg ((cs.drop off).take s))) st) ∧ (ag = false → ∃ c, cs[off]? = some c ∧ K (.v (.c c)) st)
  | .ix s x i => ∃ b k n, ev st.env x = .v (.c b) ∧ ev st.env i = pvA (.int k n) ∧ 0 ≤ n ∧
      ((∃ xs es, b = .d (.rd s xs) ∧ xs[n.toNat]? = some es ∧ K (.v (.c (.d (.rp es)))) st) ∨
       (∃ o e' xs, b = .own o ∧ st.objs o = some (.arr e' s xs) ∧ n < xs.length ∧ K (.v (.c (.ep o s n.toNat 0))) st))
  | .six x i => ∃ s k n b, ev st.env x = pvA (.string s) ∧ ev st.env i = pvA (.int k n) ∧ 0 ≤ n ∧ s[n.toNat]? = some b ∧ K (pvA (.int .u8 b.toNat)) st
  | .cv k' x => ∃ k n, ev st.env x = pvA (.int k n) ∧ K (pvA (.int k' (k'.wrap n))) st
  | .ext x j => ∃ xs y, ev st.env x = .tup xs ∧ xs[j]? = some y ∧ K (.v y) st
  | .len x => ∃ b n, ev st.env x = .v (.c b) ∧ lenOf st.objs b = some n ∧ K (pvA (.int .i64 n)) st
  | .slen x => ∃ s, ev st.env x = pvA (.string s) ∧ K (pvA (.int .i64 s.size)) st
  | .max x y => ∃ k m n, ev st.env x = pvA (.int k m) ∧ ev st.env y = pvA (.int k n) ∧ K (pvA (.int k (if n > m then n else m))) st
  | .min x y => ∃ k m n, ev st.env x = pvA (.int k m) ∧ ev st.env y = pvA (.int k n) ∧ K (pvA (.int k (if n < m then n else m))) st
  | .call f xs => ∃ g caps ds r, ev st.env f = .v (.c (.d (.fn g caps))) ∧ vArgs st xs = some ds ∧ Spec P g (ds ++ caps.map .c) r ∧
      (match r.nws, d with
      | [(e, k, xs)], some d => st.objs (callId d) = none ∧ K (r.ab (callId d)) ⟨st.env, upd st.objs (callId d) (some (.arr e k xs))⟩
      | _, _ => K r.fr st)
  | .mkf g caps => ∃ ds, capsD st caps = some ds ∧ K (.v (.c (.d (.fn g ds)))) st
  | .fcal f xs => ∃ g caps ds r, ev st.env f = .v (.c (.d (.fn g caps))) ∧ vArgs st xs = some ds ∧ Spec P g (ds ++ caps.map .c) r ∧ K r.fr st
  | .al T zs => ∃ d', d = some d' ∧ st.objs d' = none ∧ K (.v (.c (.ptr d' 0))) ⟨st.env, upd st.objs d' (some (.box T (zs.map fun v => .d (.pv v))))⟩
  | .box T x => ∃ d' v1 cs, d = some d' ∧ st.objs d' = none ∧ ev st.env x = .v v1 ∧ cellsV v1 = some cs ∧ K (.v (.c (.ptr d' 0))) ⟨st.env, upd st.objs d' (some (.box T cs))⟩
  | .sto s x y => ∃ b v1 cs, ev st.env x = .v (.c b) ∧ ev st.env y = .v v1 ∧ cellsV v1 = some cs ∧ cs.all B.live = true ∧ cs.length = s ∧
      ((∃ p off T' old, b = .ptr p off ∧ st.objs p = some (.box T' old) ∧ off + cs.length ≤ old.length ∧ K deadA ⟨st.env, upd st.objs p (some (.box T' (splice old off cs)))⟩) ∨
       (∃ p k i off e xs es ds, b = .ep p k i off ∧ st.objs p = some (.arr e k xs) ∧ xs[i]? = some es ∧ off + cs.length ≤ k ∧ dsOf cs = some ds ∧ K deadA ⟨st.env, upd st.objs p (some (.arr e k (xs.set i (splice es off ds))))⟩))
  | .bld zs pl parts => ∃ ps bs, partsB st parts = some ps ∧ fillB (fun i => pl[i]?) (zs.map fun v => .d (.pv v)) ps = some bs ∧ K (.v (.agg bs)) st
  | .bsl e s len parts => ∃ d' ps bs ds, d = some d' ∧ st.objs d' = none ∧ partsB st parts = some ps ∧ fillB (fun i => some (i * s, s)) (List.replicate (len * s) .dead) ps = some bs ∧ dsOf bs = some ds ∧
      K (.v (.c (.own d'))) ⟨st.env, upd st.objs d' (some (.arr e s (chunks s len ds)))⟩
  | .mks e s zs l c => ∃ d' n, d = some d' ∧ st.objs d' = none ∧ ev st.env l = pvA (.int .i64 n) ∧ ev st.env c = pvA (.int .i64 n) ∧ 0 ≤ n ∧ n ≤ 16777216 ∧
      K (.v (.c (.own d'))) ⟨st.env, upd st.objs d' (some (.arr e s (List.replicate n.toNat (zs.map D.pv))))⟩
  | .app e s by' x y => ∃ d' b b' ys, d = some d' ∧ ev st.env x = .v (.c b) ∧ ev st.env y = .v (.c b') ∧ elemsOf st.objs b' = some (s, ys) ∧
      ((∃ p xs, b = .own p ∧ st.objs p = some (.arr e s xs) ∧ xs.length + ys.length ≤ maxLen ∧ (xs.length + ys.length) * by' ≤ 140737488355328 ∧ K (.v (.c (.own p))) ⟨(st.kill p).env, upd (st.kill p).objs p (some (.arr e s (xs ++ ys)))⟩) ∨
       (b = .d (.pv (.slice none 0 0)) ∧ st.objs d' = none ∧ ys.length * by' ≤ 140737488355328 ∧ K (.v (.c (.own d'))) ⟨st.env, upd st.objs d' (some (.arr e s ys))⟩))
/-- A list of operations. -/
def VLs (P : Program) : List SR → (St → Prop) → St → Prop
  | [], Q, st => Q st
  | o :: rest, Q, st => match o.g with
    | none => VS P st o.dst o.op fun x st' => VLs P rest Q (putD st' o.dst x)
    | some (d, want) => (st.env d = undefA ∧ VLs P rest Q (putD st o.dst undefA)) ∨
        ∃ t, st.env d = pvA (.bool t) ∧ (t = want → VS P st o.dst o.op fun x st' => VLs P rest Q (putD st' o.dst x)) ∧ (t = !want → VLs P rest Q (putD st o.dst undefA))
def VSC (P : Program) : SC → (Exit → St → Prop) → St → Prop
  | .skip, Q, st => Q .normal st
  | .reg l, Q, st => VLs P l (Q .normal) st
  | .seq a b, Q, st => VSC P a (fun e s => match e with | .normal => ∃ s', Weak s s' ∧ VSC P b Q s' | e => Q e s) st
  | .cond c x y, Q, st => ∃ t, ev st.env c = pvA (.bool t) ∧ (t = true → VSC P x Q st) ∧ (t = false → VSC P y Q st)
  | .block id c, Q, st => VSC P c (fun e s => match e with | .exit id' => if id' = id then Q .normal s else Q (.exit id') s | e => Q e s) st
  | .loop c, Q, st => ∃ I : Nat → St → Prop, (∃ k st', Weak st st' ∧ I k st') ∧ ∀ k s, I k s → VSC P c (fun e s' => match e with | .normal => ∃ k' s'', k' < k ∧ Weak s' s'' ∧ I k' s'' | e => Q e s') s
  | .exit id, Q, st => Q (.exit id) st
  | .ret, Q, st => Q .ret st
section
variable {P : Program} {n : Nat}
theorem rdOp_ok {st : St} {o : Op} {s : SOp} {K : AV → St → Prop} (hs : rdOp P o = some s) (h : VS P st none s K) : VCR P st o fun x => K x st := by
  unfold rdOp at hs
  split at hs
  · cases hs; exact h
  · cases hs; exact h
  · cases hs; exact h
  · rename_i T x
    cases hT : tyInfo P T with
    | none => simp [hT] at hs
    | some p =>
      simp only [hT, Option.map_some, Option.some.injEq] at hs
      subst hs
      obtain ⟨b, cs, h1, h2, h3, h4⟩ := h
      exact ⟨b, cs, p.1, p.2, h1, h2, hT, h3, h4⟩
  · cases hs; exact h
  · rename_i op T x y T'
    split at hs
    · rename_i hT
      cases hs
      obtain ⟨u, v, h1, h2, h⟩ := h
      rcases h with ⟨rfl, h⟩ | ⟨rfl, h⟩
      · exact ⟨.bool u, .bool v, _, h1, h2, by simp [binV, boolV, hT], h⟩
      · exact ⟨.bool u, .bool v, _, h1, h2, by simp only [binV, boolV, hT], h⟩
    · cases hs
      obtain ⟨a, b, r, h1, h2, _, h3, h⟩ := h
      exact ⟨a, b, r, h1, h2, h3 T, h⟩
    · cases hs
      obtain ⟨a, b, r, h1, h2, _, h3, h⟩ := h
      exact ⟨a, b, r, h1, h2, h3 T, h⟩
    · cases hs
  · cases hs; exact h
  · cases hs; exact h
  · rename_i T x f
    cases hT : fieldOff P T f with
    | none => simp [hT] at hs
    | some p =>
      simp only [hT, Option.map_some, Option.some.injEq] at hs
      subst hs
      obtain ⟨b, b', h1, h2, h3⟩ := h
      exact ⟨b, p, b', h1, hT, h2, h3⟩
  · rename_i T x f
    cases hT : fieldInfo P T f with
    | none => simp [hT] at hs
    | some p =>
      simp only [hT, Option.map_some, Option.some.injEq] at hs
      subst hs
      obtain ⟨cs, h1, h2, h3⟩ := h
      exact ⟨cs, p.1, p.2.1, p.2.2, h1, hT, h2, h3⟩
  · rename_i T x i
    cases hT : sliceTy P T with
    | none => simp [hT] at hs
    | some p =>
      simp only [hT, Option.map_some, Option.some.injEq] at hs
      subst hs
      obtain ⟨b, k, m, h1, h2, h3, h4⟩ := h
      exact ⟨b, k, m, p.1, p.2, h1, h2, hT, h3, h4⟩
  · rename_i T x i
    split at hs
    · rename_i hT
      cases hs
      obtain ⟨s, k, m, b, h1, h2, h3, h4, h5⟩ := h
      exact ⟨s, k, m, b, h1, h2, hT, h3, h4, h5⟩
    · cases hs
  · rename_i src dst x
    split at hs
    · rename_i k' k h1 h2
      cases hs
      obtain ⟨q, m, h3, h4⟩ := h
      exact ⟨q, m, k, h3, by rw [h1]; rfl, h2, h4⟩
    · cases hs
  · cases hs; exact h
  · rename_i g first caps
    split at hs
    · rename_i hf
      cases hs
      obtain ⟨ds, h1, h2⟩ := h
      exact ⟨g, ds, rfl, by simpa using hf, h1, h2⟩
    · cases hs
  · rename_i c
    split at hs
    · rename_i hc
      split at hs
      · rename_i x T ha ht
        split at hs
        · rename_i hT
          cases hs
          obtain ⟨s, h1, h2⟩ := h
          show (match c.callee with | .builtin .len => _ | .builtin .max => _ | .builtin .min => _ | .value f => _ | _ => False)
          rw [hc]
          exact ⟨x, T, _, ha, ht, h1, .inr ⟨s, rfl, hT, h2⟩⟩
        · split at hs
          · rename_i hT
            cases hs
            obtain ⟨b, m, h1, h2, h3⟩ := h
            show (match c.callee with | .builtin .len => _ | .builtin .max => _ | .builtin .min => _ | .value f => _ | _ => False)
            rw [hc]
            exact ⟨x, T, b, ha, ht, h1, .inl ⟨m, hT, h2, h3⟩⟩
          · cases hs
        · cases hs
      · cases hs
    · rename_i hc
      split at hs
      · rename_i x y ha
        cases hs
        obtain ⟨k, m, p, h1, h2, h3⟩ := h
        show (match c.callee with | .builtin .len => _ | .builtin .max => _ | .builtin .min => _ | .value f => _ | _ => False)
        rw [hc]
        exact ⟨x, y, k, m, p, ha, h1, h2, h3⟩
      · cases hs
    · rename_i hc
      split at hs
      · rename_i x y ha
        cases hs
        obtain ⟨k, m, p, h1, h2, h3⟩ := h
        show (match c.callee with | .builtin .len => _ | .builtin .max => _ | .builtin .min => _ | .value f => _ | _ => False)
        rw [hc]
        exact ⟨x, y, k, m, p, ha, h1, h2, h3⟩
      · cases hs
    · rename_i f hc
      cases hs
      obtain ⟨g, caps, ds, r, h1, h2, h3, h4⟩ := h
      show (match c.callee with | .builtin .len => _ | .builtin .max => _ | .builtin .min => _ | .value f => _ | _ => False)
      rw [hc]
      refine ⟨g, caps, ds, r, h1, h2, h3, ?_⟩
      split at h4
      · rename_i hd; cases hd
      · exact h4
    · cases hs
  · cases hs
end
end Go.Proofs.Ythgdccokpgaicaa
