/- The code with its types looked up, so that nothing of the program is left in it but the numbers of functions. No program is named here. -/
import Derived.Test.YtlblmofimjhbbaaDoorYA
namespace Go.Proofs.YtlblmofimjhbbaaDoor
open Go.RowKit
inductive SOp where
  | mv (x : Operand)
  | pick (c a b : Operand)
  | ld (ag : Bool) (s : Nat) (x : Operand)
  | nc (x : Operand)
  | bin (op : BinOp) (x y : Operand)
  | bbin (op : BinOp) (x y : Operand)
  | not (x : Operand)
  | neg (x : Operand)
  | fa (off : Nat) (x : Operand)
  | fld (off : Nat) (ag : Bool) (s : Nat) (x : Operand)
  | ix (κ : Ky) (x i : Operand)
  | ixa (len s : Nat) (x i : Operand)
  | six (x i : Operand)
  | slc (κ : Ky) (x : Operand) (lo hi : Option Operand)
  | sslc (x : Operand) (lo hi : Option Operand)
  | cv (k : IntKind) (x : Operand)
  | ext (x : Operand) (j : Nat)
  | len (x : Operand)
  | slen (x : Operand)
  | max (x y : Operand)
  | min (x y : Operand)
  | call (f : Operand) (xs : List Operand)
  | mkf (g : FuncId) (caps : List Operand)
  | fcal (f : Operand) (xs : List Operand)
  | al (T : TypeId) (zs : List Value)
  | box (T : TypeId) (x : Operand)
  | sto (s : Nat) (x y : Operand)
  | bld (zs : List Value) (pl : List (Nat × Nat)) (parts : List (Nat × Operand))
  | bsl (κ : Ky) (len : Nat) (parts : List (Nat × Operand))
  | mks (κ : Ky) (zs : List Value) (l c : Operand)
  | app (κ : Ky) (by' : Nat) (x y : Operand)
  | eqs (neg : Bool) (ks : List Kd) (x y : Operand)
  | isn (neg : Bool) (x : Operand)
  | b2s (x : Operand)
  | kil
  | raw (op : Op) (ty : TypeId)
/-- One operation: its slot, its guard (a slot, and what it must hold), whether it may run in another order, what it is. -/
structure SR where
  dst : Option Tmp
  g : Option (Nat × Bool)
  fr : Bool
  op : SOp
inductive SC where
  | skip
  | reg (l : List SR)
  | regA (l : List SR) (al : List (Nat × TypeId × List Value)) (r : List SR)
  | regO (t : OT SR)
  | regZ (l : List (SR × List Nat))
  | seq (a b : SC)
  | cond (c : Operand) (x y : SC)
  | block (id : Nat) (c : SC)
  | loop (c : SC)
  | exit (id : Nat)
  | ret
  | code (n : Nat) (c : Code)
  | alt (n : Nat) (c : Code) (s : SC)
def rdOp (P : Program) (o : Op) : Option SOp :=
  match o with
  | .move x => some (.mv x)
  | .assign x => some (.mv x)
  | .pick c a b => some (.pick c a b)
  | .load T x => (tyInfo P T).map fun i => .ld i.1 i.2 x
  | .nilCheck x => some (.nc x)
  | .binOp op T x y _ => match P.underlying T with
    | some .bool => some (.bbin op x y)
    | some (.int _) => some (.bin op x y)
    | some .string => some (.bin op x y)
    | _ => none
  | .unOp .not _ x => some (.not x)
  | .unOp .neg _ x => some (.neg x)
  | .fieldAddr T x f => (fieldOff P T f).map fun i => .fa i x
  | .field T x f => (fieldInfo P T f).map fun i => .fld i.1 i.2.1 i.2.2 x
  | .indexAddr T x i => match sliceTy P T with
    | some κ => some (.ix κ x i)
    | none => (arrTy P T).map fun p => .ixa p.1 p.2 x i
  | .index T x i => match P.underlying T with
    | some .string => some (.six x i)
    | _ => none
  | .slice T x lo hi none => match sliceTy P T with
    | some κ => some (.slc κ x lo hi)
    | none => match P.underlying T with
      | some .string => some (.sslc x lo hi)
      | _ => none
  | .convert src dst x => match P.underlying src, P.underlying dst with
    | some (.int _), some (.int k) => some (.cv k x)
    | _, _ => none
  | .extract x j => some (.ext x j)
  | .makeFunc (.func g) first caps => if first.toList.isEmpty then some (.mkf g caps.toList) else none
  | .call c => match c.callee with
    | .builtin .len => match c.args.toList, c.argTypes.toList with
      | [x], [T] => match P.underlying T with
        | some .string => some (.slen x)
        | some (.slice _) => if (sliceTy P T).isSome then some (.len x) else none
        | _ => none
      | _, _ => none
    | .builtin .max => match c.args.toList with
      | [x, y] => some (.max x y)
      | _ => none
    | .builtin .min => match c.args.toList with
      | [x, y] => some (.min x y)
      | _ => none
    | .value f => some (.fcal f c.args.toList)
    | _ => none
  | _ => none
/-- It only reads, and is no call. -/
def isRd : SOp → Bool
  | .call _ _ | .fcal _ _ | .al _ _ | .box _ _ | .sto _ _ _ | .bld _ _ _ | .bsl _ _ _ | .mks _ _ _ _ | .app _ _ _ _ | .isn _ _ | .raw _ _ => false
  | _ => true
def rdOp' (P : Program) (o : Op) : Option SOp := (rdOp P o).bind fun s => if isRd s then some s else none
def wrOp (P : Program) (o : Op) : Option SOp :=
  match o with
  | .alloc T => (zeroCells P T).map fun zs => .al T zs
  | .box T x => some (.box T x)
  | .store T x y => (tyInfo P T).map fun i => .sto i.2 x y
  | .build T parts => match zeroCells P T, placesOf P T with
    | some zs, some pl => some (.bld zs pl parts.toList)
    | _, _ => none
  | .buildSlice T len parts => match sliceInfo P T with
    | some (κ, _, _) => if len ≤ 65536 ∧ len * κ.k ≤ 16777216 then some (.bsl κ len parts.toList) else none
    | none => none
  | .makeSlice T l c => match sliceInfo P T with
    | some (κ, by', zs) => if by' ≤ 65536 then some (.mks κ zs l c) else none
    | none => none
  | .call c => match c.callee with
    | .builtin .append => match c.args.toList, c.argTypes.toList with
      | [x, y], [T, T'] => if T = T' then match sliceInfo P T with
        | some (κ, by', _) => some (.app κ by' x y)
        | none => none else none
      | _, _ => none
    | .value f => some (.call f c.args.toList)
    | _ => rdOp' P o
  | _ => rdOp' P o
/-- What is not told above. -/
def xOp (P : Program) (o : Oper) : SOp :=
  match o.op with
  | .buildSlice T len parts => match sliceInfo P T with
    | some (κ, _, _) => if len ≤ 65536 ∧ len * κ.k ≤ 16777216 then .bsl κ len parts.toList else .raw o.op o.type
    | none => .raw o.op o.type
  | .build T parts => match zeroCells P T, placesOf P T with
    | some zs, some pl => .bld zs pl parts.toList
    | _, _ => .raw o.op o.type
  | .binOp op T x y _ => match (match op with | .eql => some false | .neq => some true | _ => none : Option Bool) with
    | none => .raw o.op o.type
    | some neg => match eqTy P T with
      | some ks => .eqs neg ks x y
      | none => match P.underlying T, y with
        | some (.slice _), .const (.slice none 0 0) => .isn neg x
        | _, _ => .raw o.op o.type
  | .convert src dst x => match P.underlying src, P.underlying dst with
    | some (.slice e), some .string => match P.underlying e with
      | some (.int .u8) => .b2s x
      | _ => .raw o.op o.type
    | _, _ => .raw o.op o.type
  | _ => .raw o.op o.type
def rdOpx (P : Program) (o : Oper) : Option SOp := match rdOp P o.op with
  | some s => some s
  | none => some (xOp P o)
def wrOpx (P : Program) (o : Oper) : Option SOp := match wrOp P o.op with
  | some s => some s
  | none => some (xOp P o)
def sGuard (ops : List Oper) (o : Oper) : Option (Option (Nat × Bool)) :=
  match o.guard with
  | none => some none
  | some (j, want) => (gslot ops j).map fun d => some (d, want)
/-- They run in their order. -/
def sOps (P : Program) (n : Nat) (ops : List Oper) : List Oper → Option (List SR)
  | [] => some []
  | o :: rest => match sGuard ops o, wrOpx P o, sOps P n ops rest with
    | some g, some s, some r => if okDst n o.dst then some (⟨o.dst, g, false, s⟩ :: r) else none
    | _, _, _ => none
/-- The first m of them may run in another order: they only read; new variables are taken up behind them. -/
def sOpsF (P : Program) (ops : List Oper) : Nat → List Oper → Option (List SR)
  | 0, _ => some []
  | _ + 1, [] => none
  | m + 1, o :: rest => if isAl o then (sOpsF P ops m rest).map (⟨o.dst, none, true, .kil⟩ :: ·) else match sGuard ops o, rdOpx P o, sOpsF P ops m rest with
    | some g, some s, some r => some (⟨o.dst, g, true, s⟩ :: r)
    | _, _, _ => none
def sAl (P : Program) (ops : List Oper) : List Nat → Option (List (Nat × TypeId × List Value))
  | [] => some []
  | i :: I => match ops[i]? with
    | some o => match o.op, o.dst, sAl P ops I with
      | .alloc T, some d, some r => (zeroCells P T).map fun zs => (d, T, zs) :: r
      | _, _, _ => none
    | none => none
/-- How many of them only read. -/
def headReads (as bs : Bool) : List Oper → Nat
  | [] => 0
  | o :: rest => match o.op with
    | .assign _ => if as then headReads as bs rest + 1 else 0
    | .alloc _ => if o.guard.isNone then headReads as bs rest + 1 else 0
    | .buildSlice _ _ _ => if bs then headReads as bs rest + 1 else 0
    | .box _ _ | .store _ _ _ | .makeSlice _ _ _ | .call { callee := .builtin .append, .. } | .call { callee := .builtin .copy, .. } | .call { callee := .builtin .clear, .. } | .call { callee := .builtin .delete, .. } | .slice _ _ _ _ (some _) | .makeMap .. | .mapUpdate .. | .mapEntry .. | .entryStore .. | .insert .. | .range .. | .next .. => 0
    | _ => headReads as bs rest + 1
def sDraw (P : Program) (n : Nat) (ops : List Oper) (m : Nat) : Option SC :=
  match sOpsF P ops m ops, sAl P ops (alIdx ops m), sOps P n ops (rgTl ops m) with
  | some l, some [], some r => some (.reg (l ++ r))
  | some l, some al, some r => some (.regA l al r)
  | _, _, _ => none
/-- Where the last call of the first m operations stands. -/
def lastCall : List Oper → Nat → Nat → Option Nat
  | [], _, _ => none
  | _, _, 0 => none
  | o :: rest, k, m + 1 => match lastCall rest (k + 1) m with
    | some j => some j
    | none => match o.op with
      | .call { callee := .value _, .. } => some k
      | _ => none
def firstOk (ops : List Oper) (n : Nat) : List Nat → Option Nat
  | [] => none
  | m :: ms => if rgOk ops m n then some m else firstOk ops n ms
/-- How many of them may run in any order: as few as need be. -/
def cands (ops : List Oper) : List Nat :=
  (match lastCall ops 0 (headReads true true ops) with | some m => if Nat.ble ops.length (m + 4) then [m] else [] | none => []) ++ [headReads true false ops, headReads false false ops, headReads true true ops, headReads false true ops]
def sT (P : Program) (n : Nat) (ops : List Oper) : OT Oper → Option (OT SR)
  | .done => some .done
  | .vac => some .vac
  | .take o t => match sOps P n ops [o], sT P n ops t with
    | some [s], some u => some (.take s u)
    | _, _ => none
  | .both a b => match sT P n ops a, sT P n ops b with
    | some a, some b => some (.both a b)
    | _, _ => none
def sOrd (P : Program) (n : Nat) (ops : List Oper) : Option SC :=
  if Region.noSelect ops.toArray then match ordX P ops with
    | some t => (sT P n ops t).map .regO
    | none => none
  else none
def isBslO (o : Oper) : Bool := match o.op with
  | .buildSlice _ _ _ => true
  | _ => false
def isAppO (o : Oper) : Bool := match o.op with
  | .call { callee := .builtin .append, .. } => true
  | _ => false
/-- A call whose result is a slice. -/
def isCalS (P : Program) (o : Oper) : Bool := match o.op with
  | .call { callee := .value _, .. } => match P.underlying o.type with
    | some (.slice _) => true
    | _ => false
  | _ => false
/-- A call that turns what it is handed: a source of numbers (a pointer to a struct with a uint64). -/
def srcO (P : Program) (o : Oper) : Bool := match o.op with
  | .call { callee := .value (.func g), .. } => match P.funcs[g]? with
    | some f => match f.params[0]? with
      | some t => match P.underlying t with
        | some (.pointer e) => match P.underlying e with
          | some (.struct fs) => fs.toList.any fun q => match P.underlying q.type with
            | some (.int .u64) => true
            | _ => false
          | _ => false
        | _ => false
      | none => false
    | none => false
  | _ => false
def isBldO (o : Oper) : Bool := match o.op with
  | .build _ _ => true
  | _ => false
/-- A call that hands back a struct and a number. -/
def isCalT (P : Program) (o : Oper) : Bool := match o.op with
  | .call { callee := .value _, .. } => match P.underlying o.type with
    | some (.tuple ts) => match ts.toList with
      | [t, _] => match P.underlying t with
        | some (.struct _) => true
        | _ => false
      | _ => false
    | _ => false
  | _ => false
/-- A new variable takes in slices that calls make: told order by order, if it can be. -/
def prefO (P : Program) (ops : List Oper) : Bool := ops.any isAl && ((ops.any (isCalS P) && ops.any isBldO) || ops.any (isCalT P)) || (Nat.ble 2 (ops.countP (isCalS P)) && ops.any isBslO)
/-- Literals within literals that go into a slice: what is known is told for each set of operations carried out. -/
def prefZ (ops : List Oper) : Bool := ops.any isBldO && Nat.ble 2 (ops.countP isBslO) && ops.any isAppO && hltB ops
def sZl (P : Program) (n : Nat) (ops : List Oper) : Nat → List Oper → Option (List (SR × List Nat))
  | _, [] => some []
  | k, o :: rest => match sOps P n ops [o], sZl P n ops (k + 1) rest with
    | some [s], some r => some ((s, rgDirect ops k) :: r)
    | _, _ => none
def sReg (P : Program) (n : Nat) (ops : List Oper) (draw : Bool) : Option SC :=
  if draw then
    if !(ops.all (fldOk P)) then none
    else match (if prefZ ops then (sZl P n ops 0 ops).map .regZ else none) with
    | some c => some c
    | none => match (if prefO P ops then sOrd P n ops else none) with
      | some c => some c
      | none => match firstOk ops n (if ops.any (srcO P) || (ops.any (isCalS P) && ops.any isAppO) then [] else cands ops) with
        | some m => match sDraw P n ops m with
          | some c => some c
          | none => sOrd P n ops
        | none => sOrd P n ops
  else (sOps P n ops ops).map .reg
/-- Functions that may end in a panic. -/
def panG : List FuncId := [63]
def isPan (o : Oper) : Bool := match o.op with
  | .panic .. => true
  | _ => false
def panO (o : Oper) : Bool := match o.op with
  | .call { callee := .value (.func g), .. } => panG.contains g
  | _ => false
def sRegP (P : Program) (n id : Nat) (ops : Array Oper) (draw : Bool) : Option SC :=
  if ops.toList.any isPan then some (.code n (.region id ops draw))
  else if ops.toList.any panO then (sReg P n ops.toList draw).map (.alt n (.region id ops draw))
  else sReg P n ops.toList draw
def strip (P : Program) (n : Nat) : Code → Option SC
  | .skip => some .skip
  | .region id ops draw => sRegP P n id ops draw
  | .seq a b => match strip P n a, strip P n b with
    | some a, some b => some (.seq a b)
    | _, _ => none
  | .cond c x y => match strip P n x, strip P n y with
    | some x, some y => some (.cond c x y)
    | _, _ => none
  | .block id c => (strip P n c).map (.block id)
  | .loop c => (strip P n c).map .loop
  | .exit id => some (.exit id)
  | .ret => some .ret
  | _ => none
/-- The words, op by op: those that read. -/
def VR (P : Program) (st : St) (o : SOp) (K : AV → Prop) : Prop :=
  match o with
  | .mv x => K (ev st.env x)
  | .pick c a b => ∃ t, ev st.env c = pvA (.bool t) ∧ (t = true → K (ev st.env a)) ∧ (t = false → K (ev st.env b))
  | .ld ag s x => ∃ b cs, ev st.env x = .v (.c b) ∧ cellsAt st.objs b = some cs ∧ (ag = true → s ≤ cs.length ∧ K (.v (.agg (cs.take s)))) ∧ (ag = false → ∃ c, cs[0]? = some c ∧ K (.v (.c c)))
  | .nc x => ∃ b, ev st.env x = .v (.c b) ∧ isPtr b = true ∧ K (.v (.c b))
  | .bin op x y => ∃ a b r, ev st.env x = pvA a ∧ ev st.env y = pvA b ∧ (∀ u v, ¬ (a = .bool u ∧ b = .bool v)) ∧ (∀ T, binV P T op a b = some r) ∧ K (pvA r)
  | .bbin op x y => ∃ u v, ev st.env x = pvA (.bool u) ∧ ev st.env y = pvA (.bool v) ∧ ((op = .eql ∧ K (pvA (.bool (u == v)))) ∨ (op = .neq ∧ K (pvA (.bool (!(u == v))))))
  | .not x => ∃ t, ev st.env x = pvA (.bool t) ∧ K (pvA (.bool !t))
  | .neg x => ∃ k n, ev st.env x = pvA (.int k n) ∧ K (pvA (.int k (k.wrap (0 - n))))
  | .fa off x => ∃ b b', ev st.env x = .v (.c b) ∧ addOff b off = some b' ∧ K (.v (.c b'))
  | .fld off ag s x => ∃ cs, ev st.env x = .v (.agg cs) ∧ (ag = true → K (.v (.agg ((cs.drop off).take s)))) ∧ (ag = false → ∃ c, cs[off]? = some c ∧ K (.v (.c c)))
  | .ix κ x i => ∃ b k n, ev st.env x = .v (.c b) ∧ ev st.env i = pvA (.int k n) ∧ 0 ≤ n ∧
      ((∃ κ' xs es, κ'.k = κ.k ∧ b = .d (.rd κ' xs) ∧ xs[n.toNat]? = some es ∧ K (.v (.c (.d (.rp es))))) ∨
       (∃ o xs hs, b = .own o ∧ st.objs o = some (.arr κ xs hs) ∧ n < xs.length ∧ K (.v (.c (.ep o κ.k n.toNat 0)))))
  | .ixa len s x i => ∃ b k n b', ev st.env x = .v (.c b) ∧ ev st.env i = pvA (.int k n) ∧ 0 ≤ n ∧ isPtr b = true ∧ n < len ∧ addOff b (n.toNat * s) = some b' ∧ K (.v (.c b'))
  | .six x i => ∃ s k n b, ev st.env x = pvA (.string s) ∧ ev st.env i = pvA (.int k n) ∧ 0 ≤ n ∧ s[n.toNat]? = some b ∧ K (pvA (.int .u8 b.toNat))
  | .slc κ x lo hi => ∃ κ' xs l h, κ'.k = κ.k ∧ ev st.env x = rdA κ' xs ∧ l ≤ h ∧ h ≤ xs.length ∧ bndV st 0 lo l ∧ bndV st xs.length hi h ∧ K (.v (.c (.d (.rd κ' (sliceOf xs l h)))))
  | .sslc x lo hi => ∃ (s : ByteArray) (l h : Nat), ev st.env x = pvA (.string s) ∧ l ≤ h ∧ h ≤ s.size ∧ bndV st 0 lo l ∧ bndV st s.size hi h ∧ K (pvA (.string (s.extract l h)))
  | .cv k' x => ∃ k n, ev st.env x = pvA (.int k n) ∧ K (pvA (.int k' (k'.wrap n)))
  | .ext x j => ∃ xs y, ev st.env x = .tup xs ∧ xs[j]? = some y ∧ K (.v y)
  | .len x => ∃ b n, ev st.env x = .v (.c b) ∧ lenOf st.objs b = some n ∧ K (pvA (.int .i64 n))
  | .slen x => ∃ s, ev st.env x = pvA (.string s) ∧ K (pvA (.int .i64 s.size))
  | .max x y => ∃ k m n, ev st.env x = pvA (.int k m) ∧ ev st.env y = pvA (.int k n) ∧ K (pvA (.int k (if n > m then n else m)))
  | .min x y => ∃ k m n, ev st.env x = pvA (.int k m) ∧ ev st.env y = pvA (.int k n) ∧ K (pvA (.int k (if n < m then n else m)))
  | .fcal f xs => FCall P st f xs K
  | .mkf g caps => ∃ ds, capsD st caps = some ds ∧ K (.v (.c (.d (.fn g ds))))
  | .eqs neg ks x y => ∃ cs cs' as bs, ev st.env x = .v (.agg cs) ∧ ev st.env y = .v (.agg cs') ∧ pvs cs = some as ∧ pvs cs' = some bs ∧ fitK ks as = true ∧ fitK ks bs = true ∧ K (pvA (.bool (if neg then !(eqVs as bs) else eqVs as bs)))
  | .isn neg x => ∃ b t, ev st.env x = .v (.c b) ∧ nilK st.objs b = some t ∧ K (pvA (.bool (if neg then !t else t)))
  | .b2s x => ∃ b κ l, ev st.env x = .v (.c b) ∧ κ.k = 1 ∧ elemsOf st.objs κ b = some (l.map enB8) ∧ K (pvA (.string (bsOf l)))
  | .bld zs pl parts => ∃ ps bs, partsB st parts = some ps ∧ fillB (fun i => pl[i]?) (zs.map fun v => .d (.pv v)) ps = some bs ∧ K (.v (.agg bs))
  | .bsl κ len parts => ∃ pl bs ds, partsB st parts = some pl ∧ fillB (fun i => some (i * κ.k, κ.k)) (List.replicate (len * κ.k) .dead) pl = some bs ∧ dsB bs = some ds ∧ K (rdA κ (chunks κ.k len ds))
  | .kil => K deadA
  | .raw op ty => ∃ x, (∀ q : Oper, q.op = op → q.type = ty → OpS P st q x) ∧ K x
  | _ => False
/-- .. and those that make or write. -/
def VS (P : Program) (st : St) (d : Option Tmp) (o : SOp) (K : AV → St → Prop) : Prop :=
  match o with
  | .call f xs => MCall P st (callId (d.getD 0)) f xs K ∨ FCall P st f xs fun x => K x st
  | .al T zs => ∃ d', d = some d' ∧ freeO st.objs d' ∧ K (.v (.c (.ptr d' 0))) ⟨st.env, upd st.objs d' (some (.box T (zs.map fun v => .d (.pv v))))⟩
  | .box T x => ∃ d' v1 cs, d = some d' ∧ freeO st.objs d' ∧ ev st.env x = .v v1 ∧ cellsV v1 = some cs ∧ K (.v (.c (.ptr d' 0))) ⟨st.env, upd st.objs d' (some (.box T cs))⟩
  | .sto s x y => ∃ b v1 cs, ev st.env x = .v (.c b) ∧ ev st.env y = .v v1 ∧ cellsV v1 = some cs ∧ cs.all B.live = true ∧ cs.length = s ∧
      ((∃ p off T' old, b = .ptr p off ∧ st.objs p = some (.box T' old) ∧ off + cs.length ≤ old.length ∧ K deadA ⟨st.env, upd st.objs p (some (.box T' (splice old off cs)))⟩) ∨
       (∃ p i off κ xs hs es ds ps, b = .ep p κ.k i off ∧ absL st.objs cs = some (ds, ps) ∧ nodupB ps = true ∧ (st.kill ps).objs p = some (.arr κ xs hs) ∧ xs[i]? = some es ∧ off + cs.length ≤ κ.k ∧
         K deadA ⟨(st.kill ps).env, upd (st.kill ps).objs p (some (.arr κ (xs.set i (splice es off ds)) (clearHo i off cs.length hs)))⟩))
  | .bld zs pl parts => ∃ ps bs, partsB st parts = some ps ∧ fillB (fun i => pl[i]?) (zs.map fun v => .d (.pv v)) ps = some bs ∧ K (.v (.agg bs)) st
  | .bsl κ len parts => ∃ d' pl bs ds ps, d = some d' ∧ partsB st parts = some pl ∧ fillB (fun i => some (i * κ.k, κ.k)) (List.replicate (len * κ.k) .dead) pl = some bs ∧
      absL st.objs bs = some (ds, ps) ∧ nodupB ps = true ∧ freeO (st.kill ps).objs d' ∧ K (.v (.c (.own d'))) ⟨(st.kill ps).env, upd (st.kill ps).objs d' (some (.arr κ (chunks κ.k len ds) []))⟩
  | .mks κ zs l c => ∃ d' n zd, d = some d' ∧ freeO st.objs d' ∧ ev st.env l = pvA (.int .i64 n) ∧ ev st.env c = pvA (.int .i64 n) ∧ 0 ≤ n ∧ n ≤ 16777216 ∧ F2 zD zs zd ∧
      K (.v (.c (.own d'))) ⟨st.env, upd st.objs d' (some (.arr κ (List.replicate n.toNat zd) []))⟩
  | .app κ by' x y => ∃ d' b b' ys, d = some d' ∧ ev st.env x = .v (.c b) ∧ ev st.env y = .v (.c b') ∧ elemsOf st.objs κ b' = some ys ∧
        ∃ ps, ((pureL ys ∧ ps = []) ∨ (∃ q, b' = .own q ∧ ps = [q])) ∧
        ((∃ p xs, b = .own p ∧ (st.kill ps).objs p = some (.arr κ xs []) ∧ p < pinN ∧ xs.length + ys.length ≤ maxLen ∧ (xs.length + ys.length) * by' ≤ 140737488355328 ∧ K (.v (.c (.own p))) ⟨((st.kill ps).kill [p]).env, upd ((st.kill ps).kill [p]).objs p (some (.arr κ (xs ++ ys) []))⟩) ∨
         (b = .d (.pv (.slice none 0 0)) ∧ freeO (st.kill ps).objs d' ∧ ys.length * by' ≤ 140737488355328 ∧ K (.v (.c (.own d'))) ⟨(st.kill ps).env, upd (st.kill ps).objs d' (some (.arr κ ys []))⟩))
  | .isn neg x => (∃ b t, ev st.env x = .v (.c b) ∧ nilK st.objs b = some t ∧ K (pvA (.bool (if neg then !t else t))) st) ∨
      ∃ b κ xs, ev st.env x = .v (.c b) ∧ (b = .d (.rd κ xs) ∨ ∃ p hs, b = .own p ∧ st.objs p = some (.arr κ xs hs)) ∧ (xs = [] → K (pvA (.bool (!neg))) st) ∧ K (pvA (.bool neg)) st
  | .raw op ty => ∀ F (q : Oper), q.op = op → q.type = ty → q.dst = d → OpK P F st q K
  | o => VR P st o fun x => K x st
/-- A list of operations. -/
def VLs (P : Program) : List SR → (St → Prop) → St → Prop
  | [], Q, st => Q st
  | ⟨dst, g, true, op⟩ :: rest, Q, st => (match g with
    | none => VR P st op fun x => VLs P rest Q (putD st dst x)
    | some (d, want) => (st.env d = undefA ∧ VLs P rest Q (putD st dst undefA)) ∨
        ∃ t, st.env d = pvA (.bool t) ∧ (t = want → VR P st op fun x => VLs P rest Q (putD st dst x)) ∧ (t = !want → VLs P rest Q (putD st dst undefA)))
  | ⟨dst, g, false, op⟩ :: rest, Q, st => (match g with
    | none => Wk st fun st1 => VS P st1 dst op fun x st' => VLs P rest Q (putD st' dst x)
    | some (d, want) => (st.env d = undefA ∧ VLs P rest Q (putD st dst undefA)) ∨
        ∃ t, st.env d = pvA (.bool t) ∧ (t = want → Wk st fun st1 => VS P st1 dst op fun x st' => VLs P rest Q (putD st' dst x)) ∧ (t = !want → VLs P rest Q (putD st dst undefA)))
/-- New variables. -/
def VAl : List (Nat × TypeId × List Value) → (St → Prop) → St → Prop
  | [], K, st => K st
  | (d, T, zs) :: al, K, st => freeO st.objs d ∧ VAl al K ⟨upd st.env d (.v (.c (.ptr d 0))), upd st.objs d (some (.box T (zs.map fun v => .d (.pv v))))⟩
def VT (P : Program) : OT SR → (St → Prop) → St → Prop
  | .done, Q, st => Q st
  | .vac, _, _ => True
  | .take s t, Q, st => VLs P [s] (fun s' => VT P t Q s') st
  | .both a b, Q, st => VT P a Q st ∧ VT P b Q st
/-- What is known hangs on which operations have been carried out. -/
def VZ (P : Program) (l : List (SR × List Nat)) (Q : St → Prop) (st : St) : Prop :=
  ∃ S : (Nat → Bool) → St, (∀ L : Nat → Bool, (∀ i, i < l.length → L i = false) → Weak st (S L)) ∧
    (∀ (L : Nat → Bool) k s dp, l[k]? = some (s, dp) → L k = false → (∀ j ∈ dp, L j = true) → (∀ i j s dp, l[i]? = some (s, dp) → L i = true → j ∈ dp → L j = true) → VLs P [s] (fun s' => Weak s' (S (setB L k))) (S L)) ∧
    ∀ L : Nat → Bool, (∀ i, i < l.length → L i = true) → Q (S L)
def VSC (P : Program) : SC → (Exit → St → Prop) → St → Prop
  | .skip, Q, st => Q .normal st
  | .reg l, Q, st => VLs P l (Q .normal) st
  | .regA l al r, Q, st => VLs P l (VAl al (VLs P r (Q .normal))) st
  | .regO t, Q, st => VT P t (Q .normal) st
  | .regZ l, Q, st => VZ P l (Q .normal) st
  | .seq a b, Q, st => VSC P a (fun e s => match e with | .normal => Wk s (fun s' => VSC P b Q s') | e => Q e s) st
  | .cond c x y, Q, st => ∃ t, ev st.env c = pvA (.bool t) ∧ (t = true → VSC P x Q st) ∧ (t = false → VSC P y Q st)
  | .block id c, Q, st => VSC P c (fun e s => match e with | .exit id' => if id' = id then Q .normal s else Q (.exit id') s | e => Q e s) st
  | .loop c, Q, st => ∃ I : Nat → St → Prop, (∃ k st', Weak st st' ∧ I k st') ∧ ∀ k s, I k s → VSC P c (fun e s' => match e with | .normal => ∃ k' s'', k' < k ∧ Weak s' s'' ∧ I k' s'' | e => Q e s') s
  | .exit id, Q, st => Q (.exit id) st
  | .ret, Q, st => Q .ret st
  | .code n c, Q, st => RegK P n c Q st
  | .alt n c s, Q, st => RegK P n c Q st ∨ VSC P s Q st
section
variable {P : Program} {n : Nat}
theorem rdOp_ok {st : St} {o : Op} {s : SOp} {K : AV → Prop} (hs : rdOp P o = some s) (h : VR P st s K) : VCR P st o K := by
  unfold rdOp at hs
  split at hs
  · cases hs; exact h
  · cases hs; exact h
  · cases hs; exact h
  · rename_i T x
    cases hT : tyInfo P T with
    | none => simp [hT] at hs
    | some p =>
      simp only [hT, Option.map_some, Option.some.injEq] at hs
      subst hs
      obtain ⟨b, cs, h1, h2, h3, h4⟩ := h
      exact ⟨b, cs, p.1, p.2, h1, h2, hT, h3, h4⟩
  · cases hs; exact h
  · rename_i op T x y T'
    split at hs
    · rename_i hT
      cases hs
      obtain ⟨u, v, h1, h2, h⟩ := h
      rcases h with ⟨rfl, h⟩ | ⟨rfl, h⟩
      · exact ⟨.bool u, .bool v, _, h1, h2, by simp [binV, boolV, hT], h⟩
      · exact ⟨.bool u, .bool v, _, h1, h2, by simp only [binV, boolV, hT], h⟩
    · cases hs
      obtain ⟨a, b, r, h1, h2, _, h3, h⟩ := h
      exact ⟨a, b, r, h1, h2, h3 T, h⟩
    · cases hs
      obtain ⟨a, b, r, h1, h2, _, h3, h⟩ := h
      exact ⟨a, b, r, h1, h2, h3 T, h⟩
    · cases hs
  · cases hs; exact h
  · cases hs; exact h
  · rename_i T x f
    cases hT : fieldOff P T f with
    | none => simp [hT] at hs
    | some p =>
      simp only [hT, Option.map_some, Option.some.injEq] at hs
      subst hs
      obtain ⟨b, b', h1, h2, h3⟩ := h
      exact ⟨b, p, b', h1, hT, h2, h3⟩
  · rename_i T x f
    cases hT : fieldInfo P T f with
    | none => simp [hT] at hs
    | some p =>
      simp only [hT, Option.map_some, Option.some.injEq] at hs
      subst hs
      obtain ⟨cs, h1, h2, h3⟩ := h
      exact ⟨cs, p.1, p.2.1, p.2.2, h1, hT, h2, h3⟩
  · rename_i T x i
    cases hT : sliceTy P T with
    | none =>
      simp only [hT] at hs
      cases hA : arrTy P T with
      | none => simp [hA] at hs
      | some q =>
        simp only [hA, Option.map_some, Option.some.injEq] at hs
        subst hs
        obtain ⟨b, k, m, b', h1, h2, h3, h4, h5, h6, h7⟩ := h
        exact ⟨b, k, m, h1, h2, h3, .inr (.inr ⟨q.1, q.2, b', hA, h4, h5, h6, h7⟩)⟩
    | some κ =>
      simp only [hT, Option.some.injEq] at hs
      subst hs
      obtain ⟨b, k, m, h1, h2, h3, h4 | h4⟩ := h
      · obtain ⟨κ', xs, es, q0, q1, q2, q3⟩ := h4
        exact ⟨b, k, m, h1, h2, h3, .inl ⟨κ, κ', xs, es, hT, q0, q1, q2, q3⟩⟩
      · obtain ⟨o, xs, hs, q1, q2, q3, q4⟩ := h4
        exact ⟨b, k, m, h1, h2, h3, .inr (.inl ⟨κ, o, xs, hs, hT, q1, q2, q3, q4⟩)⟩
  · rename_i T x i
    split at hs
    · rename_i hT
      cases hs
      obtain ⟨s, k, m, b, h1, h2, h3, h4, h5⟩ := h
      exact ⟨s, k, m, b, h1, h2, hT, h3, h4, h5⟩
    · cases hs
  · rename_i T x lo hi
    cases hT : sliceTy P T with
    | none =>
      simp only [hT] at hs
      split at hs
      · rename_i hS
        cases hs
        obtain ⟨s, l, h', h1, h2, h3, h4, h5, h6⟩ := h
        exact ⟨_, l, h', h1, h2, .inr ⟨s, hS, rfl, h3, h4, h5, h6⟩⟩
      · cases hs
    | some κ =>
      simp only [hT, Option.some.injEq] at hs
      subst hs
      obtain ⟨κ', xs, l, h', h0, h1, h2, h3, h4, h5, h6⟩ := h
      exact ⟨_, l, h', h1, h2, .inl ⟨κ, κ', xs, hT, h0, rfl, h3, h4, h5, h6⟩⟩
  · rename_i src dst x
    split at hs
    · rename_i k' k h1 h2
      cases hs
      obtain ⟨q, m, h3, h4⟩ := h
      exact ⟨q, m, k, h3, by rw [h1]; rfl, h2, h4⟩
    · cases hs
  · cases hs; exact h
  · rename_i g first caps
    split at hs
    · rename_i hf
      cases hs
      obtain ⟨ds, h1, h2⟩ := h
      exact ⟨g, ds, rfl, by simpa using hf, h1, h2⟩
    · cases hs
  · rename_i c
    show (match c.callee with | .builtin .len => _ | .builtin .max => _ | .builtin .min => _ | .value f => _ | _ => False)
    split at hs
    · rename_i hc
      split at hs
      · rename_i x T ha ht
        split at hs
        · rename_i hT
          cases hs
          obtain ⟨s, h1, h2⟩ := h
          exact ⟨x, T, _, ha, ht, h1, .inr ⟨s, rfl, hT, h2⟩⟩
        · split at hs
          · rename_i hT
            cases hs
            obtain ⟨b, m, h1, h2, h3⟩ := h
            exact ⟨x, T, b, ha, ht, h1, .inl ⟨m, hT, h2, h3⟩⟩
          · cases hs
        · cases hs
      · cases hs
    · rename_i hc
      split at hs
      · rename_i x y ha
        cases hs
        obtain ⟨k, m, p, h1, h2, h3⟩ := h
        exact ⟨x, y, k, m, p, ha, h1, h2, h3⟩
      · cases hs
    · rename_i hc
      split at hs
      · rename_i x y ha
        cases hs
        obtain ⟨k, m, p, h1, h2, h3⟩ := h
        exact ⟨x, y, k, m, p, ha, h1, h2, h3⟩
      · cases hs
    · rename_i f hc
      cases hs
      exact h
    · cases hs
  · cases hs
theorem VS_of_rd {st : St} {d : Option Tmp} {s : SOp} {K : AV → St → Prop} (hc : isRd s = true) (h : VS P st d s K) : VR P st s fun x => K x st := by
  cases s <;> first | exact h | (cases hc)
end
end Go.Proofs.YtlblmofimjhbbaaDoor
