/- The operations that make or write memory, in words about what is known. No program is named here. -/
import Derived.Test.YtlblmofimjhbbaaDoorY7
import Derived.Great.BuildSlice
import Derived.Test.YtlblmofimjhbbaaDoorMem
namespace Go.Proofs.YtlblmofimjhbbaaDoor
open Go.RowKit
def B.live : B → Bool
  | .dead => false
  | .rel _ _ => false
  | _ => true
def cellsV : V1 → Option (List B)
  | .c b => if b.live then some [b] else none
  | .agg cs => some cs
def setAll (bs : List B) (off : Nat) : List B → List B
  | [] => bs
  | c :: cs => setAll (bs.set off c) (off + 1) cs
def fillB (place : Nat → Option (Nat × Nat)) (bs : List B) : List (Nat × List B) → Option (List B)
  | [] => some bs
  | (i, c) :: rest => match place i with
    | none => none
    | some (off, size) => if c.length = size ∧ off + c.length ≤ bs.length then fillB place (setAll bs off c) rest else none
def partsB (st : St) : List (Nat × Operand) → Option (List (Nat × List B))
  | [] => some []
  | (i, x) :: rest => match ev st.env x, partsB st rest with
    | .v v1, some ps => match cellsV v1 with
      | some cs => some ((i, cs) :: ps)
      | none => none
    | _, _ => none
def chunks (s : Nat) : Nat → List D → List (List D)
  | 0, _ => []
  | n + 1, ds => ds.take s :: chunks s n (ds.drop s)
def goodV (v : Value) : Bool := v.oneCell' && match v with
  | .int k n => (Lit.int k n).wf
  | .string s => decide (s.size ≤ maxLen)
  | _ => true
def zeroCells (P : Program) (T : TypeId) : Option (List Value) :=
  (P.info? T).bind fun i => i.zero.bind fun z => if z.cells.toList.all goodV then some z.cells.toList else none
def placesOf (P : Program) (T : TypeId) : Option (List (Nat × Nat)) :=
  match P.underlying T with
  | some (.struct fs) => if fs.toList.all (fun f => (P.info? f.type).isSome) then some (fs.toList.map fun f => (f.offset, P.cellsOf f.type)) else none
  | _ => none
/-- A slice type's element: its kind, its bytes, its zero. -/
def sliceInfo (P : Program) (T : TypeId) : Option (Ky × Nat × List Value) :=
  match P.underlying T with
  | some (.slice e) => (P.info? e).bind fun i => i.zero.bind fun z => if z.cells.toList.all goodV && (z.cells.size == i.size) && decide (0 < i.size) then some (⟨e, i.size⟩, i.bytes, z.cells.toList) else none
  | _ => none
def splice {α : Type} (old : List α) (off : Nat) (cs : List α) : List α := old.take off ++ cs ++ old.drop (off + cs.length)
/-- A cell that an array takes in: plain data, or a slice that is an object of the call, which ends by it. -/
def abD (objs : Nat → Option Ob) : B → Option (D × List Nat)
  | .d x => if pureD x then some (x, []) else none
  | .own q => match objs q with
    | some (.arr κ xs []) => some (.rd κ xs, [q])
    | _ => none
  | _ => none
def absL (objs : Nat → Option Ob) : List B → Option (List D × List Nat)
  | [] => some ([], [])
  | b :: bs => match abD objs b, absL objs bs with
    | some (x, ps), some (xs, qs) => some (x :: xs, ps ++ qs)
    | _, _ => none
def clearHo (i off n : Nat) (hs : List Ho) : List Ho := hs.filter fun h => !(decide (h.i = i ∧ off ≤ h.j ∧ h.j < off + n))
/-- A zero cell: as it is, or a nil slice that owns nothing. -/
def zD (v : Value) : D → Prop
  | .pv u => v = u
  | .rd _ xs => v = .slice none 0 0 ∧ xs = []
  | _ => False
/-- The elements of a slice that is appended. -/
def elemsOf (objs : Nat → Option Ob) (κ : Ky) : B → Option (List (List D))
  | .own o => match objs o with
    | some (.arr κ' xs []) => if κ'.k = κ.k then some xs else none
    | _ => none
  | .d (.rd κ' xs) => if κ'.k = κ.k then some xs else none
  | .d (.pv (.slice none 0 0)) => some []
  | _ => none
def pureL (ys : List (List D)) : Prop := ∀ es ∈ ys, ∀ d ∈ es, pureD d = true
/-- A number for a new object. -/
def freeO (objs : Nat → Option Ob) (d : Nat) : Prop := ((objs d).isNone && Nat.blt d pinN) = true
theorem freeO.none {objs : Nat → Option Ob} {d : Nat} (h : freeO objs d) : objs d = none ∧ d < pinN := by
  unfold freeO at h
  simp only [Bool.and_eq_true, Option.isNone_iff_eq_none] at h
  exact ⟨h.1, by have := h.2; rw [Nat.blt] at this; exact Nat.le_of_ble_eq_true this⟩
def deadA : AV := .v (.c .dead)
def callId (d : Nat) : Nat := 2000 + 1000 * d
/-- What an object that comes in through a call is to the callee. -/
def pairB : B → B → List (Nat × Nat)
  | .own p, .own i => [(p, i)]
  | .ptr p _, .ptr i _ => [(p, i)]
  | .ep p _ _ _, .ep i _ _ _ => [(p, i)]
  | .rel p _, .rel i _ => [(p, i)]
  | _, _ => []
def pairBs : List B → List B → List (Nat × Nat)
  | b :: bs, c :: cs => pairB b c ++ pairBs bs cs
  | _, _ => []
def pairV : AV → V1 → List (Nat × Nat)
  | .v (.c b), .c c => pairB b c
  | .v (.agg bs), .agg cs => pairBs bs cs
  | _, _ => []
def pairVs (env : Nat → AV) : List Operand → List V1 → List (Nat × Nat)
  | x :: xs, y :: ys => pairV (ev env x) y ++ pairVs env xs ys
  | _, _ => []
def pairO (objs : Nat → Option Ob) (ins : List (Nat × Ob)) : List (Nat × Nat) → List (Nat × Nat)
  | [] => []
  | (p, i) :: l => (match objs p, frO ins i with
    | some (.box _ cs), some (.box _ ds) => pairBs cs ds
    | _, _ => []) ++ pairO objs ins l
def orderρ (ρ : List (Nat × Nat)) : List (Nat × Ob) → List (Nat × Nat)
  | [] => []
  | (i, _) :: l => match look2 ρ i with
    | some p => (p, i) :: orderρ ρ l
    | none => orderρ ρ l
def rhoOf (st : St) (xs : List Operand) (args : List V1) (ins : List (Nat × Ob)) : List (Nat × Nat) :=
  let ρ0 := pairVs st.env xs args
  let ρ1 := ρ0 ++ pairO st.objs ins ρ0
  orderρ (ρ1 ++ pairO st.objs ins ρ1) ins
/-- A call. -/
def MCall (P : Program) (st : St) (c : Nat) (f : Operand) (xs : List Operand) (K : AV → St → Prop) : Prop :=
  ∃ g caps bor ρ args ins r outs, ev st.env f = .v (.c (.d (.fn g caps))) ∧ argsC (hobOf bor ρ st.objs) ρ st.env xs = some args ∧ insC st.objs (hobOf bor ρ st.objs) ρ ρ = some ins ∧ SpecM P g (args ++ caps.map fun d => .c (.d d)) ins r outs ∧
    (nodupB (ρ.map (·.1)) && nodupB (ρ.map (·.2)) && outsOk st.objs ρ c outs) = true ∧ (bor = true → r.pu = true ∧ ∀ j Y, frO outs j = some Y → Y.pu = true) ∧ K (r.ren (sg ρ c)) (stAfter st ρ c outs)
def VCW (P : Program) (st : St) (o : Oper) (K : AV → St → Prop) : Prop :=
  match o.op with
  | .alloc T => ∃ d zs, o.dst = some d ∧ freeO st.objs d ∧ zeroCells P T = some zs ∧ K (.v (.c (.ptr d 0))) ⟨st.env, upd st.objs d (some (.box T (zs.map fun v => .d (.pv v))))⟩
  | .box T x => ∃ d v1 cs, o.dst = some d ∧ freeO st.objs d ∧ ev st.env x = .v v1 ∧ cellsV v1 = some cs ∧ K (.v (.c (.ptr d 0))) ⟨st.env, upd st.objs d (some (.box T cs))⟩
  | .store T x y => ∃ b v1 cs ag, ev st.env x = .v (.c b) ∧ ev st.env y = .v v1 ∧ cellsV v1 = some cs ∧ cs.all B.live = true ∧ tyInfo P T = some (ag, cs.length) ∧
      ((∃ p off T' old, b = .ptr p off ∧ st.objs p = some (.box T' old) ∧ off + cs.length ≤ old.length ∧ K deadA ⟨st.env, upd st.objs p (some (.box T' (splice old off cs)))⟩) ∨
       (∃ p i off κ xs hs es ds ps, b = .ep p κ.k i off ∧ absL st.objs cs = some (ds, ps) ∧ nodupB ps = true ∧ (st.kill ps).objs p = some (.arr κ xs hs) ∧ xs[i]? = some es ∧ off + cs.length ≤ κ.k ∧
         K deadA ⟨(st.kill ps).env, upd (st.kill ps).objs p (some (.arr κ (xs.set i (splice es off ds)) (clearHo i off cs.length hs)))⟩))
  | .build T parts => ∃ zs pl ps bs, zeroCells P T = some zs ∧ placesOf P T = some pl ∧ partsB st parts.toList = some ps ∧ fillB (fun i => pl[i]?) (zs.map fun v => .d (.pv v)) ps = some bs ∧ K (.v (.agg bs)) st
  | .buildSlice T len parts => ∃ d κ by' zs pl bs ds ps, o.dst = some d ∧ sliceInfo P T = some (κ, by', zs) ∧ len ≤ 65536 ∧ len * κ.k ≤ 16777216 ∧ partsB st parts.toList = some pl ∧ fillB (fun i => some (i * κ.k, κ.k)) (List.replicate (len * κ.k) .dead) pl = some bs ∧
      absL st.objs bs = some (ds, ps) ∧ nodupB ps = true ∧ freeO (st.kill ps).objs d ∧ K (.v (.c (.own d))) ⟨(st.kill ps).env, upd (st.kill ps).objs d (some (.arr κ (chunks κ.k len ds) []))⟩
  | .makeSlice T l c => ∃ d n κ by' zs zd, o.dst = some d ∧ freeO st.objs d ∧ ev st.env l = pvA (.int .i64 n) ∧ ev st.env c = pvA (.int .i64 n) ∧ 0 ≤ n ∧ n ≤ 16777216 ∧ sliceInfo P T = some (κ, by', zs) ∧ by' ≤ 65536 ∧ F2 zD zs zd ∧
      K (.v (.c (.own d))) ⟨st.env, upd st.objs d (some (.arr κ (List.replicate n.toNat zd) []))⟩
  | .call c => match c.callee with
    | .builtin .append => ∃ d x y T b b' κ by' zs ys, o.dst = some d ∧ c.args.toList = [x, y] ∧ c.argTypes.toList = [T, T] ∧ ev st.env x = .v (.c b) ∧ ev st.env y = .v (.c b') ∧ sliceInfo P T = some (κ, by', zs) ∧ elemsOf st.objs κ b' = some ys ∧
        ∃ ps, ((pureL ys ∧ ps = []) ∨ (∃ q, b' = .own q ∧ ps = [q])) ∧
        ((∃ p xs, b = .own p ∧ (st.kill ps).objs p = some (.arr κ xs []) ∧ p < pinN ∧ xs.length + ys.length ≤ maxLen ∧ (xs.length + ys.length) * by' ≤ 140737488355328 ∧ K (.v (.c (.own p))) ⟨((st.kill ps).kill [p]).env, upd ((st.kill ps).kill [p]).objs p (some (.arr κ (xs ++ ys) []))⟩) ∨
         (b = .d (.pv (.slice none 0 0)) ∧ freeO (st.kill ps).objs d ∧ ys.length * by' ≤ 140737488355328 ∧ K (.v (.c (.own d))) ⟨(st.kill ps).env, upd (st.kill ps).objs d (some (.arr κ ys []))⟩))
    | .value f => MCall P st (callId (o.dst.getD 0)) f c.args.toList K ∨ FCall P st f c.args.toList fun x => K x st
    | _ => VCR P st o.op fun x => K x st
  | _ => VCR P st o.op fun x => K x st
/-- An operation gives x and leaves what is known as st'. -/
def OpW (P : Program) (F : Fx) (st : St) (o : Oper) (x : AV) (st' : St) : Prop :=
  ∀ (a : Act) (w : World) (R : Nat → Prop) (ι : Nat → Value) (φ : Nat → List Nat), Sat F R ι φ st a w → ∀ (K : Act → World → Prop) (Q : Exit → Act → World → Prop),
    (∀ v w' R' ι' φ', Sat F R' ι' φ' st' a w' → RA w' R' ι' st'.dom v x → K (a.put o.dst v) w') → o.wp P a w K Q
section
variable {P : Program} {F : Fx} {st : St} {o : Oper}
theorem OpW.of_read {x : AV} (h : OpS P st o x) : OpW P F st o x st := fun a w R ι φ hs K Q hK =>
  h a w R ι φ hs.rlt hs.ok (fun y _ => ev_ok hs.env y) K Q fun v w' R' hb h1 h2 h3 hv => hK v w' R' ι φ (hs.world hb h1 h2 h3) hv
theorem RB.one {w : World} {R : Nat → Prop} {ι : Nat → Value} {φ : Nat → List Nat} {objs : Nat → Option Ob} {dom : Nat → Prop} (ho : ∀ p y, objs p = some y → RO w R ι dom (ι p) (φ p) y) {v : Value} {b : B} (h : RB w R ι (domO objs) v b) (hl : b.live = true) : v.oneCell' = true := by
  cases b with
  | d x => exact RD.one h
  | ptr o off => obtain ⟨_, g, _, rfl⟩ := h; rfl
  | own o =>
    obtain ⟨⟨x, hx⟩, rfl⟩ := h
    have := ho o x hx
    cases x with
    | box T cs => obtain ⟨g, vs, e, _⟩ := this; rw [e]; rfl
    | arr κ xs hs => obtain ⟨a, cap, e, _⟩ := RArr.len this; rw [e]; rfl
    | mp es => obtain ⟨g, c, ms, e, _⟩ := this; rw [e]; rfl
    | val b => exact this.1
  | ep o k i off => obtain ⟨_, g, _, _, _, rfl⟩ := h; rfl
  | rel o q => cases hl
  | dead => cases hl
theorem cells_one {v : Value} (h : v.oneCell' = true) : v.cells = #[v] := by
  cases v <;> first | rfl | (simp [Value.oneCell'] at h)
theorem cellsV_ok {w : World} {R : Nat → Prop} {ι : Nat → Value} {φ : Nat → List Nat} {st : St} (ho : ∀ p y, st.objs p = some y → RO w R ι st.dom (ι p) (φ p) y) {v : Value} {v1 : V1} {cs : List B} (h : RV1 w R ι st.dom v v1) (hc : cellsV v1 = some cs) : F2 (RB w R ι st.dom) v.cells.toList cs := by
  cases v1 with
  | c b =>
    simp only [cellsV] at hc
    split at hc
    · rename_i hl
      cases hc
      rw [cells_one (RB.one ho h hl)]
      exact .cons h .nil
    · cases hc
  | agg bs =>
    cases hc
    obtain ⟨vs, rfl, h2⟩ := h
    exact h2
theorem goodV_ok {v : Value} (h : goodV v = true) : v.oneCell' = true ∧ okI v := by
  unfold goodV at h
  simp only [Bool.and_eq_true] at h
  refine ⟨h.1, ?_⟩
  have := h.2
  unfold okI
  cases v <;> first | trivial | exact this | (simpa using this)
theorem good_F2 {w : World} {R : Nat → Prop} {ι : Nat → Value} {dom : Nat → Prop} : ∀ {zs : List Value}, zs.all goodV = true → F2 (RB w R ι dom) zs (zs.map fun v => .d (.pv v))
  | [], _ => .nil
  | z :: zs, h => by
    simp only [List.all_cons, Bool.and_eq_true] at h
    exact .cons (RD.pv (goodV_ok h.1).1 (goodV_ok h.1).2) (good_F2 h.2)
theorem run_zeroCells {w : World} {T : TypeId} {zs : List Value} (h : zeroCells P T = some zs) : ∃ z : Value, (zeroValue T).run P w = .ok z w ∧ z.cells.toList = zs ∧ zs.all goodV = true := by
  unfold zeroCells at h
  cases hi : P.info? T with
  | none => simp [hi] at h
  | some i =>
    cases hz : i.zero with
    | none => simp [hi, hz] at h
    | some z =>
      simp only [hi, hz, Option.bind_some] at h
      split at h
      · rename_i hg
        cases h
        exact ⟨z, by simp [zeroValue, typeInfo, hi, hz], rfl, hg⟩
      · cases h
theorem alloc_new_at (w : World) (o : Obj) : (w.alloc o).heap[w.heap.size]? = some o := heap_alloc_new w o
theorem box_ok {w : World} {R : Nat → Prop} {ι : Nat → Value} {φ : Nat → List Nat} {a : Act} (hs : Sat F R ι φ st a w) {d T : Nat} {vs : List Value} {cs : List B} (hn : freeO st.objs d) (hF : F2 (RB w R ι st.dom) vs cs) :
    Sat F R (upd ι d (.pointer (some ⟨w.heap.size, 0, none⟩))) (upd φ d [w.heap.size]) ⟨st.env, upd st.objs d (some (.box T cs))⟩ a (w.alloc (.cells vs.toArray T)) ∧
    RA (w.alloc (.cells vs.toArray T)) R (upd ι d (.pointer (some ⟨w.heap.size, 0, none⟩))) (domO (upd st.objs d (some (.box T cs)))) (.pointer (some ⟨w.heap.size, 0, none⟩)) (.v (.c (.ptr d 0))) := by
  obtain ⟨hn1, hn2⟩ := hn.none
  have hb : Below w.heap.size w (w.alloc (.cells vs.toArray T)) := (Below.refl _ _).alloc (Nat.le_refl _) _
  have hne : ∀ p, st.dom p → p ≠ d := fun p ⟨y, hy⟩ e => by subst e; rw [hn1] at hy; cases hy
  refine ⟨hs.new hn1 hn2 hb ⟨w.heap.size, vs, rfl, rfl, alloc_new_at _ _, ?_⟩ (fun g hg => ?_), ⟨_, upd_same _ _ _⟩, w.heap.size, upd_same _ _ _, rfl⟩
  · refine hF.mono fun v b h => RB.keep (fun _ h => h) (fun b hb' => hb.block b (hs.rlt b hb')) (fun p ⟨y, hy⟩ => ⟨y, by rw [upd_ne _ _ (hne p ⟨y, hy⟩)]; exact hy⟩) (fun p hp => upd_ne _ _ (hne p hp)) h
  · simp only [List.mem_singleton] at hg
    subst hg
    simp
theorem sound_alloc {T d : Nat} {zs : List Value} (hop : o.op = .alloc T) (hn : freeO st.objs d) (hz : zeroCells P T = some zs) :
    OpW P F st o (.v (.c (.ptr d 0))) ⟨st.env, upd st.objs d (some (.box T (zs.map fun v => .d (.pv v))))⟩ := fun a w R ι φ hs K Q hK => by
  obtain ⟨z, h1, h2, h3⟩ := run_zeroCells (w := w) hz
  have hrun : (execOp a.eval o).run P w = .ok (.value (.pointer (some ⟨w.heap.size, 0, none⟩))) (w.alloc (.cells zs.toArray T)) := by
    unfold execOp
    rw [hop]
    simp only [Instr.alloc, Sem.run_bind, h1, Result.andThen_ok, newVar, newRow, run_newObj, Sem.run_pure, ← h2, Array.toArray_toList]
    rfl
  unfold Oper.wp
  rw [hrun, Oper.upon_value]
  obtain ⟨q1, q2⟩ := box_ok (T := T) hs hn (good_F2 h3)
  exact hK _ _ _ _ _ q1 q2
theorem sound_box {T d : Nat} {x : Operand} {v1 : V1} {cs : List B} (hop : o.op = .box T x) (hn : freeO st.objs d) (hx : ev st.env x = .v v1) (hc : cellsV v1 = some cs) :
    OpW P F st o (.v (.c (.ptr d 0))) ⟨st.env, upd st.objs d (some (.box T cs))⟩ := fun a w R ι φ hs K Q hK => by
  have hv := ev_ok (a := a) hs.env x
  rw [hx] at hv
  have hF := cellsV_ok hs.objs hv hc
  have hrun : (execOp a.eval o).run P w = .ok (.value (.pointer (some ⟨w.heap.size, 0, none⟩))) (w.alloc (.cells (a.eval x).cells.toList.toArray T)) := by
    unfold execOp
    rw [hop]
    simp only [Instr.box, Sem.run_bind, Result.andThen_ok, newVar, newRow, run_newObj, Sem.run_pure, Array.toArray_toList]
    rfl
  unfold Oper.wp
  rw [hrun, Oper.upon_value]
  obtain ⟨q1, q2⟩ := box_ok (T := T) hs hn hF
  exact hK _ _ _ _ _ q1 q2
theorem F2.splice {α β : Type} {r : α → β → Prop} {as cs : List α} {bs ds : List β} (off : Nat) (h : F2 r as bs) (h' : F2 r cs ds) : F2 r (splice as off cs) (splice bs off ds) := by
  unfold Go.Proofs.YtlblmofimjhbbaaDoor.splice
  rw [h'.len]
  exact ((h.take off).append h').append (h.drop _)
theorem run_storeAt {w : World} {T : TypeId} {g off : Nat} {v : Value} {ag : Bool} {T' : TypeId} {cur : List Value} (hT : tyInfo P T = some (ag, v.cells.toList.length)) (hg : w.heap[g]? = some (.cells cur.toArray T' (0, 0))) (hl : off + v.cells.toList.length ≤ cur.length) (h1 : ∀ u ∈ v.cells.toList, u.oneCell' = true) :
    (Instr.storeAt T (.pointer (some ⟨g, off, none⟩)) v).run P w = .ok () (w.setRow g (splice cur off v.cells.toList).toArray) := by
  obtain ⟨_, hs⟩ := run_tyInfo (w := w) hT
  have hst := run_storeCells_at P g off T' v.cells.toList 0 cur.toArray w hg (by simpa using hl) h1
  simp only [Nat.add_zero] at hst
  have hsz : v.cells.size = v.cells.toList.length := by simp
  simp only [Instr.storeAt, Instr.sureAddr, storeVar, Sem.run_bind, Sem.run_pure, Result.andThen_ok, hs]
  rw [if_neg (by simp)]
  exact hst
theorem setRow_size (w : World) (g : Nat) (cs : Array Value) : (w.setRow g cs).heap.size = w.heap.size := by simp [World.setRow]
theorem BelowM.setRow {M : Nat → Prop} {a w : World} (h : BelowM M a w) {g : Nat} (hg : M g ∨ a.heap.size ≤ g) (cs : Array Value) : BelowM M a (w.setRow g cs) :=
  ⟨h.os, h.tape, h.output, by rw [setRow_size]; exact h.size, fun k hk hm => (setRow_other w g k cs (fun e => by subst e; rcases hg with h | h; exact hm h; omega)).trans (h.block k hk hm)⟩
theorem live_one {w : World} {R : Nat → Prop} {ι : Nat → Value} {φ : Nat → List Nat} {st : St} (ho : ∀ p y, st.objs p = some y → RO w R ι st.dom (ι p) (φ p) y) : ∀ {vs : List Value} {bs : List B}, F2 (RB w R ι st.dom) vs bs → bs.all B.live = true → ∀ u ∈ vs, u.oneCell' = true
  | _, _, .nil, _, u, hu => by simp at hu
  | _, _, .cons h1 h2, hl, u, hu => by
    simp only [List.all_cons, Bool.and_eq_true] at hl
    rcases List.mem_cons.1 hu with rfl | hu
    · exact RB.one ho h1 hl.1
    · exact live_one ho h2 hl.2 u hu
theorem run_store_op {a : Act} {w : World} {T : TypeId} {x y : Operand} (hop : o.op = .store T x y) {w' : World} (h : (Instr.storeAt T (a.eval x) (a.eval y)).run P w = .ok () w') : (execOp a.eval o).run P w = .ok .skip w' := by
  unfold execOp
  rw [hop]
  simp only [Sem.run_bind, h, Result.andThen_ok, Sem.run_pure]
theorem sound_store_ptr {T : TypeId} {x y : Operand} {v1 : V1} {cs old : List B} {ag : Bool} {p off : Nat} {T' : TypeId} (hop : o.op = .store T x y) (hx : ev st.env x = .v (.c (.ptr p off))) (hy : ev st.env y = .v v1) (hc : cellsV v1 = some cs) (hl : cs.all B.live = true) (hT : tyInfo P T = some (ag, cs.length))
    (hob : st.objs p = some (.box T' old)) (hle : off + cs.length ≤ old.length) : OpW P F st o deadA ⟨st.env, upd st.objs p (some (.box T' (splice old off cs)))⟩ := fun a w R ι φ hs K Q hK => by
  have hvx := ev_ok (a := a) hs.env x
  have hvy := ev_ok (a := a) hs.env y
  rw [hx] at hvx; rw [hy] at hvy
  have hF := cellsV_ok hs.objs hvy hc
  have hlen := hF.len
  obtain ⟨_, g, hι, hva⟩ := hvx
  obtain ⟨g', vs, hι', hφ, hh, hvs⟩ := hs.objs _ _ hob
  rw [hι] at hι'
  obtain rfl : g = g' := by simpa using hι'
  have hmi := hs.mine p _ hob g (by rw [hφ]; simp)
  have hrun := run_store_op (P := P) (o := o) hop (a := a) (w := w) (by rw [hva]; exact run_storeAt (v := a.eval y) (cur := vs) (by rw [hlen]; exact hT) hh (by rw [hlen, hvs.len]; exact hle) (live_one hs.objs hF hl))
  unfold Oper.wp
  rw [hrun, Oper.upon_skip]
  have hRb : ∀ b, R b → (w.setRow g (splice vs off (a.eval y).cells.toList).toArray).heap[b]? = w.heap[b]? := fun b hb => setRow_other w g b _ (fun e => hmi.2.1 (e ▸ hb))
  refine hK _ _ R ι _ (hs.write (S := [g]) hob (hs.below.setRow hmi.1 _) (by rw [setRow_size]; exact Nat.le_refl _) (fun b _ hne => setRow_other w g b _ (fun e => hne (by rw [hφ, e]; simp))) ?_ (fun g' hg' => by rw [hφ]; exact hg')) trivial
  refine ⟨g, _, hι, rfl, setRow_heap w g _ _ T' (0, 0) hh, F2.splice off ?_ ?_⟩
  · exact hvs.mono fun _ _ h => RB.keep (fun _ h => h) hRb (fun _ h => h) (fun _ _ => rfl) h
  · exact hF.mono fun _ _ h => RB.keep (fun _ h => h) hRb (fun _ h => h) (fun _ _ => rfl) h
end
end Go.Proofs.YtlblmofimjhbbaaDoor
