/- Texts of one proof, one behind the other. -/
import Derived.Great.BuildSlice
import Derived.Deep.Onto
import Derived.Test.YtehkaajakapkmaaGreatFA04
import Derived.Test.YtehkaajakapkmaaGreatFA05
namespace Go.Proofs.YtehkaajakapkmaaGreat
section
open Go.RowKit
def B.live : B → Bool
  | .dead => false
  | .rel _ _ => false
  | _ => true
def cellsV : V1 → Option (List B)
  | .c b => if b.live then some [b] else none
  | .agg cs => some cs
def setAll (bs : List B) (off : Nat) : List B → List B
  | [] => bs
  | c :: cs => setAll (bs.set off c) (off + 1) cs
def fillB (place : Nat → Option (Nat × Nat)) (bs : List B) : List (Nat × List B) → Option (List B)
  | [] => some bs
  | (i, c) :: rest => match place i with
    | none => none
    | some (off, size) => if c.length = size ∧ off + c.length ≤ bs.length then fillB place (setAll bs off c) rest else none
def partsB (st : St) : List (Nat × Operand) → Option (List (Nat × List B))
  | [] => some []
  | (i, x) :: rest => match ev st.env x, partsB st rest with
    | .v v1, some ps => match cellsV v1 with
      | some cs => some ((i, cs) :: ps)
      | none => none
    | _, _ => none
def chunks (s : Nat) : Nat → List D → List (List D)
  | 0, _ => []
  | n + 1, ds => ds.take s :: chunks s n (ds.drop s)
def goodV (v : Value) : Bool := v.oneCell' && match v with
  | .int k n => (Lit.int k n).wf
  | .string s => decide (s.size ≤ maxLen)
  | _ => true
def zeroCells (P : Program) (T : TypeId) : Option (List Value) :=
  (P.info? T).bind fun i => i.zero.bind fun z => if z.cells.toList.all goodV then some z.cells.toList else none
def placesOf (P : Program) (T : TypeId) : Option (List (Nat × Nat)) :=
  match P.underlying T with
  | some (.struct fs) => if fs.toList.all (fun f => (P.info? f.type).isSome) then some (fs.toList.map fun f => (f.offset, P.cellsOf f.type)) else none
  | _ => none
def sliceInfo (P : Program) (T : TypeId) : Option (Ky × Nat × List Value) :=
  match P.underlying T with
  | some (.slice e) => (P.info? e).bind fun i => i.zero.bind fun z => if z.cells.toList.all goodV && (z.cells.size == i.size) && decide (0 < i.size) then some (⟨e, i.size⟩, i.bytes, z.cells.toList) else none
  | _ => none
def splice {α : Type} (old : List α) (off : Nat) (cs : List α) : List α := old.take off ++ cs ++ old.drop (off + cs.length)
def abD (objs : Nat → Option Ob) : B → Option (D × List Nat)
  | .d x => if pureD x then some (x, []) else none
  | .own q => match objs q with
    | some (.arr κ xs []) => some (.rd κ xs, [q])
    | _ => none
  | _ => none
def absL (objs : Nat → Option Ob) : List B → Option (List D × List Nat)
  | [] => some ([], [])
  | b :: bs => match abD objs b, absL objs bs with
    | some (x, ps), some (xs, qs) => some (x :: xs, ps ++ qs)
    | _, _ => none
def clearHo (i off n : Nat) (hs : List Ho) : List Ho := hs.filter fun h => !(decide (h.i = i ∧ off ≤ h.j ∧ h.j < off + n))
def zD (v : Value) : D → Prop
  | .pv u => v = u
  | .rd _ xs => v = .slice none 0 0 ∧ xs = []
  | _ => False
def elemsOf (objs : Nat → Option Ob) (κ : Ky) : B → Option (List (List D))
  | .own o => match objs o with
    | some (.arr κ' xs []) => if κ'.k = κ.k then some xs else none
    | _ => none
  | .d (.rd κ' xs) => if κ'.k = κ.k then some xs else none
  | .d (.pv (.slice none 0 0)) => some []
  | _ => none
def pureL (ys : List (List D)) : Prop := ∀ es ∈ ys, ∀ d ∈ es, pureD d = true
def freeO (objs : Nat → Option Ob) (d : Nat) : Prop := ((objs d).isNone && Nat.blt d pinN) = true
theorem freeO.none {objs : Nat → Option Ob} {d : Nat} (h : freeO objs d) : objs d = none ∧ d < pinN := by
  unfold freeO at h
  simp only [Bool.and_eq_true, Option.isNone_iff_eq_none] at h
  exact ⟨h.1, by have := h.2; rw [Nat.blt] at this; exact Nat.le_of_ble_eq_true this⟩
def deadA : AV := .v (.c .dead)
def callId (d : Nat) : Nat := 2000 + 1000 * d
def pairB : B → B → List (Nat × Nat)
  | .own p, .own i => [(p, i)]
  | .ptr p _, .ptr i _ => [(p, i)]
  | .ep p _ _ _, .ep i _ _ _ => [(p, i)]
  | .rel p _, .rel i _ => [(p, i)]
  | _, _ => []
def pairBs : List B → List B → List (Nat × Nat)
  | b :: bs, c :: cs => pairB b c ++ pairBs bs cs
  | _, _ => []
def MCall (P : Program) (st : St) (c : Nat) (f : Operand) (xs : List Operand) (K : AV → St → Prop) : Prop :=
  ∃ g caps bor ρ args ins r outs, ev st.env f = .v (.c (.d (.fn g caps))) ∧ argsC (hobOf bor ρ st.objs) ρ st.env xs = some args ∧ insC st.objs (hobOf bor ρ st.objs) ρ ρ = some ins ∧ SpecM P g (args ++ caps.map fun d => .c (.d d)) ins r outs ∧
    (nodupB (ρ.map (·.1)) && nodupB (ρ.map (·.2)) && outsOk st.objs ρ c outs) = true ∧ (bor = true → r.pu = true ∧ ∀ j Y, frO outs j = some Y → Y.pu = true) ∧ K (r.ren (sg ρ c)) (stAfter st ρ c outs)
def VCW (P : Program) (st : St) (o : Oper) (K : AV → St → Prop) : Prop :=
  match o.op with
  | .alloc T => ∃ d zs, o.dst = some d ∧ freeO st.objs d ∧ zeroCells P T = some zs ∧ K (.v (.c (.ptr d 0))) ⟨st.env, upd st.objs d (some (.box T (zs.map fun v => .d (.pv v))))⟩
  | .box T x => ∃ d v1 cs, o.dst = some d ∧ freeO st.objs d ∧ ev st.env x = .v v1 ∧ cellsV v1 = some cs ∧ K (.v (.c (.ptr d 0))) ⟨st.env, upd st.objs d (some (.box T cs))⟩
  | .store T x y => ∃ b v1 cs ag, ev st.env x = .v (.c b) ∧ ev st.env y = .v v1 ∧ cellsV v1 = some cs ∧ cs.all B.live = true ∧ tyInfo P T = some (ag, cs.length) ∧
      ((∃ p off T' old, b = .ptr p off ∧ st.objs p = some (.box T' old) ∧ off + cs.length ≤ old.length ∧ K deadA ⟨st.env, upd st.objs p (some (.box T' (splice old off cs)))⟩) ∨
       (∃ p i off κ xs hs es ds ps, b = .ep p κ.k i off ∧ absL st.objs cs = some (ds, ps) ∧ nodupB ps = true ∧ (st.kill ps).objs p = some (.arr κ xs hs) ∧ xs[i]? = some es ∧ off + cs.length ≤ κ.k ∧
         K deadA ⟨(st.kill ps).env, upd (st.kill ps).objs p (some (.arr κ (xs.set i (splice es off ds)) (clearHo i off cs.length hs)))⟩))
  | .build T parts => ∃ zs pl ps bs, zeroCells P T = some zs ∧ placesOf P T = some pl ∧ partsB st parts.toList = some ps ∧ fillB (fun i => pl[i]?) (zs.map fun v => .d (.pv v)) ps = some bs ∧ K (.v (.agg bs)) st
  | .buildSlice T len parts => ∃ d κ by' zs pl bs ds ps, o.dst = some d ∧ sliceInfo P T = some (κ, by', zs) ∧ len ≤ 65536 ∧ len * κ.k ≤ 16777216 ∧ partsB st parts.toList = some pl ∧ fillB (fun i => some (i * κ.k, κ.k)) (List.replicate (len * κ.k) .dead) pl = some bs ∧
      absL st.objs bs = some (ds, ps) ∧ nodupB ps = true ∧ freeO (st.kill ps).objs d ∧ K (.v (.c (.own d))) ⟨(st.kill ps).env, upd (st.kill ps).objs d (some (.arr κ (chunks κ.k len ds) []))⟩
  | .makeSlice T l c => ∃ d n κ by' zs zd, o.dst = some d ∧ freeO st.objs d ∧ ev st.env l = pvA (.int .i64 n) ∧ ev st.env c = pvA (.int .i64 n) ∧ 0 ≤ n ∧ n ≤ 16777216 ∧ sliceInfo P T = some (κ, by', zs) ∧ by' ≤ 65536 ∧ F2 zD zs zd ∧
      K (.v (.c (.own d))) ⟨st.env, upd st.objs d (some (.arr κ (List.replicate n.toNat zd) []))⟩
  | .call c => match c.callee with
    | .builtin .append => ∃ d x y T b b' κ by' zs ys, o.dst = some d ∧ c.args.toList = [x, y] ∧ c.argTypes.toList = [T, T] ∧ ev st.env x = .v (.c b) ∧ ev st.env y = .v (.c b') ∧ sliceInfo P T = some (κ, by', zs) ∧ elemsOf st.objs κ b' = some ys ∧
        ∃ ps, ((pureL ys ∧ ps = []) ∨ (∃ q, b' = .own q ∧ ps = [q])) ∧
        ((∃ p xs, b = .own p ∧ (st.kill ps).objs p = some (.arr κ xs []) ∧ p < pinN ∧ xs.length + ys.length ≤ maxLen ∧ (xs.length + ys.length) * by' ≤ 140737488355328 ∧ K (.v (.c (.own p))) ⟨((st.kill ps).kill [p]).env, upd ((st.kill ps).kill [p]).objs p (some (.arr κ (xs ++ ys) []))⟩) ∨
         (b = .d (.pv (.slice none 0 0)) ∧ freeO (st.kill ps).objs d ∧ ys.length * by' ≤ 140737488355328 ∧ K (.v (.c (.own d))) ⟨(st.kill ps).env, upd (st.kill ps).objs d (some (.arr κ ys []))⟩))
    | .value f => MCall P st (callId (o.dst.getD 0)) f c.args.toList K ∨ FCall P st f c.args.toList fun x => K x st
    | _ => VCR P st o.op fun x => K x st
  | _ => VCR P st o.op fun x => K x st
def OpW (P : Program) (F : Fx) (st : St) (o : Oper) (x : AV) (st' : St) : Prop :=
  ∀ (a : Act) (w : World) (R : Nat → Prop) (ι : Nat → Value) (φ : Nat → List Nat), Sat F R ι φ st a w → ∀ (K : Act → World → Prop) (Q : Exit → Act → World → Prop),
    (∀ v w' R' ι' φ', Sat F R' ι' φ' st' a w' → RA w' R' ι' st'.dom v x → K (a.put o.dst v) w') → o.wp P a w K Q
section
variable {P : Program} {F : Fx} {st : St} {o : Oper}
theorem OpW.of_read {x : AV} (h : OpS P st o x) : OpW P F st o x st := fun a w R ι φ hs K Q hK =>
  h a w R ι φ hs.rlt hs.ok (fun y _ => ev_ok hs.env y) K Q fun v w' R' hb h1 h2 h3 hv => hK v w' R' ι φ (hs.world hb h1 h2 h3) hv
theorem RB.one {w : World} {R : Nat → Prop} {ι : Nat → Value} {φ : Nat → List Nat} {objs : Nat → Option Ob} {dom : Nat → Prop} (ho : ∀ p y, objs p = some y → RO w R ι dom (ι p) (φ p) y) {v : Value} {b : B} (h : RB w R ι (domO objs) v b) (hl : b.live = true) : v.oneCell' = true := by
  cases b with
  | d x => exact RD.one h
  | ptr o off => obtain ⟨_, g, _, rfl⟩ := h; rfl
  | own o =>
    obtain ⟨⟨x, hx⟩, rfl⟩ := h
    have := ho o x hx
    cases x with
    | box T cs => obtain ⟨g, vs, e, _⟩ := this; rw [e]; rfl
    | arr κ xs hs => obtain ⟨a, cap, e, _⟩ := RArr.len this; rw [e]; rfl
    | mp es => obtain ⟨g, c, ms, e, _⟩ := this; rw [e]; rfl
    | val b => exact this.1
  | ep o k i off => obtain ⟨_, g, _, _, _, rfl⟩ := h; rfl
  | rel o q => cases hl
  | dead => cases hl
theorem cells_one {v : Value} (h : v.oneCell' = true) : v.cells = #[v] := by
  cases v <;> first | rfl | (simp [Value.oneCell'] at h)
theorem cellsV_ok {w : World} {R : Nat → Prop} {ι : Nat → Value} {φ : Nat → List Nat} {st : St} (ho : ∀ p y, st.objs p = some y → RO w R ι st.dom (ι p) (φ p) y) {v : Value} {v1 : V1} {cs : List B} (h : RV1 w R ι st.dom v v1) (hc : cellsV v1 = some cs) : F2 (RB w R ι st.dom) v.cells.toList cs := by
  cases v1 with
  | c b =>
    simp only [cellsV] at hc
    split at hc
    · rename_i hl
      cases hc
      rw [cells_one (RB.one ho h hl)]
      exact .cons h .nil
    · cases hc
  | agg bs =>
    cases hc
    obtain ⟨vs, rfl, h2⟩ := h
    exact h2
theorem goodV_ok {v : Value} (h : goodV v = true) : v.oneCell' = true ∧ okI v := by
  unfold goodV at h
  simp only [Bool.and_eq_true] at h
  refine ⟨h.1, ?_⟩
  have := h.2
  unfold okI
  cases v <;> first | trivial | exact this | (simpa using this)
theorem good_F2 {w : World} {R : Nat → Prop} {ι : Nat → Value} {dom : Nat → Prop} : ∀ {zs : List Value}, zs.all goodV = true → F2 (RB w R ι dom) zs (zs.map fun v => .d (.pv v))
  | [], _ => .nil
  | z :: zs, h => by
    simp only [List.all_cons, Bool.and_eq_true] at h
    exact .cons (RD.pv (goodV_ok h.1).1 (goodV_ok h.1).2) (good_F2 h.2)
theorem run_zeroCells {w : World} {T : TypeId} {zs : List Value} (h : zeroCells P T = some zs) : ∃ z : Value, (zeroValue T).run P w = .ok z w ∧ z.cells.toList = zs ∧ zs.all goodV = true := by
  unfold zeroCells at h
  cases hi : P.info? T with
  | none => simp [hi] at h
  | some i =>
    cases hz : i.zero with
    | none => simp [hi, hz] at h
    | some z =>
      simp only [hi, hz, Option.bind_some] at h
      split at h
      · rename_i hg
        cases h
        exact ⟨z, by simp [zeroValue, typeInfo, hi, hz], rfl, hg⟩
      · cases h
theorem alloc_new_at (w : World) (o : Obj) : (w.alloc o).heap[w.heap.size]? = some o := heap_alloc_new w o
theorem box_ok {w : World} {R : Nat → Prop} {ι : Nat → Value} {φ : Nat → List Nat} {a : Act} (hs : Sat F R ι φ st a w) {d T : Nat} {vs : List Value} {cs : List B} (hn : freeO st.objs d) (hF : F2 (RB w R ι st.dom) vs cs) :
    Sat F R (upd ι d (.pointer (some ⟨w.heap.size, 0, none⟩))) (upd φ d [w.heap.size]) ⟨st.env, upd st.objs d (some (.box T cs))⟩ a (w.alloc (.cells vs.toArray T)) ∧
    RA (w.alloc (.cells vs.toArray T)) R (upd ι d (.pointer (some ⟨w.heap.size, 0, none⟩))) (domO (upd st.objs d (some (.box T cs)))) (.pointer (some ⟨w.heap.size, 0, none⟩)) (.v (.c (.ptr d 0))) := by
  obtain ⟨hn1, hn2⟩ := hn.none
  have hb : Below w.heap.size w (w.alloc (.cells vs.toArray T)) := (Below.refl _ _).alloc (Nat.le_refl _) _
  have hne : ∀ p, st.dom p → p ≠ d := fun p ⟨y, hy⟩ e => by subst e; rw [hn1] at hy; cases hy
  refine ⟨hs.new hn1 hn2 hb ⟨w.heap.size, vs, rfl, rfl, alloc_new_at _ _, ?_⟩ (fun g hg => ?_), ⟨_, upd_same _ _ _⟩, w.heap.size, upd_same _ _ _, rfl⟩
  · refine hF.mono fun v b h => RB.keep (fun _ h => h) (fun b hb' => hb.block b (hs.rlt b hb')) (fun p ⟨y, hy⟩ => ⟨y, by rw [upd_ne _ _ (hne p ⟨y, hy⟩)]; exact hy⟩) (fun p hp => upd_ne _ _ (hne p hp)) h
  · simp only [List.mem_singleton] at hg
    subst hg
    simp
theorem sound_alloc {T d : Nat} {zs : List Value} (hop : o.op = .alloc T) (hn : freeO st.objs d) (hz : zeroCells P T = some zs) :
    OpW P F st o (.v (.c (.ptr d 0))) ⟨st.env, upd st.objs d (some (.box T (zs.map fun v => .d (.pv v))))⟩ := fun a w R ι φ hs K Q hK => by
  obtain ⟨z, h1, h2, h3⟩ := run_zeroCells (w := w) hz
  have hrun : (execOp a.eval o).run P w = .ok (.value (.pointer (some ⟨w.heap.size, 0, none⟩))) (w.alloc (.cells zs.toArray T)) := by
    unfold execOp
    rw [hop]
    simp only [Instr.alloc, Sem.run_bind, h1, Result.andThen_ok, newVar, newRow, run_newObj, Sem.run_pure, ← h2, Array.toArray_toList]
    rfl
  unfold Oper.wp
  rw [hrun, Oper.upon_value]
  obtain ⟨q1, q2⟩ := box_ok (T := T) hs hn (good_F2 h3)
  exact hK _ _ _ _ _ q1 q2
theorem sound_box {T d : Nat} {x : Operand} {v1 : V1} {cs : List B} (hop : o.op = .box T x) (hn : freeO st.objs d) (hx : ev st.env x = .v v1) (hc : cellsV v1 = some cs) :
    OpW P F st o (.v (.c (.ptr d 0))) ⟨st.env, upd st.objs d (some (.box T cs))⟩ := fun a w R ι φ hs K Q hK => by
  have hv := ev_ok (a := a) hs.env x
  rw [hx] at hv
  have hF := cellsV_ok hs.objs hv hc
  have hrun : (execOp a.eval o).run P w = .ok (.value (.pointer (some ⟨w.heap.size, 0, none⟩))) (w.alloc (.cells (a.eval x).cells.toList.toArray T)) := by
    unfold execOp
    rw [hop]
    simp only [Instr.box, Sem.run_bind, Result.andThen_ok, newVar, newRow, run_newObj, Sem.run_pure, Array.toArray_toList]
    rfl
  unfold Oper.wp
  rw [hrun, Oper.upon_value]
  obtain ⟨q1, q2⟩ := box_ok (T := T) hs hn hF
  exact hK _ _ _ _ _ q1 q2
theorem F2.splice {α β : Type} {r : α → β → Prop} {as cs : List α} {bs ds : List β} (off : Nat) (h : F2 r as bs) (h' : F2 r cs ds) : F2 r (splice as off cs) (splice bs off ds) := by
  unfold Go.Proofs.YtehkaajakapkmaaGreat.splice
  rw [h'.len]
  exact ((h.take off).append h').append (h.drop _)
theorem run_storeAt {w : World} {T : TypeId} {g off : Nat} {v : Value} {ag : Bool} {T' : TypeId} {cur : List Value} (hT : tyInfo P T = some (ag, v.cells.toList.length)) (hg : w.heap[g]? = some (.cells cur.toArray T' (0, 0))) (hl : off + v.cells.toList.length ≤ cur.length) (h1 : ∀ u ∈ v.cells.toList, u.oneCell' = true) :
    (Instr.storeAt T (.pointer (some ⟨g, off, none⟩)) v).run P w = .ok () (w.setRow g (splice cur off v.cells.toList).toArray) := by
  obtain ⟨_, hs⟩ := run_tyInfo (w := w) hT
  have hst := run_storeCells_at P g off T' v.cells.toList 0 cur.toArray w hg (by simpa using hl) h1
  simp only [Nat.add_zero] at hst
  have hsz : v.cells.size = v.cells.toList.length := by simp
  simp only [Instr.storeAt, Instr.sureAddr, storeVar, Sem.run_bind, Sem.run_pure, Result.andThen_ok, hs]
  rw [if_neg (by simp)]
  exact hst
theorem setRow_size (w : World) (g : Nat) (cs : Array Value) : (w.setRow g cs).heap.size = w.heap.size := by simp [World.setRow]
theorem BelowM.setRow {M : Nat → Prop} {a w : World} (h : BelowM M a w) {g : Nat} (hg : M g ∨ a.heap.size ≤ g) (cs : Array Value) : BelowM M a (w.setRow g cs) :=
  ⟨h.os, h.tape, h.output, by rw [setRow_size]; exact h.size, fun k hk hm => (setRow_other w g k cs (fun e => by subst e; rcases hg with h | h; exact hm h; omega)).trans (h.block k hk hm)⟩
theorem live_one {w : World} {R : Nat → Prop} {ι : Nat → Value} {φ : Nat → List Nat} {st : St} (ho : ∀ p y, st.objs p = some y → RO w R ι st.dom (ι p) (φ p) y) : ∀ {vs : List Value} {bs : List B}, F2 (RB w R ι st.dom) vs bs → bs.all B.live = true → ∀ u ∈ vs, u.oneCell' = true
  | _, _, .nil, _, u, hu => by simp at hu
  | _, _, .cons h1 h2, hl, u, hu => by
    simp only [List.all_cons, Bool.and_eq_true] at hl
    rcases List.mem_cons.1 hu with rfl | hu
    · exact RB.one ho h1 hl.1
    · exact live_one ho h2 hl.2 u hu
theorem run_store_op {a : Act} {w : World} {T : TypeId} {x y : Operand} (hop : o.op = .store T x y) {w' : World} (h : (Instr.storeAt T (a.eval x) (a.eval y)).run P w = .ok () w') : (execOp a.eval o).run P w = .ok .skip w' := by
  unfold execOp
  rw [hop]
  simp only [Sem.run_bind, h, Result.andThen_ok, Sem.run_pure]
theorem sound_store_ptr {T : TypeId} {x y : Operand} {v1 : V1} {cs old : List B} {ag : Bool} {p off : Nat} {T' : TypeId} (hop : o.op = .store T x y) (hx : ev st.env x = .v (.c (.ptr p off))) (hy : ev st.env y = .v v1) (hc : cellsV v1 = some cs) (hl : cs.all B.live = true) (hT : tyInfo P T = some (ag, cs.length))
    (hob : st.objs p = some (.box T' old)) (hle : off + cs.length ≤ old.length) : OpW P F st o deadA ⟨st.env, upd st.objs p (some (.box T' (splice old off cs)))⟩ := fun a w R ι φ hs K Q hK => by
  have hvx := ev_ok (a := a) hs.env x
  have hvy := ev_ok (a := a) hs.env y
  rw [hx] at hvx; rw [hy] at hvy
  have hF := cellsV_ok hs.objs hvy hc
  have hlen := hF.len
  obtain ⟨_, g, hι, hva⟩ := hvx
  obtain ⟨g', vs, hι', hφ, hh, hvs⟩ := hs.objs _ _ hob
  rw [hι] at hι'
  obtain rfl : g = g' := by simpa using hι'
  have hmi := hs.mine p _ hob g (by rw [hφ]; simp)
  have hrun := run_store_op (P := P) (o := o) hop (a := a) (w := w) (by rw [hva]; exact run_storeAt (v := a.eval y) (cur := vs) (by rw [hlen]; exact hT) hh (by rw [hlen, hvs.len]; exact hle) (live_one hs.objs hF hl))
  unfold Oper.wp
  rw [hrun, Oper.upon_skip]
  have hRb : ∀ b, R b → (w.setRow g (splice vs off (a.eval y).cells.toList).toArray).heap[b]? = w.heap[b]? := fun b hb => setRow_other w g b _ (fun e => hmi.2.1 (e ▸ hb))
  refine hK _ _ R ι _ (hs.write (S := [g]) hob (hs.below.setRow hmi.1 _) (by rw [setRow_size]; exact Nat.le_refl _) (fun b _ hne => setRow_other w g b _ (fun e => hne (by rw [hφ, e]; simp))) ?_ (fun g' hg' => by rw [hφ]; exact hg')) trivial
  refine ⟨g, _, hι, rfl, setRow_heap w g _ _ T' (0, 0) hh, F2.splice off ?_ ?_⟩
  · exact hvs.mono fun _ _ h => RB.keep (fun _ h => h) hRb (fun _ h => h) (fun _ _ => rfl) h
  · exact hF.mono fun _ _ h => RB.keep (fun _ h => h) hRb (fun _ h => h) (fun _ _ => rfl) h
end
end
section
open Go.RowKit
theorem splice_get {α : Type} {l cs : List α} {off : Nat} (h : off + cs.length ≤ l.length) (j : Nat) : (splice l off cs)[j]? = if j < off then l[j]? else if j < off + cs.length then cs[j - off]? else l[j]? := by
  unfold splice
  have e : (l.take off).length = off := by rw [List.length_take]; omega
  by_cases h1 : j < off
  · rw [if_pos h1, List.append_assoc, List.getElem?_append_left (by rw [e]; exact h1), List.getElem?_take_of_lt h1]
  · rw [if_neg h1]
    by_cases h2 : j < off + cs.length
    · rw [if_pos h2, List.getElem?_append_left (by rw [List.length_append, e]; exact h2), List.getElem?_append_right (by rw [e]; omega), e]
    · rw [if_neg h2, List.getElem?_append_right (by rw [List.length_append, e]; omega), List.length_append, e, List.getElem?_drop]
      congr 1
      omega
theorem splice_length {α : Type} {l cs : List α} {off : Nat} (h : off + cs.length ≤ l.length) : (splice l off cs).length = l.length := by
  unfold splice
  simp only [List.length_append, List.length_take, List.length_drop]
  omega
section
variable {w : World} {R : Nat → Prop} {ι : Nat → Value} {dom : Nat → Prop}
theorem EH.append {vs : List Value} {cs : List Cl} {S : List Nat} (h : EH w ι dom vs cs S) : ∀ {vs' : List Value} {cs' : List Cl} {S' : List Nat}, EH w ι dom vs' cs' S' → EH w ι dom (vs ++ vs') (cs ++ cs') (S ++ S') := by
  induction h with
  | nil => intro _ _ _ h; exact h
  | d h1 _ ih => intro _ _ _ h'; rw [List.append_assoc]; exact .d h1 (ih h')
  | h h1 hl _ ih => intro _ _ _ h'; exact .h h1 hl (ih h')
theorem EH.split {vs : List Value} {cs : List Cl} {S : List Nat} (h : EH w ι dom vs cs S) : ∀ n : Nat, ∃ S1 S2, S = S1 ++ S2 ∧ EH w ι dom (vs.take n) (cs.take n) S1 ∧ EH w ι dom (vs.drop n) (cs.drop n) S2 := by
  induction h with
  | nil => intro n; exact ⟨[], [], rfl, by simp; exact .nil, by simp; exact .nil⟩
  | d h1 h2 ih =>
    intro n
    cases n with
    | zero => exact ⟨[], _, rfl, .nil, .d h1 h2⟩
    | succ n =>
      obtain ⟨S1, S2, e, q1, q2⟩ := ih n
      exact ⟨_, S2, by rw [e, ← List.append_assoc], .d h1 q1, q2⟩
  | h h1 hl h2 ih =>
    intro n
    cases n with
    | zero => exact ⟨[], _, rfl, .nil, .h h1 hl h2⟩
    | succ n =>
      obtain ⟨S1, S2, e, q1, q2⟩ := ih n
      exact ⟨S1, S2, e, .h h1 hl q1, q2⟩
theorem EH.splice {vs us : List Value} {cs ds : List Cl} {S U : List Nat} (h : EH w ι dom vs cs S) (h' : EH w ι dom us ds U) (off : Nat) : ∃ S1 S2 S3, S = S1 ++ (S2 ++ S3) ∧ EH w ι dom (splice vs off us) (splice cs off ds) (S1 ++ U ++ S3) := by
  obtain ⟨S1, S', e1, q1, q2⟩ := h.split off
  obtain ⟨S2, S3, e2, q3, q4⟩ := q2.split us.length
  refine ⟨S1, S2, S3, by rw [e1, e2], ?_⟩
  unfold Go.Proofs.YtehkaajakapkmaaGreat.splice
  rw [List.drop_drop] at q4
  have hl := h'.len
  rw [← hl]
  rw [List.drop_drop] at q4
  exact (q1.append h').append q4
theorem elemC_clear {k i i' off n j : Nat} {es : List D} : ∀ hs : List Ho, (elemC k i' es (clearHo i off n hs))[j]? = if i' = i ∧ off ≤ j ∧ j < off + n then (es.map Cl.d)[j]? else (elemC k i' es hs)[j]?
  | [] => by simp [clearHo, elemC]
  | h :: hs => by
    have ih := elemC_clear (k := k) (i := i) (i' := i') (off := off) (n := n) (j := j) (es := es) hs
    have e : clearHo i off n (h :: hs) = if h.i = i ∧ off ≤ h.j ∧ h.j < off + n then clearHo i off n hs else h :: clearHo i off n hs := by
      unfold clearHo
      rw [List.filter_cons]
      by_cases hc : h.i = i ∧ off ≤ h.j ∧ h.j < off + n
      · rw [if_pos hc]; simp [hc]
      · rw [if_neg hc]; simp [hc]
    rw [e]
    by_cases hc : h.i = i ∧ off ≤ h.j ∧ h.j < off + n
    · rw [if_pos hc, ih]
      by_cases hj : i' = i ∧ off ≤ j ∧ j < off + n
      · rw [if_pos hj, if_pos hj]
      · rw [if_neg hj, if_neg hj]
        simp only [elemC]
        split
        · rename_i h1
          rw [List.getElem?_set_ne]
          intro hjj
          exact hj ⟨by omega, by omega, by omega⟩
        · rfl
    · rw [if_neg hc]
      simp only [elemC]
      split
      · rename_i h1
        by_cases hj : i' = i ∧ off ≤ j ∧ j < off + n
        · rw [if_pos hj] at ih ⊢
          rw [List.getElem?_set_ne, ih]
          intro hjj
          exact hc ⟨by omega, by omega, by omega⟩
        · rw [if_neg hj] at ih ⊢
          by_cases hjj : h.j = j
          · have hlen : (elemC k i' es (clearHo i off n hs)).length = (elemC k i' es hs).length := by rw [elemC_length, elemC_length]
            by_cases hlt : h.j < (elemC k i' es hs).length
            · rw [← hjj, List.getElem?_set_self (by omega), List.getElem?_set_self hlt]
            · rw [← hjj, List.getElem?_eq_none (by rw [List.length_set]; omega), List.getElem?_eq_none (by rw [List.length_set]; omega)]
          · rw [List.getElem?_set_ne hjj, List.getElem?_set_ne hjj, ih]
      · exact ih
theorem elemC_set {k i off : Nat} {es : List D} {ds : List D} (ho : off + ds.length ≤ es.length) {j : Nat} (hj : ¬ (off ≤ j ∧ j < off + ds.length)) : ∀ hs : List Ho, (elemC k i (splice es off ds) hs)[j]? = (elemC k i es hs)[j]?
  | [] => by
    simp only [elemC, List.getElem?_map]
    rw [splice_get ho]
    by_cases h1 : j < off
    · rw [if_pos h1]
    · rw [if_neg h1, if_neg (by omega)]
  | h :: hs => by
    have ih := elemC_set (k := k) (i := i) ho hj hs
    simp only [elemC]
    split
    · by_cases hjj : h.j = j
      · have hlen : (elemC k i (splice es off ds) hs).length = (elemC k i es hs).length := by rw [elemC_length, elemC_length, splice_length ho]
        by_cases hlt : h.j < (elemC k i es hs).length
        · rw [← hjj, List.getElem?_set_self (by omega), List.getElem?_set_self hlt]
        · rw [← hjj, List.getElem?_eq_none (by rw [List.length_set]; omega), List.getElem?_eq_none (by rw [List.length_set]; omega)]
      · rw [List.getElem?_set_ne hjj, List.getElem?_set_ne hjj, ih]
    · exact ih
theorem cellsH_length {k : Nat} {xs : List (List D)} (hk : ∀ es ∈ xs, es.length = k) (hs : List Ho) : (cellsH k xs hs).length = xs.length * k := by
  unfold cellsH
  rw [punch_length, List.length_map, flatten_len hk]
theorem set_len {k i : Nat} {xs : List (List D)} {es : List D} (hk : ∀ es ∈ xs, es.length = k) (he : es.length = k) : ∀ y ∈ xs.set i es, y.length = k := fun y hy => by
  rcases List.mem_or_eq_of_mem_set hy with h | rfl
  · exact hk y h
  · exact he
theorem cellsH_splice {k i off : Nat} {xs : List (List D)} {es ds : List D} (hk : ∀ es ∈ xs, es.length = k) (hi : xs[i]? = some es) (ho : off + ds.length ≤ k) (hs : List Ho) : cellsH k (xs.set i (splice es off ds)) (clearHo i off ds.length hs) = splice (cellsH k xs hs) (i * k + off) (ds.map .d) := by
  have hes := hk es (List.mem_of_getElem? hi)
  have hlt := (List.getElem?_eq_some_iff.1 hi).1
  have hsp : (splice es off ds).length = k := by rw [splice_length (by omega), hes]
  have hk' := set_len (i := i) hk hsp
  have hil : i * k + k ≤ xs.length * k := by rw [← Nat.succ_mul]; exact Nat.mul_le_mul_right _ hlt
  have hl1 := cellsH_length hk hs
  apply List.ext_getElem?
  intro q
  rw [splice_get (by rw [hl1, List.length_map]; omega), List.length_map]
  by_cases hq : q < xs.length * k
  · have hk0 : 0 < k := by
      rcases Nat.eq_zero_or_pos k with h | h
      · rw [h] at hq; simp at hq
      · exact h
    have hi' : q / k < xs.length := (Nat.div_lt_iff_lt_mul hk0).2 hq
    have hqe : q = (q / k) * k + q % k := by rw [Nat.mul_comm]; exact (Nat.div_add_mod q k).symm
    have hj' : q % k < k := Nat.mod_lt _ hk0
    generalize q / k = i' at *
    generalize q % k = j' at *
    subst hqe
    have hes' : xs[i']? = some (xs[i']'hi') := List.getElem?_eq_getElem hi'
    by_cases hii : i' = i
    · subst hii
      rw [hi] at hes'
      rw [cellsH_get hk' (by rw [List.getElem?_set_self hi']) hj', elemC_clear]
      by_cases hin : off ≤ j' ∧ j' < off + ds.length
      · rw [if_pos ⟨rfl, hin⟩, if_neg (by omega), if_pos (by omega), List.getElem?_map, splice_get (by omega), if_neg (by omega), if_pos (by omega), List.getElem?_map]
        congr 2
        omega
      · rw [if_neg (fun h => hin h.2), elemC_set (by omega) hin, ← cellsH_get hk hi hj' hs]
        by_cases h1 : i' * k + j' < i' * k + off
        · rw [if_pos h1]
        · rw [if_neg h1, if_neg (by omega)]
    · rw [cellsH_get hk' (by rw [List.getElem?_set_ne (by omega)]; exact hes') hj', elemC_clear, if_neg (fun h => hii h.1), ← cellsH_get hk hes' hj' hs]
      rcases Nat.lt_or_gt_of_ne hii with h | h
      · have : (i' + 1) * k ≤ i * k := Nat.mul_le_mul_right _ h
        rw [Nat.succ_mul] at this
        rw [if_pos (by omega)]
      · have : (i + 1) * k ≤ i' * k := Nat.mul_le_mul_right _ h
        rw [Nat.succ_mul] at this
        rw [if_neg (by omega), if_neg (by omega)]
  · have hl2 := cellsH_length hk' (clearHo i off ds.length hs)
    rw [List.length_set] at hl2
    rw [List.getElem?_eq_none (by omega), if_neg (by omega), if_neg (by omega), List.getElem?_eq_none (by omega)]
end
section
variable {P : Program} {F : Fx} {st : St} {o : Oper} {w : World} {R : Nat → Prop} {ι : Nat → Value} {φ : Nat → List Nat}
theorem absL_ok (ho : ObjsOk w R ι φ st.objs) : ∀ {vs : List Value} {bs : List B} {ds : List D} {ps : List Nat}, F2 (RB w R ι st.dom) vs bs → absL st.objs bs = some (ds, ps) → ps.Nodup → ∃ U, ET w vs ds U ∧ U.Nodup ∧ (∀ g ∈ U, ∃ q ∈ ps, ∃ x, st.objs q = some x ∧ g ∈ φ q)
  | _, _, _, _, .nil, h, _ => by cases h; exact ⟨[], .nil, .nil, fun g hg => by cases hg⟩
  | _, _, _, _, .cons (b := b) (bs := bs) h1 h2, h, hn => by
    simp only [absL] at h
    split at h
    · rename_i x ps' xs qs e1 e2
      cases h
      have hn2 := List.nodup_append.1 hn
      obtain ⟨U, hU, hUn, hUm⟩ := absL_ok ho h2 e2 hn2.2.1
      cases b with
      | d y =>
        simp only [abD] at e1
        split at e1
        · rename_i hp
          cases e1
          cases h1 with
          | pv q1 q2 => exact ⟨U, .pv q1 q2 hU, hUn, hUm⟩
          | _ => cases hp
        · cases e1
      | own q =>
        simp only [abD] at e1
        split at e1
        · rename_i κ ys hob
          cases e1
          have hr := RArr.toET (ho.1 q _ hob)
          rw [h1.2]
          refine ⟨φ q ++ U, hr.1.append hU, List.nodup_append.2 ⟨hr.2, hUn, ?_⟩, ?_⟩
          · rintro g hg g' hg' rfl
            obtain ⟨q', hq', y, hy, hgy⟩ := hUm g hg'
            have := ho.2.2.1 q q' _ y g hob hy hg hgy
            subst this
            exact hn2.2.2 q (by simp) q hq' rfl
          · intro g hg
            rcases List.mem_append.1 hg with hg | hg
            · exact ⟨q, by simp, _, hob, hg⟩
            · obtain ⟨q', hq', r⟩ := hUm g hg
              exact ⟨q', by simp [hq'], r⟩
        · cases e1
      | _ => cases e1
    · cases h
theorem sound_store_ep {T : TypeId} {x y : Operand} {v1 : V1} {cs : List B} {ag : Bool} {p i off : Nat} {κ : Ky} {xs : List (List D)} {hs : List Ho} {es ds : List D} {ps : List Nat} (hop : o.op = .store T x y) (hx : ev st.env x = .v (.c (.ep p κ.k i off))) (hy : ev st.env y = .v v1) (hc : cellsV v1 = some cs) (hl : cs.all B.live = true) (hT : tyInfo P T = some (ag, cs.length))
    (hab : absL st.objs cs = some (ds, ps)) (hnd : nodupB ps = true) (hob : (st.kill ps).objs p = some (.arr κ xs hs)) (hes : xs[i]? = some es) (hle : off + cs.length ≤ κ.k) :
    OpW P F st o deadA ⟨(st.kill ps).env, upd (st.kill ps).objs p (some (.arr κ (xs.set i (splice es off ds)) (clearHo i off cs.length hs)))⟩ := fun a w R ι φ hsat K Q hK => by
  have hvx := ev_ok (a := a) hsat.env x
  have hvy := ev_ok (a := a) hsat.env y
  rw [hx] at hvx; rw [hy] at hvy
  have hF := cellsV_ok hsat.objs hvy hc
  have hlen := hF.len
  obtain ⟨U, hU, hUn, hUm⟩ := absL_ok hsat.ok hF hab (nodupB_ok hnd)
  have hsk := hsat.kill ps
  have hdl : ds.length = cs.length := by rw [← hU.len, hlen]
  obtain ⟨_, g, m, cap, hι, hva⟩ := hvx
  have hps : ps.contains p = false := (St.kill_get hob).1
  have hpst : ∃ x, st.objs p = some x := by obtain ⟨_, x, h, _⟩ := St.kill_get hob; exact ⟨x, h⟩
  obtain ⟨hk, vs, S1, hown, hvs, hφ, hnodup⟩ := hsk.objs _ _ hob
  have hilt := (List.getElem?_eq_some_iff.1 hes).1
  rcases hown.2 with ⟨_, h0⟩ | ⟨g', cap', cur, hι', hN, hh, hnc, hcm, hcs, htk⟩
  · omega
  rw [hι] at hι'
  simp only [Value.slice.injEq, Option.some.injEq, Addr.mk.injEq] at hι'
  obtain ⟨⟨rfl, _⟩, rfl, rfl⟩ := hι'
  have hgφ : g ∈ φ p := by rw [hφ, hι]; simp [Value.ownBlock]
  have hmi := hsk.mine p _ hob
  have hik : i * κ.k + κ.k ≤ xs.length * κ.k := by rw [← Nat.succ_mul]; exact Nat.mul_le_mul_right _ hilt
  have hnk : xs.length * κ.k ≤ cap * κ.k := Nat.mul_le_mul_right _ hnc
  have hesk := hk es (List.mem_of_getElem? hes)
  have hlen' : (a.eval y).cells.toList.length = cs.length := hlen
  have hlen2 : (a.eval y).cells.size = cs.length := by simpa using hlen
  have hrun := run_store_op (P := P) (o := o) hop (a := a) (w := w) (by
    rw [hva]
    exact run_storeAt (v := a.eval y) (cur := cur.toList) (by rw [hlen]; exact hT) (by rw [Array.toArray_toList]; exact hh) (by rw [hlen]; simp only [Array.length_toList]; omega) (live_one hsat.objs hF hl))
  unfold Oper.wp
  rw [hrun, Oper.upon_skip]
  have hne : ∀ b, b ≠ g → (w.setRow g (splice cur.toList (i * κ.k + off) (a.eval y).cells.toList).toArray).heap[b]? = w.heap[b]? := fun b hb => setRow_other w g b _ hb
  have hUp : ∀ b ∈ U, b ∉ φ p ∧ (F.M b ∨ F.w.heap.size ≤ b) ∧ ¬ R b ∧ b < w.heap.size := fun b hb => by
    obtain ⟨q, hq, x, hx', hbq⟩ := hUm b hb
    obtain ⟨y', hy'⟩ := hpst
    refine ⟨fun hp => ?_, hsat.mine q x hx' b hbq⟩
    have := hsat.apart q p x y' b hx' hy' hbq hp
    subst this
    simp [hq] at hps
  have hgU : g ∉ U := fun h => (hUp g h).1 hgφ
  have hEU : EH (w.setRow g (splice cur.toList (i * κ.k + off) (a.eval y).cells.toList).toArray) ι (st.kill ps).dom (a.eval y).cells.toList (ds.map .d) U := (EH.of_ET hU).keep (fun _ h => h) (fun _ _ => rfl) fun b hb => hne b fun e => hgU (e ▸ hb)
  have hgS1 : g ∉ S1 := by
    have h := hnodup
    rw [hφ, hι] at h
    simp only [Value.ownBlock, Option.toList_some, List.singleton_append, List.nodup_cons] at h
    exact h.1
  have hvs' : EH (w.setRow g (splice cur.toList (i * κ.k + off) (a.eval y).cells.toList).toArray) ι (st.kill ps).dom vs (cellsH κ.k xs hs) S1 := hvs.keep (fun _ h => h) (fun _ _ => rfl) fun b hb => hne b fun e => hgS1 (e ▸ hb)
  obtain ⟨T1, T2, T3, hT', hEs⟩ := hvs'.splice hEU (i * κ.k + off)
  have hds : (splice es off ds).length = κ.k := by rw [splice_length (by omega), hesk]
  have hvl : vs.length = xs.length * κ.k := hown.1
  have hnS : (g :: (T1 ++ U ++ T3)).Nodup := by
    rw [hφ, hι, hT'] at hnodup
    simp only [Value.ownBlock, Option.toList_some, List.singleton_append] at hnodup
    have hsub : ∀ b, b ∈ g :: (T1 ++ (T2 ++ T3)) → b ∉ U := fun b hb hbu => (hUp b hbu).1 (by rw [hφ, hι, hT']; simpa [Value.ownBlock] using hb)
    simp only [List.nodup_cons, List.nodup_append, List.mem_append, not_or] at hnodup ⊢
    obtain ⟨⟨n1, n2, n3⟩, n4, ⟨n5, n6, n7⟩, n8⟩ := hnodup
    refine ⟨⟨⟨n1, hgU⟩, n3⟩, ⟨n4, hUn, fun b hb b' hb' e => hsub b (by simp [hb]) (e ▸ hb')⟩, n6, ?_⟩
    rintro b (hb | hb) b' hb' rfl
    · exact n8 b hb b (.inr hb') rfl
    · exact hsub b (by simp [hb']) hb
  refine hK _ _ R ι (upd φ p (g :: (T1 ++ U ++ T3))) (hsk.step (fun o => o = p) (hsk.below.setRow (hmi g hgφ).1 _) (fun b hb => ⟨hb, hne b fun e => (hmi g hgφ).2.1 (e ▸ hb)⟩) (fun b hb => by rw [setRow_size]; exact hsk.rlt b hb) hsk.rnew (fun q ⟨z, hz⟩ => ⟨?_, rfl⟩) (fun q z hz hq => ?_) (fun q z hz hq => ?_) (fun q r z z' b hq hch hr h1 h2 => ?_) (fun _ _ => rfl)) trivial
  · by_cases hq : q = p
    · subst hq; exact ⟨_, upd_same _ _ _⟩
    · exact ⟨z, (upd_ne _ _ hq).trans hz⟩
  · rw [upd_ne _ _ hq] at hz
    refine ⟨hz, upd_ne _ _ hq, fun b hb => ?_⟩
    have hm := hsk.mine q z hz b hb
    exact ⟨hne b fun e => hq (hsk.apart q p z _ b hz hob hb (e ▸ hgφ)), hm.2.1, by rw [setRow_size]; exact hm.2.2⟩
  · subst hq
    rw [upd_same] at hz
    cases hz
    rw [upd_same]
    refine ⟨⟨set_len hk hds, splice vs (i * κ.k + off) (a.eval y).cells.toList, T1 ++ U ++ T3, ⟨?_, .inr ⟨g, cap, _, ?_, Nat.zero_le _, setRow_heap w g _ _ κ.e (0, 0) hh, ?_, hcm, ?_, ?_⟩⟩, ?_, by rw [hι]; rfl, hnS⟩, fun b hb => ?_⟩
    · rw [splice_length (by omega), hvl, List.length_set]
    · rw [hι, List.length_set]
    · rw [List.length_set]; exact hnc
    · simp only [List.size_toArray]
      rw [splice_length (by simp only [Array.length_toList]; omega), Array.length_toList, hcs]
    · rw [List.length_set]
      apply List.ext_getElem?
      intro j
      have hc1 : i * κ.k + off + (a.eval y).cells.toList.length ≤ cur.toList.length := by simp only [Array.length_toList]; omega
      rw [List.toList_toArray, splice_get (l := vs) (by omega), List.getElem?_take]
      have hvc : ∀ j, j < xs.length * κ.k → vs[j]? = cur.toList[j]? := fun j hj => by rw [← htk, List.getElem?_take_of_lt hj]
      by_cases hj : j < xs.length * κ.k
      · rw [if_pos hj, splice_get hc1, hvc j hj]
      · rw [if_neg hj, if_neg (by omega), if_neg (by omega), List.getElem?_eq_none (by omega)]
    · rw [← hdl, cellsH_splice hk hes (by omega)]
      refine hEs.keep (fun r hr => ?_) (fun _ _ => rfl) fun _ _ => rfl
      obtain ⟨z, hz⟩ := hr
      by_cases hrq : r = q
      · subst hrq; exact ⟨_, upd_same _ _ _⟩
      · exact ⟨z, (upd_ne _ _ hrq).trans hz⟩
    · rw [setRow_size]
      simp only [List.mem_cons, List.mem_append] at hb
      rcases hb with rfl | (hb | hb) | hb
      · exact hmi _ hgφ
      · exact hmi b (by rw [hφ, hT']; simp [hb])
      · exact (hUp b hb).2
      · exact hmi b (by rw [hφ, hT']; simp [hb])
  · subst hch
    rw [upd_same] at h1
    by_cases hrp : r = q
    · exact hrp.symm
    · rw [upd_ne _ _ hrp] at hr h2
      simp only [List.mem_cons, List.mem_append] at h1
      rcases h1 with rfl | (hb | hb) | hb
      · exact (hsk.apart r q z' _ _ hr hob h2 hgφ).symm
      · exact (hsk.apart r q z' _ b hr hob h2 (by rw [hφ, hT']; simp [hb])).symm
      · obtain ⟨q', hq', x', hx', hbq⟩ := hUm b hb
        obtain ⟨hrc, z'', hz'', _⟩ := St.kill_get hr
        have := hsat.apart r q' z'' x' b hz'' hx' h2 hbq
        subst this
        simp [hq'] at hrc
      · exact (hsk.apart r q z' _ b hr hob h2 (by rw [hφ, hT']; simp [hb])).symm
end
end
section
open Go.RowKit
section
variable {P : Program} {F : Fx} {st : St} {o : Oper}
theorem fold_ok {r : Value → B → Prop} (off : Nat) : ∀ {vs : List Value} {cs : List B} (k : Nat) {a : Array Value} {bs : List B}, F2 r a.toList bs → F2 r vs cs →
    F2 r ((vs.zipIdx k).foldl (fun (a : Array Value) (x : Value × Nat) => a.setIfInBounds (off + x.2) x.1) a).toList (setAll bs (off + k) cs)
  | _, _, k, a, bs, h, .nil => by simpa [setAll] using h
  | _, _, k, a, bs, h, .cons (a := v) (as := vs) (b := c) (bs := cs) h1 h2 => by
    simp only [List.zipIdx_cons, List.foldl_cons, setAll]
    have := fold_ok off (k + 1) (a := a.setIfInBounds (off + k) v) (bs := bs.set (off + k) c) (by rw [Array.toList_setIfInBounds]; exact h.set _ h1) h2
    rwa [← Nat.add_assoc] at this
theorem fill_ok {r : Value → B → Prop} {place : Nat → Option (Nat × Nat)} : ∀ {parts : List (Nat × Value)} {ps : List (Nat × List B)} {a : Array Value} {bs bs' : List B}, F2 r a.toList bs → F2 (fun p q => p.1 = q.1 ∧ F2 r p.2.cells.toList q.2) parts ps → fillB place bs ps = some bs' →
    ∃ a', Instr.fill place a parts = some a' ∧ F2 r a'.toList bs'
  | _, _, a, bs, bs', h, .nil, e => by simp only [fillB, Option.some.injEq] at e; subst e; exact ⟨a, rfl, h⟩
  | _, _, a, bs, bs', h, .cons (a := p) (as := parts) (b := q) (bs := ps) ⟨h1, h2⟩ h3, e => by
    obtain ⟨i, v⟩ := p
    obtain ⟨j, c⟩ := q
    simp only at h1 h2
    subst h1
    simp only [fillB] at e
    cases hp : place i with
    | none => simp [hp] at e
    | some x =>
      obtain ⟨off, size⟩ := x
      simp only [hp] at e
      split at e
      · rename_i hc
        have hl := h2.len
        have hl' : v.cells.size = c.length := by simpa using hl
        have hb := h.len
        have hb' : a.size = bs.length := by simpa using hb
        have hf := fold_ok off 0 h h2
        rw [Nat.add_zero] at hf
        obtain ⟨a', h4, h5⟩ := fill_ok (place := place) hf h3 e
        refine ⟨a', ?_, h5⟩
        simp only [Instr.fill, hp]
        rw [if_neg (by simp; omega), ← h4]
        congr 1
        rw [← Array.foldl_toList, Array.toList_zipIdx]
      · cases e
theorem partsB_ok {w : World} {R : Nat → Prop} {ι : Nat → Value} {φ : Nat → List Nat} {a : Act} (ho : ∀ p y, st.objs p = some y → RO w R ι st.dom (ι p) (φ p) y) (he : ∀ d, RA w R ι st.dom (a.tmps.getD d undef) (st.env d)) : ∀ {parts : List (Nat × Operand)} {ps : List (Nat × List B)}, partsB st parts = some ps →
    F2 (fun (p : Nat × Value) (q : Nat × List B) => p.1 = q.1 ∧ F2 (RB w R ι st.dom) p.2.cells.toList q.2) (parts.map fun x => (x.1, a.eval x.2)) ps
  | [], _, h => by simp only [partsB, Option.some.injEq] at h; subst h; exact .nil
  | (i, x) :: rest, ps, h => by
    simp only [partsB] at h
    split at h
    · rename_i v1 ps' e1 e2
      split at h
      · rename_i cs hc
        cases h
        have hv := ev_ok (a := a) he x
        rw [e1] at hv
        exact .cons ⟨rfl, cellsV_ok ho hv hc⟩ (partsB_ok ho he e2)
      · cases h
    · cases h
theorem map_parts (a : Act) (parts : Array (Nat × Operand)) : (parts.map fun (i, x) => (i, a.eval x)).toList = parts.toList.map fun x => (x.1, a.eval x.2) := by simp
theorem run_places {w : World} {T : TypeId} {pl : List (Nat × Nat)} {fs : Array Field} (h1 : P.underlying T = some (.struct fs)) (h : placesOf P T = some pl) : (fs.mapM fun f => (do pure (f.offset, ← sizeOf f.type) : Sem (Nat × Nat))).run P w = .ok pl.toArray w := by
  unfold placesOf at h
  rw [h1] at h
  simp only at h
  split at h
  · rename_i hall
    cases h
    have : ∀ (l : List Field), l.all (fun f => (P.info? f.type).isSome) = true → (l.mapM fun f => (do pure (f.offset, ← sizeOf f.type) : Sem (Nat × Nat))).run P w = .ok (l.map fun f => (f.offset, P.cellsOf f.type)) w := by
      intro l
      induction l with
      | nil => intro _; rfl
      | cons f l ih =>
        intro hl
        simp only [List.all_cons, Bool.and_eq_true] at hl
        obtain ⟨i, hi⟩ := Option.isSome_iff_exists.1 hl.1
        have hsz : (sizeOf f.type).run P w = .ok i.size w := by simp [sizeOf, typeInfo, hi]
        have hcs : P.cellsOf f.type = i.size := by simp [Program.cellsOf, hi]
        rw [List.mapM_cons]
        simp only [Sem.run_bind, hsz, Result.andThen_ok, Sem.run_pure, ih hl.2, List.map_cons, hcs]
    have h2 := this fs.toList hall
    rw [Array.mapM_eq_mapM_toList]
    show Sem.run P (fs.toList.mapM (fun f => (do pure (f.offset, ← sizeOf f.type) : Sem (Nat × Nat))) >>= fun l => pure l.toArray) w = _
    rw [Sem.run_bind, h2]
    rfl
  · cases h
theorem sound_build {T : TypeId} {parts : Array (Nat × Operand)} {zs : List Value} {pl : List (Nat × Nat)} {ps : List (Nat × List B)} {bs : List B} (hop : o.op = .build T parts) (hz : zeroCells P T = some zs) (hpl : placesOf P T = some pl) (hps : partsB st parts.toList = some ps) (hf : fillB (fun i => pl[i]?) (zs.map fun v => .d (.pv v)) ps = some bs) :
    OpW P F st o (.v (.agg bs)) st := fun a w R ι φ hs K Q hK => by
  obtain ⟨z, h1, h2, h3⟩ := run_zeroCells (w := w) hz
  have hF := partsB_ok (a := a) hs.objs hs.env hps
  obtain ⟨a', hfill, hr⟩ := fill_ok (r := RB w R ι st.dom) (a := z.cells) (by rw [h2]; exact good_F2 h3) hF hf
  have hu : ∃ fs, P.underlying T = some (.struct fs) := by
    unfold placesOf at hpl
    split at hpl
    · rename_i fs h; exact ⟨fs, h⟩
    · cases hpl
  obtain ⟨fs, hu⟩ := hu
  have hrun : (execOp a.eval o).run P w = .ok (.value (.agg a')) w := by
    unfold execOp
    rw [hop]
    simp only [Instr.build, Sem.run_bind, h1, Result.andThen_ok, run_underlying hu, run_places hu hpl, map_parts]
    have : (fun (x : Nat) => pl.toArray[x]?) = fun (i : Nat) => pl[i]? := by funext i; simp
    rw [this, hfill]
    rfl
  unfold Oper.wp
  rw [hrun, Oper.upon_value]
  exact hK _ w R ι φ hs ⟨a'.toList, by simp, hr⟩
theorem chunks_ok (s : Nat) : ∀ (n : Nat) (ds : List D), ds.length = n * s → (chunks s n ds).flatten = ds ∧ (∀ es ∈ chunks s n ds, es.length = s) ∧ (chunks s n ds).length = n
  | 0, ds, h => by
    have : ds = [] := List.eq_nil_of_length_eq_zero (by simpa using h)
    subst this
    simp [chunks]
  | n + 1, ds, h => by
    have hs : s ≤ ds.length := by rw [h, Nat.succ_mul]; omega
    obtain ⟨h1, h2, h3⟩ := chunks_ok s n (ds.drop s) (by rw [List.length_drop, h, Nat.succ_mul]; omega)
    refine ⟨by simp [chunks, h1], fun es he => ?_, by simp [chunks, h3]⟩
    simp only [chunks, List.mem_cons] at he
    rcases he with rfl | he
    · rw [List.length_take]; omega
    · exact h2 es he
theorem run_sliceInfo {T : TypeId} {κ : Ky} {by' : Nat} {zs : List Value} (h : sliceInfo P T = some (κ, by', zs)) : P.underlying T = some (.slice κ.e) ∧ ∃ i z, P.info? κ.e = some i ∧ i.zero = some z ∧ i.size = κ.k ∧ i.bytes = by' ∧ z.cells.toList = zs ∧ z.cells.size = κ.k ∧ 0 < κ.k ∧ zs.all goodV = true := by
  unfold sliceInfo at h
  split at h
  · rename_i e' hu
    cases hi : P.info? e' with
    | none => simp [hi] at h
    | some i =>
      cases hz : i.zero with
      | none => simp [hi, hz] at h
      | some z =>
        simp only [hi, hz, Option.bind_some] at h
        split at h
        · rename_i hc
          simp only [Option.some.injEq, Prod.mk.injEq] at h
          obtain ⟨rfl, rfl, rfl⟩ := h
          simp only [Bool.and_eq_true, beq_iff_eq, decide_eq_true_eq] at hc
          exact ⟨hu, i, z, hi, hz, rfl, rfl, rfl, hc.1.2, hc.2, hc.1.1⟩
        · cases h
  · cases h
theorem F2.dead {w : World} {R : Nat → Prop} {ι : Nat → Value} {dom : Nat → Prop} : ∀ (vs : List Value), F2 (RB w R ι dom) vs (List.replicate vs.length .dead)
  | [] => .nil
  | _ :: vs => .cons trivial (F2.dead vs)
theorem arr_new {w : World} {R : Nat → Prop} {ι : Nat → Value} {φ : Nat → List Nat} {a : Act} (hs : Sat F R ι φ st a w) {d : Nat} {κ : Ky} {xs : List (List D)} {v : Value} {w' : World} {us : List Value} {U : List Nat} (hn : freeO st.objs d) (hb : Below w.heap.size w w') (hk : ∀ es ∈ xs, es.length = κ.k) (hown : w'.ownsRow 0 κ.e κ.k v xs.length us) (hv : ∀ g, v.ownBlock = some g → w.heap.size ≤ g)
    (hU : ET w us xs.flatten U) (hUn : U.Nodup) (hUm : ∀ g ∈ U, (F.M g ∨ F.w.heap.size ≤ g) ∧ ¬ R g ∧ ∀ q x, st.objs q = some x → g ∉ φ q) :
    Sat F R (upd ι d v) (upd φ d (v.ownBlock.toList ++ U)) ⟨st.env, upd st.objs d (some (.arr κ xs []))⟩ a w' ∧ RA w' R (upd ι d v) (domO (upd st.objs d (some (.arr κ xs [])))) v (.v (.c (.own d))) := by
  obtain ⟨hn1, hn2⟩ := hn.none
  have hne : ∀ p, st.dom p → p ≠ d := fun p ⟨y, hy⟩ e => by subst e; rw [hn1] at hy; cases hy
  have hUl := hU.lt
  have hlt : ∀ g, v.ownBlock = some g → g < w'.heap.size := fun g hg => (hown.lt g hg).2
  refine ⟨hs.step (fun o => o = d) (hs.below.then hb) (fun b hr => ⟨hr, hb.block b (hs.rlt b hr)⟩) (fun b hr => Nat.lt_of_lt_of_le (hs.rlt b hr) hb.size) hs.rnew (fun o ho => ?_) (fun o x ho hc => ?_) (fun o x ho hc => ?_) (fun o p x y g ho hc hp h1 h2 => ?_) (fun o ho => upd_ne _ _ (by omega)), ⟨_, upd_same _ _ _⟩, (upd_same _ _ _).symm⟩
  · obtain ⟨x, hx⟩ := ho
    exact ⟨⟨x, (upd_ne _ _ (hne o ⟨x, hx⟩)).trans hx⟩, upd_ne _ _ (hne o ⟨x, hx⟩)⟩
  · rw [upd_ne _ _ hc] at ho
    refine ⟨ho, upd_ne _ _ hc, fun g hg => ?_⟩
    have := hs.mine o x ho g hg
    exact ⟨hb.block g this.2.2, this.2.1, Nat.lt_of_lt_of_le this.2.2 hb.size⟩
  · subst hc
    rw [upd_same] at ho
    cases ho
    rw [upd_same, upd_same]
    refine ⟨⟨hk, us, U, hown, EH.of_ET (hU.keep fun b hb' => hb.block b (hUl b hb')), rfl, ?_⟩, fun g hg => ?_⟩
    · refine List.nodup_append.2 ⟨?_, hUn, ?_⟩
      · cases v.ownBlock <;> simp
      · rintro g hg g' hg' rfl
        have := hv g (by simpa using hg)
        have := hUl g hg'
        omega
    · rcases List.mem_append.1 hg with hg | hg
      · have hg : v.ownBlock = some g := by simpa using hg
        refine ⟨.inr (Nat.le_trans hs.below.size (hv g hg)), fun hr => ?_, hlt g hg⟩
        have := hs.rlt g hr
        have := hv g hg
        omega
      · exact ⟨(hUm g hg).1, (hUm g hg).2.1, Nat.lt_of_lt_of_le (hUl g hg) hb.size⟩
  · subst hc
    rw [upd_same] at h1
    by_cases hpd : p = o
    · exact hpd.symm
    · rw [upd_ne _ _ hpd] at hp h2
      exfalso
      rcases List.mem_append.1 h1 with hg | hg
      · have := hv g (by simpa using hg)
        have := (hs.mine p y hp g h2).2.2
        omega
      · exact (hUm g hg).2.2 p y hp h2
theorem kill_apart {w : World} {R : Nat → Prop} {ι : Nat → Value} {φ : Nat → List Nat} {a : Act} (hs : Sat F R ι φ st a w) {ps : List Nat} {U : List Nat} (hUm : ∀ g ∈ U, ∃ q ∈ ps, ∃ x, st.objs q = some x ∧ g ∈ φ q) : ∀ g ∈ U, (F.M g ∨ F.w.heap.size ≤ g) ∧ ¬ R g ∧ ∀ q x, (st.kill ps).objs q = some x → g ∉ φ q := fun g hg => by
  obtain ⟨q, hq, x, hx, hgq⟩ := hUm g hg
  have hm := hs.mine q x hx g hgq
  refine ⟨hm.1, hm.2.1, fun r y hr hgr => ?_⟩
  obtain ⟨hc, y', hy', _⟩ := St.kill_get hr
  have := hs.apart r q y' x g hy' hx hgr hgq
  subst this
  simp [hq] at hc
theorem fill_size : ∀ (parts : List (Nat × Value)) (place : Nat → Option (Nat × Nat)) (c c' : Array Value), Instr.fill place c parts = some c' → c'.size = c.size := by
  intro parts place
  induction parts with
  | nil => intro c c' h; simp only [Instr.fill, Option.some.injEq] at h; rw [h]
  | cons p rest ih =>
    intro c c' h
    obtain ⟨i, v⟩ := p
    simp only [Instr.fill] at h
    split at h
    · cases h
    · split at h
      · cases h
      · rw [ih _ _ h]
        rename_i off size _ _
        rw [← Array.foldl_toList]
        have : ∀ (l : List (Value × Nat)) (c : Array Value), (l.foldl (fun cs (x : Value × Nat) => cs.setIfInBounds (off + x.2) x.1) c).size = c.size := by
          intro l
          induction l with
          | nil => intro c; rfl
          | cons x l ih => intro c; simp only [List.foldl_cons]; rw [ih]; simp
        exact this _ _
theorem sound_buildSlice {T : TypeId} {len d : Nat} {κ : Ky} {by' : Nat} {parts : Array (Nat × Operand)} {zs : List Value} {pl : List (Nat × List B)} {bs : List B} {ds : List D} {ps : List Nat} (hop : o.op = .buildSlice T len parts) (hT : sliceInfo P T = some (κ, by', zs)) (hlen : len ≤ 65536) (hls : len * κ.k ≤ 16777216) (hps : partsB st parts.toList = some pl)
    (hf : fillB (fun i => some (i * κ.k, κ.k)) (List.replicate (len * κ.k) .dead) pl = some bs) (hab : absL st.objs bs = some (ds, ps)) (hnd : nodupB ps = true) (hn : freeO (st.kill ps).objs d) :
    OpW P F st o (.v (.c (.own d))) ⟨(st.kill ps).env, upd (st.kill ps).objs d (some (.arr κ (chunks κ.k len ds) []))⟩ := fun a w R ι φ hs K Q hK => by
  obtain ⟨hu, i, z, hi, hz, hsz, hby, hzs, hzl, hs0, hg⟩ := run_sliceInfo hT
  have hF := partsB_ok (a := a) hs.objs hs.env hps
  obtain ⟨cs, hcs, hcr⟩ : ∃ cs : Array Value, (len * κ.k = 0 ∧ cs = #[] ∨ len * κ.k ≠ 0 ∧ cs = (Array.range (len * κ.k)).map (z.cells[· % z.cells.size]!)) ∧ F2 (RB w R ι st.dom) cs.toList (List.replicate (len * κ.k) .dead) := by
    by_cases h0 : len * κ.k = 0
    · exact ⟨#[], .inl ⟨h0, rfl⟩, by rw [h0]; exact .nil⟩
    · refine ⟨_, .inr ⟨h0, rfl⟩, ?_⟩
      have := F2.dead (w := w) (R := R) (ι := ι) (dom := st.dom) ((Array.range (len * κ.k)).map (z.cells[· % z.cells.size]!)).toList
      simpa using this
  obtain ⟨a', hfill, hr⟩ := fill_ok (r := RB w R ι st.dom) hcr hF hf
  obtain ⟨U, hU, hUn, hUm⟩ := absL_ok hs.ok hr hab (nodupB_ok hnd)
  have hlen' : ds.length = len * κ.k := by
    have h1 := hU.len
    have h2 : a'.size = cs.size := by
      have : ∀ (parts : List (Nat × Value)) (place : Nat → Option (Nat × Nat)) (c c' : Array Value), Instr.fill place c parts = some c' → c'.size = c.size := by
        intro parts place
        induction parts with
        | nil => intro c c' h; simp only [Instr.fill, Option.some.injEq] at h; rw [h]
        | cons p rest ih =>
          intro c c' h
          obtain ⟨i, v⟩ := p
          simp only [Instr.fill] at h
          split at h
          · cases h
          · split at h
            · cases h
            · rw [ih _ _ h]
              rename_i off size _ _
              rw [← Array.foldl_toList]
              have : ∀ (l : List (Value × Nat)) (c : Array Value), (l.foldl (fun cs (x : Value × Nat) => cs.setIfInBounds (off + x.2) x.1) c).size = c.size := by
                intro l
                induction l with
                | nil => intro c; rfl
                | cons x l ih => intro c; simp only [List.foldl_cons]; rw [ih]; simp
              exact this _ _
      exact this _ _ _ _ hfill
    have h3 := hcr.len
    simp only [Array.length_toList, List.length_replicate] at h1 h3
    omega
  have hrun : (execOp a.eval o).run P w = .ok (.value (.slice (some ⟨w.heap.size, 0, none⟩) len len)) (w.alloc (.cells a'.toList.toArray κ.e)) := by
    unfold execOp
    rw [hop]
    have hzr : (zeroValue κ.e).run P w = .ok z w := by simp [zeroValue, typeInfo, hi, hz]
    have hsr : (sizeOf κ.e).run P w = .ok κ.k w := by simp [sizeOf, typeInfo, hi, hsz]
    simp only [Instr.buildSlice, Sem.run_bind, run_underlying hu, Result.andThen_ok, hsr, map_parts]
    rw [if_neg (by omega)]
    rcases hcs with ⟨h0, rfl⟩ | ⟨h0, rfl⟩
    · have e0 : (Array.range 0).map (fun x => (#[] : Array Value)[x % (#[] : Array Value).size]!) = #[] := by apply Array.ext'; simp
      simp only [h0, if_true, Sem.run_bind, Sem.run_pure, Result.andThen_ok]
      rw [e0, hfill]
      simp only [newRow, Sem.run_bind, run_newObj, Result.andThen_ok, Sem.run_pure, Array.toArray_toList]
      rfl
    · rw [if_neg h0]
      simp only [Sem.run_bind, hzr, Sem.run_pure, Result.andThen_ok]
      rw [hfill]
      simp only [newRow, Sem.run_bind, run_newObj, Result.andThen_ok, Sem.run_pure, Array.toArray_toList]
      rfl
  unfold Oper.wp
  rw [hrun, Oper.upon_value]
  have hb : Below w.heap.size w (w.alloc (.cells a'.toList.toArray κ.e)) := (Below.refl _ _).alloc (Nat.le_refl _) _
  obtain ⟨c1, c2, c3⟩ := chunks_ok κ.k len ds hlen'
  have hal : a'.size = len * κ.k := by have := hU.len; simp at this; omega
  obtain ⟨q1, q2⟩ := arr_new (κ := κ) (xs := chunks κ.k len ds) (v := .slice (some ⟨w.heap.size, 0, none⟩) len len) (us := a'.toList) (hs.kill ps) hn hb c2 (by
    rw [c3]
    exact ⟨by simpa using hal, .inr ⟨w.heap.size, len, _, rfl, Nat.zero_le _, alloc_new_at _ _, Nat.le_refl _, by unfold maxLen; omega, by simpa using hal, by rw [List.toList_toArray, List.take_of_length_le (by simp; omega)]⟩⟩) (fun g hg => by simp [Value.ownBlock] at hg; omega) (by rw [c1]; exact hU) hUn (kill_apart hs hUm)
  exact hK _ _ _ _ _ q1 q2
end
section
variable {P : Program} {F : Fx} {st : St} {o : Oper}
theorem ET.zeros {w : World} : ∀ {zs : List Value} {zd : List D}, F2 zD zs zd → zs.all goodV = true → ET w zs zd []
  | _, _, .nil, _ => .nil
  | _, _, .cons (a := z) (b := d) h1 h2, h => by
    simp only [List.all_cons, Bool.and_eq_true] at h
    have ih := ET.zeros (w := w) h2 h.2
    cases d with
    | pv u => cases h1; exact .pv (goodV_ok h.1).1 (goodV_ok h.1).2 ih
    | rd κ xs =>
      obtain ⟨rfl, rfl⟩ := h1
      exact ET.rd (us := []) (S1 := []) (by simp) (World.ownsRow_nil w _ _ _) .nil ih
    | rp _ => exact h1.elim
    | fn _ _ => exact h1.elim
    | mp _ => exact h1.elim
theorem ET.repeat {w : World} {vs : List Value} {ds : List D} (h : ET w vs ds []) : ∀ n, ET w (List.replicate n vs).flatten (List.replicate n ds).flatten []
  | 0 => .nil
  | n + 1 => by
    rw [List.replicate_succ, List.replicate_succ, List.flatten_cons, List.flatten_cons]
    exact h.append (h.repeat n)
theorem Below.of_grown {w w' : World} {row : Option Nat} (hg : w.grownBy w' row) {B : Nat} (hB : B ≤ w.heap.size) (hr : ∀ k, row = some k → B ≤ k) : Below B w w' := (Below.refl B w).grown hg hB hr
theorem sound_makeSlice {T d by' : Nat} {κ : Ky} {l c : Operand} {m : Int} {zs : List Value} {zd : List D} (hop : o.op = .makeSlice T l c) (hn : freeO st.objs d) (hl : ev st.env l = pvA (.int .i64 m)) (hc : ev st.env c = pvA (.int .i64 m)) (h0 : 0 ≤ m) (hm : m ≤ 16777216) (hT : sliceInfo P T = some (κ, by', zs)) (hby : by' ≤ 65536) (hzd : F2 zD zs zd) :
    OpW P F st o (.v (.c (.own d))) ⟨st.env, upd st.objs d (some (.arr κ (List.replicate m.toNat zd) []))⟩ := fun a w R ι φ hs K Q hK => by
  obtain ⟨hu, i, z, hi, hz, hsz, hbb, hzs, hzl, hs0, hg⟩ := run_sliceInfo hT
  have hvl := ev_ok (a := a) hs.env l
  have hvc := ev_ok (a := a) hs.env c
  rw [hl] at hvl; rw [hc] at hvc
  obtain ⟨e1, _⟩ := RA.pv hvl
  obtain ⟨e2, _⟩ := RA.pv hvc
  obtain ⟨k, rfl⟩ := Int.eq_ofNat_of_zero_le h0
  have hk : k ≤ 16777216 := by omega
  have hbk : i.bytes * k ≤ 281474976710656 := by
    rw [hbb]
    have := Nat.mul_le_mul hby hk
    omega
  obtain ⟨w', hrun, hown, hgr⟩ := run_make_full (P := P) w w.heap.size T κ.e i z κ.k hu hi hz hsz .i64 .i64 k hbk (by unfold maxLen; omega) (Nat.le_refl _)
  have hrun' : (execOp a.eval o).run P w = .ok (.value (.slice (some ⟨w.heap.size, 0, none⟩) k k)) w' := by
    unfold execOp
    rw [hop]
    simp only [e1, e2, Sem.run_bind, hrun, Result.andThen_ok, Sem.run_pure]
  unfold Oper.wp
  rw [hrun', Oper.upon_value]
  have hb : Below w.heap.size w w' := Below.of_grown hgr (Nat.le_refl _) (by simp)
  have hmc : (madeCells z.cells (k * κ.k)).toList = (List.replicate k zs).flatten := by
    rw [← hzl, ← hzs]
    exact madeCells_zeros z.cells (by omega) k
  rw [hmc] at hown
  have hzsl : zd.length = κ.k := by rw [← hzd.len, ← hzs]; simpa using hzl
  obtain ⟨q1, q2⟩ := arr_new (κ := κ) (xs := List.replicate k zd) (v := .slice (some ⟨w.heap.size, 0, none⟩) k k) (us := (List.replicate k zs).flatten) (U := []) hs hn hb (fun es he => by rw [List.eq_of_mem_replicate he, hzsl]) (by
    rw [List.length_replicate]
    exact hown.mono (Nat.zero_le _)) (fun g hg => by simp [Value.ownBlock] at hg; omega) ((ET.zeros hzd hg).repeat k) .nil (fun g hg => by cases hg)
  exact hK _ _ _ _ _ (by simpa using q1) (by simpa using q2)
end
end
end Go.Proofs.YtehkaajakapkmaaGreat
