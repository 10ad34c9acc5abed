/- Texts of one proof, one behind the other. -/
import Derived.Laws.NewBlocks
import Derived.Deep.Heap
import Derived.OwnWalk
import Derived.Laws.OwnMore
import Derived.Great.BuildSlice
import Derived.Test.YtehkaajakapkmaaGreatFB04
import Derived.Test.YtehkaajakapkmaaGreatFB05
import Derived.Test.YtehkaajakapkmaaGreatFB06
namespace Go.Proofs.YtehkaajakapkmaaGreat
section
open Go.RowKit
structure Blk (w : World) (b : Nat) (cs : List Value) (t : TypeId) : Prop where
  out : w.heap[b]? = some (.cells cs.toArray t (0, 0))
section
variable {w w' : World} {b : Nat} {cs : List Value} {t : TypeId}
theorem Blk.lt (h : Blk w b cs t) : b < w.heap.size := by
  rcases Nat.lt_or_ge b w.heap.size with h' | h'
  · exact h'
  · have := h.out; rw [Array.getElem?_eq_none h'] at this; cases this
theorem Blk.of_eq (e : w'.heap[b]? = w.heap[b]?) (h : Blk w b cs t) : Blk w' b cs t := ⟨e.trans h.out⟩
theorem Blk.below (hb : Below w.heap.size w w') (h : Blk w b cs t) : Blk w' b cs t := ⟨(hb.block b h.lt).trans h.out⟩
theorem Blk.drew (h : Blk w b cs t) : Blk w.drew b cs t := ⟨h.out⟩
theorem Blk.set (i : Nat) (v : Value) (h : Blk w b cs t) : Blk (w.setCell ⟨b, i, none⟩ v) b (cs.set i v) t := by
  have h1 := h.out
  refine ⟨?_⟩
  simp only [World.setCell, Array.getElem?_modify, if_pos, h1]
  simp
theorem Blk.cell {i : Nat} {v : Value} (h : Blk w b cs t) (hi : cs[i]? = some v) : w.cell? ⟨b, i, none⟩ = some v := by
  simp [World.cell?, h.out, hi]
end
theorem madeCells_zeros (c : Array Value) (hc : 0 < c.size) : ∀ n, (madeCells c (n * c.size)).toList = (List.replicate n c.toList).flatten := by
  intro n
  apply List.ext_getElem?
  intro j
  have h1 : (madeCells c (n * c.size)).toList[j]? = if j < n * c.size then c[j % c.size]? else none := by
    have hm : j % c.size < c.size := Nat.mod_lt _ hc
    by_cases hj : j < n * c.size
    · simp [madeCells, hj, hm]
    · simp [madeCells, hj]
  rw [h1]
  induction n generalizing j with
  | zero => simp
  | succ n ih =>
    rw [List.replicate_succ, List.flatten_cons]
    by_cases hj : j < c.size
    · rw [List.getElem?_append_left (by simpa using hj), if_pos (by rw [Nat.succ_mul]; omega), Nat.mod_eq_of_lt hj]
      simp
    · rw [List.getElem?_append_right (by simpa using Nat.le_of_not_lt hj)]
      have e := ih (j - c.size) (by
        have hm : (j - c.size) % c.size < c.size := Nat.mod_lt _ hc
        by_cases hj' : j - c.size < n * c.size
        · simp [madeCells, hj', hm]
        · simp [madeCells, hj'])
      rw [show c.toList.length = c.size by simp, ← e, ← Nat.mod_eq_sub_mod (by omega)]
      have : (j < (n + 1) * c.size) = (j - c.size < n * c.size) := by rw [Nat.succ_mul]; apply propext; omega
      simp only [this]
end
section
open Go.RowKit
def B.live : B → Bool
  | .dead => false
  | .rel _ _ => false
  | _ => true
def cellsV : V1 → Option (List B)
  | .c b => if b.live then some [b] else none
  | .agg cs => some cs
def setAll (bs : List B) (off : Nat) : List B → List B
  | [] => bs
  | c :: cs => setAll (bs.set off c) (off + 1) cs
def fillB (place : Nat → Option (Nat × Nat)) (bs : List B) : List (Nat × List B) → Option (List B)
  | [] => some bs
  | (i, c) :: rest => match place i with
    | none => none
    | some (off, size) => if c.length = size ∧ off + c.length ≤ bs.length then fillB place (setAll bs off c) rest else none
def partsB (st : St) : List (Nat × Operand) → Option (List (Nat × List B))
  | [] => some []
  | (i, x) :: rest => match ev st.env x, partsB st rest with
    | .v v1, some ps => match cellsV v1 with
      | some cs => some ((i, cs) :: ps)
      | none => none
    | _, _ => none
def chunks (s : Nat) : Nat → List D → List (List D)
  | 0, _ => []
  | n + 1, ds => ds.take s :: chunks s n (ds.drop s)
def goodV (v : Value) : Bool := v.oneCell' && match v with
  | .int k n => (Lit.int k n).wf
  | .string s => decide (s.size ≤ maxLen)
  | _ => true
def zeroCells (P : Program) (T : TypeId) : Option (List Value) :=
  (P.info? T).bind fun i => i.zero.bind fun z => if z.cells.toList.all goodV then some z.cells.toList else none
def placesOf (P : Program) (T : TypeId) : Option (List (Nat × Nat)) :=
  match P.underlying T with
  | some (.struct fs) => if fs.toList.all (fun f => (P.info? f.type).isSome) then some (fs.toList.map fun f => (f.offset, P.cellsOf f.type)) else none
  | _ => none
def sliceInfo (P : Program) (T : TypeId) : Option (Ky × Nat × List Value) :=
  match P.underlying T with
  | some (.slice e) => (P.info? e).bind fun i => i.zero.bind fun z => if z.cells.toList.all goodV && (z.cells.size == i.size) && decide (0 < i.size) then some (⟨e, i.size⟩, i.bytes, z.cells.toList) else none
  | _ => none
def splice {α : Type} (old : List α) (off : Nat) (cs : List α) : List α := old.take off ++ cs ++ old.drop (off + cs.length)
def abD (objs : Nat → Option Ob) : B → Option (D × List Nat)
  | .d x => if pureD x then some (x, []) else none
  | .own q => match objs q with
    | some (.arr κ xs []) => some (.rd κ xs, [q])
    | _ => none
  | _ => none
def absL (objs : Nat → Option Ob) : List B → Option (List D × List Nat)
  | [] => some ([], [])
  | b :: bs => match abD objs b, absL objs bs with
    | some (x, ps), some (xs, qs) => some (x :: xs, ps ++ qs)
    | _, _ => none
def clearHo (i off n : Nat) (hs : List Ho) : List Ho := hs.filter fun h => !(decide (h.i = i ∧ off ≤ h.j ∧ h.j < off + n))
def zD (v : Value) : D → Prop
  | .pv u => v = u
  | .rd _ xs => v = .slice none 0 0 ∧ xs = []
  | _ => False
def elemsOf (objs : Nat → Option Ob) (κ : Ky) : B → Option (List (List D))
  | .own o => match objs o with
    | some (.arr κ' xs []) => if κ'.k = κ.k then some xs else none
    | _ => none
  | .d (.rd κ' xs) => if κ'.k = κ.k then some xs else none
  | .d (.pv (.slice none 0 0)) => some []
  | _ => none
def pureL (ys : List (List D)) : Prop := ∀ es ∈ ys, ∀ d ∈ es, pureD d = true
def freeO (objs : Nat → Option Ob) (d : Nat) : Prop := ((objs d).isNone && Nat.blt d pinN) = true
theorem freeO.none {objs : Nat → Option Ob} {d : Nat} (h : freeO objs d) : objs d = none ∧ d < pinN := by
  unfold freeO at h
  simp only [Bool.and_eq_true, Option.isNone_iff_eq_none] at h
  exact ⟨h.1, by have := h.2; rw [Nat.blt] at this; exact Nat.le_of_ble_eq_true this⟩
def deadA : AV := .v (.c .dead)
def callId (d : Nat) : Nat := 2000 + 1000 * d
def pairB : B → B → List (Nat × Nat)
  | .own p, .own i => [(p, i)]
  | .ptr p _, .ptr i _ => [(p, i)]
  | .ep p _ _ _, .ep i _ _ _ => [(p, i)]
  | .rel p _, .rel i _ => [(p, i)]
  | _, _ => []
def pairBs : List B → List B → List (Nat × Nat)
  | b :: bs, c :: cs => pairB b c ++ pairBs bs cs
  | _, _ => []
def MCall (P : Program) (st : St) (c : Nat) (f : Operand) (xs : List Operand) (K : AV → St → Prop) : Prop :=
  ∃ g caps bor ρ args ins r outs, ev st.env f = .v (.c (.d (.fn g caps))) ∧ argsC (hobOf bor ρ st.objs) ρ st.env xs = some args ∧ insC st.objs (hobOf bor ρ st.objs) ρ ρ = some ins ∧ SpecM P g (args ++ caps.map fun d => .c (.d d)) ins r outs ∧
    (nodupB (ρ.map (·.1)) && nodupB (ρ.map (·.2)) && outsOk st.objs ρ c outs) = true ∧ (bor = true → r.pu = true ∧ ∀ j Y, frO outs j = some Y → Y.pu = true) ∧ K (r.ren (sg ρ c)) (stAfter st ρ c outs)
def VCW (P : Program) (st : St) (o : Oper) (K : AV → St → Prop) : Prop :=
  match o.op with
  | .alloc T => ∃ d zs, o.dst = some d ∧ freeO st.objs d ∧ zeroCells P T = some zs ∧ K (.v (.c (.ptr d 0))) ⟨st.env, upd st.objs d (some (.box T (zs.map fun v => .d (.pv v))))⟩
  | .box T x => ∃ d v1 cs, o.dst = some d ∧ freeO st.objs d ∧ ev st.env x = .v v1 ∧ cellsV v1 = some cs ∧ K (.v (.c (.ptr d 0))) ⟨st.env, upd st.objs d (some (.box T cs))⟩
  | .store T x y => ∃ b v1 cs ag, ev st.env x = .v (.c b) ∧ ev st.env y = .v v1 ∧ cellsV v1 = some cs ∧ cs.all B.live = true ∧ tyInfo P T = some (ag, cs.length) ∧
      ((∃ p off T' old, b = .ptr p off ∧ st.objs p = some (.box T' old) ∧ off + cs.length ≤ old.length ∧ K deadA ⟨st.env, upd st.objs p (some (.box T' (splice old off cs)))⟩) ∨
       (∃ p i off κ xs hs es ds ps, b = .ep p κ.k i off ∧ absL st.objs cs = some (ds, ps) ∧ nodupB ps = true ∧ (st.kill ps).objs p = some (.arr κ xs hs) ∧ xs[i]? = some es ∧ off + cs.length ≤ κ.k ∧
         K deadA ⟨(st.kill ps).env, upd (st.kill ps).objs p (some (.arr κ (xs.set i (splice es off ds)) (clearHo i off cs.length hs)))⟩))
  | .build T parts => ∃ zs pl ps bs, zeroCells P T = some zs ∧ placesOf P T = some pl ∧ partsB st parts.toList = some ps ∧ fillB (fun i => pl[i]?) (zs.map fun v => .d (.pv v)) ps = some bs ∧ K (.v (.agg bs)) st
  | .buildSlice T len parts => ∃ d κ by' zs pl bs ds ps, o.dst = some d ∧ sliceInfo P T = some (κ, by', zs) ∧ len ≤ 65536 ∧ len * κ.k ≤ 16777216 ∧ partsB st parts.toList = some pl ∧ fillB (fun i => some (i * κ.k, κ.k)) (List.replicate (len * κ.k) .dead) pl = some bs ∧
      absL st.objs bs = some (ds, ps) ∧ nodupB ps = true ∧ freeO (st.kill ps).objs d ∧ K (.v (.c (.own d))) ⟨(st.kill ps).env, upd (st.kill ps).objs d (some (.arr κ (chunks κ.k len ds) []))⟩
  | .makeSlice T l c => ∃ d n κ by' zs zd, o.dst = some d ∧ freeO st.objs d ∧ ev st.env l = pvA (.int .i64 n) ∧ ev st.env c = pvA (.int .i64 n) ∧ 0 ≤ n ∧ n ≤ 16777216 ∧ sliceInfo P T = some (κ, by', zs) ∧ by' ≤ 65536 ∧ F2 zD zs zd ∧
      K (.v (.c (.own d))) ⟨st.env, upd st.objs d (some (.arr κ (List.replicate n.toNat zd) []))⟩
  | .call c => match c.callee with
    | .builtin .append => ∃ d x y T b b' κ by' zs ys, o.dst = some d ∧ c.args.toList = [x, y] ∧ c.argTypes.toList = [T, T] ∧ ev st.env x = .v (.c b) ∧ ev st.env y = .v (.c b') ∧ sliceInfo P T = some (κ, by', zs) ∧ elemsOf st.objs κ b' = some ys ∧
        ∃ ps, ((pureL ys ∧ ps = []) ∨ (∃ q, b' = .own q ∧ ps = [q])) ∧
        ((∃ p xs, b = .own p ∧ (st.kill ps).objs p = some (.arr κ xs []) ∧ p < pinN ∧ xs.length + ys.length ≤ maxLen ∧ (xs.length + ys.length) * by' ≤ 140737488355328 ∧ K (.v (.c (.own p))) ⟨((st.kill ps).kill [p]).env, upd ((st.kill ps).kill [p]).objs p (some (.arr κ (xs ++ ys) []))⟩) ∨
         (b = .d (.pv (.slice none 0 0)) ∧ freeO (st.kill ps).objs d ∧ ys.length * by' ≤ 140737488355328 ∧ K (.v (.c (.own d))) ⟨(st.kill ps).env, upd (st.kill ps).objs d (some (.arr κ ys []))⟩))
    | .value f => MCall P st (callId (o.dst.getD 0)) f c.args.toList K ∨ FCall P st f c.args.toList fun x => K x st
    | _ => VCR P st o.op fun x => K x st
  | _ => VCR P st o.op fun x => K x st
def OpW (P : Program) (F : Fx) (st : St) (o : Oper) (x : AV) (st' : St) : Prop :=
  ∀ (a : Act) (w : World) (R : Nat → Prop) (ι : Nat → Value) (φ : Nat → List Nat), Sat F R ι φ st a w → ∀ (K : Act → World → Prop) (Q : Exit → Act → World → Prop),
    (∀ v w' R' ι' φ', Sat F R' ι' φ' st' a w' → RA w' R' ι' st'.dom v x → K (a.put o.dst v) w') → o.wp P a w K Q
section
variable {P : Program} {F : Fx} {st : St} {o : Oper}
theorem OpW.of_read {x : AV} (h : OpS P st o x) : OpW P F st o x st := fun a w R ι φ hs K Q hK =>
  h a w R ι φ hs.rlt hs.ok (fun y _ => ev_ok hs.env y) K Q fun v w' R' hb h1 h2 h3 hv => hK v w' R' ι φ (hs.world hb h1 h2 h3) hv
theorem RB.one {w : World} {R : Nat → Prop} {ι : Nat → Value} {φ : Nat → List Nat} {objs : Nat → Option Ob} {dom : Nat → Prop} (ho : ∀ p y, objs p = some y → RO w R ι dom (ι p) (φ p) y) {v : Value} {b : B} (h : RB w R ι (domO objs) v b) (hl : b.live = true) : v.oneCell' = true := by
  cases b with
  | d x => exact RD.one h
  | ptr o off => obtain ⟨_, g, _, rfl⟩ := h; rfl
  | own o =>
    obtain ⟨⟨x, hx⟩, rfl⟩ := h
    have := ho o x hx
    cases x with
    | box T cs => obtain ⟨g, vs, e, _⟩ := this; rw [e]; rfl
    | arr κ xs hs => obtain ⟨a, cap, e, _⟩ := RArr.len this; rw [e]; rfl
    | mp es => obtain ⟨g, c, ms, e, _⟩ := this; rw [e]; rfl
    | val b => exact this.1
  | ep o k i off => obtain ⟨_, g, _, _, _, rfl⟩ := h; rfl
  | rel o q => cases hl
  | dead => cases hl
theorem cells_one {v : Value} (h : v.oneCell' = true) : v.cells = #[v] := by
  cases v <;> first | rfl | (simp [Value.oneCell'] at h)
theorem cellsV_ok {w : World} {R : Nat → Prop} {ι : Nat → Value} {φ : Nat → List Nat} {st : St} (ho : ∀ p y, st.objs p = some y → RO w R ι st.dom (ι p) (φ p) y) {v : Value} {v1 : V1} {cs : List B} (h : RV1 w R ι st.dom v v1) (hc : cellsV v1 = some cs) : F2 (RB w R ι st.dom) v.cells.toList cs := by
  cases v1 with
  | c b =>
    simp only [cellsV] at hc
    split at hc
    · rename_i hl
      cases hc
      rw [cells_one (RB.one ho h hl)]
      exact .cons h .nil
    · cases hc
  | agg bs =>
    cases hc
    obtain ⟨vs, rfl, h2⟩ := h
    exact h2
theorem goodV_ok {v : Value} (h : goodV v = true) : v.oneCell' = true ∧ okI v := by
  unfold goodV at h
  simp only [Bool.and_eq_true] at h
  refine ⟨h.1, ?_⟩
  have := h.2
  unfold okI
  cases v <;> first | trivial | exact this | (simpa using this)
theorem good_F2 {w : World} {R : Nat → Prop} {ι : Nat → Value} {dom : Nat → Prop} : ∀ {zs : List Value}, zs.all goodV = true → F2 (RB w R ι dom) zs (zs.map fun v => .d (.pv v))
  | [], _ => .nil
  | z :: zs, h => by
    simp only [List.all_cons, Bool.and_eq_true] at h
    exact .cons (RD.pv (goodV_ok h.1).1 (goodV_ok h.1).2) (good_F2 h.2)
theorem run_zeroCells {w : World} {T : TypeId} {zs : List Value} (h : zeroCells P T = some zs) : ∃ z : Value, (zeroValue T).run P w = .ok z w ∧ z.cells.toList = zs ∧ zs.all goodV = true := by
  unfold zeroCells at h
  cases hi : P.info? T with
  | none => simp [hi] at h
  | some i =>
    cases hz : i.zero with
    | none => simp [hi, hz] at h
    | some z =>
      simp only [hi, hz, Option.bind_some] at h
      split at h
      · rename_i hg
        cases h
        exact ⟨z, by simp [zeroValue, typeInfo, hi, hz], rfl, hg⟩
      · cases h
theorem alloc_new_at (w : World) (o : Obj) : (w.alloc o).heap[w.heap.size]? = some o := heap_alloc_new w o
theorem box_ok {w : World} {R : Nat → Prop} {ι : Nat → Value} {φ : Nat → List Nat} {a : Act} (hs : Sat F R ι φ st a w) {d T : Nat} {vs : List Value} {cs : List B} (hn : freeO st.objs d) (hF : F2 (RB w R ι st.dom) vs cs) :
    Sat F R (upd ι d (.pointer (some ⟨w.heap.size, 0, none⟩))) (upd φ d [w.heap.size]) ⟨st.env, upd st.objs d (some (.box T cs))⟩ a (w.alloc (.cells vs.toArray T)) ∧
    RA (w.alloc (.cells vs.toArray T)) R (upd ι d (.pointer (some ⟨w.heap.size, 0, none⟩))) (domO (upd st.objs d (some (.box T cs)))) (.pointer (some ⟨w.heap.size, 0, none⟩)) (.v (.c (.ptr d 0))) := by
  obtain ⟨hn1, hn2⟩ := hn.none
  have hb : Below w.heap.size w (w.alloc (.cells vs.toArray T)) := (Below.refl _ _).alloc (Nat.le_refl _) _
  have hne : ∀ p, st.dom p → p ≠ d := fun p ⟨y, hy⟩ e => by subst e; rw [hn1] at hy; cases hy
  refine ⟨hs.new hn1 hn2 hb ⟨w.heap.size, vs, rfl, rfl, alloc_new_at _ _, ?_⟩ (fun g hg => ?_), ⟨_, upd_same _ _ _⟩, w.heap.size, upd_same _ _ _, rfl⟩
  · refine hF.mono fun v b h => RB.keep (fun _ h => h) (fun b hb' => hb.block b (hs.rlt b hb')) (fun p ⟨y, hy⟩ => ⟨y, by rw [upd_ne _ _ (hne p ⟨y, hy⟩)]; exact hy⟩) (fun p hp => upd_ne _ _ (hne p hp)) h
  · simp only [List.mem_singleton] at hg
    subst hg
    simp
theorem sound_alloc {T d : Nat} {zs : List Value} (hop : o.op = .alloc T) (hn : freeO st.objs d) (hz : zeroCells P T = some zs) :
    OpW P F st o (.v (.c (.ptr d 0))) ⟨st.env, upd st.objs d (some (.box T (zs.map fun v => .d (.pv v))))⟩ := fun a w R ι φ hs K Q hK => by
  obtain ⟨z, h1, h2, h3⟩ := run_zeroCells (w := w) hz
  have hrun : (execOp a.eval o).run P w = .ok (.value (.pointer (some ⟨w.heap.size, 0, none⟩))) (w.alloc (.cells zs.toArray T)) := by
    unfold execOp
    rw [hop]
    simp only [Instr.alloc, Sem.run_bind, h1, Result.andThen_ok, newVar, newRow, run_newObj, Sem.run_pure, ← h2, Array.toArray_toList]
    rfl
  unfold Oper.wp
  rw [hrun, Oper.upon_value]
  obtain ⟨q1, q2⟩ := box_ok (T := T) hs hn (good_F2 h3)
  exact hK _ _ _ _ _ q1 q2
theorem sound_box {T d : Nat} {x : Operand} {v1 : V1} {cs : List B} (hop : o.op = .box T x) (hn : freeO st.objs d) (hx : ev st.env x = .v v1) (hc : cellsV v1 = some cs) :
    OpW P F st o (.v (.c (.ptr d 0))) ⟨st.env, upd st.objs d (some (.box T cs))⟩ := fun a w R ι φ hs K Q hK => by
  have hv := ev_ok (a := a) hs.env x
  rw [hx] at hv
  have hF := cellsV_ok hs.objs hv hc
  have hrun : (execOp a.eval o).run P w = .ok (.value (.pointer (some ⟨w.heap.size, 0, none⟩))) (w.alloc (.cells (a.eval x).cells.toList.toArray T)) := by
    unfold execOp
    rw [hop]
    simp only [Instr.box, Sem.run_bind, Result.andThen_ok, newVar, newRow, run_newObj, Sem.run_pure, Array.toArray_toList]
    rfl
  unfold Oper.wp
  rw [hrun, Oper.upon_value]
  obtain ⟨q1, q2⟩ := box_ok (T := T) hs hn hF
  exact hK _ _ _ _ _ q1 q2
theorem F2.splice {α β : Type} {r : α → β → Prop} {as cs : List α} {bs ds : List β} (off : Nat) (h : F2 r as bs) (h' : F2 r cs ds) : F2 r (splice as off cs) (splice bs off ds) := by
  unfold Go.Proofs.YtehkaajakapkmaaGreat.splice
  rw [h'.len]
  exact ((h.take off).append h').append (h.drop _)
theorem run_storeAt {w : World} {T : TypeId} {g off : Nat} {v : Value} {ag : Bool} {T' : TypeId} {cur : List Value} (hT : tyInfo P T = some (ag, v.cells.toList.length)) (hg : w.heap[g]? = some (.cells cur.toArray T' (0, 0))) (hl : off + v.cells.toList.length ≤ cur.length) (h1 : ∀ u ∈ v.cells.toList, u.oneCell' = true) :
    (Instr.storeAt T (.pointer (some ⟨g, off, none⟩)) v).run P w = .ok () (w.setRow g (splice cur off v.cells.toList).toArray) := by
  obtain ⟨_, hs⟩ := run_tyInfo (w := w) hT
  have hst := run_storeCells_at P g off T' v.cells.toList 0 cur.toArray w hg (by simpa using hl) h1
  simp only [Nat.add_zero] at hst
  have hsz : v.cells.size = v.cells.toList.length := by simp
  simp only [Instr.storeAt, Instr.sureAddr, storeVar, Sem.run_bind, Sem.run_pure, Result.andThen_ok, hs]
  rw [if_neg (by simp)]
  exact hst
theorem setRow_size (w : World) (g : Nat) (cs : Array Value) : (w.setRow g cs).heap.size = w.heap.size := by simp [World.setRow]
theorem BelowM.setRow {M : Nat → Prop} {a w : World} (h : BelowM M a w) {g : Nat} (hg : M g ∨ a.heap.size ≤ g) (cs : Array Value) : BelowM M a (w.setRow g cs) :=
  ⟨h.os, h.tape, h.output, by rw [setRow_size]; exact h.size, fun k hk hm => (setRow_other w g k cs (fun e => by subst e; rcases hg with h | h; exact hm h; omega)).trans (h.block k hk hm)⟩
theorem live_one {w : World} {R : Nat → Prop} {ι : Nat → Value} {φ : Nat → List Nat} {st : St} (ho : ∀ p y, st.objs p = some y → RO w R ι st.dom (ι p) (φ p) y) : ∀ {vs : List Value} {bs : List B}, F2 (RB w R ι st.dom) vs bs → bs.all B.live = true → ∀ u ∈ vs, u.oneCell' = true
  | _, _, .nil, _, u, hu => by simp at hu
  | _, _, .cons h1 h2, hl, u, hu => by
    simp only [List.all_cons, Bool.and_eq_true] at hl
    rcases List.mem_cons.1 hu with rfl | hu
    · exact RB.one ho h1 hl.1
    · exact live_one ho h2 hl.2 u hu
theorem run_store_op {a : Act} {w : World} {T : TypeId} {x y : Operand} (hop : o.op = .store T x y) {w' : World} (h : (Instr.storeAt T (a.eval x) (a.eval y)).run P w = .ok () w') : (execOp a.eval o).run P w = .ok .skip w' := by
  unfold execOp
  rw [hop]
  simp only [Sem.run_bind, h, Result.andThen_ok, Sem.run_pure]
theorem sound_store_ptr {T : TypeId} {x y : Operand} {v1 : V1} {cs old : List B} {ag : Bool} {p off : Nat} {T' : TypeId} (hop : o.op = .store T x y) (hx : ev st.env x = .v (.c (.ptr p off))) (hy : ev st.env y = .v v1) (hc : cellsV v1 = some cs) (hl : cs.all B.live = true) (hT : tyInfo P T = some (ag, cs.length))
    (hob : st.objs p = some (.box T' old)) (hle : off + cs.length ≤ old.length) : OpW P F st o deadA ⟨st.env, upd st.objs p (some (.box T' (splice old off cs)))⟩ := fun a w R ι φ hs K Q hK => by
  have hvx := ev_ok (a := a) hs.env x
  have hvy := ev_ok (a := a) hs.env y
  rw [hx] at hvx; rw [hy] at hvy
  have hF := cellsV_ok hs.objs hvy hc
  have hlen := hF.len
  obtain ⟨_, g, hι, hva⟩ := hvx
  obtain ⟨g', vs, hι', hφ, hh, hvs⟩ := hs.objs _ _ hob
  rw [hι] at hι'
  obtain rfl : g = g' := by simpa using hι'
  have hmi := hs.mine p _ hob g (by rw [hφ]; simp)
  have hrun := run_store_op (P := P) (o := o) hop (a := a) (w := w) (by rw [hva]; exact run_storeAt (v := a.eval y) (cur := vs) (by rw [hlen]; exact hT) hh (by rw [hlen, hvs.len]; exact hle) (live_one hs.objs hF hl))
  unfold Oper.wp
  rw [hrun, Oper.upon_skip]
  have hRb : ∀ b, R b → (w.setRow g (splice vs off (a.eval y).cells.toList).toArray).heap[b]? = w.heap[b]? := fun b hb => setRow_other w g b _ (fun e => hmi.2.1 (e ▸ hb))
  refine hK _ _ R ι _ (hs.write (S := [g]) hob (hs.below.setRow hmi.1 _) (by rw [setRow_size]; exact Nat.le_refl _) (fun b _ hne => setRow_other w g b _ (fun e => hne (by rw [hφ, e]; simp))) ?_ (fun g' hg' => by rw [hφ]; exact hg')) trivial
  refine ⟨g, _, hι, rfl, setRow_heap w g _ _ T' (0, 0) hh, F2.splice off ?_ ?_⟩
  · exact hvs.mono fun _ _ h => RB.keep (fun _ h => h) hRb (fun _ h => h) (fun _ _ => rfl) h
  · exact hF.mono fun _ _ h => RB.keep (fun _ h => h) hRb (fun _ h => h) (fun _ _ => rfl) h
end
end
section
open Go.RowKit
theorem splice_get {α : Type} {l cs : List α} {off : Nat} (h : off + cs.length ≤ l.length) (j : Nat) : (splice l off cs)[j]? = if j < off then l[j]? else if j < off + cs.length then cs[j - off]? else l[j]? := by
  unfold splice
  have e : (l.take off).length = off := by rw [List.length_take]; omega
  by_cases h1 : j < off
  · rw [if_pos h1, List.append_assoc, List.getElem?_append_left (by rw [e]; exact h1), List.getElem?_take_of_lt h1]
  · rw [if_neg h1]
    by_cases h2 : j < off + cs.length
    · rw [if_pos h2, List.getElem?_append_left (by rw [List.length_append, e]; exact h2), List.getElem?_append_right (by rw [e]; omega), e]
    · rw [if_neg h2, List.getElem?_append_right (by rw [List.length_append, e]; omega), List.length_append, e, List.getElem?_drop]
      congr 1
      omega
theorem splice_length {α : Type} {l cs : List α} {off : Nat} (h : off + cs.length ≤ l.length) : (splice l off cs).length = l.length := by
  unfold splice
  simp only [List.length_append, List.length_take, List.length_drop]
  omega
section
variable {w : World} {R : Nat → Prop} {ι : Nat → Value} {dom : Nat → Prop}
theorem EH.append {vs : List Value} {cs : List Cl} {S : List Nat} (h : EH w ι dom vs cs S) : ∀ {vs' : List Value} {cs' : List Cl} {S' : List Nat}, EH w ι dom vs' cs' S' → EH w ι dom (vs ++ vs') (cs ++ cs') (S ++ S') := by
  induction h with
  | nil => intro _ _ _ h; exact h
  | d h1 _ ih => intro _ _ _ h'; rw [List.append_assoc]; exact .d h1 (ih h')
  | h h1 hl _ ih => intro _ _ _ h'; exact .h h1 hl (ih h')
theorem EH.split {vs : List Value} {cs : List Cl} {S : List Nat} (h : EH w ι dom vs cs S) : ∀ n : Nat, ∃ S1 S2, S = S1 ++ S2 ∧ EH w ι dom (vs.take n) (cs.take n) S1 ∧ EH w ι dom (vs.drop n) (cs.drop n) S2 := by
  induction h with
  | nil => intro n; exact ⟨[], [], rfl, by simp; exact .nil, by simp; exact .nil⟩
  | d h1 h2 ih =>
    intro n
    cases n with
    | zero => exact ⟨[], _, rfl, .nil, .d h1 h2⟩
    | succ n =>
      obtain ⟨S1, S2, e, q1, q2⟩ := ih n
      exact ⟨_, S2, by rw [e, ← List.append_assoc], .d h1 q1, q2⟩
  | h h1 hl h2 ih =>
    intro n
    cases n with
    | zero => exact ⟨[], _, rfl, .nil, .h h1 hl h2⟩
    | succ n =>
      obtain ⟨S1, S2, e, q1, q2⟩ := ih n
      exact ⟨S1, S2, e, .h h1 hl q1, q2⟩
theorem EH.splice {vs us : List Value} {cs ds : List Cl} {S U : List Nat} (h : EH w ι dom vs cs S) (h' : EH w ι dom us ds U) (off : Nat) : ∃ S1 S2 S3, S = S1 ++ (S2 ++ S3) ∧ EH w ι dom (splice vs off us) (splice cs off ds) (S1 ++ U ++ S3) := by
  obtain ⟨S1, S', e1, q1, q2⟩ := h.split off
  obtain ⟨S2, S3, e2, q3, q4⟩ := q2.split us.length
  refine ⟨S1, S2, S3, by rw [e1, e2], ?_⟩
  unfold Go.Proofs.YtehkaajakapkmaaGreat.splice
  rw [List.drop_drop] at q4
  have hl := h'.len
  rw [← hl]
  rw [List.drop_drop] at q4
  exact (q1.append h').append q4
theorem elemC_clear {k i i' off n j : Nat} {es : List D} : ∀ hs : List Ho, (elemC k i' es (clearHo i off n hs))[j]? = if i' = i ∧ off ≤ j ∧ j < off + n then (es.map Cl.d)[j]? else (elemC k i' es hs)[j]?
  | [] => by simp [clearHo, elemC]
  | h :: hs => by
    have ih := elemC_clear (k := k) (i := i) (i' := i') (off := off) (n := n) (j := j) (es := es) hs
    have e : clearHo i off n (h :: hs) = if h.i = i ∧ off ≤ h.j ∧ h.j < off + n then clearHo i off n hs else h :: clearHo i off n hs := by
      unfold clearHo
      rw [List.filter_cons]
      by_cases hc : h.i = i ∧ off ≤ h.j ∧ h.j < off + n
      · rw [if_pos hc]; simp [hc]
      · rw [if_neg hc]; simp [hc]
    rw [e]
    by_cases hc : h.i = i ∧ off ≤ h.j ∧ h.j < off + n
    · rw [if_pos hc, ih]
      by_cases hj : i' = i ∧ off ≤ j ∧ j < off + n
      · rw [if_pos hj, if_pos hj]
      · rw [if_neg hj, if_neg hj]
        simp only [elemC]
        split
        · rename_i h1
          rw [List.getElem?_set_ne]
          intro hjj
          exact hj ⟨by omega, by omega, by omega⟩
        · rfl
    · rw [if_neg hc]
      simp only [elemC]
      split
      · rename_i h1
        by_cases hj : i' = i ∧ off ≤ j ∧ j < off + n
        · rw [if_pos hj] at ih ⊢
          rw [List.getElem?_set_ne, ih]
          intro hjj
          exact hc ⟨by omega, by omega, by omega⟩
        · rw [if_neg hj] at ih ⊢
          by_cases hjj : h.j = j
          · have hlen : (elemC k i' es (clearHo i off n hs)).length = (elemC k i' es hs).length := by rw [elemC_length, elemC_length]
            by_cases hlt : h.j < (elemC k i' es hs).length
            · rw [← hjj, List.getElem?_set_self (by omega), List.getElem?_set_self hlt]
            · rw [← hjj, List.getElem?_eq_none (by rw [List.length_set]; omega), List.getElem?_eq_none (by rw [List.length_set]; omega)]
          · rw [List.getElem?_set_ne hjj, List.getElem?_set_ne hjj, ih]
      · exact ih
theorem elemC_set {k i off : Nat} {es : List D} {ds : List D} (ho : off + ds.length ≤ es.length) {j : Nat} (hj : ¬ (off ≤ j ∧ j < off + ds.length)) : ∀ hs : List Ho, (elemC k i (splice es off ds) hs)[j]? = (elemC k i es hs)[j]?
  | [] => by
    simp only [elemC, List.getElem?_map]
    rw [splice_get ho]
    by_cases h1 : j < off
    · rw [if_pos h1]
    · rw [if_neg h1, if_neg (by omega)]
  | h :: hs => by
    have ih := elemC_set (k := k) (i := i) ho hj hs
    simp only [elemC]
    split
    · by_cases hjj : h.j = j
      · have hlen : (elemC k i (splice es off ds) hs).length = (elemC k i es hs).length := by rw [elemC_length, elemC_length, splice_length ho]
        by_cases hlt : h.j < (elemC k i es hs).length
        · rw [← hjj, List.getElem?_set_self (by omega), List.getElem?_set_self hlt]
        · rw [← hjj, List.getElem?_eq_none (by rw [List.length_set]; omega), List.getElem?_eq_none (by rw [List.length_set]; omega)]
      · rw [List.getElem?_set_ne hjj, List.getElem?_set_ne hjj, ih]
    · exact ih
theorem cellsH_length {k : Nat} {xs : List (List D)} (hk : ∀ es ∈ xs, es.length = k) (hs : List Ho) : (cellsH k xs hs).length = xs.length * k := by
  unfold cellsH
  rw [punch_length, List.length_map, flatten_len hk]
theorem set_len {k i : Nat} {xs : List (List D)} {es : List D} (hk : ∀ es ∈ xs, es.length = k) (he : es.length = k) : ∀ y ∈ xs.set i es, y.length = k := fun y hy => by
  rcases List.mem_or_eq_of_mem_set hy with h | rfl
  · exact hk y h
  · exact he
theorem cellsH_splice {k i off : Nat} {xs : List (List D)} {es ds : List D} (hk : ∀ es ∈ xs, es.length = k) (hi : xs[i]? = some es) (ho : off + ds.length ≤ k) (hs : List Ho) : cellsH k (xs.set i (splice es off ds)) (clearHo i off ds.length hs) = splice (cellsH k xs hs) (i * k + off) (ds.map .d) := by
  have hes := hk es (List.mem_of_getElem? hi)
  have hlt := (List.getElem?_eq_some_iff.1 hi).1
  have hsp : (splice es off ds).length = k := by rw [splice_length (by omega), hes]
  have hk' := set_len (i := i) hk hsp
  have hil : i * k + k ≤ xs.length * k := by rw [← Nat.succ_mul]; exact Nat.mul_le_mul_right _ hlt
  have hl1 := cellsH_length hk hs
  apply List.ext_getElem?
  intro q
  rw [splice_get (by rw [hl1, List.length_map]; omega), List.length_map]
  by_cases hq : q < xs.length * k
  · have hk0 : 0 < k := by
      rcases Nat.eq_zero_or_pos k with h | h
      · rw [h] at hq; simp at hq
      · exact h
    have hi' : q / k < xs.length := (Nat.div_lt_iff_lt_mul hk0).2 hq
    have hqe : q = (q / k) * k + q % k := by rw [Nat.mul_comm]; exact (Nat.div_add_mod q k).symm
    have hj' : q % k < k := Nat.mod_lt _ hk0
    generalize q / k = i' at *
    generalize q % k = j' at *
    subst hqe
    have hes' : xs[i']? = some (xs[i']'hi') := List.getElem?_eq_getElem hi'
    by_cases hii : i' = i
    · subst hii
      rw [hi] at hes'
      rw [cellsH_get hk' (by rw [List.getElem?_set_self hi']) hj', elemC_clear]
      by_cases hin : off ≤ j' ∧ j' < off + ds.length
      · rw [if_pos ⟨rfl, hin⟩, if_neg (by omega), if_pos (by omega), List.getElem?_map, splice_get (by omega), if_neg (by omega), if_pos (by omega), List.getElem?_map]
        congr 2
        omega
      · rw [if_neg (fun h => hin h.2), elemC_set (by omega) hin, ← cellsH_get hk hi hj' hs]
        by_cases h1 : i' * k + j' < i' * k + off
        · rw [if_pos h1]
        · rw [if_neg h1, if_neg (by omega)]
    · rw [cellsH_get hk' (by rw [List.getElem?_set_ne (by omega)]; exact hes') hj', elemC_clear, if_neg (fun h => hii h.1), ← cellsH_get hk hes' hj' hs]
      rcases Nat.lt_or_gt_of_ne hii with h | h
      · have : (i' + 1) * k ≤ i * k := Nat.mul_le_mul_right _ h
        rw [Nat.succ_mul] at this
        rw [if_pos (by omega)]
      · have : (i + 1) * k ≤ i' * k := Nat.mul_le_mul_right _ h
        rw [Nat.succ_mul] at this
        rw [if_neg (by omega), if_neg (by omega)]
  · have hl2 := cellsH_length hk' (clearHo i off ds.length hs)
    rw [List.length_set] at hl2
    rw [List.getElem?_eq_none (by omega), if_neg (by omega), if_neg (by omega), List.getElem?_eq_none (by omega)]
end
section
variable {P : Program} {F : Fx} {st : St} {o : Oper} {w : World} {R : Nat → Prop} {ι : Nat → Value} {φ : Nat → List Nat}
theorem absL_ok (ho : ObjsOk w R ι φ st.objs) : ∀ {vs : List Value} {bs : List B} {ds : List D} {ps : List Nat}, F2 (RB w R ι st.dom) vs bs → absL st.objs bs = some (ds, ps) → ps.Nodup → ∃ U, ET w vs ds U ∧ U.Nodup ∧ (∀ g ∈ U, ∃ q ∈ ps, ∃ x, st.objs q = some x ∧ g ∈ φ q)
  | _, _, _, _, .nil, h, _ => by cases h; exact ⟨[], .nil, .nil, fun g hg => by cases hg⟩
  | _, _, _, _, .cons (b := b) (bs := bs) h1 h2, h, hn => by
    simp only [absL] at h
    split at h
    · rename_i x ps' xs qs e1 e2
      cases h
      have hn2 := List.nodup_append.1 hn
      obtain ⟨U, hU, hUn, hUm⟩ := absL_ok ho h2 e2 hn2.2.1
      cases b with
      | d y =>
        simp only [abD] at e1
        split at e1
        · rename_i hp
          cases e1
          cases h1 with
          | pv q1 q2 => exact ⟨U, .pv q1 q2 hU, hUn, hUm⟩
          | _ => cases hp
        · cases e1
      | own q =>
        simp only [abD] at e1
        split at e1
        · rename_i κ ys hob
          cases e1
          have hr := RArr.toET (ho.1 q _ hob)
          rw [h1.2]
          refine ⟨φ q ++ U, hr.1.append hU, List.nodup_append.2 ⟨hr.2, hUn, ?_⟩, ?_⟩
          · rintro g hg g' hg' rfl
            obtain ⟨q', hq', y, hy, hgy⟩ := hUm g hg'
            have := ho.2.2.1 q q' _ y g hob hy hg hgy
            subst this
            exact hn2.2.2 q (by simp) q hq' rfl
          · intro g hg
            rcases List.mem_append.1 hg with hg | hg
            · exact ⟨q, by simp, _, hob, hg⟩
            · obtain ⟨q', hq', r⟩ := hUm g hg
              exact ⟨q', by simp [hq'], r⟩
        · cases e1
      | _ => cases e1
    · cases h
theorem sound_store_ep {T : TypeId} {x y : Operand} {v1 : V1} {cs : List B} {ag : Bool} {p i off : Nat} {κ : Ky} {xs : List (List D)} {hs : List Ho} {es ds : List D} {ps : List Nat} (hop : o.op = .store T x y) (hx : ev st.env x = .v (.c (.ep p κ.k i off))) (hy : ev st.env y = .v v1) (hc : cellsV v1 = some cs) (hl : cs.all B.live = true) (hT : tyInfo P T = some (ag, cs.length))
    (hab : absL st.objs cs = some (ds, ps)) (hnd : nodupB ps = true) (hob : (st.kill ps).objs p = some (.arr κ xs hs)) (hes : xs[i]? = some es) (hle : off + cs.length ≤ κ.k) :
    OpW P F st o deadA ⟨(st.kill ps).env, upd (st.kill ps).objs p (some (.arr κ (xs.set i (splice es off ds)) (clearHo i off cs.length hs)))⟩ := fun a w R ι φ hsat K Q hK => by
  have hvx := ev_ok (a := a) hsat.env x
  have hvy := ev_ok (a := a) hsat.env y
  rw [hx] at hvx; rw [hy] at hvy
  have hF := cellsV_ok hsat.objs hvy hc
  have hlen := hF.len
  obtain ⟨U, hU, hUn, hUm⟩ := absL_ok hsat.ok hF hab (nodupB_ok hnd)
  have hsk := hsat.kill ps
  have hdl : ds.length = cs.length := by rw [← hU.len, hlen]
  obtain ⟨_, g, m, cap, hι, hva⟩ := hvx
  have hps : ps.contains p = false := (St.kill_get hob).1
  have hpst : ∃ x, st.objs p = some x := by obtain ⟨_, x, h, _⟩ := St.kill_get hob; exact ⟨x, h⟩
  obtain ⟨hk, vs, S1, hown, hvs, hφ, hnodup⟩ := hsk.objs _ _ hob
  have hilt := (List.getElem?_eq_some_iff.1 hes).1
  rcases hown.2 with ⟨_, h0⟩ | ⟨g', cap', cur, hι', hN, hh, hnc, hcm, hcs, htk⟩
  · omega
  rw [hι] at hι'
  simp only [Value.slice.injEq, Option.some.injEq, Addr.mk.injEq] at hι'
  obtain ⟨⟨rfl, _⟩, rfl, rfl⟩ := hι'
  have hgφ : g ∈ φ p := by rw [hφ, hι]; simp [Value.ownBlock]
  have hmi := hsk.mine p _ hob
  have hik : i * κ.k + κ.k ≤ xs.length * κ.k := by rw [← Nat.succ_mul]; exact Nat.mul_le_mul_right _ hilt
  have hnk : xs.length * κ.k ≤ cap * κ.k := Nat.mul_le_mul_right _ hnc
  have hesk := hk es (List.mem_of_getElem? hes)
  have hlen' : (a.eval y).cells.toList.length = cs.length := hlen
  have hlen2 : (a.eval y).cells.size = cs.length := by simpa using hlen
  have hrun := run_store_op (P := P) (o := o) hop (a := a) (w := w) (by
    rw [hva]
    exact run_storeAt (v := a.eval y) (cur := cur.toList) (by rw [hlen]; exact hT) (by rw [Array.toArray_toList]; exact hh) (by rw [hlen]; simp only [Array.length_toList]; omega) (live_one hsat.objs hF hl))
  unfold Oper.wp
  rw [hrun, Oper.upon_skip]
  have hne : ∀ b, b ≠ g → (w.setRow g (splice cur.toList (i * κ.k + off) (a.eval y).cells.toList).toArray).heap[b]? = w.heap[b]? := fun b hb => setRow_other w g b _ hb
  have hUp : ∀ b ∈ U, b ∉ φ p ∧ (F.M b ∨ F.w.heap.size ≤ b) ∧ ¬ R b ∧ b < w.heap.size := fun b hb => by
    obtain ⟨q, hq, x, hx', hbq⟩ := hUm b hb
    obtain ⟨y', hy'⟩ := hpst
    refine ⟨fun hp => ?_, hsat.mine q x hx' b hbq⟩
    have := hsat.apart q p x y' b hx' hy' hbq hp
    subst this
    simp [hq] at hps
  have hgU : g ∉ U := fun h => (hUp g h).1 hgφ
  have hEU : EH (w.setRow g (splice cur.toList (i * κ.k + off) (a.eval y).cells.toList).toArray) ι (st.kill ps).dom (a.eval y).cells.toList (ds.map .d) U := (EH.of_ET hU).keep (fun _ h => h) (fun _ _ => rfl) fun b hb => hne b fun e => hgU (e ▸ hb)
  have hgS1 : g ∉ S1 := by
    have h := hnodup
    rw [hφ, hι] at h
    simp only [Value.ownBlock, Option.toList_some, List.singleton_append, List.nodup_cons] at h
    exact h.1
  have hvs' : EH (w.setRow g (splice cur.toList (i * κ.k + off) (a.eval y).cells.toList).toArray) ι (st.kill ps).dom vs (cellsH κ.k xs hs) S1 := hvs.keep (fun _ h => h) (fun _ _ => rfl) fun b hb => hne b fun e => hgS1 (e ▸ hb)
  obtain ⟨T1, T2, T3, hT', hEs⟩ := hvs'.splice hEU (i * κ.k + off)
  have hds : (splice es off ds).length = κ.k := by rw [splice_length (by omega), hesk]
  have hvl : vs.length = xs.length * κ.k := hown.1
  have hnS : (g :: (T1 ++ U ++ T3)).Nodup := by
    rw [hφ, hι, hT'] at hnodup
    simp only [Value.ownBlock, Option.toList_some, List.singleton_append] at hnodup
    have hsub : ∀ b, b ∈ g :: (T1 ++ (T2 ++ T3)) → b ∉ U := fun b hb hbu => (hUp b hbu).1 (by rw [hφ, hι, hT']; simpa [Value.ownBlock] using hb)
    simp only [List.nodup_cons, List.nodup_append, List.mem_append, not_or] at hnodup ⊢
    obtain ⟨⟨n1, n2, n3⟩, n4, ⟨n5, n6, n7⟩, n8⟩ := hnodup
    refine ⟨⟨⟨n1, hgU⟩, n3⟩, ⟨n4, hUn, fun b hb b' hb' e => hsub b (by simp [hb]) (e ▸ hb')⟩, n6, ?_⟩
    rintro b (hb | hb) b' hb' rfl
    · exact n8 b hb b (.inr hb') rfl
    · exact hsub b (by simp [hb']) hb
  refine hK _ _ R ι (upd φ p (g :: (T1 ++ U ++ T3))) (hsk.step (fun o => o = p) (hsk.below.setRow (hmi g hgφ).1 _) (fun b hb => ⟨hb, hne b fun e => (hmi g hgφ).2.1 (e ▸ hb)⟩) (fun b hb => by rw [setRow_size]; exact hsk.rlt b hb) hsk.rnew (fun q ⟨z, hz⟩ => ⟨?_, rfl⟩) (fun q z hz hq => ?_) (fun q z hz hq => ?_) (fun q r z z' b hq hch hr h1 h2 => ?_) (fun _ _ => rfl)) trivial
  · by_cases hq : q = p
    · subst hq; exact ⟨_, upd_same _ _ _⟩
    · exact ⟨z, (upd_ne _ _ hq).trans hz⟩
  · rw [upd_ne _ _ hq] at hz
    refine ⟨hz, upd_ne _ _ hq, fun b hb => ?_⟩
    have hm := hsk.mine q z hz b hb
    exact ⟨hne b fun e => hq (hsk.apart q p z _ b hz hob hb (e ▸ hgφ)), hm.2.1, by rw [setRow_size]; exact hm.2.2⟩
  · subst hq
    rw [upd_same] at hz
    cases hz
    rw [upd_same]
    refine ⟨⟨set_len hk hds, splice vs (i * κ.k + off) (a.eval y).cells.toList, T1 ++ U ++ T3, ⟨?_, .inr ⟨g, cap, _, ?_, Nat.zero_le _, setRow_heap w g _ _ κ.e (0, 0) hh, ?_, hcm, ?_, ?_⟩⟩, ?_, by rw [hι]; rfl, hnS⟩, fun b hb => ?_⟩
    · rw [splice_length (by omega), hvl, List.length_set]
    · rw [hι, List.length_set]
    · rw [List.length_set]; exact hnc
    · simp only [List.size_toArray]
      rw [splice_length (by simp only [Array.length_toList]; omega), Array.length_toList, hcs]
    · rw [List.length_set]
      apply List.ext_getElem?
      intro j
      have hc1 : i * κ.k + off + (a.eval y).cells.toList.length ≤ cur.toList.length := by simp only [Array.length_toList]; omega
      rw [List.toList_toArray, splice_get (l := vs) (by omega), List.getElem?_take]
      have hvc : ∀ j, j < xs.length * κ.k → vs[j]? = cur.toList[j]? := fun j hj => by rw [← htk, List.getElem?_take_of_lt hj]
      by_cases hj : j < xs.length * κ.k
      · rw [if_pos hj, splice_get hc1, hvc j hj]
      · rw [if_neg hj, if_neg (by omega), if_neg (by omega), List.getElem?_eq_none (by omega)]
    · rw [← hdl, cellsH_splice hk hes (by omega)]
      refine hEs.keep (fun r hr => ?_) (fun _ _ => rfl) fun _ _ => rfl
      obtain ⟨z, hz⟩ := hr
      by_cases hrq : r = q
      · subst hrq; exact ⟨_, upd_same _ _ _⟩
      · exact ⟨z, (upd_ne _ _ hrq).trans hz⟩
    · rw [setRow_size]
      simp only [List.mem_cons, List.mem_append] at hb
      rcases hb with rfl | (hb | hb) | hb
      · exact hmi _ hgφ
      · exact hmi b (by rw [hφ, hT']; simp [hb])
      · exact (hUp b hb).2
      · exact hmi b (by rw [hφ, hT']; simp [hb])
  · subst hch
    rw [upd_same] at h1
    by_cases hrp : r = q
    · exact hrp.symm
    · rw [upd_ne _ _ hrp] at hr h2
      simp only [List.mem_cons, List.mem_append] at h1
      rcases h1 with rfl | (hb | hb) | hb
      · exact (hsk.apart r q z' _ _ hr hob h2 hgφ).symm
      · exact (hsk.apart r q z' _ b hr hob h2 (by rw [hφ, hT']; simp [hb])).symm
      · obtain ⟨q', hq', x', hx', hbq⟩ := hUm b hb
        obtain ⟨hrc, z'', hz'', _⟩ := St.kill_get hr
        have := hsat.apart r q' z'' x' b hz'' hx' h2 hbq
        subst this
        simp [hq'] at hrc
      · exact (hsk.apart r q z' _ b hr hob h2 (by rw [hφ, hT']; simp [hb])).symm
end
end
end Go.Proofs.YtehkaajakapkmaaGreat
