/- The operations that make or write memory, in words about what is known. No program is named here. -/
import Derived.Test.YthgdccokpgaicaaSx5
namespace Go.Proofs.Ythgdccokpgaicaa
open Go.RowKit
def B.live : B → Bool
  | .dead => false
  | _ => true
def cellsV : V1 → Option (List B)
  | .c b => if b.live then some [b] else none
  | .agg cs => some cs
def setAll (bs : List B) (off : Nat) : List B → List B
  | [] => bs
  | c :: cs => setAll (bs.set off c) (off + 1) cs
def fillB (place : Nat → Option (Nat × Nat)) (bs : List B) : List (Nat × List B) → Option (List B)
  | [] => some bs
  | (i, c) :: rest => match place i with
    | none => none
    | some (off, size) => if c.length = size ∧ off + c.length ≤ bs.length then fillB place (setAll bs off c) rest else none
def partsB (st : St) : List (Nat × Operand) → Option (List (Nat × List B))
  | [] => some []
  | (i, x) :: rest => match ev st.env x, partsB st rest with
    | .v v1, some ps => match cellsV v1 with
      | some cs => some ((i, cs) :: ps)
      | none => none
    | _, _ => none
def dsOf : List B → Option (List D)
  | [] => some []
  | .d x :: bs => (dsOf bs).map (x :: ·)
  | _ :: _ => none
def chunks (s : Nat) : Nat → List D → List (List D)
  | 0, _ => []
  | n + 1, ds => ds.take s :: chunks s n (ds.drop s)
def goodV (v : Value) : Bool := v.oneCell' && match v with
  | .int k n => (Lit.int k n).wf
  | .string s => decide (s.size ≤ maxLen)
  | _ => true
def zeroCells (P : Program) (T : TypeId) : Option (List Value) :=
  (P.info? T).bind fun i => i.zero.bind fun z => if z.cells.toList.all goodV then some z.cells.toList else none
def placesOf (P : Program) (T : TypeId) : Option (List (Nat × Nat)) :=
  match P.underlying T with
  | some (.struct fs) => if fs.toList.all (fun f => (P.info? f.type).isSome) then some (fs.toList.map fun f => (f.offset, P.cellsOf f.type)) else none
  | _ => none
/-- A slice type's element: its number, its cells, its bytes, its zero. -/
def sliceInfo (P : Program) (T : TypeId) : Option (TypeId × Nat × Nat × List Value) :=
  match P.underlying T with
  | some (.slice e) => (P.info? e).bind fun i => i.zero.bind fun z => if z.cells.toList.all goodV && (z.cells.size == i.size) && decide (0 < i.size) then some (e, i.size, i.bytes, z.cells.toList) else none
  | _ => none
def splice {α : Type} (old : List α) (off : Nat) (cs : List α) : List α := old.take off ++ cs ++ old.drop (off + cs.length)
def B.kill (p : Nat) : B → B
  | .ptr o off => if o = p then .dead else .ptr o off
  | .own o => if o = p then .dead else .own o
  | .ep o k i off => if o = p then .dead else .ep o k i off
  | b => b
def V1.kill (p : Nat) : V1 → V1
  | .c b => .c (b.kill p)
  | .agg bs => .agg (bs.map (B.kill p))
def AV.kill (p : Nat) : AV → AV
  | .v x => .v (x.kill p)
  | .tup xs => .tup (xs.map (V1.kill p))
def Ob.kill (p : Nat) : Ob → Ob
  | .box T cs => .box T (cs.map (B.kill p))
  | .arr e k xs => .arr e k xs
def St.kill (st : St) (p : Nat) : St := ⟨fun d => (st.env d).kill p, fun o => (st.objs o).map (Ob.kill p)⟩
def RC.nws : RC → List (TypeId × Nat × List (List D))
  | .fz _ => []
  | .nw e k xs => [(e, k, xs)]
def R1.nws : R1 → List (TypeId × Nat × List (List D))
  | .c x => x.nws
  | .agg xs => xs.flatMap RC.nws
def RT.nws : RT → List (TypeId × Nat × List (List D))
  | .v x => x.nws
  | .tup xs => xs.flatMap R1.nws
def RC.ab (p : Nat) : RC → B
  | .fz x => .d x
  | .nw _ _ _ => .own p
def R1.ab (p : Nat) : R1 → V1
  | .c x => .c (x.ab p)
  | .agg xs => .agg (xs.map (RC.ab p))
def RT.ab (p : Nat) : RT → AV
  | .v x => .v (x.ab p)
  | .tup xs => .tup (xs.map (R1.ab p))
/-- The elements of a slice that is appended. -/
def elemsOf (objs : Nat → Option Ob) : B → Option (Nat × List (List D))
  | .own o => match objs o with
    | some (.arr _ k xs) => some (k, xs)
    | _ => none
  | .d (.rd k xs) => some (k, xs)
  | _ => none
def deadA : AV := .v (.c .dead)
def callId (d : Nat) : Nat := 1000 + d
def VCW (P : Program) (st : St) (o : Oper) (K : AV → St → Prop) : Prop :=
  match o.op with
  | .alloc T => ∃ d zs, o.dst = some d ∧ st.objs d = none ∧ zeroCells P T = some zs ∧ K (.v (.c (.ptr d 0))) ⟨st.env, upd st.objs d (some (.box T (zs.map fun v => .d (.pv v))))⟩
  | .box T x => ∃ d v1 cs, o.dst = some d ∧ st.objs d = none ∧ ev st.env x = .v v1 ∧ cellsV v1 = some cs ∧ K (.v (.c (.ptr d 0))) ⟨st.env, upd st.objs d (some (.box T cs))⟩
  | .store T x y => ∃ b v1 cs ag, ev st.env x = .v (.c b) ∧ ev st.env y = .v v1 ∧ cellsV v1 = some cs ∧ cs.all B.live = true ∧ tyInfo P T = some (ag, cs.length) ∧
      ((∃ p off T' old, b = .ptr p off ∧ st.objs p = some (.box T' old) ∧ off + cs.length ≤ old.length ∧ K deadA ⟨st.env, upd st.objs p (some (.box T' (splice old off cs)))⟩) ∨
       (∃ p k i off e xs es ds, b = .ep p k i off ∧ st.objs p = some (.arr e k xs) ∧ xs[i]? = some es ∧ off + cs.length ≤ k ∧ dsOf cs = some ds ∧ K deadA ⟨st.env, upd st.objs p (some (.arr e k (xs.set i (splice es off ds))))⟩))
  | .build T parts => ∃ zs pl ps bs, zeroCells P T = some zs ∧ placesOf P T = some pl ∧ partsB st parts.toList = some ps ∧ fillB (fun i => pl[i]?) (zs.map fun v => .d (.pv v)) ps = some bs ∧ K (.v (.agg bs)) st
  | .buildSlice T len parts => ∃ d e s by' zs ps bs ds, o.dst = some d ∧ st.objs d = none ∧ sliceInfo P T = some (e, s, by', zs) ∧ len ≤ 65536 ∧ len * s ≤ 16777216 ∧ partsB st parts.toList = some ps ∧ fillB (fun i => some (i * s, s)) (List.replicate (len * s) .dead) ps = some bs ∧ dsOf bs = some ds ∧
      K (.v (.c (.own d))) ⟨st.env, upd st.objs d (some (.arr e s (chunks s len ds)))⟩
  | .makeSlice T l c => ∃ d n e s by' zs, o.dst = some d ∧ st.objs d = none ∧ ev st.env l = pvA (.int .i64 n) ∧ ev st.env c = pvA (.int .i64 n) ∧ 0 ≤ n ∧ n ≤ 16777216 ∧ sliceInfo P T = some (e, s, by', zs) ∧ by' ≤ 65536 ∧
      K (.v (.c (.own d))) ⟨st.env, upd st.objs d (some (.arr e s (List.replicate n.toNat (zs.map D.pv))))⟩
  | .call c => match c.callee with
    | .builtin .append => ∃ d x y T b b' e s by' zs ys, o.dst = some d ∧ c.args.toList = [x, y] ∧ c.argTypes.toList = [T, T] ∧ ev st.env x = .v (.c b) ∧ ev st.env y = .v (.c b') ∧ sliceInfo P T = some (e, s, by', zs) ∧ elemsOf st.objs b' = some (s, ys) ∧
        ((∃ p xs, b = .own p ∧ st.objs p = some (.arr e s xs) ∧ xs.length + ys.length ≤ maxLen ∧ (xs.length + ys.length) * by' ≤ 140737488355328 ∧ K (.v (.c (.own p))) ⟨(st.kill p).env, upd (st.kill p).objs p (some (.arr e s (xs ++ ys)))⟩) ∨
         (b = .d (.pv (.slice none 0 0)) ∧ st.objs d = none ∧ ys.length * by' ≤ 140737488355328 ∧ K (.v (.c (.own d))) ⟨st.env, upd st.objs d (some (.arr e s ys))⟩))
    | .value f => ∃ g caps ds r, ev st.env f = .v (.c (.d (.fn g caps))) ∧ vArgs st c.args.toList = some ds ∧ Spec P g (ds ++ caps.map .c) r ∧
        (match r.nws, o.dst with
        | [(e, k, xs)], some d => st.objs (callId d) = none ∧ K (r.ab (callId d)) ⟨st.env, upd st.objs (callId d) (some (.arr e k xs))⟩
        | _, _ => K r.fr st)
    | _ => VCR P st o.op fun x => K x st
  | _ => VCR P st o.op fun x => K x st
/-- An operation gives x and leaves what is known as st'. -/
def OpW (P : Program) (w0 : World) (n : Nat) (st : St) (o : Oper) (x : AV) (st' : St) : Prop :=
  ∀ (a : Act) (w : World) (R : Nat → Prop) (ι : Nat → Value), Sat w0 n R ι st a w → ∀ (K : Act → World → Prop) (Q : Exit → Act → World → Prop),
    (∀ v w' R' ι', Sat w0 n R' ι' st' a w' → RA w' R' ι' st'.dom v x → K (a.put o.dst v) w') → o.wp P a w K Q
section
variable {P : Program} {w0 : World} {n : Nat} {st : St} {o : Oper}
theorem OpW.of_read {x : AV} (h : OpS P w0.heap.size st o x) : OpW P w0 n st o x st := fun a w R ι hs K Q hK =>
  h a w R ι hs.rlt hs.objs (fun y _ => ev_ok hs.env y) K Q fun v w' R' hb h1 h2 h3 hv => hK v w' R' ι (hs.world hb h1 h2 h3) hv
theorem RB.one {N0 : Nat} {w : World} {R : Nat → Prop} {ι : Nat → Value} {objs : Nat → Option Ob} {env : Nat → AV} (ho : ∀ p y, objs p = some y → RO N0 w R ι (St.dom ⟨env, objs⟩) (ι p) y) {v : Value} {b : B} (h : RB w R ι (St.dom ⟨env, objs⟩) v b) (hl : b.live = true) : v.oneCell' = true := by
  cases b with
  | d x => exact RD.one h
  | ptr o off => obtain ⟨_, g, _, rfl⟩ := h; rfl
  | own o =>
    obtain ⟨⟨x, hx⟩, rfl⟩ := h
    have := ho o x hx
    cases x with
    | box T cs => obtain ⟨g, vs, e, _⟩ := this; rw [e]; rfl
    | arr e k xs => obtain ⟨a, cap, e, _⟩ := RArr.len this; rw [e]; rfl
  | ep o k i off => obtain ⟨_, g, _, _, _, rfl⟩ := h; rfl
  | dead => cases hl
theorem cells_one {v : Value} (h : v.oneCell' = true) : v.cells = #[v] := by
  cases v <;> first | rfl | (simp [Value.oneCell'] at h)
theorem cellsV_ok {N0 : Nat} {w : World} {R : Nat → Prop} {ι : Nat → Value} {st : St} (ho : ∀ p y, st.objs p = some y → RO N0 w R ι st.dom (ι p) y) {v : Value} {v1 : V1} {cs : List B} (h : RV1 w R ι st.dom v v1) (hc : cellsV v1 = some cs) : F2 (RB w R ι st.dom) v.cells.toList cs := by
  cases v1 with
  | c b =>
    simp only [cellsV] at hc
    split at hc
    · rename_i hl
      cases hc
      rw [cells_one (RB.one (env := st.env) (objs := st.objs) ho h hl)]
      exact .cons h .nil
    · cases hc
  | agg bs =>
    cases hc
    obtain ⟨vs, rfl, h2⟩ := h
    exact h2
theorem goodV_ok {v : Value} (h : goodV v = true) : v.oneCell' = true ∧ okI v := by
  unfold goodV at h
  simp only [Bool.and_eq_true] at h
  refine ⟨h.1, ?_⟩
  have := h.2
  unfold okI
  cases v <;> first | trivial | exact this | (simpa using this)
theorem good_F2 {w : World} {R : Nat → Prop} {ι : Nat → Value} {dom : Nat → Prop} : ∀ {zs : List Value}, zs.all goodV = true → F2 (RB w R ι dom) zs (zs.map fun v => .d (.pv v))
  | [], _ => .nil
  | z :: zs, h => by
    simp only [List.all_cons, Bool.and_eq_true] at h
    exact .cons (RD.pv (goodV_ok h.1).1 (goodV_ok h.1).2) (good_F2 h.2)
theorem run_zeroCells {w : World} {T : TypeId} {zs : List Value} (h : zeroCells P T = some zs) : ∃ z : Value, (zeroValue T).run P w = .ok z w ∧ z.cells.toList = zs ∧ zs.all goodV = true := by
  unfold zeroCells at h
  cases hi : P.info? T with
  | none => simp [hi] at h
  | some i =>
    cases hz : i.zero with
    | none => simp [hi, hz] at h
    | some z =>
      simp only [hi, hz, Option.bind_some] at h
      split at h
      · rename_i hg
        cases h
        exact ⟨z, by simp [zeroValue, typeInfo, hi, hz], rfl, hg⟩
      · cases h
theorem alloc_new_at (w : World) (o : Obj) : (w.alloc o).heap[w.heap.size]? = some o := heap_alloc_new w o
theorem sound_alloc {T d : Nat} {zs : List Value} (hop : o.op = .alloc T) (hn : st.objs d = none) (hz : zeroCells P T = some zs) :
    OpW P w0 n st o (.v (.c (.ptr d 0))) ⟨st.env, upd st.objs d (some (.box T (zs.map fun v => .d (.pv v))))⟩ := fun a w R ι hs K Q hK => by
  obtain ⟨z, h1, h2, h3⟩ := run_zeroCells (w := w) hz
  have hrun : (execOp a.eval o).run P w = .ok (.value (.pointer (some ⟨w.heap.size, 0, none⟩))) (w.alloc (.cells zs.toArray T)) := by
    unfold execOp
    rw [hop]
    simp only [Instr.alloc, Sem.run_bind, h1, Result.andThen_ok, newVar, newRow, run_newObj, Sem.run_pure, ← h2, Array.toArray_toList]
    rfl
  unfold Oper.wp
  rw [hrun, Oper.upon_value]
  have hb : Below w.heap.size w (w.alloc (.cells zs.toArray T)) := (Below.refl _ _).alloc (Nat.le_refl _) _
  refine hK _ _ R (upd ι d (.pointer (some ⟨w.heap.size, 0, none⟩))) (hs.new hn hb ⟨w.heap.size, zs, rfl, hs.below.size, fun h => Nat.lt_irrefl _ (hs.rlt _ h), alloc_new_at _ _, good_F2 h3⟩ (fun g hg => by simp [blk] at hg; omega)) ⟨⟨_, upd_same _ _ _⟩, w.heap.size, upd_same _ _ _, rfl⟩
theorem sound_box {T d : Nat} {x : Operand} {v1 : V1} {cs : List B} (hop : o.op = .box T x) (hn : st.objs d = none) (hx : ev st.env x = .v v1) (hc : cellsV v1 = some cs) :
    OpW P w0 n st o (.v (.c (.ptr d 0))) ⟨st.env, upd st.objs d (some (.box T cs))⟩ := fun a w R ι hs K Q hK => by
  have hv := ev_ok (a := a) hs.env x
  rw [hx] at hv
  have hF := cellsV_ok hs.objs hv hc
  have hrun : (execOp a.eval o).run P w = .ok (.value (.pointer (some ⟨w.heap.size, 0, none⟩))) (w.alloc (.cells (a.eval x).cells T)) := by
    unfold execOp
    rw [hop]
    simp only [Instr.box, Sem.run_bind, Result.andThen_ok, newVar, newRow, run_newObj, Sem.run_pure]
    rfl
  unfold Oper.wp
  rw [hrun, Oper.upon_value]
  have hb : Below w.heap.size w (w.alloc (.cells (a.eval x).cells T)) := (Below.refl _ _).alloc (Nat.le_refl _) _
  have hne : ∀ p, st.dom p → p ≠ d := fun p ⟨y, hy⟩ e => by subst e; rw [hn] at hy; cases hy
  refine hK _ _ R (upd ι d (.pointer (some ⟨w.heap.size, 0, none⟩))) (hs.new hn hb ⟨w.heap.size, (a.eval x).cells.toList, rfl, hs.below.size, fun h => Nat.lt_irrefl _ (hs.rlt _ h), by rw [Array.toArray_toList]; exact alloc_new_at _ _, ?_⟩ (fun g hg => by simp [blk] at hg; omega)) ⟨⟨_, upd_same _ _ _⟩, w.heap.size, upd_same _ _ _, rfl⟩
  refine hF.mono fun v b h => RB.keep (fun _ h => h) (fun b hb' => hb.block b (hs.rlt b hb')) (fun p ⟨y, hy⟩ => ⟨y, by simp only [upd_ne _ _ (hne p ⟨y, hy⟩)]; exact hy⟩) (fun p hp => upd_ne _ _ (hne p hp)) h
end
end Go.Proofs.Ythgdccokpgaicaa
