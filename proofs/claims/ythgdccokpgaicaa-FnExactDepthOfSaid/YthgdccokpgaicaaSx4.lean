/- The operations that only read, in words about what is known; and why the words are true. No program is named here. -/
import Derived.Test.YthgdccokpgaicaaSx3
namespace Go.Proofs.Ythgdccokpgaicaa
open Go.RowKit
def vAll (f : B → Option D) : List B → Option (List D)
  | [] => some []
  | b :: bs => match f b, vAll f bs with
    | some x, some xs => some (x :: xs)
    | _, _ => none
/-- What a cell is to a callee: data. -/
def vB (objs : Nat → Option Ob) : Nat → B → Option D
  | _, .d x => some x
  | _, .own o => match objs o with
    | some (.arr _ k xs) => some (.rd k xs)
    | _ => none
  | _, .ep o k i off => match objs o with
    | some (.arr _ k' xs) => if k = k' then (xs[i]?).map fun es => .rp (es.drop off) else none
    | _ => none
  | n + 1, .ptr o off => match objs o with
    | some (.box _ cs) => (vAll (vB objs n) (cs.drop off)).map .rp
    | _ => none
  | 0, .ptr _ _ => none
  | _, .dead => none
def vV (objs : Nat → Option Ob) : AV → Option VD
  | .v (.c b) => (vB objs 3 b).map .c
  | .v (.agg bs) => (vAll (vB objs 3) bs).map .agg
  | .tup _ => none
def vArgs (st : St) : List Operand → Option (List VD)
  | [] => some []
  | x :: xs => match vV st.objs (ev st.env x), vArgs st xs with
    | some d, some ds => some (d :: ds)
    | _, _ => none
/-- What a function literal captures: data. -/
def capsD (st : St) : List Operand → Option (List D)
  | [] => some []
  | x :: xs => match ev st.env x, capsD st xs with
    | .v (.c (.d y)), some ys => some (y :: ys)
    | _, _ => none
def fieldInfo (P : Program) (T : TypeId) (f : Nat) : Option (Nat × Bool × Nat) :=
  match P.underlying T with
  | some (.struct fs) => match fs[f]? with
    | some fd => (tyInfo P fd.type).map fun x => (fd.offset, x.1, x.2)
    | none => none
  | _ => none
def VCR (P : Program) (st : St) (o : Op) (K : AV → Prop) : Prop :=
  match o with
  | .move x => K (ev st.env x)
  | .assign x => K (ev st.env x)
  | .pick c a b => ∃ t, ev st.env c = pvA (.bool t) ∧ (t = true → K (ev st.env a)) ∧ (t = false → K (ev st.env b))
  | .load T x => ∃ b cs ag s, ev st.env x = .v (.c b) ∧ cellsAt st.objs b = some cs ∧ tyInfo P T = some (ag, s) ∧
      (ag = true → s ≤ cs.length ∧ K (.v (.agg (cs.take s)))) ∧ (ag = false → ∃ c, cs[0]? = some c ∧ K (.v (.c c)))
  | .nilCheck x => ∃ b, ev st.env x = .v (.c b) ∧ isPtr b = true ∧ K (.v (.c b))
  | .binOp op T x y _ => ∃ a b r, ev st.env x = pvA a ∧ ev st.env y = pvA b ∧ binV P T op a b = some r ∧ K (pvA r)
  | .unOp .not _ x => ∃ t, ev st.env x = pvA (.bool t) ∧ K (pvA (.bool !t))
  | .unOp .neg _ x => ∃ k n, ev st.env x = pvA (.int k n) ∧ K (pvA (.int k (k.wrap (0 - n))))
  | .fieldAddr T x f => ∃ b off b', ev st.env x = .v (.c b) ∧ fieldOff P T f = some off ∧ addOff b off = some b' ∧ K (.v (.c b'))
  | .field T x f => ∃ cs off ag s, ev st.env x = .v (.agg cs) ∧ fieldInfo P T f = some (off, ag, s) ∧
      (ag = true → K (.v (.agg ((cs.drop off).take s)))) ∧ (ag = false → ∃ c, cs[off]? = some c ∧ K (.v (.c c)))
  | .indexAddr T x i => ∃ b k n e s, ev st.env x = .v (.c b) ∧ ev st.env i = pvA (.int k n) ∧ sliceTy P T = some (e, s) ∧ 0 ≤ n ∧
      ((∃ xs es, b = .d (.rd s xs) ∧ xs[n.toNat]? = some es ∧ K (.v (.c (.d (.rp es))))) ∨
       (∃ o e' xs, b = .own o ∧ st.objs o = some (.arr e' s xs) ∧ n < xs.length ∧ K (.v (.c (.ep o s n.toNat 0)))))
  | .index T x i => ∃ s k n b, ev st.env x = pvA (.string s) ∧ ev st.env i = pvA (.int k n) ∧ P.underlying T = some .string ∧ 0 ≤ n ∧ s[n.toNat]? = some b ∧ K (pvA (.int .u8 b.toNat))
  | .convert src dst x => ∃ k n k', ev st.env x = pvA (.int k n) ∧ (P.underlying src).isSome = true ∧ P.underlying dst = some (.int k') ∧ K (pvA (.int k' (k'.wrap n)))
  | .extract x j => ∃ xs y, ev st.env x = .tup xs ∧ xs[j]? = some y ∧ K (.v y)
  | .makeFunc fn first caps => ∃ g ds, fn = .func g ∧ first.toList = [] ∧ capsD st caps.toList = some ds ∧ K (.v (.c (.d (.fn g ds))))
  | .call c => match c.callee with
    | .builtin .len => ∃ x T b, c.args.toList = [x] ∧ c.argTypes.toList = [T] ∧ ev st.env x = .v (.c b) ∧
        ((∃ n, (sliceTy P T).isSome = true ∧ lenOf st.objs b = some n ∧ K (pvA (.int .i64 n))) ∨ (∃ s, b = .d (.pv (.string s)) ∧ P.underlying T = some .string ∧ K (pvA (.int .i64 s.size))))
    | .builtin .max => ∃ x y k m n, c.args.toList = [x, y] ∧ ev st.env x = pvA (.int k m) ∧ ev st.env y = pvA (.int k n) ∧ K (pvA (.int k (if n > m then n else m)))
    | .builtin .min => ∃ x y k m n, c.args.toList = [x, y] ∧ ev st.env x = pvA (.int k m) ∧ ev st.env y = pvA (.int k n) ∧ K (pvA (.int k (if n < m then n else m)))
    | .value f => ∃ g caps ds r, ev st.env f = .v (.c (.d (.fn g caps))) ∧ vArgs st c.args.toList = some ds ∧ Spec P g (ds ++ caps.map .c) r ∧ K r.fr
    | _ => False
  | _ => False
/-- An operation gives x, whatever the world: what it reads is known, what it makes is new. -/
def OpS (P : Program) (N0 : Nat) (st : St) (o : Oper) (x : AV) : Prop :=
  ∀ (a : Act) (w : World) (R : Nat → Prop) (ι : Nat → Value), (∀ b, R b → b < w.heap.size) → (∀ p y, st.objs p = some y → RO N0 w R ι st.dom (ι p) y) → (∀ y ∈ o.op.operands.toList, RA w R ι st.dom (a.eval y) (ev st.env y)) →
    ∀ (K : Act → World → Prop) (Q : Exit → Act → World → Prop), (∀ v w' (R' : Nat → Prop), Below w.heap.size w w' → (∀ b, R b → R' b) → (∀ b, R' b → b < w'.heap.size) → (∀ b, R' b → b < w.heap.size → R b) → RA w' R' ι st.dom v x → K (a.put o.dst v) w') → o.wp P a w K Q
section
variable {P : Program} {N0 : Nat} {st : St} {o : Oper}
theorem OpS.value {x : AV} (h : ∀ (a : Act) (w : World) (R : Nat → Prop) (ι : Nat → Value), (∀ p y, st.objs p = some y → RO N0 w R ι st.dom (ι p) y) → (∀ y ∈ o.op.operands.toList, RA w R ι st.dom (a.eval y) (ev st.env y)) →
    ∃ v, (execOp a.eval o).run P w = .ok (.value v) w ∧ RA w R ι st.dom v x) : OpS P N0 st o x := by
  intro a w R ι hl ho hop K Q hK
  obtain ⟨v, hr, hv⟩ := h a w R ι ho hop
  unfold Oper.wp
  rw [hr]
  exact hK v w R (Below.refl _ _) (fun _ h => h) hl (fun _ h _ => h) hv
theorem RA.pv {w : World} {R : Nat → Prop} {ι : Nat → Value} {dom : Nat → Prop} {v u : Value} (h : RA w R ι dom v (pvA u)) : v = u ∧ u.oneCell' = true ∧ okI u := by
  have h : RD w R v (.pv u) := h
  cases h with
  | pv h1 h2 => exact ⟨rfl, h1, h2⟩
theorem RA.of_pv {w : World} {R : Nat → Prop} {ι : Nat → Value} {dom : Nat → Prop} {u : Value} (h : u.oneCell' = true) (hi : okI u) : RA w R ι dom u (pvA u) := RD.pv h hi
theorem okI_len {n : Nat} (h : n ≤ maxLen) : okI (.int .i64 n) := by
  unfold maxLen at h
  show (Lit.int .i64 (n : Int)).wf = true
  rw [wf_iff]
  simp [IntKind.min, IntKind.max, IntKind.signed, IntKind.bits]
  omega
theorem add_at (b off n : Nat) : (⟨b, off, none⟩ : Addr).add n = ⟨b, off + n, none⟩ := Addr.add_lit b off n
theorem vAll_ok {f : B → Option D} {r : Value → D → Prop} {r' : Value → B → Prop} (h : ∀ v b d, r' v b → f b = some d → r v d) : ∀ {vs : List Value} {bs : List B} {ds : List D}, F2 r' vs bs → vAll f bs = some ds → F2 r vs ds
  | _, _, _, .nil, e => by simp [vAll] at e; subst e; exact .nil
  | _, _, _, .cons (b := b) (bs := bs) h1 h2, e => by
    unfold vAll at e
    split at e
    · rename_i x xs e1 e2
      cases e
      exact .cons (h _ _ _ h1 e1) (vAll_ok h h2 e2)
    · cases e
end
section
variable {N0 : Nat} {w : World} {R : Nat → Prop} {ι : Nat → Value} {dom : Nat → Prop} {objs : Nat → Option Ob}
/-- The blocks that may be read: what nobody turns, and the call's own. -/
def Seen (R : Nat → Prop) (ι : Nat → Value) (objs : Nat → Option Ob) (b : Nat) : Prop := R b ∨ ∃ o x, objs o = some x ∧ blk (ι o) = some b
theorem rp_of {us : List Value} {ds : List D} {R' : Nat → Prop} {g off : Nat} (hR : R' g) (hc : ∀ (j : Nat) (u : Value), us[j]? = some u → w.cell? ⟨g, off + j, none⟩ = some u) (h : F2 (RD w R') us ds) : RD w R' (.pointer (some ⟨g, off, none⟩)) (.rp ds) := by
  have hl := h.len
  refine .rp (fun j => us.getD j undef) hR (fun j hj => ?_) (fun j d hd => ?_)
  · rw [hc j (us[j]'(by omega)) (List.getElem?_eq_getElem (by omega))]
    simp [List.getD, show j < us.length by omega]
  · obtain ⟨u, hu, hr⟩ := h.get hd
    simp only [List.getD, hu, Option.getD_some]
    exact hr
theorem vB_ok (ho : ∀ p y, objs p = some y → RO N0 w R ι dom (ι p) y) : ∀ (n : Nat) {v : Value} {b : B} {d : D}, RB w R ι dom v b → vB objs n b = some d → RD w (Seen R ι objs) v d
  | n, v, .d x, d, hv, h => by
    have : some x = some d := by cases n <;> exact h
    cases this
    exact RD.keep (fun b h => .inl h) (fun _ _ => rfl) hv
  | n, v, .own o, d, hv, h => by
    have h : (match objs o with | some (.arr _ k xs) => some (.rd k xs) | _ => none) = some d := by cases n <;> exact h
    split at h
    · rename_i e k xs hob
      cases h
      rw [hv.2]
      exact RArr.rd (ho _ _ hob) (fun b h => .inl h) fun g hg => .inr ⟨o, _, hob, ownBlock_blk hg⟩
    · cases h
  | n, v, .ep o k i off, d, hv, h => by
    have h : (match objs o with | some (.arr _ k' xs) => if k = k' then (xs[i]?).map fun es => D.rp (es.drop off) else none | _ => none) = some d := by cases n <;> exact h
    have hcs : ∃ e xs es, objs o = some (.arr e k xs) ∧ xs[i]? = some es ∧ d = .rp (es.drop off) := by
      split at h
      · rename_i e k' xs hob
        split at h
        · rename_i hk
          subst hk
          cases hx : xs[i]? with
          | none => simp [hx] at h
          | some es => simp only [hx, Option.map_some, Option.some.injEq] at h; exact ⟨e, xs, es, hob, hx, h.symm⟩
        · cases h
      · cases h
    obtain ⟨e, xs, es, hob, hx, rfl⟩ := hcs
    obtain ⟨g, of, us, h1, h2, h3⟩ := cellsAt_ok (b := .ep o k i off) ho hv (cs := (es.drop off).map B.d) (by simp [cellsAt, hob, hx])
    have hg : blk (ι o) = some g := by
      obtain ⟨_, g', n', cap, e1, e2⟩ := hv
      rw [h1] at e2
      simp only [Value.pointer.injEq, Option.some.injEq, Addr.mk.injEq] at e2
      rw [e1, e2.1]; rfl
    rw [h1]
    refine rp_of (us := us) (.inr ⟨o, _, hob, hg⟩) h3 (F2.of_get (by simpa using h2.len) fun j a b ha hb => ?_)
    obtain ⟨u, hu, hr⟩ := h2.get (i := j) (b := .d b) (by rw [List.getElem?_map, hb]; rfl)
    rw [ha] at hu; cases hu
    exact RD.keep (fun b h => .inl h) (fun _ _ => rfl) hr
  | n + 1, v, .ptr o off, d, hv, h => by
    have h : (match objs o with | some (.box _ cs) => (vAll (vB objs n) (cs.drop off)).map .rp | _ => none) = some d := h
    split at h
    · rename_i T cs hob
      cases hva : vAll (vB objs n) (cs.drop off) with
      | none => simp [hva] at h
      | some ds =>
        simp only [hva, Option.map_some, Option.some.injEq] at h
        subst h
        obtain ⟨g, of, us, h1, h2, h3⟩ := cellsAt_ok (b := .ptr o off) ho hv (cs := cs.drop off) (by simp [cellsAt, hob])
        have hg : blk (ι o) = some g := by
          obtain ⟨_, g', e1, e2⟩ := hv
          rw [h1] at e2
          simp only [Value.pointer.injEq, Option.some.injEq, Addr.mk.injEq] at e2
          rw [e1, e2.1]; rfl
        rw [h1]
        exact rp_of (.inr ⟨o, _, hob, hg⟩) h3 (vAll_ok (r := RD w (Seen R ι objs)) (r' := RB w R ι dom) (fun _ _ _ h1 h2 => vB_ok ho n h1 h2) h2 hva)
    · cases h
  | 0, v, .ptr o off, d, hv, h => by simp [vB] at h
  | n, v, .dead, d, hv, h => by cases n <;> simp [vB] at h
theorem vArgs_ok {st : St} {a : Act} (ho : ∀ p y, st.objs p = some y → RO N0 w R ι st.dom (ι p) y) : ∀ {xs : List Operand} {ds : List VD}, (∀ y ∈ xs, RA w R ι st.dom (a.eval y) (ev st.env y)) → vArgs st xs = some ds → F2 (RVD w (Seen R ι st.objs)) (xs.map a.eval) ds
  | [], ds, _, h => by simp [vArgs] at h; subst h; exact .nil
  | x :: xs, ds, hx, h => by
    unfold vArgs at h
    split at h
    · rename_i d ds' e1 e2
      cases h
      refine .cons ?_ (vArgs_ok ho (fun y hy => hx y (by simp [hy])) e2)
      have hv := hx x (by simp)
      unfold vV at e1
      split at e1
      · rename_i b hb
        rw [hb] at hv
        cases hd : vB st.objs 3 b with
        | none => simp [hd] at e1
        | some d' =>
          simp only [hd, Option.map_some, Option.some.injEq] at e1
          subst e1
          exact vB_ok ho 3 hv hd
      · rename_i bs hb
        rw [hb] at hv
        cases hd : vAll (vB st.objs 3) bs with
        | none => simp [hd] at e1
        | some d' =>
          simp only [hd, Option.map_some, Option.some.injEq] at e1
          subst e1
          obtain ⟨vs, h1, h2⟩ := hv
          exact ⟨vs, h1, vAll_ok (r := RD w (Seen R ι st.objs)) (r' := RB w R ι st.dom) (fun _ _ _ h1 h2 => vB_ok ho 3 h1 h2) h2 hd⟩
      · cases e1
    · cases h
end
end Go.Proofs.Ythgdccokpgaicaa
