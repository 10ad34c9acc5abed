/- The operations that make or write memory: why the words are true (3): make, append, calls. No program is named here. -/
import Derived.Test.YthgdccokpgaicaaSx8
namespace Go.Proofs.Ythgdccokpgaicaa
open Go.RowKit
section
variable {P : Program} {w0 : World} {n : Nat} {st : St} {o : Oper}
theorem F2.replicate {α β : Type} {r : α → β → Prop} {a : List α} {b : List β} (h : F2 r a b) : ∀ n, F2 r (List.replicate n a).flatten (List.replicate n b).flatten
  | 0 => .nil
  | n + 1 => by rw [List.replicate_succ, List.replicate_succ, List.flatten_cons, List.flatten_cons]; exact h.append (h.replicate n)
theorem good_D {w : World} {R : Nat → Prop} : ∀ {zs : List Value}, zs.all goodV = true → F2 (RD w R) zs (zs.map D.pv)
  | [], _ => .nil
  | z :: zs, h => by
    simp only [List.all_cons, Bool.and_eq_true] at h
    exact .cons (RD.pv (goodV_ok h.1).1 (goodV_ok h.1).2) (good_D h.2)
theorem Below.of_grown {w w' : World} {row : Option Nat} (hg : w.grownBy w' row) {B : Nat} (hB : B ≤ w.heap.size) (hr : ∀ k, row = some k → B ≤ k) : Below B w w' := (Below.refl B w).grown hg hB hr
theorem sound_makeSlice {T d e s by' : Nat} {l c : Operand} {m : Int} {zs : List Value} (hop : o.op = .makeSlice T l c) (hn : st.objs d = none) (hl : ev st.env l = pvA (.int .i64 m)) (hc : ev st.env c = pvA (.int .i64 m)) (h0 : 0 ≤ m) (hm : m ≤ 16777216) (hT : sliceInfo P T = some (e, s, by', zs)) (hby : by' ≤ 65536) :
    OpW P w0 n st o (.v (.c (.own d))) ⟨st.env, upd st.objs d (some (.arr e s (List.replicate m.toNat (zs.map D.pv))))⟩ := fun a w R ι hs K Q hK => by
  obtain ⟨hu, i, z, hi, hz, hsz, hbb, hzs, hzl, hs0, hg⟩ := run_sliceInfo hT
  have hvl := ev_ok (a := a) hs.env l
  have hvc := ev_ok (a := a) hs.env c
  rw [hl] at hvl; rw [hc] at hvc
  obtain ⟨e1, _⟩ := RA.pv hvl
  obtain ⟨e2, _⟩ := RA.pv hvc
  obtain ⟨k, rfl⟩ := Int.eq_ofNat_of_zero_le h0
  have hk : k ≤ 16777216 := by omega
  have hbk : i.bytes * k ≤ 281474976710656 := by
    rw [hbb]
    have := Nat.mul_le_mul hby hk
    omega
  obtain ⟨w', hrun, hown, hgr⟩ := run_make_full (P := P) w w0.heap.size T e i z s hu hi hz hsz .i64 .i64 k hbk (by unfold maxLen; omega) hs.below.size
  have hrun' : (execOp a.eval o).run P w = .ok (.value (.slice (some ⟨w.heap.size, 0, none⟩) k k)) w' := by
    unfold execOp
    rw [hop]
    simp only [e1, e2, Sem.run_bind, hrun, Result.andThen_ok, Sem.run_pure]
  unfold Oper.wp
  rw [hrun', Oper.upon_value]
  have hb : Below w.heap.size w w' := Below.of_grown hgr (Nat.le_refl _) (by simp)
  have hmc : (madeCells z.cells (k * s)).toList = (List.replicate k zs).flatten := by
    rw [← hzl, ← hzs]
    exact madeCells_zeros z.cells (by omega) k
  rw [hmc] at hown
  refine hK _ _ R (upd ι d (.slice (some ⟨w.heap.size, 0, none⟩) k k)) (hs.new hn hb ?_ (fun g hg => by simp [blk] at hg; omega)) ⟨⟨_, upd_same _ _ _⟩, (upd_same _ _ _).symm⟩
  refine ⟨fun es he => ?_, (List.replicate k zs).flatten, ?_, ?_, fun g hg hr => ?_⟩
  · rw [List.eq_of_mem_replicate he, List.length_map]
    have : zs.length = z.cells.size := by rw [← hzs]; simp
    omega
  · simp only [Int.toNat_natCast, List.length_replicate]
    exact hown
  · exact (F2.replicate (good_D hg) k).mono fun _ _ h => RD.keep (fun _ h => h) (fun b hb' => hb.block b (hs.rlt b hb')) h
  · simp only [Value.ownBlock, Option.some.injEq] at hg
    have := hs.rlt g hr
    omega
theorem RB.kill {w w' : World} {R : Nat → Prop} {ι ι' : Nat → Value} {dom dom' : Nat → Prop} {p : Nat} (he : ∀ b, R b → w'.heap[b]? = w.heap[b]?) (hd : ∀ o, dom o → dom' o) (hι : ∀ o, o ≠ p → ι' o = ι o) {v : Value} : ∀ {b : B}, RB w R ι dom v b → RB w' R ι' dom' v (b.kill p)
  | .d _, h => RD.keep (fun _ h => h) he h
  | .ptr o off, ⟨h1, g, h2, h3⟩ => by
    show RB w' R ι' dom' v (if o = p then .dead else .ptr o off)
    by_cases hne : o = p
    · rw [if_pos hne]; trivial
    · rw [if_neg hne]; exact ⟨hd o h1, g, (hι o hne).trans h2, h3⟩
  | .own o, ⟨h1, h2⟩ => by
    show RB w' R ι' dom' v (if o = p then .dead else .own o)
    by_cases hne : o = p
    · rw [if_pos hne]; trivial
    · rw [if_neg hne]; exact ⟨hd o h1, by rw [hι o hne]; exact h2⟩
  | .ep o k i off, ⟨h1, g, n, cap, h2, h3⟩ => by
    show RB w' R ι' dom' v (if o = p then .dead else .ep o k i off)
    by_cases hne : o = p
    · rw [if_pos hne]; trivial
    · rw [if_neg hne]; exact ⟨hd o h1, g, n, cap, (hι o hne).trans h2, h3⟩
  | .dead, _ => trivial
theorem F2.map_right {α β γ : Type} {r : α → β → Prop} {r' : α → γ → Prop} {f : β → γ} (h : ∀ a b, r a b → r' a (f b)) : ∀ {as : List α} {bs : List β}, F2 r as bs → F2 r' as (bs.map f)
  | _, _, .nil => .nil
  | _, _, .cons h1 h2 => .cons (h _ _ h1) (h2.map_right h)
theorem RV1.kill {w w' : World} {R : Nat → Prop} {ι ι' : Nat → Value} {dom dom' : Nat → Prop} {p : Nat} (he : ∀ b, R b → w'.heap[b]? = w.heap[b]?) (hd : ∀ o, dom o → dom' o) (hι : ∀ o, o ≠ p → ι' o = ι o) {v : Value} : ∀ {x : V1}, RV1 w R ι dom v x → RV1 w' R ι' dom' v (x.kill p)
  | .c _, h => RB.kill he hd hι h
  | .agg _, ⟨vs, h1, h2⟩ => ⟨vs, h1, h2.map_right fun _ _ h => RB.kill he hd hι h⟩
theorem RA.kill {w w' : World} {R : Nat → Prop} {ι ι' : Nat → Value} {dom dom' : Nat → Prop} {p : Nat} (he : ∀ b, R b → w'.heap[b]? = w.heap[b]?) (hd : ∀ o, dom o → dom' o) (hι : ∀ o, o ≠ p → ι' o = ι o) {v : Value} : ∀ {x : AV}, RA w R ι dom v x → RA w' R ι' dom' v (x.kill p)
  | .v _, h => RV1.kill he hd hι h
  | .tup _, ⟨vs, h1, h2⟩ => ⟨vs, h1, h2.map_right fun _ _ h => RV1.kill he hd hι h⟩
/-- An array of the call's own grows: it may have moved. -/
theorem Sat.grow {w w' : World} {R : Nat → Prop} {ι : Nat → Value} {a : Act} (h : Sat w0 n R ι st a w) {p : Nat} {x : Ob} {u : Value} {e k : Nat} {xs : List (List D)} (hp : st.objs p = some x) (hb : Below w0.heap.size w0 w') (hsz : w.heap.size ≤ w'.heap.size)
    (hne : ∀ b, b < w.heap.size → blk (ι p) ≠ some b → w'.heap[b]? = w.heap[b]?) (hx : RArr w0.heap.size w' R u e k xs) (hu : ∀ g, blk u = some g → blk (ι p) = some g ∨ w.heap.size ≤ g) :
    Sat w0 n R (upd ι p u) ⟨(st.kill p).env, upd (st.kill p).objs p (some (.arr e k xs))⟩ a w' := by
  have hR : ∀ b, R b → w'.heap[b]? = w.heap[b]? := fun b hr => hne b (h.rlt b hr) fun e => (RO.blk_lt e (h.objs p x hp)).2.2 hr
  have hdm : ∀ q, st.dom q → (⟨(st.kill p).env, upd (st.kill p).objs p (some (.arr e k xs))⟩ : St).dom q := fun q ⟨y, hy⟩ => by
    by_cases hq : q = p
    · subst hq; exact ⟨.arr e k xs, by simp [upd_same]⟩
    · exact ⟨y.kill p, by simp [upd_ne _ _ hq, St.kill, hy]⟩
  have hι : ∀ q, q ≠ p → upd ι p u q = ι q := fun q hq => upd_ne _ _ hq
  have get : ∀ {q y}, q ≠ p → (upd (st.kill p).objs p (some (.arr e k xs))) q = some y → ∃ y', st.objs q = some y' ∧ y = y'.kill p := fun {q y} hq hy => by
    simp only [upd_ne _ _ hq, St.kill] at hy
    cases hq' : st.objs q with
    | none => simp [hq'] at hy
    | some y' => simp only [hq', Option.map_some, Option.some.injEq] at hy; exact ⟨y', rfl, hy.symm⟩
  refine ⟨hb, fun b hr => Nat.lt_of_lt_of_le (h.rlt b hr) hsz, h.size, h.defers, fun d => RA.kill hR hdm hι (h.env d), fun q y hy => ?_, fun q r y z g hy hz h1 h2 => ?_⟩
  · by_cases hq : q = p
    · subst hq
      simp only [upd_same, Option.some.injEq] at hy ⊢
      subst hy
      exact hx
    · obtain ⟨y', hy', rfl⟩ := get hq hy
      have ho := h.objs q y' hy'
      simp only [upd_ne _ _ hq]
      have hbl : ∀ g, blk (ι q) = some g → w'.heap[g]? = w.heap[g]? := fun g hg => hne g (RO.blk_lt hg ho).2.1 fun e => hq (h.apart q p y' x g hy' hp hg e)
      cases y' with
      | box T cs =>
        obtain ⟨g, vs, q1, q2, q3, q4, q5⟩ := ho
        exact ⟨g, vs, q1, q2, q3, (hbl g (by rw [q1]; rfl)).trans q4, q5.map_right fun _ _ h => RB.kill hR hdm hι h⟩
      | arr e' k' xs' => exact RArr.keep (fun _ h => h) hR (fun g hg => ⟨hbl g (ownBlock_blk hg), (RO.blk_lt (ownBlock_blk hg) ho).2.2⟩) ho
  · by_cases hq : q = p
    · by_cases hr : r = p
      · rw [hq, hr]
      · subst hq
        obtain ⟨z', hz', _⟩ := get hr hz
        simp only [upd_same, upd_ne _ _ hr] at h1 h2
        rcases hu g h1 with h3 | h3
        · exact h.apart q r x z' g hp hz' h3 h2
        · have := (RO.blk_lt h2 (h.objs r z' hz')).2.1
          omega
    · obtain ⟨y', hy', _⟩ := get hq hy
      by_cases hr : r = p
      · subst hr
        simp only [upd_same, upd_ne _ _ hq] at h1 h2
        rcases hu g h2 with h3 | h3
        · exact h.apart q r y' x g hy' hp h1 h3
        · have := (RO.blk_lt h1 (h.objs q y' hy')).2.1
          omega
      · obtain ⟨z', hz', _⟩ := get hr hz
        simp only [upd_ne _ _ hq, upd_ne _ _ hr] at h1 h2
        exact h.apart q r y' z' g hy' hz' h1 h2
/-- What is appended, cell by cell. -/
theorem elems_ok {N0 : Nat} {w : World} {R : Nat → Prop} {ι : Nat → Value} {dom : Nat → Prop} {objs : Nat → Option Ob} (ho : ∀ p y, objs p = some y → RO N0 w R ι dom (ι p) y) {v : Value} {b : B} {k : Nat} {ys : List (List D)} (hv : RB w R ι dom v b) (h : elemsOf objs b = some (k, ys)) :
    (∀ y ∈ ys, y.length = k) ∧ ∃ A cap, v = .slice A ys.length cap ∧ (A = none → ys = []) ∧ ∃ news, F2 (RD w R) news ys.flatten ∧ ∀ ad, A = some ad → ∀ j u, news[j]? = some u → w.cell? (ad.add j) = some u := by
  unfold elemsOf at h
  split at h
  · rename_i o
    split at h
    · rename_i e k' xs hob
      cases h
      obtain ⟨h1, vs, hown, hf, _⟩ := ho _ _ hob
      refine ⟨h1, ?_⟩
      rw [hv.2]
      rcases hown.2 with ⟨e1, h0⟩ | ⟨g, cap, cur, e1, hb, hh, hnc, hcm, hcs, ht⟩
      · have : ys = [] := List.eq_nil_of_length_eq_zero h0
        subst this
        exact ⟨none, 0, by rw [e1]; rfl, (fun _ => rfl), [], .nil, (fun ad h => by cases h)⟩
      · exact ⟨_, cap, e1, (fun h => by cases h), vs, hf, (fun ad had j u hu => by cases had; exact hown.cells (g := g) (by rw [e1]; rfl) j u hu)⟩
    · cases h
  · cases h
    have hv' : RD w R v _ := hv
    cases hv' with
    | nil => exact ⟨by simp, _, _, rfl, (fun _ => rfl), [], .nil, (fun _ _ j u hu => by simp at hu)⟩
    | rd c h0 h1 h2 hR hk hc hr =>
      rename_i b off cap
      have hk' : ∀ y ∈ ys, y.length = k := fun y hy => by
        obtain ⟨i, hi⟩ := List.getElem?_of_mem hy
        exact hk i y hi
      have hfl : ys.flatten.length = ys.length * k := by
        have : ∀ (l : List (List D)), (∀ y ∈ l, y.length = k) → l.flatten.length = l.length * k := by
          intro l
          induction l with
          | nil => intro _; simp
          | cons x l ih => intro h; rw [List.flatten_cons, List.length_append, h x (by simp), ih fun y hy => h y (by simp [hy]), List.length_cons, Nat.succ_mul]; omega
        exact this ys hk'
      have hcell : ∀ j, j < ys.flatten.length → ∃ i t es, ys[i]? = some es ∧ t < k ∧ j = i * k + t := fun j hj => by
        rw [hfl] at hj
        have hk0 : 0 < k := by
          rcases Nat.eq_zero_or_pos k with h | h
          · rw [h] at hj; simp at hj
          · exact h
        have hi : j / k < ys.length := (Nat.div_lt_iff_lt_mul hk0).2 hj
        exact ⟨j / k, j % k, ys[j / k], List.getElem?_eq_getElem hi, Nat.mod_lt _ hk0, by rw [Nat.mul_comm]; exact (Nat.div_add_mod j k).symm⟩
      refine ⟨hk', _, cap, rfl, (fun h => by cases h), (List.range ys.flatten.length).map fun j => c (j / k) (j % k), F2.of_get (by simp) fun j u d hu hd => ?_, fun ad had j u hu => ?_⟩
      · have hj : j < ys.flatten.length := by
          rcases Nat.lt_or_ge j ys.flatten.length with h | h
          · exact h
          · rw [List.getElem?_eq_none h] at hd; cases hd
        rw [List.getElem?_map, List.getElem?_range hj] at hu
        simp only [Option.map_some, Option.some.injEq] at hu
        subst hu
        obtain ⟨i, t, es, hi, ht, rfl⟩ := hcell j hj
        rw [flatten_get hk' hi ht] at hd
        rw [show (i * k + t) / k = i by rw [Nat.mul_comm, Nat.mul_add_div (by omega), Nat.div_eq_of_lt ht]; omega, show (i * k + t) % k = t by rw [Nat.mul_comm, Nat.mul_add_mod, Nat.mod_eq_of_lt ht]]
        exact hr i es t d hi hd
      · cases had
        have hj : j < ys.flatten.length := by
          rcases Nat.lt_or_ge j ys.flatten.length with h | h
          · exact h
          · rw [List.getElem?_eq_none (by simpa using h)] at hu; cases hu
        rw [List.getElem?_map, List.getElem?_range hj] at hu
        simp only [Option.map_some, Option.some.injEq] at hu
        subst hu
        obtain ⟨i, t, es, hi, ht, rfl⟩ := hcell j hj
        rw [show (i * k + t) / k = i by rw [Nat.mul_comm, Nat.mul_add_div (by omega), Nat.div_eq_of_lt ht]; omega, show (i * k + t) % k = t by rw [Nat.mul_comm, Nat.mul_add_mod, Nat.mod_eq_of_lt ht], add_at, ← Nat.add_assoc]
        exact hc i es t hi ht
  · cases h
theorem run_append_nilsrc {w : World} (base : Nat) (t ty e : TypeId) (i : TypeInfo) (size : Nat) (ht : P.underlying t = some (.slice e)) (hi : P.info? e = some i)
    (v : Value) (n : Nat) (xs : List Value) (hown : w.ownsRow base e size v n xs) (c : Nat) : (Builtin.append_ #[t, t] ty #[v, .slice none 0 c]).run P w = .ok v w := by
  rcases hown.2 with ⟨rfl, rfl⟩ | ⟨g, cap, cur, rfl, _, _, hnc, _⟩
  · simp [Builtin.append_, run_underlying ht, sizeOf, typeInfo, hi, Builtin.lenOf, Builtin.firstCells]
  · simp [Builtin.append_, run_underlying ht, sizeOf, typeInfo, hi, Builtin.lenOf, Builtin.firstCells, hnc, storeCells]
/-- The append itself. -/
theorem run_append_k {w : World} {R : Nat → Prop} {N0 : Nat} {T e s by' : Nat} {zs : List Value} {v y : Value} {xs ys : List (List D)} {ty : TypeId} (hT : sliceInfo P T = some (e, s, by', zs)) (hx : RArr N0 w R v e s xs) (hN : N0 ≤ w.heap.size) (hRl : ∀ b, R b → b < w.heap.size)
    (hy : (∀ y ∈ ys, y.length = s) ∧ ∃ A cap, y = .slice A ys.length cap ∧ (A = none → ys = []) ∧ ∃ news, F2 (RD w R) news ys.flatten ∧ ∀ ad, A = some ad → ∀ j u, news[j]? = some u → w.cell? (ad.add j) = some u)
    (hm : xs.length + ys.length ≤ maxLen) (hbytes : (xs.length + ys.length) * by' ≤ 140737488355328) :
    ∃ v' w', (Builtin.append_ #[T, T] ty #[v, y]).run P w = .ok v' w' ∧ RArr N0 w' R v' e s (xs ++ ys) ∧ w.grownBy w' v.ownBlock ∧ (v'.ownBlock = v.ownBlock ∨ v'.ownBlock = some w.heap.size) := by
  obtain ⟨hu, i, z, hi, hz, hsz, hbb, hzs, hzl, hs0, hg⟩ := run_sliceInfo hT
  obtain ⟨h1, vs, hown, hf, hR⟩ := hx
  obtain ⟨h2, A, cap, rfl, hA, news, hnf, hnc⟩ := hy
  cases A with
  | none =>
    obtain rfl := hA rfl
    refine ⟨v, w, run_append_nilsrc N0 T ty e i s hu hi v xs.length vs hown cap, ⟨by simpa using h1, vs, by simpa using hown, by simpa using hf, hR⟩, World.grownBy.refl _ _, .inl rfl⟩
  | some ad =>
    have hlen : news.length = ys.length * s := by
      rw [hnf.len]
      have : ∀ (l : List (List D)), (∀ y ∈ l, y.length = s) → l.flatten.length = l.length * s := by
        intro l
        induction l with
        | nil => intro _; simp
        | cons x l ih => intro h; rw [List.flatten_cons, List.length_append, h x (by simp), ih fun y hy => h y (by simp [hy]), List.length_cons, Nat.succ_mul]; omega
      exact this ys h2
    have hone : ∀ u ∈ news, u.oneCell' = true := fun u hu => by
      obtain ⟨d, hd⟩ := hnf.mem_left hu
      exact RD.one hd
    obtain ⟨v', w', hrun, hown', hgr, _, hat⟩ := run_append_own_at (P := P) w N0 T ty e i z s by' hu hi hz hsz hbb hzl hs0 v xs.length vs hown ad ys.length cap news hlen (hnc ad rfl) hone hm hbytes hN
    have hRb : ∀ b, R b → w'.heap[b]? = w.heap[b]? := fun b hb => hgr.block b (hRl b hb) fun e => hR b e.symm hb
    refine ⟨v', w', hrun, ⟨fun es he => ?_, vs ++ news, ?_, ?_, fun g hg' => ?_⟩, hgr, hat⟩
    · rcases List.mem_append.1 he with h | h
      · exact h1 es h
      · exact h2 es h
    · rw [List.length_append]; exact hown'
    · rw [List.flatten_append]
      exact (hf.append hnf).mono fun _ _ h => RD.keep (fun _ h => h) hRb h
    · rcases hat with h | h
      · exact hR g (by rw [← h]; exact hg')
      · rw [h] at hg'
        cases hg'
        exact fun hr => Nat.lt_irrefl _ (hRl _ hr)
theorem blk_own {v : Value} {g : Nat} {N0 : Nat} {w : World} {R : Nat → Prop} {e k : Nat} {xs : List (List D)} (h : RArr N0 w R v e k xs) (hb : blk v = some g) : v.ownBlock = some g := by
  obtain ⟨_, vs, h2, _⟩ := h
  rcases h2.2 with ⟨rfl, _⟩ | ⟨g', cap, cur, rfl, _⟩
  · simp [blk] at hb
  · simpa [blk, Value.ownBlock] using hb
theorem run_append_op {a : Act} {w w' : World} {c : Call} {x y : Operand} {T : TypeId} {v' : Value} (hop : o.op = .call c) (hc : c.callee = .builtin .append) (ha : c.args.toList = [x, y]) (ht : c.argTypes.toList = [T, T])
    (h : (Builtin.append_ #[T, T] o.type #[a.eval x, a.eval y]).run P w = .ok v' w') : (execOp a.eval o).run P w = .ok (.value v') w' := by
  rw [exec_builtin hop hc, BigFrame.builtin_append, arr_of ha, arr_of ht]
  simp only [List.map_toArray, List.map_cons, List.map_nil, Sem.run_bind]
  rw [show ([T, T].toArray : Array TypeId) = #[T, T] from rfl, h]
  rfl
theorem sound_append_own {c : Call} {x y : Operand} {T e s by' p : Nat} {b' : B} {zs : List Value} {xs ys : List (List D)} (hop : o.op = .call c) (hc : c.callee = .builtin .append) (ha : c.args.toList = [x, y]) (ht : c.argTypes.toList = [T, T]) (hx : ev st.env x = .v (.c (.own p))) (hy : ev st.env y = .v (.c b'))
    (hT : sliceInfo P T = some (e, s, by', zs)) (hel : elemsOf st.objs b' = some (s, ys)) (hob : st.objs p = some (.arr e s xs)) (hm : xs.length + ys.length ≤ maxLen) (hbytes : (xs.length + ys.length) * by' ≤ 140737488355328) :
    OpW P w0 n st o (.v (.c (.own p))) ⟨(st.kill p).env, upd (st.kill p).objs p (some (.arr e s (xs ++ ys)))⟩ := fun a w R ι hs K Q hK => by
  have hvx := ev_ok (a := a) hs.env x
  have hvy := ev_ok (a := a) hs.env y
  rw [hx] at hvx; rw [hy] at hvy
  have hA : RArr w0.heap.size w R (ι p) e s xs := hs.objs _ _ hob
  obtain ⟨v', w', hrun, hA', hgr, hat⟩ := run_append_k (ty := o.type) hT hA hs.below.size hs.rlt (elems_ok hs.objs hvy hel) hm hbytes
  have hrun' := run_append_op (a := a) hop hc ha ht (by rw [hvx.2]; exact hrun)
  unfold Oper.wp
  rw [hrun', Oper.upon_value]
  have hown : ∀ g, (ι p).ownBlock = some g → w0.heap.size ≤ g := fun g hg => (RO.blk_lt (ownBlock_blk hg) (hs.objs _ _ hob)).1
  refine hK _ _ R (upd ι p v') (hs.grow hob (hs.below.grown hgr hs.below.size hown) hgr.size (fun b hb hne => hgr.block b hb fun e => hne (ownBlock_blk e.symm)) hA' (fun g hg => ?_)) ⟨⟨_, upd_same _ _ _⟩, (upd_same _ _ _).symm⟩
  have := blk_own hA' hg
  rcases hat with h | h
  · exact .inl (ownBlock_blk (by rw [← h]; exact this))
  · rw [h] at this; cases this; exact .inr (Nat.le_refl _)
theorem sound_append_nil {c : Call} {x y : Operand} {T e s by' d : Nat} {b' : B} {zs : List Value} {ys : List (List D)} (hop : o.op = .call c) (hc : c.callee = .builtin .append) (ha : c.args.toList = [x, y]) (ht : c.argTypes.toList = [T, T]) (hx : ev st.env x = .v (.c (.d (.pv (.slice none 0 0))))) (hy : ev st.env y = .v (.c b'))
    (hT : sliceInfo P T = some (e, s, by', zs)) (hel : elemsOf st.objs b' = some (s, ys)) (hn : st.objs d = none) (hbytes : ys.length * by' ≤ 140737488355328) :
    OpW P w0 n st o (.v (.c (.own d))) ⟨st.env, upd st.objs d (some (.arr e s ys))⟩ := fun a w R ι hs K Q hK => by
  have hvx := ev_ok (a := a) hs.env x
  have hvy := ev_ok (a := a) hs.env y
  rw [hx] at hvx; rw [hy] at hvy
  obtain ⟨e1, _⟩ := RA.pv hvx
  have hA : RArr w0.heap.size w R (.slice none 0 0) e s [] := ⟨by simp, [], World.ownsRow_nil w _ e s, .nil, fun g hg => by simp [Value.ownBlock] at hg⟩
  have hel' := elems_ok hs.objs hvy hel
  have hlen : ys.length ≤ maxLen := by
    generalize a.eval y = vy at hvy
    unfold elemsOf at hel
    split at hel
    · split at hel
      · rename_i hob
        cases hel
        obtain ⟨_, _, _, h⟩ := RArr.len (hs.objs _ _ hob)
        exact h
      · cases hel
    · cases hel
      have hv' : RD w R vy _ := hvy
      cases hv' with
      | nil => simp
      | rd c h0 h1 h2 => omega
    · cases hel
  obtain ⟨v', w', hrun, hA', hgr, hat⟩ := run_append_k (ty := o.type) hT hA hs.below.size hs.rlt hel' (by simpa using hlen) (by simpa using hbytes)
  have hrun' := run_append_op (a := a) hop hc ha ht (by rw [e1]; exact hrun)
  unfold Oper.wp
  rw [hrun', Oper.upon_value]
  have hb : Below w.heap.size w w' := Below.of_grown hgr (Nat.le_refl _) (by simp [Value.ownBlock])
  refine hK _ _ R (upd ι d v') (hs.new hn hb ?_ (fun g hg => ?_)) ⟨⟨_, upd_same _ _ _⟩, (upd_same _ _ _).symm⟩
  · rw [List.nil_append] at hA'; exact hA'
  · have := blk_own hA' hg
    rcases hat with h | h
    · rw [h] at this; simp [Value.ownBlock] at this
    · rw [h] at this; cases this; exact Nat.le_refl _
end
end Go.Proofs.Ythgdccokpgaicaa
