/- The operations that make or write memory: why the words are true (3): append, calls; all of them. No program is named here. -/
import Derived.Test.YtlblmofimjhbbaaDoorY10
namespace Go.Proofs.YtlblmofimjhbbaaDoor
open Go.RowKit
section
variable {P : Program} {F : Fx} {st : St} {o : Oper}
/-- What is appended, cell by cell. -/
def SrcOk (w : World) (v : Value) (k : Nat) (ys : List (List D)) (U : List Nat) : Prop :=
  (∀ y ∈ ys, y.length = k) ∧ ∃ A cap, v = .slice A ys.length cap ∧ (A = none → ys = []) ∧ ∃ news, ET w news ys.flatten U ∧ ∀ ad, A = some ad → ∀ j u, news[j]? = some u → w.cell? (ad.add j) = some u
theorem src_own {w : World} {ι : Nat → Value} {dom : Nat → Prop} {v : Value} {κ : Ky} {ys : List (List D)} {S : List Nat} (h : RArr w ι dom v κ ys [] S) : ∃ U, SrcOk w v κ.k ys U ∧ U.Nodup ∧ ∀ g ∈ U, g ∈ S := by
  obtain ⟨h1, vs, S1, hown, hf, hS, hn⟩ := h
  refine ⟨S1, ⟨h1, ?_⟩, ?_, fun g hg => by rw [hS]; simp [hg]⟩
  · rcases hown.2 with ⟨e1, h0⟩ | ⟨g, cap, cur, e1, hb, hh, hnc, hcm, hcs, ht⟩
    · have : ys = [] := List.eq_nil_of_length_eq_zero h0
      subst this
      exact ⟨none, 0, by rw [e1]; rfl, (fun _ => rfl), _, EH.to_ET hf, (fun ad h => by cases h)⟩
    · exact ⟨_, cap, e1, (fun h => by cases h), vs, EH.to_ET hf, (fun ad had j u hu => by cases had; exact hown.cells (g := g) (by rw [e1]; rfl) j u hu)⟩
  · rw [hS] at hn
    exact (List.nodup_append.1 hn).2.1
theorem src_pure {w : World} {v : Value} {k : Nat} {ys : List (List D)} {U : List Nat} (h : SrcOk w v k ys U) (hp : pureL ys) : SrcOk w v k ys [] := by
  obtain ⟨h1, A, cap, e, hA, news, hn, hc⟩ := h
  refine ⟨h1, A, cap, e, hA, news, ?_, hc⟩
  have : ∀ {vs : List Value} {ds : List D} {S : List Nat}, ET w vs ds S → (∀ d ∈ ds, pureD d = true) → ET w vs ds [] := fun h => by
    induction h with
    | nil => intro _; exact .nil
    | pv q1 q2 _ ih => intro hd; exact .pv q1 q2 (ih fun d hd' => hd d (by simp [hd']))
    | rd => intro hd; have := hd _ (List.mem_cons_self ..); cases this
  refine this hn fun d hd => ?_
  obtain ⟨es, he, hde⟩ := List.mem_flatten.1 hd
  exact hp es he d hde
theorem src_rd {w : World} {R : Nat → Prop} {v : Value} {κ : Ky} {ys : List (List D)} (h : RD w R v (.rd κ ys)) (hp : pureL ys) : SrcOk w v κ.k ys [] := by
  generalize hx : D.rd κ ys = x at h
  cases h with
  | nil => cases hx; exact ⟨by simp, _, _, rfl, (fun _ => rfl), [], .nil, (fun _ _ j u hu => by simp at hu)⟩
  | pv _ _ => cases hx
  | rp _ _ _ _ => cases hx
  | fn _ _ => cases hx
  | mp _ _ _ => cases hx
  | rd c h0 h1 h2 hR hk hc hr =>
    cases hx
    rename_i b off cap
    have hk' : ∀ y ∈ ys, y.length = κ.k := fun y hy => by
      obtain ⟨i, hi⟩ := List.getElem?_of_mem hy
      exact hk i y hi
    have hfl := flatten_len hk'
    have hcell : ∀ j, j < ys.flatten.length → ∃ i t es, ys[i]? = some es ∧ t < κ.k ∧ j = i * κ.k + t := fun j hj => by
      rw [hfl] at hj
      have hk0 : 0 < κ.k := by
        rcases Nat.eq_zero_or_pos κ.k with h | h
        · rw [h] at hj; simp at hj
        · exact h
      have hi : j / κ.k < ys.length := (Nat.div_lt_iff_lt_mul hk0).2 hj
      exact ⟨j / κ.k, j % κ.k, ys[j / κ.k], List.getElem?_eq_getElem hi, Nat.mod_lt _ hk0, by rw [Nat.mul_comm]; exact (Nat.div_add_mod j κ.k).symm⟩
    have hF : F2 (RD w R) ((List.range ys.flatten.length).map fun j => c (j / κ.k) (j % κ.k)) ys.flatten := F2.of_get (by simp) fun j u d hu hd => by
      have hj : j < ys.flatten.length := by
        rcases Nat.lt_or_ge j ys.flatten.length with h | h
        · exact h
        · rw [List.getElem?_eq_none h] at hd; cases hd
      rw [List.getElem?_map, List.getElem?_range hj] at hu
      simp only [Option.map_some, Option.some.injEq] at hu
      subst hu
      obtain ⟨i, t, es, hi, ht, rfl⟩ := hcell j hj
      rw [flatten_get hk' hi ht] at hd
      rw [show (i * κ.k + t) / κ.k = i by rw [Nat.mul_comm, Nat.mul_add_div (by omega), Nat.div_eq_of_lt ht]; omega, show (i * κ.k + t) % κ.k = t by rw [Nat.mul_comm, Nat.mul_add_mod, Nat.mod_eq_of_lt ht]]
      exact hr i es t d hi hd
    refine ⟨hk', _, cap, rfl, (fun h => by cases h), _, ET.of_pure hF fun d hd => ?_, fun ad had j u hu => ?_⟩
    · obtain ⟨es, he, hde⟩ := List.mem_flatten.1 hd
      exact hp es he d hde
    · cases had
      have hj : j < ys.flatten.length := by
        rcases Nat.lt_or_ge j ys.flatten.length with h | h
        · exact h
        · rw [List.getElem?_eq_none (by simpa using h)] at hu; cases hu
      rw [List.getElem?_map, List.getElem?_range hj] at hu
      simp only [Option.map_some, Option.some.injEq] at hu
      subst hu
      obtain ⟨i, t, es, hi, ht, rfl⟩ := hcell j hj
      rw [show (i * κ.k + t) / κ.k = i by rw [Nat.mul_comm, Nat.mul_add_div (by omega), Nat.div_eq_of_lt ht]; omega, show (i * κ.k + t) % κ.k = t by rw [Nat.mul_comm, Nat.mul_add_mod, Nat.mod_eq_of_lt ht], add_at, ← Nat.add_assoc]
      exact hc i es t hi ht
/-- The source of an append: what of it ends, what its cells own. -/
theorem src_ok {w : World} {R : Nat → Prop} {ι : Nat → Value} {φ : Nat → List Nat} (ho : ObjsOk w R ι φ st.objs) {v : Value} {b : B} {κ : Ky} {ys : List (List D)} {ps : List Nat} (hv : RB w R ι st.dom v b) (h : elemsOf st.objs κ b = some ys) (hps : (pureL ys ∧ ps = []) ∨ (∃ q, b = .own q ∧ ps = [q])) :
    ∃ U, SrcOk w v κ.k ys U ∧ U.Nodup ∧ (∀ g ∈ U, ∃ q ∈ ps, ∃ x, st.objs q = some x ∧ g ∈ φ q) ∧ ys.length ≤ maxLen := by
  unfold elemsOf at h
  split at h
  · rename_i o
    split at h
    · rename_i κ' xs hob
      split at h
      · rename_i hkk
        cases h
        have hR := ho.1 _ _ hob
        obtain ⟨U, h1, h2, h3⟩ := src_own hR
        obtain ⟨_, _, _, hl⟩ := RArr.len hR
        rw [hkk] at h1
        rw [hv.2]
        rcases hps with ⟨hp, rfl⟩ | ⟨q, hq, rfl⟩
        · exact ⟨[], src_pure h1 hp, .nil, fun g hg => (by cases hg), hl⟩
        · cases hq
          exact ⟨U, h1, h2, fun g hg => ⟨o, by simp, _, hob, h3 g hg⟩, hl⟩
      · cases h
    · cases h
  · rename_i κ' xs
    split at h
    · rename_i hkk
      cases h
      rcases hps with ⟨hp, rfl⟩ | ⟨q, hq, _⟩
      · have := src_rd hv hp
        rw [hkk] at this
        have hl : ys.length ≤ maxLen := by
          have hv' : RD w R v _ := hv
          cases hv' with
          | nil => simp
          | rd c h0 h1 h2 => omega
        exact ⟨[], this, .nil, fun g hg => (by cases hg), hl⟩
      · cases hq
    · cases h
  · cases h
    have hv' : RD w R v (.pv (.slice none 0 0)) := hv
    cases hv' with
    | pv _ _ => exact ⟨[], ⟨by simp, none, 0, rfl, fun _ => rfl, [], .nil, fun _ h => by cases h⟩, .nil, fun g hg => (by cases hg), by simp⟩
  · cases h
theorem run_append_nilsrc {w : World} (base : Nat) (t ty e : TypeId) (i : TypeInfo) (size : Nat) (ht : P.underlying t = some (.slice e)) (hi : P.info? e = some i)
    (v : Value) (n : Nat) (xs : List Value) (hown : w.ownsRow base e size v n xs) (c : Nat) : (Builtin.append_ #[t, t] ty #[v, .slice none 0 c]).run P w = .ok v w := by
  rcases hown.2 with ⟨rfl, rfl⟩ | ⟨g, cap, cur, rfl, _, _, hnc, _⟩
  · simp [Builtin.append_, run_underlying ht, sizeOf, typeInfo, hi, Builtin.lenOf, Builtin.firstCells]
  · simp [Builtin.append_, run_underlying ht, sizeOf, typeInfo, hi, Builtin.lenOf, Builtin.firstCells, hnc, storeCells]
/-- The append itself. -/
theorem run_append_k {w : World} {T : TypeId} {κ : Ky} {by' : Nat} {zs : List Value} {v y : Value} {xs ys : List (List D)} {vs : List Value} {S U : List Nat} {ty : TypeId} (hT : sliceInfo P T = some (κ, by', zs)) (hown : w.ownsRow 0 κ.e κ.k v xs.length vs) (hf : ET w vs xs.flatten S) (hy : SrcOk w y κ.k ys U)
    (hd : ∀ g, v.ownBlock = some g → g ∉ S ∧ g ∉ U) (hm : xs.length + ys.length ≤ maxLen) (hbytes : (xs.length + ys.length) * by' ≤ 140737488355328) :
    ∃ v' w' us, (Builtin.append_ #[T, T] ty #[v, y]).run P w = .ok v' w' ∧ w'.ownsRow 0 κ.e κ.k v' (xs.length + ys.length) us ∧ ET w' us (xs ++ ys).flatten (S ++ U) ∧ w.grownBy w' v.ownBlock ∧ (v'.ownBlock = v.ownBlock ∨ v'.ownBlock = some w.heap.size) := by
  obtain ⟨hu, i, z, hi, hz, hsz, hbb, hzs, hzl, hs0, hg⟩ := run_sliceInfo hT
  obtain ⟨h2, A, cap, rfl, hA, news, hnf, hnc⟩ := hy
  have hSl := hf.lt
  have hUl := hnf.lt
  cases A with
  | none =>
    obtain rfl := hA rfl
    cases hnf
    refine ⟨v, w, vs, run_append_nilsrc 0 T ty κ.e i κ.k hu hi v xs.length vs hown cap, by simpa using hown, by simpa using hf, World.grownBy.refl _ _, .inl rfl⟩
  | some ad =>
    have hlen : news.length = ys.length * κ.k := by rw [hnf.len, flatten_len h2]
    obtain ⟨v', w', hrun, hown', hgr, _, hat⟩ := run_append_own_at (P := P) w 0 T ty κ.e i z κ.k by' hu hi hz hsz hbb hzl hs0 v xs.length vs hown ad ys.length cap news hlen (hnc ad rfl) hnf.one hm hbytes (Nat.zero_le _)
    have hkeep : ∀ b, b < w.heap.size → (∀ g, v.ownBlock = some g → b ≠ g) → w'.heap[b]? = w.heap[b]? := fun b hb hne => hgr.block b hb fun e => hne b e.symm rfl
    refine ⟨v', w', vs ++ news, hrun, hown', ?_, hgr, hat⟩
    rw [List.flatten_append]
    exact (hf.keep fun b hb => hkeep b (hSl b hb) fun g hg e => (hd g hg).1 (e ▸ hb)).append (hnf.keep fun b hb => hkeep b (hUl b hb) fun g hg e => (hd g hg).2 (e ▸ hb))
theorem run_append_op {a : Act} {w w' : World} {c : Call} {x y : Operand} {T : TypeId} {v' : Value} (hop : o.op = .call c) (hc : c.callee = .builtin .append) (ha : c.args.toList = [x, y]) (ht : c.argTypes.toList = [T, T])
    (h : (Builtin.append_ #[T, T] o.type #[a.eval x, a.eval y]).run P w = .ok v' w') : (execOp a.eval o).run P w = .ok (.value v') w' := by
  rw [exec_builtin hop hc, BigFrame.builtin_append, arr_of ha, arr_of ht]
  simp only [List.map_toArray, List.map_cons, List.map_nil, Sem.run_bind]
  rw [show ([T, T].toArray : Array TypeId) = #[T, T] from rfl, h]
  rfl
theorem kill_comm_get {st : St} {ps : List Nat} {p q : Nat} {z : Ob} (h : ((st.kill ps).kill [p]).objs q = some z) : q ≠ p ∧ ∃ y, (st.kill ps).objs q = some y := by
  obtain ⟨hc, y, hy, _⟩ := St.kill_get h
  exact ⟨fun e => by simp [e] at hc, y, hy⟩
theorem sound_append_own {c : Call} {x y : Operand} {T p by' : Nat} {κ : Ky} {b' : B} {zs : List Value} {xs ys : List (List D)} {ps : List Nat} (hop : o.op = .call c) (hc : c.callee = .builtin .append) (ha : c.args.toList = [x, y]) (ht : c.argTypes.toList = [T, T]) (hx : ev st.env x = .v (.c (.own p))) (hy : ev st.env y = .v (.c b'))
    (hT : sliceInfo P T = some (κ, by', zs)) (hel : elemsOf st.objs κ b' = some ys) (hps : (pureL ys ∧ ps = []) ∨ (∃ q, b' = .own q ∧ ps = [q])) (hob : (st.kill ps).objs p = some (.arr κ xs [])) (hpin : p < pinN) (hm : xs.length + ys.length ≤ maxLen) (hbytes : (xs.length + ys.length) * by' ≤ 140737488355328) :
    OpW P F st o (.v (.c (.own p))) ⟨((st.kill ps).kill [p]).env, upd ((st.kill ps).kill [p]).objs p (some (.arr κ (xs ++ ys) []))⟩ := fun a w R ι φ hs K Q hK => by
  have hvx := ev_ok (a := a) hs.env x
  have hvy := ev_ok (a := a) hs.env y
  rw [hx] at hvx; rw [hy] at hvy
  obtain ⟨U, hsrc, hUn, hUm, _⟩ := src_ok hs.ok hvy hel hps
  have hs1 := hs.kill ps
  have hs2 := hs1.kill [p]
  have hUa := kill_apart hs hUm
  obtain ⟨hk, vs, S1, hown, hf, hφ, hn⟩ := hs1.objs p _ hob
  have hf' := EH.to_ET hf
  have hmi := hs1.mine p _ hob
  have hgb : ∀ g, (ι p).ownBlock = some g → g ∈ φ p := fun g hg => by rw [hφ]; simp [hg]
  have hS1 : ∀ g ∈ S1, g ∈ φ p := fun g hg => by rw [hφ]; simp [hg]
  have hSn : S1.Nodup ∧ ∀ g, (ι p).ownBlock = some g → g ∉ S1 := by
    rw [hφ] at hn
    have := List.nodup_append.1 hn
    exact ⟨this.2.1, fun g hg hgs => this.2.2 g (by simp [hg]) g hgs rfl⟩
  have hUp : ∀ g ∈ U, g ∉ φ p := fun g hg => (hUa g hg).2.2 p _ hob
  obtain ⟨v', w', us, hrun, hown', hET, hgr, hat⟩ := run_append_k (ty := o.type) hT hown hf' hsrc (fun g hg => ⟨hSn.2 g hg, fun hgU => hUp g hgU (hgb g hg)⟩) hm hbytes
  have hrun' := run_append_op (a := a) hop hc ha ht (by rw [hvx.2]; exact hrun)
  unfold Oper.wp
  rw [hrun', Oper.upon_value]
  have hkeep : ∀ b, b < w.heap.size → b ∉ φ p → w'.heap[b]? = w.heap[b]? := fun b hb hne => hgr.block b hb fun e => hne (hgb b e.symm)
  have hUlt : ∀ g ∈ U, g < w.heap.size := by
    obtain ⟨_, _, _, _, _, news, hnf, _⟩ := hsrc
    exact hnf.lt
  have hvb : ∀ g, v'.ownBlock = some g → g ∈ φ p ∨ g = w.heap.size := fun g hg => by
    rcases hat with h | h
    · exact .inl (hgb g (by rw [← h]; exact hg))
    · rw [h] at hg; cases hg; exact .inr rfl
  have hvn : ∀ g, v'.ownBlock = some g → g ∉ S1 ++ U := fun g hg hgs => by
    rcases hat with h | h
    · have hg' : (ι p).ownBlock = some g := by rw [← h]; exact hg
      rcases List.mem_append.1 hgs with h' | h'
      · exact hSn.2 g hg' h'
      · exact hUp g h' (hgb g hg')
    · rw [h] at hg; cases hg
      rcases List.mem_append.1 hgs with h' | h'
      · have := (hmi _ (hS1 _ h')).2.2; omega
      · have := hUlt _ h'; omega
  have hvlt : ∀ g, v'.ownBlock = some g → g < w'.heap.size := fun g hg => (hown'.lt g hg).2
  have hnew : ∀ g ∈ v'.ownBlock.toList ++ (S1 ++ U), g ∈ φ p ∨ g ∈ U ∨ g = w.heap.size := fun g hg => by
    rcases List.mem_append.1 hg with h | h
    · rcases hvb g (by simpa using h) with h | h
      · exact .inl h
      · exact .inr (.inr h)
    · rcases List.mem_append.1 h with h | h
      · exact .inl (hS1 g h)
      · exact .inr (.inl h)
  have hbel : BelowM F.M F.w w' := ⟨hgr.os.trans hs.below.os, hgr.tape.trans hs.below.tape, hgr.output.trans hs.below.output, Nat.le_trans hs.below.size hgr.size, fun k hk' hM => by
    have hkw := Nat.lt_of_lt_of_le hk' hs.below.size
    rw [hkeep k hkw fun h => by rcases (hmi k h).1 with h' | h'; exact hM h'; omega]
    exact hs.below.block k hk' hM⟩
  refine hK _ _ R (upd ι p v') (upd φ p (v'.ownBlock.toList ++ (S1 ++ U))) (hs2.step (fun q => q = p) hbel (fun b hb => ⟨hb, hkeep b (hs.rlt b hb) fun h => (hmi b h).2.1 hb⟩) (fun b hb => Nat.lt_of_lt_of_le (hs.rlt b hb) hgr.size) hs.rnew (fun q hq => ?_) (fun q z hz hq => ?_) (fun q z hz hq => ?_) (fun q r z z' g hq hch hr h1 h2 => ?_) (fun q hq => upd_ne _ _ (by omega))) ⟨⟨_, upd_same _ _ _⟩, (upd_same _ _ _).symm⟩
  · obtain ⟨z, hz⟩ := hq
    have hne := (kill_comm_get hz).1
    exact ⟨⟨z, (upd_ne _ _ hne).trans hz⟩, upd_ne _ _ hne⟩
  · rw [upd_ne _ _ hq] at hz
    refine ⟨hz, upd_ne _ _ hq, fun g hg => ?_⟩
    have hm' := hs2.mine q z hz g hg
    obtain ⟨_, y', hy'⟩ := kill_comm_get hz
    exact ⟨hkeep g hm'.2.2 fun h => hq (hs1.apart q p y' _ g hy' hob hg h), hm'.2.1, Nat.lt_of_lt_of_le hm'.2.2 hgr.size⟩
  · subst hq
    rw [upd_same] at hz
    cases hz
    rw [upd_same, upd_same]
    refine ⟨⟨fun es he => ?_, us, S1 ++ U, by rw [List.length_append]; exact hown', EH.of_ET hET, rfl, ?_⟩, fun g hg => ?_⟩
    · rcases List.mem_append.1 he with h | h
      · exact hk es h
      · exact hsrc.1 es h
    · refine List.nodup_append.2 ⟨by cases v'.ownBlock <;> simp, List.nodup_append.2 ⟨hSn.1, hUn, ?_⟩, ?_⟩
      · rintro g h1 g' h2 rfl
        exact hUp g h2 (hS1 g h1)
      · rintro g h1 g' h2 rfl
        exact hvn g (by simpa using h1) h2
    · rcases hnew g hg with h | h | h
      · have := hmi g h
        exact ⟨this.1, this.2.1, Nat.lt_of_lt_of_le this.2.2 hgr.size⟩
      · exact ⟨(hUa g h).1, (hUa g h).2.1, Nat.lt_of_lt_of_le (hUlt g h) hgr.size⟩
      · subst h
        refine ⟨.inr hs.below.size, fun hr => Nat.lt_irrefl _ (hs.rlt _ hr), ?_⟩
        rcases List.mem_append.1 hg with h' | h'
        · exact hvlt _ (by simpa using h')
        · rcases List.mem_append.1 h' with h' | h'
          · have := (hmi _ (hS1 _ h')).2.2; omega
          · have := hUlt _ h'; omega
  · subst hch
    rw [upd_same] at h1
    by_cases hrq : r = q
    · exact hrq.symm
    · rw [upd_ne _ _ hrq] at hr h2
      obtain ⟨_, y', hy'⟩ := kill_comm_get hr
      rcases hnew g h1 with h | h | h
      · exact hs1.apart q r _ y' g hob hy' h h2
      · exact absurd h2 ((hUa g h).2.2 r y' hy')
      · have := (hs1.mine r y' hy' g h2).2.2
        omega
theorem sound_append_nil {c : Call} {x y : Operand} {T d by' : Nat} {κ : Ky} {b' : B} {zs : List Value} {ys : List (List D)} {ps : List Nat} (hop : o.op = .call c) (hc : c.callee = .builtin .append) (ha : c.args.toList = [x, y]) (ht : c.argTypes.toList = [T, T]) (hx : ev st.env x = .v (.c (.d (.pv (.slice none 0 0))))) (hy : ev st.env y = .v (.c b'))
    (hT : sliceInfo P T = some (κ, by', zs)) (hel : elemsOf st.objs κ b' = some ys) (hps : (pureL ys ∧ ps = []) ∨ (∃ q, b' = .own q ∧ ps = [q])) (hn : freeO (st.kill ps).objs d) (hbytes : ys.length * by' ≤ 140737488355328) :
    OpW P F st o (.v (.c (.own d))) ⟨(st.kill ps).env, upd (st.kill ps).objs d (some (.arr κ ys []))⟩ := fun a w R ι φ hs K Q hK => by
  have hvx := ev_ok (a := a) hs.env x
  have hvy := ev_ok (a := a) hs.env y
  rw [hx] at hvx; rw [hy] at hvy
  obtain ⟨e1, _⟩ := RA.pv hvx
  obtain ⟨U, hsrc, hUn, hUm, hyl⟩ := src_ok hs.ok hvy hel hps
  have hUa := kill_apart hs hUm
  obtain ⟨v', w', us, hrun, hown', hET, hgr, hat⟩ := run_append_k (P := P) (ty := o.type) (v := .slice none 0 0) (xs := []) (vs := []) (S := []) hT (World.ownsRow_nil w _ _ _) .nil hsrc (fun g hg => by simp [Value.ownBlock] at hg) (by simpa using hyl) (by simpa using hbytes)
  have hrun' := run_append_op (a := a) hop hc ha ht (by rw [e1]; exact hrun)
  unfold Oper.wp
  rw [hrun', Oper.upon_value]
  have hb : Below w.heap.size w w' := Below.of_grown hgr (Nat.le_refl _) (by simp [Value.ownBlock])
  have hvb : ∀ g, v'.ownBlock = some g → g = w.heap.size := fun g hg => by
    rcases hat with h | h
    · rw [h] at hg; simp [Value.ownBlock] at hg
    · rw [h] at hg; cases hg; rfl
  have hUlt : ∀ g ∈ U, g < w.heap.size := by
    obtain ⟨_, _, _, _, _, news, hnf, _⟩ := hsrc
    exact hnf.lt
  have hs1 := hs.kill ps
  obtain ⟨hn1, hn2⟩ := hn.none
  simp only [List.length_nil, Nat.zero_add, List.nil_append] at hown' hET
  have hne : ∀ q, (st.kill ps).dom q → q ≠ d := fun q ⟨y, hy⟩ e => by subst e; rw [hn1] at hy; cases hy
  have hvlt : ∀ g, v'.ownBlock = some g → g < w'.heap.size := fun g hg => (hown'.lt g hg).2
  refine hK _ _ R (upd ι d v') (upd φ d (v'.ownBlock.toList ++ U)) (hs1.step (fun q => q = d) (hs.below.then hb) (fun b hr => ⟨hr, hb.block b (hs.rlt b hr)⟩) (fun b hr => Nat.lt_of_lt_of_le (hs.rlt b hr) hb.size) hs.rnew (fun q hq => ?_) (fun q z hz hq => ?_) (fun q z hz hq => ?_) (fun q r z z' g hq hch hr h1 h2 => ?_) (fun q hq => upd_ne _ _ (by omega))) ⟨⟨_, upd_same _ _ _⟩, (upd_same _ _ _).symm⟩
  · obtain ⟨z, hz⟩ := hq
    exact ⟨⟨z, (upd_ne _ _ (hne q ⟨z, hz⟩)).trans hz⟩, upd_ne _ _ (hne q ⟨z, hz⟩)⟩
  · rw [upd_ne _ _ hq] at hz
    refine ⟨hz, upd_ne _ _ hq, fun g hg => ?_⟩
    have hm' := hs1.mine q z hz g hg
    exact ⟨hb.block g hm'.2.2, hm'.2.1, Nat.lt_of_lt_of_le hm'.2.2 hb.size⟩
  · subst hq
    rw [upd_same] at hz
    cases hz
    rw [upd_same, upd_same]
    refine ⟨⟨hsrc.1, us, U, hown', EH.of_ET hET, rfl, ?_⟩, fun g hg => ?_⟩
    · refine List.nodup_append.2 ⟨by cases v'.ownBlock <;> simp, hUn, ?_⟩
      rintro g h1 g' h2 rfl
      have := hvb g (by simpa using h1)
      have := hUlt g h2
      omega
    · rcases List.mem_append.1 hg with h | h
      · have h' : v'.ownBlock = some g := by simpa using h
        have he := hvb g h'
        refine ⟨.inr (by rw [he]; exact hs.below.size), fun hr => ?_, hvlt g h'⟩
        have := hs.rlt g hr
        omega
      · exact ⟨(hUa g h).1, (hUa g h).2.1, Nat.lt_of_lt_of_le (hUlt g h) hb.size⟩
  · subst hch
    rw [upd_same] at h1
    by_cases hrq : r = q
    · exact hrq.symm
    · rw [upd_ne _ _ hrq] at hr h2
      exfalso
      rcases List.mem_append.1 h1 with h | h
      · have := hvb g (by simpa using h)
        have := (hs1.mine r z' hr g h2).2.2
        omega
      · exact (hUa g h).2.2 r z' hr h2
/-- THE CALL. -/
theorem sound_mcall {c : Call} {f : Operand} {cc : Nat} {K : AV → St → Prop} (hop : o.op = .call c) (hc : c.callee = .value f) (h : MCall P st cc f c.args.toList K) : ∃ x st', OpW P F st o x st' ∧ K x st' := by
  obtain ⟨g, caps, bor, ρ, args, ins, r, outs, hf, ha, hi, hs, hnd, hp, hk⟩ := h
  refine ⟨_, _, fun a w R ι φ hsat K Q hK => ?_, hk⟩
  simp only [Bool.and_eq_true] at hnd
  have hn1 := nodupB_ok hnd.1.1
  have hn2 := nodupB_ok hnd.1.2
  have h1 := ev_ok (a := a) hsat.env f
  rw [hf] at h1
  have h1 : RD w R (a.eval f) (.fn g caps) := h1
  generalize hv : a.eval f = v at h1
  cases h1 with
  | fn hlen hr =>
    rename_i us
    obtain ⟨pre1, pre2, pre3, pre4⟩ := call_pre hsat.ok hsat.rlt hn1 hn2 hi
    have hA := call_args (a := a) (domc := domO (frO ins)) hop hc hn2 pre3 pre2 (fun y _ => ev_ok hsat.env y) ha hlen hr
    obtain ⟨henter, hcall⟩ := hs
    unfold Oper.wp
    rw [run_call_op hop hc hv henter, Oper.upon_enter]
    refine (hcall w _ _ _ _ pre1 hA pre4).mono fun e w' => ?_
    rintro ⟨u, rfl, haft⟩
    obtain ⟨R', ι', φ', q1, q2⟩ := call_post hsat hn1 hn2 hi hnd.2 hp haft
    exact hK _ _ _ _ _ q1 q2
theorem VCW_sound {K : AV → St → Prop} (h : VCW P st o K) : ∃ x st', OpW P F st o x st' ∧ K x st' := by
  have rd : VCR P st o.op (fun x => K x st) → ∃ x st', OpW P F st o x st' ∧ K x st' := fun h => by
    obtain ⟨x, h1, h2⟩ := VCR_sound h
    exact ⟨x, st, OpW.of_read h1, h2⟩
  unfold VCW at h
  split at h
  · rename_i T hop
    obtain ⟨d, zs, hd, hn, hz, hk⟩ := h
    exact ⟨_, _, sound_alloc hop hn hz, hk⟩
  · rename_i T x hop
    obtain ⟨d, v1, cs, hd, hn, hx, hc, hk⟩ := h
    exact ⟨_, _, sound_box hop hn hx hc, hk⟩
  · rename_i T x y hop
    obtain ⟨b, v1, cs, ag, hx, hy, hc, hl, hT, h | h⟩ := h
    · obtain ⟨p, off, T', old, rfl, hob, hle, hk⟩ := h
      exact ⟨_, _, sound_store_ptr hop hx hy hc hl hT hob hle, hk⟩
    · obtain ⟨p, i, off, κ, xs, hs, es, ds, ps, rfl, hab, hnd, hob, hes, hle, hk⟩ := h
      exact ⟨_, _, sound_store_ep hop hx hy hc hl hT hab hnd hob hes hle, hk⟩
  · rename_i T parts hop
    obtain ⟨zs, pl, ps, bs, hz, hpl, hps, hf, hk⟩ := h
    exact ⟨_, _, sound_build hop hz hpl hps hf, hk⟩
  · rename_i T len parts hop
    obtain ⟨d, κ, by', zs, pl, bs, ds, ps, hd, hT, h1, h2, hps, hf, hab, hnd, hn, hk⟩ := h
    exact ⟨_, _, sound_buildSlice hop hT h1 h2 hps hf hab hnd hn, hk⟩
  · rename_i T l c hop
    obtain ⟨d, m, κ, by', zs, zd, hd, hn, hl, hc, h0, hm, hT, hby, hzd, hk⟩ := h
    exact ⟨_, _, sound_makeSlice hop hn hl hc h0 hm hT hby hzd, hk⟩
  · rename_i c hop
    split at h
    · rename_i hc
      obtain ⟨d, x, y, T, b, b', κ, by', zs, ys, hd, ha, ht, hx, hy, hT, hel, ps, hps, h | h⟩ := h
      · obtain ⟨p, xs, rfl, hob, hpin, hm, hb, hk⟩ := h
        exact ⟨_, _, sound_append_own hop hc ha ht hx hy hT hel hps hob hpin hm hb, hk⟩
      · obtain ⟨rfl, hn, hb, hk⟩ := h
        exact ⟨_, _, sound_append_nil hop hc ha ht hx hy hT hel hps hn hb, hk⟩
    · rename_i f hc
      rcases h with h | h
      · exact sound_mcall hop hc h
      · obtain ⟨g, caps, bor, args, r, outs, r', hf, ha, hs, hp, hr, hk⟩ := h
        exact ⟨_, st, OpW.of_read (sound_fcall hop hc hf ha hs hp hr), hk⟩
    · exact rd h
  · exact rd h
end
end Go.Proofs.YtlblmofimjhbbaaDoor
