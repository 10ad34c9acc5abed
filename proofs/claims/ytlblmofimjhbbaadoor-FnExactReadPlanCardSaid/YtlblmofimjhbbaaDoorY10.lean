/- The operations that make or write memory: why the words are true (2). No program is named here. -/
import Derived.Test.YtlblmofimjhbbaaDoorY9
import Derived.Deep.Onto
namespace Go.Proofs.YtlblmofimjhbbaaDoor
open Go.RowKit
section
variable {P : Program} {F : Fx} {st : St} {o : Oper}
theorem fold_ok {r : Value → B → Prop} (off : Nat) : ∀ {vs : List Value} {cs : List B} (k : Nat) {a : Array Value} {bs : List B}, F2 r a.toList bs → F2 r vs cs →
    F2 r ((vs.zipIdx k).foldl (fun (a : Array Value) (x : Value × Nat) => a.setIfInBounds (off + x.2) x.1) a).toList (setAll bs (off + k) cs)
  | _, _, k, a, bs, h, .nil => by simpa [setAll] using h
  | _, _, k, a, bs, h, .cons (a := v) (as := vs) (b := c) (bs := cs) h1 h2 => by
    simp only [List.zipIdx_cons, List.foldl_cons, setAll]
    have := fold_ok off (k + 1) (a := a.setIfInBounds (off + k) v) (bs := bs.set (off + k) c) (by rw [Array.toList_setIfInBounds]; exact h.set _ h1) h2
    rwa [← Nat.add_assoc] at this
theorem fill_ok {r : Value → B → Prop} {place : Nat → Option (Nat × Nat)} : ∀ {parts : List (Nat × Value)} {ps : List (Nat × List B)} {a : Array Value} {bs bs' : List B}, F2 r a.toList bs → F2 (fun p q => p.1 = q.1 ∧ F2 r p.2.cells.toList q.2) parts ps → fillB place bs ps = some bs' →
    ∃ a', Instr.fill place a parts = some a' ∧ F2 r a'.toList bs'
  | _, _, a, bs, bs', h, .nil, e => by simp only [fillB, Option.some.injEq] at e; subst e; exact ⟨a, rfl, h⟩
  | _, _, a, bs, bs', h, .cons (a := p) (as := parts) (b := q) (bs := ps) ⟨h1, h2⟩ h3, e => by
    obtain ⟨i, v⟩ := p
    obtain ⟨j, c⟩ := q
    simp only at h1 h2
    subst h1
    simp only [fillB] at e
    cases hp : place i with
    | none => simp [hp] at e
    | some x =>
      obtain ⟨off, size⟩ := x
      simp only [hp] at e
      split at e
      · rename_i hc
        have hl := h2.len
        have hl' : v.cells.size = c.length := by simpa using hl
        have hb := h.len
        have hb' : a.size = bs.length := by simpa using hb
        have hf := fold_ok off 0 h h2
        rw [Nat.add_zero] at hf
        obtain ⟨a', h4, h5⟩ := fill_ok (place := place) hf h3 e
        refine ⟨a', ?_, h5⟩
        simp only [Instr.fill, hp]
        rw [if_neg (by simp; omega), ← h4]
        congr 1
        rw [← Array.foldl_toList, Array.toList_zipIdx]
      · cases e
theorem partsB_ok {w : World} {R : Nat → Prop} {ι : Nat → Value} {φ : Nat → List Nat} {a : Act} (ho : ∀ p y, st.objs p = some y → RO w R ι st.dom (ι p) (φ p) y) (he : ∀ d, RA w R ι st.dom (a.tmps.getD d undef) (st.env d)) : ∀ {parts : List (Nat × Operand)} {ps : List (Nat × List B)}, partsB st parts = some ps →
    F2 (fun (p : Nat × Value) (q : Nat × List B) => p.1 = q.1 ∧ F2 (RB w R ι st.dom) p.2.cells.toList q.2) (parts.map fun x => (x.1, a.eval x.2)) ps
  | [], _, h => by simp only [partsB, Option.some.injEq] at h; subst h; exact .nil
  | (i, x) :: rest, ps, h => by
    simp only [partsB] at h
    split at h
    · rename_i v1 ps' e1 e2
      split at h
      · rename_i cs hc
        cases h
        have hv := ev_ok (a := a) he x
        rw [e1] at hv
        exact .cons ⟨rfl, cellsV_ok ho hv hc⟩ (partsB_ok ho he e2)
      · cases h
    · cases h
theorem map_parts (a : Act) (parts : Array (Nat × Operand)) : (parts.map fun (i, x) => (i, a.eval x)).toList = parts.toList.map fun x => (x.1, a.eval x.2) := by simp
theorem run_places {w : World} {T : TypeId} {pl : List (Nat × Nat)} {fs : Array Field} (h1 : P.underlying T = some (.struct fs)) (h : placesOf P T = some pl) : (fs.mapM fun f => (do pure (f.offset, ← sizeOf f.type) : Sem (Nat × Nat))).run P w = .ok pl.toArray w := by
  unfold placesOf at h
  rw [h1] at h
  simp only at h
  split at h
  · rename_i hall
    cases h
    have : ∀ (l : List Field), l.all (fun f => (P.info? f.type).isSome) = true → (l.mapM fun f => (do pure (f.offset, ← sizeOf f.type) : Sem (Nat × Nat))).run P w = .ok (l.map fun f => (f.offset, P.cellsOf f.type)) w := by
      intro l
      induction l with
      | nil => intro _; rfl
      | cons f l ih =>
        intro hl
        simp only [List.all_cons, Bool.and_eq_true] at hl
        obtain ⟨i, hi⟩ := Option.isSome_iff_exists.1 hl.1
        have hsz : (sizeOf f.type).run P w = .ok i.size w := by simp [sizeOf, typeInfo, hi]
        have hcs : P.cellsOf f.type = i.size := by simp [Program.cellsOf, hi]
        rw [List.mapM_cons]
        simp only [Sem.run_bind, hsz, Result.andThen_ok, Sem.run_pure, ih hl.2, List.map_cons, hcs]
    have h2 := this fs.toList hall
    rw [Array.mapM_eq_mapM_toList]
    show Sem.run P (fs.toList.mapM (fun f => (do pure (f.offset, ← sizeOf f.type) : Sem (Nat × Nat))) >>= fun l => pure l.toArray) w = _
    rw [Sem.run_bind, h2]
    rfl
  · cases h
theorem sound_build {T : TypeId} {parts : Array (Nat × Operand)} {zs : List Value} {pl : List (Nat × Nat)} {ps : List (Nat × List B)} {bs : List B} (hop : o.op = .build T parts) (hz : zeroCells P T = some zs) (hpl : placesOf P T = some pl) (hps : partsB st parts.toList = some ps) (hf : fillB (fun i => pl[i]?) (zs.map fun v => .d (.pv v)) ps = some bs) :
    OpW P F st o (.v (.agg bs)) st := fun a w R ι φ hs K Q hK => by
  obtain ⟨z, h1, h2, h3⟩ := run_zeroCells (w := w) hz
  have hF := partsB_ok (a := a) hs.objs hs.env hps
  obtain ⟨a', hfill, hr⟩ := fill_ok (r := RB w R ι st.dom) (a := z.cells) (by rw [h2]; exact good_F2 h3) hF hf
  have hu : ∃ fs, P.underlying T = some (.struct fs) := by
    unfold placesOf at hpl
    split at hpl
    · rename_i fs h; exact ⟨fs, h⟩
    · cases hpl
  obtain ⟨fs, hu⟩ := hu
  have hrun : (execOp a.eval o).run P w = .ok (.value (.agg a')) w := by
    unfold execOp
    rw [hop]
    simp only [Instr.build, Sem.run_bind, h1, Result.andThen_ok, run_underlying hu, run_places hu hpl, map_parts]
    have : (fun (x : Nat) => pl.toArray[x]?) = fun (i : Nat) => pl[i]? := by funext i; simp
    rw [this, hfill]
    rfl
  unfold Oper.wp
  rw [hrun, Oper.upon_value]
  exact hK _ w R ι φ hs ⟨a'.toList, by simp, hr⟩
theorem chunks_ok (s : Nat) : ∀ (n : Nat) (ds : List D), ds.length = n * s → (chunks s n ds).flatten = ds ∧ (∀ es ∈ chunks s n ds, es.length = s) ∧ (chunks s n ds).length = n
  | 0, ds, h => by
    have : ds = [] := List.eq_nil_of_length_eq_zero (by simpa using h)
    subst this
    simp [chunks]
  | n + 1, ds, h => by
    have hs : s ≤ ds.length := by rw [h, Nat.succ_mul]; omega
    obtain ⟨h1, h2, h3⟩ := chunks_ok s n (ds.drop s) (by rw [List.length_drop, h, Nat.succ_mul]; omega)
    refine ⟨by simp [chunks, h1], fun es he => ?_, by simp [chunks, h3]⟩
    simp only [chunks, List.mem_cons] at he
    rcases he with rfl | he
    · rw [List.length_take]; omega
    · exact h2 es he
theorem run_sliceInfo {T : TypeId} {κ : Ky} {by' : Nat} {zs : List Value} (h : sliceInfo P T = some (κ, by', zs)) : P.underlying T = some (.slice κ.e) ∧ ∃ i z, P.info? κ.e = some i ∧ i.zero = some z ∧ i.size = κ.k ∧ i.bytes = by' ∧ z.cells.toList = zs ∧ z.cells.size = κ.k ∧ 0 < κ.k ∧ zs.all goodV = true := by
  unfold sliceInfo at h
  split at h
  · rename_i e' hu
    cases hi : P.info? e' with
    | none => simp [hi] at h
    | some i =>
      cases hz : i.zero with
      | none => simp [hi, hz] at h
      | some z =>
        simp only [hi, hz, Option.bind_some] at h
        split at h
        · rename_i hc
          simp only [Option.some.injEq, Prod.mk.injEq] at h
          obtain ⟨rfl, rfl, rfl⟩ := h
          simp only [Bool.and_eq_true, beq_iff_eq, decide_eq_true_eq] at hc
          exact ⟨hu, i, z, hi, hz, rfl, rfl, rfl, hc.1.2, hc.2, hc.1.1⟩
        · cases h
  · cases h
theorem F2.dead {w : World} {R : Nat → Prop} {ι : Nat → Value} {dom : Nat → Prop} : ∀ (vs : List Value), F2 (RB w R ι dom) vs (List.replicate vs.length .dead)
  | [] => .nil
  | _ :: vs => .cons trivial (F2.dead vs)
/-- A new array of the call's own. -/
theorem arr_new {w : World} {R : Nat → Prop} {ι : Nat → Value} {φ : Nat → List Nat} {a : Act} (hs : Sat F R ι φ st a w) {d : Nat} {κ : Ky} {xs : List (List D)} {v : Value} {w' : World} {us : List Value} {U : List Nat} (hn : freeO st.objs d) (hb : Below w.heap.size w w') (hk : ∀ es ∈ xs, es.length = κ.k) (hown : w'.ownsRow 0 κ.e κ.k v xs.length us) (hv : ∀ g, v.ownBlock = some g → w.heap.size ≤ g)
    (hU : ET w us xs.flatten U) (hUn : U.Nodup) (hUm : ∀ g ∈ U, (F.M g ∨ F.w.heap.size ≤ g) ∧ ¬ R g ∧ ∀ q x, st.objs q = some x → g ∉ φ q) :
    Sat F R (upd ι d v) (upd φ d (v.ownBlock.toList ++ U)) ⟨st.env, upd st.objs d (some (.arr κ xs []))⟩ a w' ∧ RA w' R (upd ι d v) (domO (upd st.objs d (some (.arr κ xs [])))) v (.v (.c (.own d))) := by
  obtain ⟨hn1, hn2⟩ := hn.none
  have hne : ∀ p, st.dom p → p ≠ d := fun p ⟨y, hy⟩ e => by subst e; rw [hn1] at hy; cases hy
  have hUl := hU.lt
  have hlt : ∀ g, v.ownBlock = some g → g < w'.heap.size := fun g hg => (hown.lt g hg).2
  refine ⟨hs.step (fun o => o = d) (hs.below.then hb) (fun b hr => ⟨hr, hb.block b (hs.rlt b hr)⟩) (fun b hr => Nat.lt_of_lt_of_le (hs.rlt b hr) hb.size) hs.rnew (fun o ho => ?_) (fun o x ho hc => ?_) (fun o x ho hc => ?_) (fun o p x y g ho hc hp h1 h2 => ?_) (fun o ho => upd_ne _ _ (by omega)), ⟨_, upd_same _ _ _⟩, (upd_same _ _ _).symm⟩
  · obtain ⟨x, hx⟩ := ho
    exact ⟨⟨x, (upd_ne _ _ (hne o ⟨x, hx⟩)).trans hx⟩, upd_ne _ _ (hne o ⟨x, hx⟩)⟩
  · rw [upd_ne _ _ hc] at ho
    refine ⟨ho, upd_ne _ _ hc, fun g hg => ?_⟩
    have := hs.mine o x ho g hg
    exact ⟨hb.block g this.2.2, this.2.1, Nat.lt_of_lt_of_le this.2.2 hb.size⟩
  · subst hc
    rw [upd_same] at ho
    cases ho
    rw [upd_same, upd_same]
    refine ⟨⟨hk, us, U, hown, EH.of_ET (hU.keep fun b hb' => hb.block b (hUl b hb')), rfl, ?_⟩, fun g hg => ?_⟩
    · refine List.nodup_append.2 ⟨?_, hUn, ?_⟩
      · cases v.ownBlock <;> simp
      · rintro g hg g' hg' rfl
        have := hv g (by simpa using hg)
        have := hUl g hg'
        omega
    · rcases List.mem_append.1 hg with hg | hg
      · have hg : v.ownBlock = some g := by simpa using hg
        refine ⟨.inr (Nat.le_trans hs.below.size (hv g hg)), fun hr => ?_, hlt g hg⟩
        have := hs.rlt g hr
        have := hv g hg
        omega
      · exact ⟨(hUm g hg).1, (hUm g hg).2.1, Nat.lt_of_lt_of_le (hUl g hg) hb.size⟩
  · subst hc
    rw [upd_same] at h1
    by_cases hpd : p = o
    · exact hpd.symm
    · rw [upd_ne _ _ hpd] at hp h2
      exfalso
      rcases List.mem_append.1 h1 with hg | hg
      · have := hv g (by simpa using hg)
        have := (hs.mine p y hp g h2).2.2
        omega
      · exact (hUm g hg).2.2 p y hp h2
/-- The blocks of the objects that end are no other object's. -/
theorem kill_apart {w : World} {R : Nat → Prop} {ι : Nat → Value} {φ : Nat → List Nat} {a : Act} (hs : Sat F R ι φ st a w) {ps : List Nat} {U : List Nat} (hUm : ∀ g ∈ U, ∃ q ∈ ps, ∃ x, st.objs q = some x ∧ g ∈ φ q) : ∀ g ∈ U, (F.M g ∨ F.w.heap.size ≤ g) ∧ ¬ R g ∧ ∀ q x, (st.kill ps).objs q = some x → g ∉ φ q := fun g hg => by
  obtain ⟨q, hq, x, hx, hgq⟩ := hUm g hg
  have hm := hs.mine q x hx g hgq
  refine ⟨hm.1, hm.2.1, fun r y hr hgr => ?_⟩
  obtain ⟨hc, y', hy', _⟩ := St.kill_get hr
  have := hs.apart r q y' x g hy' hx hgr hgq
  subst this
  simp [hq] at hc
theorem fill_size : ∀ (parts : List (Nat × Value)) (place : Nat → Option (Nat × Nat)) (c c' : Array Value), Instr.fill place c parts = some c' → c'.size = c.size := by
  intro parts place
  induction parts with
  | nil => intro c c' h; simp only [Instr.fill, Option.some.injEq] at h; rw [h]
  | cons p rest ih =>
    intro c c' h
    obtain ⟨i, v⟩ := p
    simp only [Instr.fill] at h
    split at h
    · cases h
    · split at h
      · cases h
      · rw [ih _ _ h]
        rename_i off size _ _
        rw [← Array.foldl_toList]
        have : ∀ (l : List (Value × Nat)) (c : Array Value), (l.foldl (fun cs (x : Value × Nat) => cs.setIfInBounds (off + x.2) x.1) c).size = c.size := by
          intro l
          induction l with
          | nil => intro c; rfl
          | cons x l ih => intro c; simp only [List.foldl_cons]; rw [ih]; simp
        exact this _ _
theorem sound_buildSlice {T : TypeId} {len d : Nat} {κ : Ky} {by' : Nat} {parts : Array (Nat × Operand)} {zs : List Value} {pl : List (Nat × List B)} {bs : List B} {ds : List D} {ps : List Nat} (hop : o.op = .buildSlice T len parts) (hT : sliceInfo P T = some (κ, by', zs)) (hlen : len ≤ 65536) (hls : len * κ.k ≤ 16777216) (hps : partsB st parts.toList = some pl)
    (hf : fillB (fun i => some (i * κ.k, κ.k)) (List.replicate (len * κ.k) .dead) pl = some bs) (hab : absL st.objs bs = some (ds, ps)) (hnd : nodupB ps = true) (hn : freeO (st.kill ps).objs d) :
    OpW P F st o (.v (.c (.own d))) ⟨(st.kill ps).env, upd (st.kill ps).objs d (some (.arr κ (chunks κ.k len ds) []))⟩ := fun a w R ι φ hs K Q hK => by
  obtain ⟨hu, i, z, hi, hz, hsz, hby, hzs, hzl, hs0, hg⟩ := run_sliceInfo hT
  have hF := partsB_ok (a := a) hs.objs hs.env hps
  obtain ⟨cs, hcs, hcr⟩ : ∃ cs : Array Value, (len * κ.k = 0 ∧ cs = #[] ∨ len * κ.k ≠ 0 ∧ cs = (Array.range (len * κ.k)).map (z.cells[· % z.cells.size]!)) ∧ F2 (RB w R ι st.dom) cs.toList (List.replicate (len * κ.k) .dead) := by
    by_cases h0 : len * κ.k = 0
    · exact ⟨#[], .inl ⟨h0, rfl⟩, by rw [h0]; exact .nil⟩
    · refine ⟨_, .inr ⟨h0, rfl⟩, ?_⟩
      have := F2.dead (w := w) (R := R) (ι := ι) (dom := st.dom) ((Array.range (len * κ.k)).map (z.cells[· % z.cells.size]!)).toList
      simpa using this
  obtain ⟨a', hfill, hr⟩ := fill_ok (r := RB w R ι st.dom) hcr hF hf
  obtain ⟨U, hU, hUn, hUm⟩ := absL_ok hs.ok hr hab (nodupB_ok hnd)
  have hlen' : ds.length = len * κ.k := by
    have h1 := hU.len
    have h2 : a'.size = cs.size := by
      have : ∀ (parts : List (Nat × Value)) (place : Nat → Option (Nat × Nat)) (c c' : Array Value), Instr.fill place c parts = some c' → c'.size = c.size := by
        intro parts place
        induction parts with
        | nil => intro c c' h; simp only [Instr.fill, Option.some.injEq] at h; rw [h]
        | cons p rest ih =>
          intro c c' h
          obtain ⟨i, v⟩ := p
          simp only [Instr.fill] at h
          split at h
          · cases h
          · split at h
            · cases h
            · rw [ih _ _ h]
              rename_i off size _ _
              rw [← Array.foldl_toList]
              have : ∀ (l : List (Value × Nat)) (c : Array Value), (l.foldl (fun cs (x : Value × Nat) => cs.setIfInBounds (off + x.2) x.1) c).size = c.size := by
                intro l
                induction l with
                | nil => intro c; rfl
                | cons x l ih => intro c; simp only [List.foldl_cons]; rw [ih]; simp
              exact this _ _
      exact this _ _ _ _ hfill
    have h3 := hcr.len
    simp only [Array.length_toList, List.length_replicate] at h1 h3
    omega
  have hrun : (execOp a.eval o).run P w = .ok (.value (.slice (some ⟨w.heap.size, 0, none⟩) len len)) (w.alloc (.cells a'.toList.toArray κ.e)) := by
    unfold execOp
    rw [hop]
    have hzr : (zeroValue κ.e).run P w = .ok z w := by simp [zeroValue, typeInfo, hi, hz]
    have hsr : (sizeOf κ.e).run P w = .ok κ.k w := by simp [sizeOf, typeInfo, hi, hsz]
    simp only [Instr.buildSlice, Sem.run_bind, run_underlying hu, Result.andThen_ok, hsr, map_parts]
    rw [if_neg (by omega)]
    rcases hcs with ⟨h0, rfl⟩ | ⟨h0, rfl⟩
    · have e0 : (Array.range 0).map (fun x => (#[] : Array Value)[x % (#[] : Array Value).size]!) = #[] := by apply Array.ext'; simp
      simp only [h0, if_true, Sem.run_bind, Sem.run_pure, Result.andThen_ok]
      rw [e0, hfill]
      simp only [newRow, Sem.run_bind, run_newObj, Result.andThen_ok, Sem.run_pure, Array.toArray_toList]
      rfl
    · rw [if_neg h0]
      simp only [Sem.run_bind, hzr, Sem.run_pure, Result.andThen_ok]
      rw [hfill]
      simp only [newRow, Sem.run_bind, run_newObj, Result.andThen_ok, Sem.run_pure, Array.toArray_toList]
      rfl
  unfold Oper.wp
  rw [hrun, Oper.upon_value]
  have hb : Below w.heap.size w (w.alloc (.cells a'.toList.toArray κ.e)) := (Below.refl _ _).alloc (Nat.le_refl _) _
  obtain ⟨c1, c2, c3⟩ := chunks_ok κ.k len ds hlen'
  have hal : a'.size = len * κ.k := by have := hU.len; simp at this; omega
  obtain ⟨q1, q2⟩ := arr_new (κ := κ) (xs := chunks κ.k len ds) (v := .slice (some ⟨w.heap.size, 0, none⟩) len len) (us := a'.toList) (hs.kill ps) hn hb c2 (by
    rw [c3]
    exact ⟨by simpa using hal, .inr ⟨w.heap.size, len, _, rfl, Nat.zero_le _, alloc_new_at _ _, Nat.le_refl _, by unfold maxLen; omega, by simpa using hal, by rw [List.toList_toArray, List.take_of_length_le (by simp; omega)]⟩⟩) (fun g hg => by simp [Value.ownBlock] at hg; omega) (by rw [c1]; exact hU) hUn (kill_apart hs hUm)
  exact hK _ _ _ _ _ q1 q2
end
section
variable {P : Program} {F : Fx} {st : St} {o : Oper}
theorem ET.zeros {w : World} : ∀ {zs : List Value} {zd : List D}, F2 zD zs zd → zs.all goodV = true → ET w zs zd []
  | _, _, .nil, _ => .nil
  | _, _, .cons (a := z) (b := d) h1 h2, h => by
    simp only [List.all_cons, Bool.and_eq_true] at h
    have ih := ET.zeros (w := w) h2 h.2
    cases d with
    | pv u => cases h1; exact .pv (goodV_ok h.1).1 (goodV_ok h.1).2 ih
    | rd κ xs =>
      obtain ⟨rfl, rfl⟩ := h1
      exact ET.rd (us := []) (S1 := []) (by simp) (World.ownsRow_nil w _ _ _) .nil ih
    | rp _ => exact h1.elim
    | fn _ _ => exact h1.elim
    | mp _ => exact h1.elim
theorem ET.repeat {w : World} {vs : List Value} {ds : List D} (h : ET w vs ds []) : ∀ n, ET w (List.replicate n vs).flatten (List.replicate n ds).flatten []
  | 0 => .nil
  | n + 1 => by
    rw [List.replicate_succ, List.replicate_succ, List.flatten_cons, List.flatten_cons]
    exact h.append (h.repeat n)
theorem Below.of_grown {w w' : World} {row : Option Nat} (hg : w.grownBy w' row) {B : Nat} (hB : B ≤ w.heap.size) (hr : ∀ k, row = some k → B ≤ k) : Below B w w' := (Below.refl B w).grown hg hB hr
theorem sound_makeSlice {T d by' : Nat} {κ : Ky} {l c : Operand} {m : Int} {zs : List Value} {zd : List D} (hop : o.op = .makeSlice T l c) (hn : freeO st.objs d) (hl : ev st.env l = pvA (.int .i64 m)) (hc : ev st.env c = pvA (.int .i64 m)) (h0 : 0 ≤ m) (hm : m ≤ 16777216) (hT : sliceInfo P T = some (κ, by', zs)) (hby : by' ≤ 65536) (hzd : F2 zD zs zd) :
    OpW P F st o (.v (.c (.own d))) ⟨st.env, upd st.objs d (some (.arr κ (List.replicate m.toNat zd) []))⟩ := fun a w R ι φ hs K Q hK => by
  obtain ⟨hu, i, z, hi, hz, hsz, hbb, hzs, hzl, hs0, hg⟩ := run_sliceInfo hT
  have hvl := ev_ok (a := a) hs.env l
  have hvc := ev_ok (a := a) hs.env c
  rw [hl] at hvl; rw [hc] at hvc
  obtain ⟨e1, _⟩ := RA.pv hvl
  obtain ⟨e2, _⟩ := RA.pv hvc
  obtain ⟨k, rfl⟩ := Int.eq_ofNat_of_zero_le h0
  have hk : k ≤ 16777216 := by omega
  have hbk : i.bytes * k ≤ 281474976710656 := by
    rw [hbb]
    have := Nat.mul_le_mul hby hk
    omega
  obtain ⟨w', hrun, hown, hgr⟩ := run_make_full (P := P) w w.heap.size T κ.e i z κ.k hu hi hz hsz .i64 .i64 k hbk (by unfold maxLen; omega) (Nat.le_refl _)
  have hrun' : (execOp a.eval o).run P w = .ok (.value (.slice (some ⟨w.heap.size, 0, none⟩) k k)) w' := by
    unfold execOp
    rw [hop]
    simp only [e1, e2, Sem.run_bind, hrun, Result.andThen_ok, Sem.run_pure]
  unfold Oper.wp
  rw [hrun', Oper.upon_value]
  have hb : Below w.heap.size w w' := Below.of_grown hgr (Nat.le_refl _) (by simp)
  have hmc : (madeCells z.cells (k * κ.k)).toList = (List.replicate k zs).flatten := by
    rw [← hzl, ← hzs]
    exact madeCells_zeros z.cells (by omega) k
  rw [hmc] at hown
  have hzsl : zd.length = κ.k := by rw [← hzd.len, ← hzs]; simpa using hzl
  obtain ⟨q1, q2⟩ := arr_new (κ := κ) (xs := List.replicate k zd) (v := .slice (some ⟨w.heap.size, 0, none⟩) k k) (us := (List.replicate k zs).flatten) (U := []) hs hn hb (fun es he => by rw [List.eq_of_mem_replicate he, hzsl]) (by
    rw [List.length_replicate]
    exact hown.mono (Nat.zero_le _)) (fun g hg => by simp [Value.ownBlock] at hg; omega) ((ET.zeros hzd hg).repeat k) .nil (fun g hg => by cases hg)
  exact hK _ _ _ _ _ (by simpa using q1) (by simpa using q2)
end
end Go.Proofs.YtlblmofimjhbbaaDoor
