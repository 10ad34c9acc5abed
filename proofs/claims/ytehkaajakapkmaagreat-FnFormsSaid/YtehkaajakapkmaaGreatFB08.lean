/- Texts of one proof, one behind the other. -/
import Derived.Deep.Onto
import Derived.Test.YtehkaajakapkmaaGreatFB07
namespace Go.Proofs.YtehkaajakapkmaaGreat
section
open Go.RowKit
section
variable {P : Program} {F : Fx} {st : St} {o : Oper}
theorem fold_ok {r : Value → B → Prop} (off : Nat) : ∀ {vs : List Value} {cs : List B} (k : Nat) {a : Array Value} {bs : List B}, F2 r a.toList bs → F2 r vs cs →
    F2 r ((vs.zipIdx k).foldl (fun (a : Array Value) (x : Value × Nat) => a.setIfInBounds (off + x.2) x.1) a).toList (setAll bs (off + k) cs)
  | _, _, k, a, bs, h, .nil => by simpa [setAll] using h
  | _, _, k, a, bs, h, .cons (a := v) (as := vs) (b := c) (bs := cs) h1 h2 => by
    simp only [List.zipIdx_cons, List.foldl_cons, setAll]
    have := fold_ok off (k + 1) (a := a.setIfInBounds (off + k) v) (bs := bs.set (off + k) c) (by rw [Array.toList_setIfInBounds]; exact h.set _ h1) h2
    rwa [← Nat.add_assoc] at this
theorem fill_ok {r : Value → B → Prop} {place : Nat → Option (Nat × Nat)} : ∀ {parts : List (Nat × Value)} {ps : List (Nat × List B)} {a : Array Value} {bs bs' : List B}, F2 r a.toList bs → F2 (fun p q => p.1 = q.1 ∧ F2 r p.2.cells.toList q.2) parts ps → fillB place bs ps = some bs' →
    ∃ a', Instr.fill place a parts = some a' ∧ F2 r a'.toList bs'
  | _, _, a, bs, bs', h, .nil, e => by simp only [fillB, Option.some.injEq] at e; subst e; exact ⟨a, rfl, h⟩
  | _, _, a, bs, bs', h, .cons (a := p) (as := parts) (b := q) (bs := ps) ⟨h1, h2⟩ h3, e => by
    obtain ⟨i, v⟩ := p
    obtain ⟨j, c⟩ := q
    simp only at h1 h2
    subst h1
    simp only [fillB] at e
    cases hp : place i with
    | none => simp [hp] at e
    | some x =>
      obtain ⟨off, size⟩ := x
      simp only [hp] at e
      split at e
      · rename_i hc
        have hl := h2.len
        have hl' : v.cells.size = c.length := by simpa using hl
        have hb := h.len
        have hb' : a.size = bs.length := by simpa using hb
        have hf := fold_ok off 0 h h2
        rw [Nat.add_zero] at hf
        obtain ⟨a', h4, h5⟩ := fill_ok (place := place) hf h3 e
        refine ⟨a', ?_, h5⟩
        simp only [Instr.fill, hp]
        rw [if_neg (by simp; omega), ← h4]
        congr 1
        rw [← Array.foldl_toList, Array.toList_zipIdx]
      · cases e
theorem partsB_ok {w : World} {R : Nat → Prop} {ι : Nat → Value} {φ : Nat → List Nat} {a : Act} (ho : ∀ p y, st.objs p = some y → RO w R ι st.dom (ι p) (φ p) y) (he : ∀ d, RA w R ι st.dom (a.tmps.getD d undef) (st.env d)) : ∀ {parts : List (Nat × Operand)} {ps : List (Nat × List B)}, partsB st parts = some ps →
    F2 (fun (p : Nat × Value) (q : Nat × List B) => p.1 = q.1 ∧ F2 (RB w R ι st.dom) p.2.cells.toList q.2) (parts.map fun x => (x.1, a.eval x.2)) ps
  | [], _, h => by simp only [partsB, Option.some.injEq] at h; subst h; exact .nil
  | (i, x) :: rest, ps, h => by
    simp only [partsB] at h
    split at h
    · rename_i v1 ps' e1 e2
      split at h
      · rename_i cs hc
        cases h
        have hv := ev_ok (a := a) he x
        rw [e1] at hv
        exact .cons ⟨rfl, cellsV_ok ho hv hc⟩ (partsB_ok ho he e2)
      · cases h
    · cases h
theorem map_parts (a : Act) (parts : Array (Nat × Operand)) : (parts.map fun (i, x) => (i, a.eval x)).toList = parts.toList.map fun x => (x.1, a.eval x.2) := by simp
theorem run_places {w : World} {T : TypeId} {pl : List (Nat × Nat)} {fs : Array Field} (h1 : P.underlying T = some (.struct fs)) (h : placesOf P T = some pl) : (fs.mapM fun f => (do pure (f.offset, ← sizeOf f.type) : Sem (Nat × Nat))).run P w = .ok pl.toArray w := by
  unfold placesOf at h
  rw [h1] at h
  simp only at h
  split at h
  · rename_i hall
    cases h
    have : ∀ (l : List Field), l.all (fun f => (P.info? f.type).isSome) = true → (l.mapM fun f => (do pure (f.offset, ← sizeOf f.type) : Sem (Nat × Nat))).run P w = .ok (l.map fun f => (f.offset, P.cellsOf f.type)) w := by
      intro l
      induction l with
      | nil => intro _; rfl
      | cons f l ih =>
        intro hl
        simp only [List.all_cons, Bool.and_eq_true] at hl
        obtain ⟨i, hi⟩ := Option.isSome_iff_exists.1 hl.1
        have hsz : (sizeOf f.type).run P w = .ok i.size w := by simp [sizeOf, typeInfo, hi]
        have hcs : P.cellsOf f.type = i.size := by simp [Program.cellsOf, hi]
        rw [List.mapM_cons]
        simp only [Sem.run_bind, hsz, Result.andThen_ok, Sem.run_pure, ih hl.2, List.map_cons, hcs]
    have h2 := this fs.toList hall
    rw [Array.mapM_eq_mapM_toList]
    show Sem.run P (fs.toList.mapM (fun f => (do pure (f.offset, ← sizeOf f.type) : Sem (Nat × Nat))) >>= fun l => pure l.toArray) w = _
    rw [Sem.run_bind, h2]
    rfl
  · cases h
theorem sound_build {T : TypeId} {parts : Array (Nat × Operand)} {zs : List Value} {pl : List (Nat × Nat)} {ps : List (Nat × List B)} {bs : List B} (hop : o.op = .build T parts) (hz : zeroCells P T = some zs) (hpl : placesOf P T = some pl) (hps : partsB st parts.toList = some ps) (hf : fillB (fun i => pl[i]?) (zs.map fun v => .d (.pv v)) ps = some bs) :
    OpW P F st o (.v (.agg bs)) st := fun a w R ι φ hs K Q hK => by
  obtain ⟨z, h1, h2, h3⟩ := run_zeroCells (w := w) hz
  have hF := partsB_ok (a := a) hs.objs hs.env hps
  obtain ⟨a', hfill, hr⟩ := fill_ok (r := RB w R ι st.dom) (a := z.cells) (by rw [h2]; exact good_F2 h3) hF hf
  have hu : ∃ fs, P.underlying T = some (.struct fs) := by
    unfold placesOf at hpl
    split at hpl
    · rename_i fs h; exact ⟨fs, h⟩
    · cases hpl
  obtain ⟨fs, hu⟩ := hu
  have hrun : (execOp a.eval o).run P w = .ok (.value (.agg a')) w := by
    unfold execOp
    rw [hop]
    simp only [Instr.build, Sem.run_bind, h1, Result.andThen_ok, run_underlying hu, run_places hu hpl, map_parts]
    have : (fun (x : Nat) => pl.toArray[x]?) = fun (i : Nat) => pl[i]? := by funext i; simp
    rw [this, hfill]
    rfl
  unfold Oper.wp
  rw [hrun, Oper.upon_value]
  exact hK _ w R ι φ hs ⟨a'.toList, by simp, hr⟩
theorem chunks_ok (s : Nat) : ∀ (n : Nat) (ds : List D), ds.length = n * s → (chunks s n ds).flatten = ds ∧ (∀ es ∈ chunks s n ds, es.length = s) ∧ (chunks s n ds).length = n
  | 0, ds, h => by
    have : ds = [] := List.eq_nil_of_length_eq_zero (by simpa using h)
    subst this
    simp [chunks]
  | n + 1, ds, h => by
    have hs : s ≤ ds.length := by rw [h, Nat.succ_mul]; omega
    obtain ⟨h1, h2, h3⟩ := chunks_ok s n (ds.drop s) (by rw [List.length_drop, h, Nat.succ_mul]; omega)
    refine ⟨by simp [chunks, h1], fun es he => ?_, by simp [chunks, h3]⟩
    simp only [chunks, List.mem_cons] at he
    rcases he with rfl | he
    · rw [List.length_take]; omega
    · exact h2 es he
theorem run_sliceInfo {T : TypeId} {κ : Ky} {by' : Nat} {zs : List Value} (h : sliceInfo P T = some (κ, by', zs)) : P.underlying T = some (.slice κ.e) ∧ ∃ i z, P.info? κ.e = some i ∧ i.zero = some z ∧ i.size = κ.k ∧ i.bytes = by' ∧ z.cells.toList = zs ∧ z.cells.size = κ.k ∧ 0 < κ.k ∧ zs.all goodV = true := by
  unfold sliceInfo at h
  split at h
  · rename_i e' hu
    cases hi : P.info? e' with
    | none => simp [hi] at h
    | some i =>
      cases hz : i.zero with
      | none => simp [hi, hz] at h
      | some z =>
        simp only [hi, hz, Option.bind_some] at h
        split at h
        · rename_i hc
          simp only [Option.some.injEq, Prod.mk.injEq] at h
          obtain ⟨rfl, rfl, rfl⟩ := h
          simp only [Bool.and_eq_true, beq_iff_eq, decide_eq_true_eq] at hc
          exact ⟨hu, i, z, hi, hz, rfl, rfl, rfl, hc.1.2, hc.2, hc.1.1⟩
        · cases h
  · cases h
theorem F2.dead {w : World} {R : Nat → Prop} {ι : Nat → Value} {dom : Nat → Prop} : ∀ (vs : List Value), F2 (RB w R ι dom) vs (List.replicate vs.length .dead)
  | [] => .nil
  | _ :: vs => .cons trivial (F2.dead vs)
theorem arr_new {w : World} {R : Nat → Prop} {ι : Nat → Value} {φ : Nat → List Nat} {a : Act} (hs : Sat F R ι φ st a w) {d : Nat} {κ : Ky} {xs : List (List D)} {v : Value} {w' : World} {us : List Value} {U : List Nat} (hn : freeO st.objs d) (hb : Below w.heap.size w w') (hk : ∀ es ∈ xs, es.length = κ.k) (hown : w'.ownsRow 0 κ.e κ.k v xs.length us) (hv : ∀ g, v.ownBlock = some g → w.heap.size ≤ g)
    (hU : ET w us xs.flatten U) (hUn : U.Nodup) (hUm : ∀ g ∈ U, (F.M g ∨ F.w.heap.size ≤ g) ∧ ¬ R g ∧ ∀ q x, st.objs q = some x → g ∉ φ q) :
    Sat F R (upd ι d v) (upd φ d (v.ownBlock.toList ++ U)) ⟨st.env, upd st.objs d (some (.arr κ xs []))⟩ a w' ∧ RA w' R (upd ι d v) (domO (upd st.objs d (some (.arr κ xs [])))) v (.v (.c (.own d))) := by
  obtain ⟨hn1, hn2⟩ := hn.none
  have hne : ∀ p, st.dom p → p ≠ d := fun p ⟨y, hy⟩ e => by subst e; rw [hn1] at hy; cases hy
  have hUl := hU.lt
  have hlt : ∀ g, v.ownBlock = some g → g < w'.heap.size := fun g hg => (hown.lt g hg).2
  refine ⟨hs.step (fun o => o = d) (hs.below.then hb) (fun b hr => ⟨hr, hb.block b (hs.rlt b hr)⟩) (fun b hr => Nat.lt_of_lt_of_le (hs.rlt b hr) hb.size) hs.rnew (fun o ho => ?_) (fun o x ho hc => ?_) (fun o x ho hc => ?_) (fun o p x y g ho hc hp h1 h2 => ?_) (fun o ho => upd_ne _ _ (by omega)), ⟨_, upd_same _ _ _⟩, (upd_same _ _ _).symm⟩
  · obtain ⟨x, hx⟩ := ho
    exact ⟨⟨x, (upd_ne _ _ (hne o ⟨x, hx⟩)).trans hx⟩, upd_ne _ _ (hne o ⟨x, hx⟩)⟩
  · rw [upd_ne _ _ hc] at ho
    refine ⟨ho, upd_ne _ _ hc, fun g hg => ?_⟩
    have := hs.mine o x ho g hg
    exact ⟨hb.block g this.2.2, this.2.1, Nat.lt_of_lt_of_le this.2.2 hb.size⟩
  · subst hc
    rw [upd_same] at ho
    cases ho
    rw [upd_same, upd_same]
    refine ⟨⟨hk, us, U, hown, EH.of_ET (hU.keep fun b hb' => hb.block b (hUl b hb')), rfl, ?_⟩, fun g hg => ?_⟩
    · refine List.nodup_append.2 ⟨?_, hUn, ?_⟩
      · cases v.ownBlock <;> simp
      · rintro g hg g' hg' rfl
        have := hv g (by simpa using hg)
        have := hUl g hg'
        omega
    · rcases List.mem_append.1 hg with hg | hg
      · have hg : v.ownBlock = some g := by simpa using hg
        refine ⟨.inr (Nat.le_trans hs.below.size (hv g hg)), fun hr => ?_, hlt g hg⟩
        have := hs.rlt g hr
        have := hv g hg
        omega
      · exact ⟨(hUm g hg).1, (hUm g hg).2.1, Nat.lt_of_lt_of_le (hUl g hg) hb.size⟩
  · subst hc
    rw [upd_same] at h1
    by_cases hpd : p = o
    · exact hpd.symm
    · rw [upd_ne _ _ hpd] at hp h2
      exfalso
      rcases List.mem_append.1 h1 with hg | hg
      · have := hv g (by simpa using hg)
        have := (hs.mine p y hp g h2).2.2
        omega
      · exact (hUm g hg).2.2 p y hp h2
theorem kill_apart {w : World} {R : Nat → Prop} {ι : Nat → Value} {φ : Nat → List Nat} {a : Act} (hs : Sat F R ι φ st a w) {ps : List Nat} {U : List Nat} (hUm : ∀ g ∈ U, ∃ q ∈ ps, ∃ x, st.objs q = some x ∧ g ∈ φ q) : ∀ g ∈ U, (F.M g ∨ F.w.heap.size ≤ g) ∧ ¬ R g ∧ ∀ q x, (st.kill ps).objs q = some x → g ∉ φ q := fun g hg => by
  obtain ⟨q, hq, x, hx, hgq⟩ := hUm g hg
  have hm := hs.mine q x hx g hgq
  refine ⟨hm.1, hm.2.1, fun r y hr hgr => ?_⟩
  obtain ⟨hc, y', hy', _⟩ := St.kill_get hr
  have := hs.apart r q y' x g hy' hx hgr hgq
  subst this
  simp [hq] at hc
theorem fill_size : ∀ (parts : List (Nat × Value)) (place : Nat → Option (Nat × Nat)) (c c' : Array Value), Instr.fill place c parts = some c' → c'.size = c.size := by
  intro parts place
  induction parts with
  | nil => intro c c' h; simp only [Instr.fill, Option.some.injEq] at h; rw [h]
  | cons p rest ih =>
    intro c c' h
    obtain ⟨i, v⟩ := p
    simp only [Instr.fill] at h
    split at h
    · cases h
    · split at h
      · cases h
      · rw [ih _ _ h]
        rename_i off size _ _
        rw [← Array.foldl_toList]
        have : ∀ (l : List (Value × Nat)) (c : Array Value), (l.foldl (fun cs (x : Value × Nat) => cs.setIfInBounds (off + x.2) x.1) c).size = c.size := by
          intro l
          induction l with
          | nil => intro c; rfl
          | cons x l ih => intro c; simp only [List.foldl_cons]; rw [ih]; simp
        exact this _ _
theorem sound_buildSlice {T : TypeId} {len d : Nat} {κ : Ky} {by' : Nat} {parts : Array (Nat × Operand)} {zs : List Value} {pl : List (Nat × List B)} {bs : List B} {ds : List D} {ps : List Nat} (hop : o.op = .buildSlice T len parts) (hT : sliceInfo P T = some (κ, by', zs)) (hlen : len ≤ 65536) (hls : len * κ.k ≤ 16777216) (hps : partsB st parts.toList = some pl)
    (hf : fillB (fun i => some (i * κ.k, κ.k)) (List.replicate (len * κ.k) .dead) pl = some bs) (hab : absL st.objs bs = some (ds, ps)) (hnd : nodupB ps = true) (hn : freeO (st.kill ps).objs d) :
    OpW P F st o (.v (.c (.own d))) ⟨(st.kill ps).env, upd (st.kill ps).objs d (some (.arr κ (chunks κ.k len ds) []))⟩ := fun a w R ι φ hs K Q hK => by
  obtain ⟨hu, i, z, hi, hz, hsz, hby, hzs, hzl, hs0, hg⟩ := run_sliceInfo hT
  have hF := partsB_ok (a := a) hs.objs hs.env hps
  obtain ⟨cs, hcs, hcr⟩ : ∃ cs : Array Value, (len * κ.k = 0 ∧ cs = #[] ∨ len * κ.k ≠ 0 ∧ cs = (Array.range (len * κ.k)).map (z.cells[· % z.cells.size]!)) ∧ F2 (RB w R ι st.dom) cs.toList (List.replicate (len * κ.k) .dead) := by
    by_cases h0 : len * κ.k = 0
    · exact ⟨#[], .inl ⟨h0, rfl⟩, by rw [h0]; exact .nil⟩
    · refine ⟨_, .inr ⟨h0, rfl⟩, ?_⟩
      have := F2.dead (w := w) (R := R) (ι := ι) (dom := st.dom) ((Array.range (len * κ.k)).map (z.cells[· % z.cells.size]!)).toList
      simpa using this
  obtain ⟨a', hfill, hr⟩ := fill_ok (r := RB w R ι st.dom) hcr hF hf
  obtain ⟨U, hU, hUn, hUm⟩ := absL_ok hs.ok hr hab (nodupB_ok hnd)
  have hlen' : ds.length = len * κ.k := by
    have h1 := hU.len
    have h2 : a'.size = cs.size := by
      have : ∀ (parts : List (Nat × Value)) (place : Nat → Option (Nat × Nat)) (c c' : Array Value), Instr.fill place c parts = some c' → c'.size = c.size := by
        intro parts place
        induction parts with
        | nil => intro c c' h; simp only [Instr.fill, Option.some.injEq] at h; rw [h]
        | cons p rest ih =>
          intro c c' h
          obtain ⟨i, v⟩ := p
          simp only [Instr.fill] at h
          split at h
          · cases h
          · split at h
            · cases h
            · rw [ih _ _ h]
              rename_i off size _ _
              rw [← Array.foldl_toList]
              have : ∀ (l : List (Value × Nat)) (c : Array Value), (l.foldl (fun cs (x : Value × Nat) => cs.setIfInBounds (off + x.2) x.1) c).size = c.size := by
                intro l
                induction l with
                | nil => intro c; rfl
                | cons x l ih => intro c; simp only [List.foldl_cons]; rw [ih]; simp
              exact this _ _
      exact this _ _ _ _ hfill
    have h3 := hcr.len
    simp only [Array.length_toList, List.length_replicate] at h1 h3
    omega
  have hrun : (execOp a.eval o).run P w = .ok (.value (.slice (some ⟨w.heap.size, 0, none⟩) len len)) (w.alloc (.cells a'.toList.toArray κ.e)) := by
    unfold execOp
    rw [hop]
    have hzr : (zeroValue κ.e).run P w = .ok z w := by simp [zeroValue, typeInfo, hi, hz]
    have hsr : (sizeOf κ.e).run P w = .ok κ.k w := by simp [sizeOf, typeInfo, hi, hsz]
    simp only [Instr.buildSlice, Sem.run_bind, run_underlying hu, Result.andThen_ok, hsr, map_parts]
    rw [if_neg (by omega)]
    rcases hcs with ⟨h0, rfl⟩ | ⟨h0, rfl⟩
    · have e0 : (Array.range 0).map (fun x => (#[] : Array Value)[x % (#[] : Array Value).size]!) = #[] := by apply Array.ext'; simp
      simp only [h0, if_true, Sem.run_bind, Sem.run_pure, Result.andThen_ok]
      rw [e0, hfill]
      simp only [newRow, Sem.run_bind, run_newObj, Result.andThen_ok, Sem.run_pure, Array.toArray_toList]
      rfl
    · rw [if_neg h0]
      simp only [Sem.run_bind, hzr, Sem.run_pure, Result.andThen_ok]
      rw [hfill]
      simp only [newRow, Sem.run_bind, run_newObj, Result.andThen_ok, Sem.run_pure, Array.toArray_toList]
      rfl
  unfold Oper.wp
  rw [hrun, Oper.upon_value]
  have hb : Below w.heap.size w (w.alloc (.cells a'.toList.toArray κ.e)) := (Below.refl _ _).alloc (Nat.le_refl _) _
  obtain ⟨c1, c2, c3⟩ := chunks_ok κ.k len ds hlen'
  have hal : a'.size = len * κ.k := by have := hU.len; simp at this; omega
  obtain ⟨q1, q2⟩ := arr_new (κ := κ) (xs := chunks κ.k len ds) (v := .slice (some ⟨w.heap.size, 0, none⟩) len len) (us := a'.toList) (hs.kill ps) hn hb c2 (by
    rw [c3]
    exact ⟨by simpa using hal, .inr ⟨w.heap.size, len, _, rfl, Nat.zero_le _, alloc_new_at _ _, Nat.le_refl _, by unfold maxLen; omega, by simpa using hal, by rw [List.toList_toArray, List.take_of_length_le (by simp; omega)]⟩⟩) (fun g hg => by simp [Value.ownBlock] at hg; omega) (by rw [c1]; exact hU) hUn (kill_apart hs hUm)
  exact hK _ _ _ _ _ q1 q2
end
section
variable {P : Program} {F : Fx} {st : St} {o : Oper}
theorem ET.zeros {w : World} : ∀ {zs : List Value} {zd : List D}, F2 zD zs zd → zs.all goodV = true → ET w zs zd []
  | _, _, .nil, _ => .nil
  | _, _, .cons (a := z) (b := d) h1 h2, h => by
    simp only [List.all_cons, Bool.and_eq_true] at h
    have ih := ET.zeros (w := w) h2 h.2
    cases d with
    | pv u => cases h1; exact .pv (goodV_ok h.1).1 (goodV_ok h.1).2 ih
    | rd κ xs =>
      obtain ⟨rfl, rfl⟩ := h1
      exact ET.rd (us := []) (S1 := []) (by simp) (World.ownsRow_nil w _ _ _) .nil ih
    | rp _ => exact h1.elim
    | fn _ _ => exact h1.elim
    | mp _ => exact h1.elim
theorem ET.repeat {w : World} {vs : List Value} {ds : List D} (h : ET w vs ds []) : ∀ n, ET w (List.replicate n vs).flatten (List.replicate n ds).flatten []
  | 0 => .nil
  | n + 1 => by
    rw [List.replicate_succ, List.replicate_succ, List.flatten_cons, List.flatten_cons]
    exact h.append (h.repeat n)
theorem Below.of_grown {w w' : World} {row : Option Nat} (hg : w.grownBy w' row) {B : Nat} (hB : B ≤ w.heap.size) (hr : ∀ k, row = some k → B ≤ k) : Below B w w' := (Below.refl B w).grown hg hB hr
theorem sound_makeSlice {T d by' : Nat} {κ : Ky} {l c : Operand} {m : Int} {zs : List Value} {zd : List D} (hop : o.op = .makeSlice T l c) (hn : freeO st.objs d) (hl : ev st.env l = pvA (.int .i64 m)) (hc : ev st.env c = pvA (.int .i64 m)) (h0 : 0 ≤ m) (hm : m ≤ 16777216) (hT : sliceInfo P T = some (κ, by', zs)) (hby : by' ≤ 65536) (hzd : F2 zD zs zd) :
    OpW P F st o (.v (.c (.own d))) ⟨st.env, upd st.objs d (some (.arr κ (List.replicate m.toNat zd) []))⟩ := fun a w R ι φ hs K Q hK => by
  obtain ⟨hu, i, z, hi, hz, hsz, hbb, hzs, hzl, hs0, hg⟩ := run_sliceInfo hT
  have hvl := ev_ok (a := a) hs.env l
  have hvc := ev_ok (a := a) hs.env c
  rw [hl] at hvl; rw [hc] at hvc
  obtain ⟨e1, _⟩ := RA.pv hvl
  obtain ⟨e2, _⟩ := RA.pv hvc
  obtain ⟨k, rfl⟩ := Int.eq_ofNat_of_zero_le h0
  have hk : k ≤ 16777216 := by omega
  have hbk : i.bytes * k ≤ 281474976710656 := by
    rw [hbb]
    have := Nat.mul_le_mul hby hk
    omega
  obtain ⟨w', hrun, hown, hgr⟩ := run_make_full (P := P) w w.heap.size T κ.e i z κ.k hu hi hz hsz .i64 .i64 k hbk (by unfold maxLen; omega) (Nat.le_refl _)
  have hrun' : (execOp a.eval o).run P w = .ok (.value (.slice (some ⟨w.heap.size, 0, none⟩) k k)) w' := by
    unfold execOp
    rw [hop]
    simp only [e1, e2, Sem.run_bind, hrun, Result.andThen_ok, Sem.run_pure]
  unfold Oper.wp
  rw [hrun', Oper.upon_value]
  have hb : Below w.heap.size w w' := Below.of_grown hgr (Nat.le_refl _) (by simp)
  have hmc : (madeCells z.cells (k * κ.k)).toList = (List.replicate k zs).flatten := by
    rw [← hzl, ← hzs]
    exact madeCells_zeros z.cells (by omega) k
  rw [hmc] at hown
  have hzsl : zd.length = κ.k := by rw [← hzd.len, ← hzs]; simpa using hzl
  obtain ⟨q1, q2⟩ := arr_new (κ := κ) (xs := List.replicate k zd) (v := .slice (some ⟨w.heap.size, 0, none⟩) k k) (us := (List.replicate k zs).flatten) (U := []) hs hn hb (fun es he => by rw [List.eq_of_mem_replicate he, hzsl]) (by
    rw [List.length_replicate]
    exact hown.mono (Nat.zero_le _)) (fun g hg => by simp [Value.ownBlock] at hg; omega) ((ET.zeros hzd hg).repeat k) .nil (fun g hg => by cases hg)
  exact hK _ _ _ _ _ (by simpa using q1) (by simpa using q2)
end
end
section
open Go.RowKit
section
variable {P : Program} {F : Fx} {st : St} {o : Oper}
def SrcOk (w : World) (v : Value) (k : Nat) (ys : List (List D)) (U : List Nat) : Prop :=
  (∀ y ∈ ys, y.length = k) ∧ ∃ A cap, v = .slice A ys.length cap ∧ (A = none → ys = []) ∧ ∃ news, ET w news ys.flatten U ∧ ∀ ad, A = some ad → ∀ j u, news[j]? = some u → w.cell? (ad.add j) = some u
theorem src_own {w : World} {ι : Nat → Value} {dom : Nat → Prop} {v : Value} {κ : Ky} {ys : List (List D)} {S : List Nat} (h : RArr w ι dom v κ ys [] S) : ∃ U, SrcOk w v κ.k ys U ∧ U.Nodup ∧ ∀ g ∈ U, g ∈ S := by
  obtain ⟨h1, vs, S1, hown, hf, hS, hn⟩ := h
  refine ⟨S1, ⟨h1, ?_⟩, ?_, fun g hg => by rw [hS]; simp [hg]⟩
  · rcases hown.2 with ⟨e1, h0⟩ | ⟨g, cap, cur, e1, hb, hh, hnc, hcm, hcs, ht⟩
    · have : ys = [] := List.eq_nil_of_length_eq_zero h0
      subst this
      exact ⟨none, 0, by rw [e1]; rfl, (fun _ => rfl), _, EH.to_ET hf, (fun ad h => by cases h)⟩
    · exact ⟨_, cap, e1, (fun h => by cases h), vs, EH.to_ET hf, (fun ad had j u hu => by cases had; exact hown.cells (g := g) (by rw [e1]; rfl) j u hu)⟩
  · rw [hS] at hn
    exact (List.nodup_append.1 hn).2.1
theorem src_pure {w : World} {v : Value} {k : Nat} {ys : List (List D)} {U : List Nat} (h : SrcOk w v k ys U) (hp : pureL ys) : SrcOk w v k ys [] := by
  obtain ⟨h1, A, cap, e, hA, news, hn, hc⟩ := h
  refine ⟨h1, A, cap, e, hA, news, ?_, hc⟩
  have : ∀ {vs : List Value} {ds : List D} {S : List Nat}, ET w vs ds S → (∀ d ∈ ds, pureD d = true) → ET w vs ds [] := fun h => by
    induction h with
    | nil => intro _; exact .nil
    | pv q1 q2 _ ih => intro hd; exact .pv q1 q2 (ih fun d hd' => hd d (by simp [hd']))
    | rd => intro hd; have := hd _ (List.mem_cons_self ..); cases this
  refine this hn fun d hd => ?_
  obtain ⟨es, he, hde⟩ := List.mem_flatten.1 hd
  exact hp es he d hde
theorem src_rd {w : World} {R : Nat → Prop} {v : Value} {κ : Ky} {ys : List (List D)} (h : RD w R v (.rd κ ys)) (hp : pureL ys) : SrcOk w v κ.k ys [] := by
  generalize hx : D.rd κ ys = x at h
  cases h with
  | nil => cases hx; exact ⟨by simp, _, _, rfl, (fun _ => rfl), [], .nil, (fun _ _ j u hu => by simp at hu)⟩
  | pv _ _ => cases hx
  | rp _ _ _ _ => cases hx
  | fn _ _ => cases hx
  | mp _ _ _ => cases hx
  | rd c h0 h1 h2 hR hk hc hr =>
    cases hx
    rename_i b off cap
    have hk' : ∀ y ∈ ys, y.length = κ.k := fun y hy => by
      obtain ⟨i, hi⟩ := List.getElem?_of_mem hy
      exact hk i y hi
    have hfl := flatten_len hk'
    have hcell : ∀ j, j < ys.flatten.length → ∃ i t es, ys[i]? = some es ∧ t < κ.k ∧ j = i * κ.k + t := fun j hj => by
      rw [hfl] at hj
      have hk0 : 0 < κ.k := by
        rcases Nat.eq_zero_or_pos κ.k with h | h
        · rw [h] at hj; simp at hj
        · exact h
      have hi : j / κ.k < ys.length := (Nat.div_lt_iff_lt_mul hk0).2 hj
      exact ⟨j / κ.k, j % κ.k, ys[j / κ.k], List.getElem?_eq_getElem hi, Nat.mod_lt _ hk0, by rw [Nat.mul_comm]; exact (Nat.div_add_mod j κ.k).symm⟩
    have hF : F2 (RD w R) ((List.range ys.flatten.length).map fun j => c (j / κ.k) (j % κ.k)) ys.flatten := F2.of_get (by simp) fun j u d hu hd => by
      have hj : j < ys.flatten.length := by
        rcases Nat.lt_or_ge j ys.flatten.length with h | h
        · exact h
        · rw [List.getElem?_eq_none h] at hd; cases hd
      rw [List.getElem?_map, List.getElem?_range hj] at hu
      simp only [Option.map_some, Option.some.injEq] at hu
      subst hu
      obtain ⟨i, t, es, hi, ht, rfl⟩ := hcell j hj
      rw [flatten_get hk' hi ht] at hd
      rw [show (i * κ.k + t) / κ.k = i by rw [Nat.mul_comm, Nat.mul_add_div (by omega), Nat.div_eq_of_lt ht]; omega, show (i * κ.k + t) % κ.k = t by rw [Nat.mul_comm, Nat.mul_add_mod, Nat.mod_eq_of_lt ht]]
      exact hr i es t d hi hd
    refine ⟨hk', _, cap, rfl, (fun h => by cases h), _, ET.of_pure hF fun d hd => ?_, fun ad had j u hu => ?_⟩
    · obtain ⟨es, he, hde⟩ := List.mem_flatten.1 hd
      exact hp es he d hde
    · cases had
      have hj : j < ys.flatten.length := by
        rcases Nat.lt_or_ge j ys.flatten.length with h | h
        · exact h
        · rw [List.getElem?_eq_none (by simpa using h)] at hu; cases hu
      rw [List.getElem?_map, List.getElem?_range hj] at hu
      simp only [Option.map_some, Option.some.injEq] at hu
      subst hu
      obtain ⟨i, t, es, hi, ht, rfl⟩ := hcell j hj
      rw [show (i * κ.k + t) / κ.k = i by rw [Nat.mul_comm, Nat.mul_add_div (by omega), Nat.div_eq_of_lt ht]; omega, show (i * κ.k + t) % κ.k = t by rw [Nat.mul_comm, Nat.mul_add_mod, Nat.mod_eq_of_lt ht], add_at, ← Nat.add_assoc]
      exact hc i es t hi ht
theorem src_ok {w : World} {R : Nat → Prop} {ι : Nat → Value} {φ : Nat → List Nat} (ho : ObjsOk w R ι φ st.objs) {v : Value} {b : B} {κ : Ky} {ys : List (List D)} {ps : List Nat} (hv : RB w R ι st.dom v b) (h : elemsOf st.objs κ b = some ys) (hps : (pureL ys ∧ ps = []) ∨ (∃ q, b = .own q ∧ ps = [q])) :
    ∃ U, SrcOk w v κ.k ys U ∧ U.Nodup ∧ (∀ g ∈ U, ∃ q ∈ ps, ∃ x, st.objs q = some x ∧ g ∈ φ q) ∧ ys.length ≤ maxLen := by
  unfold elemsOf at h
  split at h
  · rename_i o
    split at h
    · rename_i κ' xs hob
      split at h
      · rename_i hkk
        cases h
        have hR := ho.1 _ _ hob
        obtain ⟨U, h1, h2, h3⟩ := src_own hR
        obtain ⟨_, _, _, hl⟩ := RArr.len hR
        rw [hkk] at h1
        rw [hv.2]
        rcases hps with ⟨hp, rfl⟩ | ⟨q, hq, rfl⟩
        · exact ⟨[], src_pure h1 hp, .nil, fun g hg => (by cases hg), hl⟩
        · cases hq
          exact ⟨U, h1, h2, fun g hg => ⟨o, by simp, _, hob, h3 g hg⟩, hl⟩
      · cases h
    · cases h
  · rename_i κ' xs
    split at h
    · rename_i hkk
      cases h
      rcases hps with ⟨hp, rfl⟩ | ⟨q, hq, _⟩
      · have := src_rd hv hp
        rw [hkk] at this
        have hl : ys.length ≤ maxLen := by
          have hv' : RD w R v _ := hv
          cases hv' with
          | nil => simp
          | rd c h0 h1 h2 => omega
        exact ⟨[], this, .nil, fun g hg => (by cases hg), hl⟩
      · cases hq
    · cases h
  · cases h
    have hv' : RD w R v (.pv (.slice none 0 0)) := hv
    cases hv' with
    | pv _ _ => exact ⟨[], ⟨by simp, none, 0, rfl, fun _ => rfl, [], .nil, fun _ h => by cases h⟩, .nil, fun g hg => (by cases hg), by simp⟩
  · cases h
theorem run_append_nilsrc {w : World} (base : Nat) (t ty e : TypeId) (i : TypeInfo) (size : Nat) (ht : P.underlying t = some (.slice e)) (hi : P.info? e = some i)
    (v : Value) (n : Nat) (xs : List Value) (hown : w.ownsRow base e size v n xs) (c : Nat) : (Builtin.append_ #[t, t] ty #[v, .slice none 0 c]).run P w = .ok v w := by
  rcases hown.2 with ⟨rfl, rfl⟩ | ⟨g, cap, cur, rfl, _, _, hnc, _⟩
  · simp [Builtin.append_, run_underlying ht, sizeOf, typeInfo, hi, Builtin.lenOf, Builtin.firstCells]
  · simp [Builtin.append_, run_underlying ht, sizeOf, typeInfo, hi, Builtin.lenOf, Builtin.firstCells, hnc, storeCells]
theorem run_append_k {w : World} {T : TypeId} {κ : Ky} {by' : Nat} {zs : List Value} {v y : Value} {xs ys : List (List D)} {vs : List Value} {S U : List Nat} {ty : TypeId} (hT : sliceInfo P T = some (κ, by', zs)) (hown : w.ownsRow 0 κ.e κ.k v xs.length vs) (hf : ET w vs xs.flatten S) (hy : SrcOk w y κ.k ys U)
    (hd : ∀ g, v.ownBlock = some g → g ∉ S ∧ g ∉ U) (hm : xs.length + ys.length ≤ maxLen) (hbytes : (xs.length + ys.length) * by' ≤ 140737488355328) :
    ∃ v' w' us, (Builtin.append_ #[T, T] ty #[v, y]).run P w = .ok v' w' ∧ w'.ownsRow 0 κ.e κ.k v' (xs.length + ys.length) us ∧ ET w' us (xs ++ ys).flatten (S ++ U) ∧ w.grownBy w' v.ownBlock ∧ (v'.ownBlock = v.ownBlock ∨ v'.ownBlock = some w.heap.size) := by
  obtain ⟨hu, i, z, hi, hz, hsz, hbb, hzs, hzl, hs0, hg⟩ := run_sliceInfo hT
  obtain ⟨h2, A, cap, rfl, hA, news, hnf, hnc⟩ := hy
  have hSl := hf.lt
  have hUl := hnf.lt
  cases A with
  | none =>
    obtain rfl := hA rfl
    cases hnf
    refine ⟨v, w, vs, run_append_nilsrc 0 T ty κ.e i κ.k hu hi v xs.length vs hown cap, by simpa using hown, by simpa using hf, World.grownBy.refl _ _, .inl rfl⟩
  | some ad =>
    have hlen : news.length = ys.length * κ.k := by rw [hnf.len, flatten_len h2]
    obtain ⟨v', w', hrun, hown', hgr, _, hat⟩ := run_append_own_at (P := P) w 0 T ty κ.e i z κ.k by' hu hi hz hsz hbb hzl hs0 v xs.length vs hown ad ys.length cap news hlen (hnc ad rfl) hnf.one hm hbytes (Nat.zero_le _)
    have hkeep : ∀ b, b < w.heap.size → (∀ g, v.ownBlock = some g → b ≠ g) → w'.heap[b]? = w.heap[b]? := fun b hb hne => hgr.block b hb fun e => hne b e.symm rfl
    refine ⟨v', w', vs ++ news, hrun, hown', ?_, hgr, hat⟩
    rw [List.flatten_append]
    exact (hf.keep fun b hb => hkeep b (hSl b hb) fun g hg e => (hd g hg).1 (e ▸ hb)).append (hnf.keep fun b hb => hkeep b (hUl b hb) fun g hg e => (hd g hg).2 (e ▸ hb))
theorem run_append_op {a : Act} {w w' : World} {c : Call} {x y : Operand} {T : TypeId} {v' : Value} (hop : o.op = .call c) (hc : c.callee = .builtin .append) (ha : c.args.toList = [x, y]) (ht : c.argTypes.toList = [T, T])
    (h : (Builtin.append_ #[T, T] o.type #[a.eval x, a.eval y]).run P w = .ok v' w') : (execOp a.eval o).run P w = .ok (.value v') w' := by
  rw [exec_builtin hop hc, BigFrame.builtin_append, arr_of ha, arr_of ht]
  simp only [List.map_toArray, List.map_cons, List.map_nil, Sem.run_bind]
  rw [show ([T, T].toArray : Array TypeId) = #[T, T] from rfl, h]
  rfl
theorem kill_comm_get {st : St} {ps : List Nat} {p q : Nat} {z : Ob} (h : ((st.kill ps).kill [p]).objs q = some z) : q ≠ p ∧ ∃ y, (st.kill ps).objs q = some y := by
  obtain ⟨hc, y, hy, _⟩ := St.kill_get h
  exact ⟨fun e => by simp [e] at hc, y, hy⟩
theorem sound_append_own {c : Call} {x y : Operand} {T p by' : Nat} {κ : Ky} {b' : B} {zs : List Value} {xs ys : List (List D)} {ps : List Nat} (hop : o.op = .call c) (hc : c.callee = .builtin .append) (ha : c.args.toList = [x, y]) (ht : c.argTypes.toList = [T, T]) (hx : ev st.env x = .v (.c (.own p))) (hy : ev st.env y = .v (.c b'))
    (hT : sliceInfo P T = some (κ, by', zs)) (hel : elemsOf st.objs κ b' = some ys) (hps : (pureL ys ∧ ps = []) ∨ (∃ q, b' = .own q ∧ ps = [q])) (hob : (st.kill ps).objs p = some (.arr κ xs [])) (hpin : p < pinN) (hm : xs.length + ys.length ≤ maxLen) (hbytes : (xs.length + ys.length) * by' ≤ 140737488355328) :
    OpW P F st o (.v (.c (.own p))) ⟨((st.kill ps).kill [p]).env, upd ((st.kill ps).kill [p]).objs p (some (.arr κ (xs ++ ys) []))⟩ := fun a w R ι φ hs K Q hK => by
  have hvx := ev_ok (a := a) hs.env x
  have hvy := ev_ok (a := a) hs.env y
  rw [hx] at hvx; rw [hy] at hvy
  obtain ⟨U, hsrc, hUn, hUm, _⟩ := src_ok hs.ok hvy hel hps
  have hs1 := hs.kill ps
  have hs2 := hs1.kill [p]
  have hUa := kill_apart hs hUm
  obtain ⟨hk, vs, S1, hown, hf, hφ, hn⟩ := hs1.objs p _ hob
  have hf' := EH.to_ET hf
  have hmi := hs1.mine p _ hob
  have hgb : ∀ g, (ι p).ownBlock = some g → g ∈ φ p := fun g hg => by rw [hφ]; simp [hg]
  have hS1 : ∀ g ∈ S1, g ∈ φ p := fun g hg => by rw [hφ]; simp [hg]
  have hSn : S1.Nodup ∧ ∀ g, (ι p).ownBlock = some g → g ∉ S1 := by
    rw [hφ] at hn
    have := List.nodup_append.1 hn
    exact ⟨this.2.1, fun g hg hgs => this.2.2 g (by simp [hg]) g hgs rfl⟩
  have hUp : ∀ g ∈ U, g ∉ φ p := fun g hg => (hUa g hg).2.2 p _ hob
  obtain ⟨v', w', us, hrun, hown', hET, hgr, hat⟩ := run_append_k (ty := o.type) hT hown hf' hsrc (fun g hg => ⟨hSn.2 g hg, fun hgU => hUp g hgU (hgb g hg)⟩) hm hbytes
  have hrun' := run_append_op (a := a) hop hc ha ht (by rw [hvx.2]; exact hrun)
  unfold Oper.wp
  rw [hrun', Oper.upon_value]
  have hkeep : ∀ b, b < w.heap.size → b ∉ φ p → w'.heap[b]? = w.heap[b]? := fun b hb hne => hgr.block b hb fun e => hne (hgb b e.symm)
  have hUlt : ∀ g ∈ U, g < w.heap.size := by
    obtain ⟨_, _, _, _, _, news, hnf, _⟩ := hsrc
    exact hnf.lt
  have hvb : ∀ g, v'.ownBlock = some g → g ∈ φ p ∨ g = w.heap.size := fun g hg => by
    rcases hat with h | h
    · exact .inl (hgb g (by rw [← h]; exact hg))
    · rw [h] at hg; cases hg; exact .inr rfl
  have hvn : ∀ g, v'.ownBlock = some g → g ∉ S1 ++ U := fun g hg hgs => by
    rcases hat with h | h
    · have hg' : (ι p).ownBlock = some g := by rw [← h]; exact hg
      rcases List.mem_append.1 hgs with h' | h'
      · exact hSn.2 g hg' h'
      · exact hUp g h' (hgb g hg')
    · rw [h] at hg; cases hg
      rcases List.mem_append.1 hgs with h' | h'
      · have := (hmi _ (hS1 _ h')).2.2; omega
      · have := hUlt _ h'; omega
  have hvlt : ∀ g, v'.ownBlock = some g → g < w'.heap.size := fun g hg => (hown'.lt g hg).2
  have hnew : ∀ g ∈ v'.ownBlock.toList ++ (S1 ++ U), g ∈ φ p ∨ g ∈ U ∨ g = w.heap.size := fun g hg => by
    rcases List.mem_append.1 hg with h | h
    · rcases hvb g (by simpa using h) with h | h
      · exact .inl h
      · exact .inr (.inr h)
    · rcases List.mem_append.1 h with h | h
      · exact .inl (hS1 g h)
      · exact .inr (.inl h)
  have hbel : BelowM F.M F.w w' := ⟨hgr.os.trans hs.below.os, hgr.tape.trans hs.below.tape, hgr.output.trans hs.below.output, Nat.le_trans hs.below.size hgr.size, fun k hk' hM => by
    have hkw := Nat.lt_of_lt_of_le hk' hs.below.size
    rw [hkeep k hkw fun h => by rcases (hmi k h).1 with h' | h'; exact hM h'; omega]
    exact hs.below.block k hk' hM⟩
  refine hK _ _ R (upd ι p v') (upd φ p (v'.ownBlock.toList ++ (S1 ++ U))) (hs2.step (fun q => q = p) hbel (fun b hb => ⟨hb, hkeep b (hs.rlt b hb) fun h => (hmi b h).2.1 hb⟩) (fun b hb => Nat.lt_of_lt_of_le (hs.rlt b hb) hgr.size) hs.rnew (fun q hq => ?_) (fun q z hz hq => ?_) (fun q z hz hq => ?_) (fun q r z z' g hq hch hr h1 h2 => ?_) (fun q hq => upd_ne _ _ (by omega))) ⟨⟨_, upd_same _ _ _⟩, (upd_same _ _ _).symm⟩
  · obtain ⟨z, hz⟩ := hq
    have hne := (kill_comm_get hz).1
    exact ⟨⟨z, (upd_ne _ _ hne).trans hz⟩, upd_ne _ _ hne⟩
  · rw [upd_ne _ _ hq] at hz
    refine ⟨hz, upd_ne _ _ hq, fun g hg => ?_⟩
    have hm' := hs2.mine q z hz g hg
    obtain ⟨_, y', hy'⟩ := kill_comm_get hz
    exact ⟨hkeep g hm'.2.2 fun h => hq (hs1.apart q p y' _ g hy' hob hg h), hm'.2.1, Nat.lt_of_lt_of_le hm'.2.2 hgr.size⟩
  · subst hq
    rw [upd_same] at hz
    cases hz
    rw [upd_same, upd_same]
    refine ⟨⟨fun es he => ?_, us, S1 ++ U, by rw [List.length_append]; exact hown', EH.of_ET hET, rfl, ?_⟩, fun g hg => ?_⟩
    · rcases List.mem_append.1 he with h | h
      · exact hk es h
      · exact hsrc.1 es h
    · refine List.nodup_append.2 ⟨by cases v'.ownBlock <;> simp, List.nodup_append.2 ⟨hSn.1, hUn, ?_⟩, ?_⟩
      · rintro g h1 g' h2 rfl
        exact hUp g h2 (hS1 g h1)
      · rintro g h1 g' h2 rfl
        exact hvn g (by simpa using h1) h2
    · rcases hnew g hg with h | h | h
      · have := hmi g h
        exact ⟨this.1, this.2.1, Nat.lt_of_lt_of_le this.2.2 hgr.size⟩
      · exact ⟨(hUa g h).1, (hUa g h).2.1, Nat.lt_of_lt_of_le (hUlt g h) hgr.size⟩
      · subst h
        refine ⟨.inr hs.below.size, fun hr => Nat.lt_irrefl _ (hs.rlt _ hr), ?_⟩
        rcases List.mem_append.1 hg with h' | h'
        · exact hvlt _ (by simpa using h')
        · rcases List.mem_append.1 h' with h' | h'
          · have := (hmi _ (hS1 _ h')).2.2; omega
          · have := hUlt _ h'; omega
  · subst hch
    rw [upd_same] at h1
    by_cases hrq : r = q
    · exact hrq.symm
    · rw [upd_ne _ _ hrq] at hr h2
      obtain ⟨_, y', hy'⟩ := kill_comm_get hr
      rcases hnew g h1 with h | h | h
      · exact hs1.apart q r _ y' g hob hy' h h2
      · exact absurd h2 ((hUa g h).2.2 r y' hy')
      · have := (hs1.mine r y' hy' g h2).2.2
        omega
theorem sound_append_nil {c : Call} {x y : Operand} {T d by' : Nat} {κ : Ky} {b' : B} {zs : List Value} {ys : List (List D)} {ps : List Nat} (hop : o.op = .call c) (hc : c.callee = .builtin .append) (ha : c.args.toList = [x, y]) (ht : c.argTypes.toList = [T, T]) (hx : ev st.env x = .v (.c (.d (.pv (.slice none 0 0))))) (hy : ev st.env y = .v (.c b'))
    (hT : sliceInfo P T = some (κ, by', zs)) (hel : elemsOf st.objs κ b' = some ys) (hps : (pureL ys ∧ ps = []) ∨ (∃ q, b' = .own q ∧ ps = [q])) (hn : freeO (st.kill ps).objs d) (hbytes : ys.length * by' ≤ 140737488355328) :
    OpW P F st o (.v (.c (.own d))) ⟨(st.kill ps).env, upd (st.kill ps).objs d (some (.arr κ ys []))⟩ := fun a w R ι φ hs K Q hK => by
  have hvx := ev_ok (a := a) hs.env x
  have hvy := ev_ok (a := a) hs.env y
  rw [hx] at hvx; rw [hy] at hvy
  obtain ⟨e1, _⟩ := RA.pv hvx
  obtain ⟨U, hsrc, hUn, hUm, hyl⟩ := src_ok hs.ok hvy hel hps
  have hUa := kill_apart hs hUm
  obtain ⟨v', w', us, hrun, hown', hET, hgr, hat⟩ := run_append_k (P := P) (ty := o.type) (v := .slice none 0 0) (xs := []) (vs := []) (S := []) hT (World.ownsRow_nil w _ _ _) .nil hsrc (fun g hg => by simp [Value.ownBlock] at hg) (by simpa using hyl) (by simpa using hbytes)
  have hrun' := run_append_op (a := a) hop hc ha ht (by rw [e1]; exact hrun)
  unfold Oper.wp
  rw [hrun', Oper.upon_value]
  have hb : Below w.heap.size w w' := Below.of_grown hgr (Nat.le_refl _) (by simp [Value.ownBlock])
  have hvb : ∀ g, v'.ownBlock = some g → g = w.heap.size := fun g hg => by
    rcases hat with h | h
    · rw [h] at hg; simp [Value.ownBlock] at hg
    · rw [h] at hg; cases hg; rfl
  have hUlt : ∀ g ∈ U, g < w.heap.size := by
    obtain ⟨_, _, _, _, _, news, hnf, _⟩ := hsrc
    exact hnf.lt
  have hs1 := hs.kill ps
  obtain ⟨hn1, hn2⟩ := hn.none
  simp only [List.length_nil, Nat.zero_add, List.nil_append] at hown' hET
  have hne : ∀ q, (st.kill ps).dom q → q ≠ d := fun q ⟨y, hy⟩ e => by subst e; rw [hn1] at hy; cases hy
  have hvlt : ∀ g, v'.ownBlock = some g → g < w'.heap.size := fun g hg => (hown'.lt g hg).2
  refine hK _ _ R (upd ι d v') (upd φ d (v'.ownBlock.toList ++ U)) (hs1.step (fun q => q = d) (hs.below.then hb) (fun b hr => ⟨hr, hb.block b (hs.rlt b hr)⟩) (fun b hr => Nat.lt_of_lt_of_le (hs.rlt b hr) hb.size) hs.rnew (fun q hq => ?_) (fun q z hz hq => ?_) (fun q z hz hq => ?_) (fun q r z z' g hq hch hr h1 h2 => ?_) (fun q hq => upd_ne _ _ (by omega))) ⟨⟨_, upd_same _ _ _⟩, (upd_same _ _ _).symm⟩
  · obtain ⟨z, hz⟩ := hq
    exact ⟨⟨z, (upd_ne _ _ (hne q ⟨z, hz⟩)).trans hz⟩, upd_ne _ _ (hne q ⟨z, hz⟩)⟩
  · rw [upd_ne _ _ hq] at hz
    refine ⟨hz, upd_ne _ _ hq, fun g hg => ?_⟩
    have hm' := hs1.mine q z hz g hg
    exact ⟨hb.block g hm'.2.2, hm'.2.1, Nat.lt_of_lt_of_le hm'.2.2 hb.size⟩
  · subst hq
    rw [upd_same] at hz
    cases hz
    rw [upd_same, upd_same]
    refine ⟨⟨hsrc.1, us, U, hown', EH.of_ET hET, rfl, ?_⟩, fun g hg => ?_⟩
    · refine List.nodup_append.2 ⟨by cases v'.ownBlock <;> simp, hUn, ?_⟩
      rintro g h1 g' h2 rfl
      have := hvb g (by simpa using h1)
      have := hUlt g h2
      omega
    · rcases List.mem_append.1 hg with h | h
      · have h' : v'.ownBlock = some g := by simpa using h
        have he := hvb g h'
        refine ⟨.inr (by rw [he]; exact hs.below.size), fun hr => ?_, hvlt g h'⟩
        have := hs.rlt g hr
        omega
      · exact ⟨(hUa g h).1, (hUa g h).2.1, Nat.lt_of_lt_of_le (hUlt g h) hb.size⟩
  · subst hch
    rw [upd_same] at h1
    by_cases hrq : r = q
    · exact hrq.symm
    · rw [upd_ne _ _ hrq] at hr h2
      exfalso
      rcases List.mem_append.1 h1 with h | h
      · have := hvb g (by simpa using h)
        have := (hs1.mine r z' hr g h2).2.2
        omega
      · exact (hUa g h).2.2 r z' hr h2
theorem sound_mcall {c : Call} {f : Operand} {cc : Nat} {K : AV → St → Prop} (hop : o.op = .call c) (hc : c.callee = .value f) (h : MCall P st cc f c.args.toList K) : ∃ x st', OpW P F st o x st' ∧ K x st' := by
  obtain ⟨g, caps, bor, ρ, args, ins, r, outs, hf, ha, hi, hs, hnd, hp, hk⟩ := h
  refine ⟨_, _, fun a w R ι φ hsat K Q hK => ?_, hk⟩
  simp only [Bool.and_eq_true] at hnd
  have hn1 := nodupB_ok hnd.1.1
  have hn2 := nodupB_ok hnd.1.2
  have h1 := ev_ok (a := a) hsat.env f
  rw [hf] at h1
  have h1 : RD w R (a.eval f) (.fn g caps) := h1
  generalize hv : a.eval f = v at h1
  cases h1 with
  | fn hlen hr =>
    rename_i us
    obtain ⟨pre1, pre2, pre3, pre4⟩ := call_pre hsat.ok hsat.rlt hn1 hn2 hi
    have hA := call_args (a := a) (domc := domO (frO ins)) hop hc hn2 pre3 pre2 (fun y _ => ev_ok hsat.env y) ha hlen hr
    obtain ⟨henter, hcall⟩ := hs
    unfold Oper.wp
    rw [run_call_op hop hc hv henter, Oper.upon_enter]
    refine (hcall w _ _ _ _ pre1 hA pre4).mono fun e w' => ?_
    rintro ⟨u, rfl, haft⟩
    obtain ⟨R', ι', φ', q1, q2⟩ := call_post hsat hn1 hn2 hi hnd.2 hp haft
    exact hK _ _ _ _ _ q1 q2
theorem VCW_sound {K : AV → St → Prop} (h : VCW P st o K) : ∃ x st', OpW P F st o x st' ∧ K x st' := by
  have rd : VCR P st o.op (fun x => K x st) → ∃ x st', OpW P F st o x st' ∧ K x st' := fun h => by
    obtain ⟨x, h1, h2⟩ := VCR_sound h
    exact ⟨x, st, OpW.of_read h1, h2⟩
  unfold VCW at h
  split at h
  · rename_i T hop
    obtain ⟨d, zs, hd, hn, hz, hk⟩ := h
    exact ⟨_, _, sound_alloc hop hn hz, hk⟩
  · rename_i T x hop
    obtain ⟨d, v1, cs, hd, hn, hx, hc, hk⟩ := h
    exact ⟨_, _, sound_box hop hn hx hc, hk⟩
  · rename_i T x y hop
    obtain ⟨b, v1, cs, ag, hx, hy, hc, hl, hT, h | h⟩ := h
    · obtain ⟨p, off, T', old, rfl, hob, hle, hk⟩ := h
      exact ⟨_, _, sound_store_ptr hop hx hy hc hl hT hob hle, hk⟩
    · obtain ⟨p, i, off, κ, xs, hs, es, ds, ps, rfl, hab, hnd, hob, hes, hle, hk⟩ := h
      exact ⟨_, _, sound_store_ep hop hx hy hc hl hT hab hnd hob hes hle, hk⟩
  · rename_i T parts hop
    obtain ⟨zs, pl, ps, bs, hz, hpl, hps, hf, hk⟩ := h
    exact ⟨_, _, sound_build hop hz hpl hps hf, hk⟩
  · rename_i T len parts hop
    obtain ⟨d, κ, by', zs, pl, bs, ds, ps, hd, hT, h1, h2, hps, hf, hab, hnd, hn, hk⟩ := h
    exact ⟨_, _, sound_buildSlice hop hT h1 h2 hps hf hab hnd hn, hk⟩
  · rename_i T l c hop
    obtain ⟨d, m, κ, by', zs, zd, hd, hn, hl, hc, h0, hm, hT, hby, hzd, hk⟩ := h
    exact ⟨_, _, sound_makeSlice hop hn hl hc h0 hm hT hby hzd, hk⟩
  · rename_i c hop
    split at h
    · rename_i hc
      obtain ⟨d, x, y, T, b, b', κ, by', zs, ys, hd, ha, ht, hx, hy, hT, hel, ps, hps, h | h⟩ := h
      · obtain ⟨p, xs, rfl, hob, hpin, hm, hb, hk⟩ := h
        exact ⟨_, _, sound_append_own hop hc ha ht hx hy hT hel hps hob hpin hm hb, hk⟩
      · obtain ⟨rfl, hn, hb, hk⟩ := h
        exact ⟨_, _, sound_append_nil hop hc ha ht hx hy hT hel hps hn hb, hk⟩
    · rename_i f hc
      rcases h with h | h
      · exact sound_mcall hop hc h
      · obtain ⟨g, caps, bor, args, r, outs, r', hf, ha, hs, hp, hr, hk⟩ := h
        exact ⟨_, st, OpW.of_read (sound_fcall hop hc hf ha hs hp hr), hk⟩
    · exact rd h
  · exact rd h
end
end
end Go.Proofs.YtehkaajakapkmaaGreat
