/- The operations that make or write memory: why the words are true (2). No program is named here. -/
import Derived.Test.YthgdccokpgaicaaSx7
import Derived.Test.YthgdccokpgaicaaMem
namespace Go.Proofs.Ythgdccokpgaicaa
open Go.RowKit
section
variable {P : Program} {w0 : World} {n : Nat} {st : St} {o : Oper}
theorem fold_ok {r : Value → B → Prop} (off : Nat) : ∀ {vs : List Value} {cs : List B} (k : Nat) {a : Array Value} {bs : List B}, F2 r a.toList bs → F2 r vs cs →
    F2 r ((vs.zipIdx k).foldl (fun (a : Array Value) (x : Value × Nat) => a.setIfInBounds (off + x.2) x.1) a).toList (setAll bs (off + k) cs)
  | _, _, k, a, bs, h, .nil => by simpa [setAll] using h
  | _, _, k, a, bs, h, .cons (a := v) (as := vs) (b := c) (bs := cs) h1 h2 => by
    simp only [List.zipIdx_cons, List.foldl_cons, setAll]
    have := fold_ok off (k + 1) (a := a.setIfInBounds (off + k) v) (bs := bs.set (off + k) c) (by rw [Array.toList_setIfInBounds]; exact h.set _ h1) h2
    rwa [← Nat.add_assoc] at this
theorem fill_ok {r : Value → B → Prop} {place : Nat → Option (Nat × Nat)} : ∀ {parts : List (Nat × Value)} {ps : List (Nat × List B)} {a : Array Value} {bs bs' : List B}, F2 r a.toList bs → F2 (fun p q => p.1 = q.1 ∧ F2 r p.2.cells.toList q.2) parts ps → fillB place bs ps = some bs' →
    ∃ a', Instr.fill place a parts = some a' ∧ F2 r a'.toList bs'
  | _, _, a, bs, bs', h, .nil, e => by simp only [fillB, Option.some.injEq] at e; subst e; exact ⟨a, rfl, h⟩
  | _, _, a, bs, bs', h, .cons (a := p) (as := parts) (b := q) (bs := ps) ⟨h1, h2⟩ h3, e => by
    obtain ⟨i, v⟩ := p
    obtain ⟨j, c⟩ := q
    simp only at h1 h2
    subst h1
    simp only [fillB] at e
    cases hp : place i with
    | none => simp [hp] at e
    | some x =>
      obtain ⟨off, size⟩ := x
      simp only [hp] at e
      split at e
      · rename_i hc
        have hl := h2.len
        have hl' : v.cells.size = c.length := by simpa using hl
        have hb := h.len
        have hb' : a.size = bs.length := by simpa using hb
        have hf := fold_ok off 0 h h2
        rw [Nat.add_zero] at hf
        obtain ⟨a', h4, h5⟩ := fill_ok (place := place) hf h3 e
        refine ⟨a', ?_, h5⟩
        simp only [Instr.fill, hp]
        rw [if_neg (by simp; omega), ← h4]
        congr 1
        rw [← Array.foldl_toList, Array.toList_zipIdx]
      · cases e
theorem partsB_ok {N0 : Nat} {w : World} {R : Nat → Prop} {ι : Nat → Value} {a : Act} (ho : ∀ p y, st.objs p = some y → RO N0 w R ι st.dom (ι p) y) (he : ∀ d, RA w R ι st.dom (a.tmps.getD d undef) (st.env d)) : ∀ {parts : List (Nat × Operand)} {ps : List (Nat × List B)}, partsB st parts = some ps →
    F2 (fun (p : Nat × Value) (q : Nat × List B) => p.1 = q.1 ∧ F2 (RB w R ι st.dom) p.2.cells.toList q.2) (parts.map fun x => (x.1, a.eval x.2)) ps
  | [], _, h => by simp only [partsB, Option.some.injEq] at h; subst h; exact .nil
  | (i, x) :: rest, ps, h => by
    simp only [partsB] at h
    split at h
    · rename_i v1 ps' e1 e2
      split at h
      · rename_i cs hc
        cases h
        have hv := ev_ok (a := a) he x
        rw [e1] at hv
        exact .cons ⟨rfl, cellsV_ok ho hv hc⟩ (partsB_ok ho he e2)
      · cases h
    · cases h
theorem map_parts (a : Act) (parts : Array (Nat × Operand)) : (parts.map fun (i, x) => (i, a.eval x)).toList = parts.toList.map fun x => (x.1, a.eval x.2) := by simp
theorem run_places {w : World} {T : TypeId} {pl : List (Nat × Nat)} {fs : Array Field} (h1 : P.underlying T = some (.struct fs)) (h : placesOf P T = some pl) : (fs.mapM fun f => (do pure (f.offset, ← sizeOf f.type) : Sem (Nat × Nat))).run P w = .ok pl.toArray w := by
  unfold placesOf at h
  rw [h1] at h
  simp only at h
  split at h
  · rename_i hall
    cases h
    have : ∀ (l : List Field), l.all (fun f => (P.info? f.type).isSome) = true → (l.mapM fun f => (do pure (f.offset, ← sizeOf f.type) : Sem (Nat × Nat))).run P w = .ok (l.map fun f => (f.offset, P.cellsOf f.type)) w := by
      intro l
      induction l with
      | nil => intro _; rfl
      | cons f l ih =>
        intro hl
        simp only [List.all_cons, Bool.and_eq_true] at hl
        obtain ⟨i, hi⟩ := Option.isSome_iff_exists.1 hl.1
        have hsz : (sizeOf f.type).run P w = .ok i.size w := by simp [sizeOf, typeInfo, hi]
        have hcs : P.cellsOf f.type = i.size := by simp [Program.cellsOf, hi]
        rw [List.mapM_cons]
        simp only [Sem.run_bind, hsz, Result.andThen_ok, Sem.run_pure, ih hl.2, List.map_cons, hcs]
    have h2 := this fs.toList hall
    rw [Array.mapM_eq_mapM_toList]
    show Sem.run P (fs.toList.mapM (fun f => (do pure (f.offset, ← sizeOf f.type) : Sem (Nat × Nat))) >>= fun l => pure l.toArray) w = _
    rw [Sem.run_bind, h2]
    rfl
  · cases h
theorem sound_build {T : TypeId} {parts : Array (Nat × Operand)} {zs : List Value} {pl : List (Nat × Nat)} {ps : List (Nat × List B)} {bs : List B} (hop : o.op = .build T parts) (hz : zeroCells P T = some zs) (hpl : placesOf P T = some pl) (hps : partsB st parts.toList = some ps) (hf : fillB (fun i => pl[i]?) (zs.map fun v => .d (.pv v)) ps = some bs) :
    OpW P w0 n st o (.v (.agg bs)) st := fun a w R ι hs K Q hK => by
  obtain ⟨z, h1, h2, h3⟩ := run_zeroCells (w := w) hz
  have hF := partsB_ok (a := a) hs.objs hs.env hps
  obtain ⟨a', hfill, hr⟩ := fill_ok (r := RB w R ι st.dom) (a := z.cells) (by rw [h2]; exact good_F2 h3) hF hf
  have hu : ∃ fs, P.underlying T = some (.struct fs) := by
    unfold placesOf at hpl
    split at hpl
    · rename_i fs h; exact ⟨fs, h⟩
    · cases hpl
  obtain ⟨fs, hu⟩ := hu
  have hrun : (execOp a.eval o).run P w = .ok (.value (.agg a')) w := by
    unfold execOp
    rw [hop]
    simp only [Instr.build, Sem.run_bind, h1, Result.andThen_ok, run_underlying hu, run_places hu hpl, map_parts]
    have : (fun (x : Nat) => pl.toArray[x]?) = fun (i : Nat) => pl[i]? := by funext i; simp
    rw [this, hfill]
    rfl
  unfold Oper.wp
  rw [hrun, Oper.upon_value]
  exact hK _ w R ι hs ⟨a'.toList, by simp, hr⟩
theorem chunks_ok (s : Nat) : ∀ (n : Nat) (ds : List D), ds.length = n * s → (chunks s n ds).flatten = ds ∧ (∀ es ∈ chunks s n ds, es.length = s) ∧ (chunks s n ds).length = n
  | 0, ds, h => by
    have : ds = [] := List.eq_nil_of_length_eq_zero (by simpa using h)
    subst this
    simp [chunks]
  | n + 1, ds, h => by
    have hs : s ≤ ds.length := by rw [h, Nat.succ_mul]; omega
    obtain ⟨h1, h2, h3⟩ := chunks_ok s n (ds.drop s) (by rw [List.length_drop, h, Nat.succ_mul]; omega)
    refine ⟨by simp [chunks, h1], fun es he => ?_, by simp [chunks, h3]⟩
    simp only [chunks, List.mem_cons] at he
    rcases he with rfl | he
    · rw [List.length_take]; omega
    · exact h2 es he
theorem run_sliceInfo {T : TypeId} {e s by' : Nat} {zs : List Value} (h : sliceInfo P T = some (e, s, by', zs)) : P.underlying T = some (.slice e) ∧ ∃ i z, P.info? e = some i ∧ i.zero = some z ∧ i.size = s ∧ i.bytes = by' ∧ z.cells.toList = zs ∧ z.cells.size = s ∧ 0 < s ∧ zs.all goodV = true := by
  unfold sliceInfo at h
  split at h
  · rename_i e' hu
    cases hi : P.info? e' with
    | none => simp [hi] at h
    | some i =>
      cases hz : i.zero with
      | none => simp [hi, hz] at h
      | some z =>
        simp only [hi, hz, Option.bind_some] at h
        split at h
        · rename_i hc
          simp only [Option.some.injEq, Prod.mk.injEq] at h
          obtain ⟨rfl, rfl, rfl, rfl⟩ := h
          simp only [Bool.and_eq_true, beq_iff_eq, decide_eq_true_eq] at hc
          exact ⟨hu, i, z, hi, hz, rfl, rfl, rfl, hc.1.2, hc.2, hc.1.1⟩
        · cases h
  · cases h
theorem F2.dead {w : World} {R : Nat → Prop} {ι : Nat → Value} {dom : Nat → Prop} : ∀ (vs : List Value), F2 (RB w R ι dom) vs (List.replicate vs.length .dead)
  | [] => .nil
  | _ :: vs => .cons trivial (F2.dead vs)
/-- A new array of the call's own. -/
theorem arr_new {w : World} {R : Nat → Prop} {N0 : Nat} {vs : List Value} {ds : List D} {e s len : Nat} (hN : N0 ≤ w.heap.size) (hR : ∀ b, R b → b < w.heap.size) (hl : len ≤ maxLen) (hf : F2 (RD w R) vs ds) (hds : ds.length = len * s) :
    RArr N0 (w.alloc (.cells vs.toArray e)) R (.slice (some ⟨w.heap.size, 0, none⟩) len len) e s (chunks s len ds) := by
  obtain ⟨h1, h2, h3⟩ := chunks_ok s len ds hds
  have hb : Below w.heap.size w (w.alloc (.cells vs.toArray e)) := (Below.refl _ _).alloc (Nat.le_refl _) _
  have hvl := hf.len
  refine ⟨h2, vs, ⟨by rw [h3]; omega, .inr ⟨w.heap.size, len, vs.toArray, by rw [h3], hN, alloc_new_at _ _, by omega, hl, by simp; omega, by rw [List.toList_toArray, List.take_of_length_le (by rw [h3]; omega)]⟩⟩, ?_, fun g hg hr => ?_⟩
  · rw [h1]
    exact hf.mono fun _ _ h => RD.keep (fun _ h => h) (fun b hb' => hb.block b (hR b hb')) h
  · simp only [Value.ownBlock, Option.some.injEq] at hg
    have := hR g hr
    omega
theorem sound_buildSlice {T : TypeId} {len d e s by' : Nat} {parts : Array (Nat × Operand)} {zs : List Value} {ps : List (Nat × List B)} {bs : List B} {ds : List D} (hop : o.op = .buildSlice T len parts) (hn : st.objs d = none) (hT : sliceInfo P T = some (e, s, by', zs)) (hlen : len ≤ 65536) (hls : len * s ≤ 16777216) (hps : partsB st parts.toList = some ps)
    (hf : fillB (fun i => some (i * s, s)) (List.replicate (len * s) .dead) ps = some bs) (hds : dsOf bs = some ds) :
    OpW P w0 n st o (.v (.c (.own d))) ⟨st.env, upd st.objs d (some (.arr e s (chunks s len ds)))⟩ := fun a w R ι hs K Q hK => by
  obtain ⟨hu, i, z, hi, hz, hsz, hby, hzs, hzl, hs0, hg⟩ := run_sliceInfo hT
  have hF := partsB_ok (a := a) hs.objs hs.env hps
  obtain ⟨cs, hcs, hcr⟩ : ∃ cs : Array Value, (len * s = 0 ∧ cs = #[] ∨ len * s ≠ 0 ∧ cs = (Array.range (len * s)).map (z.cells[· % z.cells.size]!)) ∧ F2 (RB w R ι st.dom) cs.toList (List.replicate (len * s) .dead) := by
    by_cases h0 : len * s = 0
    · exact ⟨#[], .inl ⟨h0, rfl⟩, by rw [h0]; exact .nil⟩
    · refine ⟨_, .inr ⟨h0, rfl⟩, ?_⟩
      have := F2.dead (w := w) (R := R) (ι := ι) (dom := st.dom) ((Array.range (len * s)).map (z.cells[· % z.cells.size]!)).toList
      simpa using this
  obtain ⟨a', hfill, hr⟩ := fill_ok (r := RB w R ι st.dom) hcr hF hf
  have hD := dsOf_ok hr hds
  have hlen' : ds.length = len * s := by
    have h1 := hD.len
    have h2 : a'.size = cs.size := by
      have : ∀ (parts : List (Nat × Value)) (place : Nat → Option (Nat × Nat)) (c c' : Array Value), Instr.fill place c parts = some c' → c'.size = c.size := by
        intro parts place
        induction parts with
        | nil => intro c c' h; simp only [Instr.fill, Option.some.injEq] at h; rw [h]
        | cons p rest ih =>
          intro c c' h
          obtain ⟨i, v⟩ := p
          simp only [Instr.fill] at h
          split at h
          · cases h
          · split at h
            · cases h
            · rw [ih _ _ h]
              rename_i off size _ _
              rw [← Array.foldl_toList]
              have : ∀ (l : List (Value × Nat)) (c : Array Value), (l.foldl (fun cs (x : Value × Nat) => cs.setIfInBounds (off + x.2) x.1) c).size = c.size := by
                intro l
                induction l with
                | nil => intro c; rfl
                | cons x l ih => intro c; simp only [List.foldl_cons]; rw [ih]; simp
              exact this _ _
      exact this _ _ _ _ hfill
    have h3 := hcr.len
    simp only [Array.length_toList, List.length_replicate] at h1 h3
    omega
  have hrun : (execOp a.eval o).run P w = .ok (.value (.slice (some ⟨w.heap.size, 0, none⟩) len len)) (w.alloc (.cells a'.toList.toArray e)) := by
    unfold execOp
    rw [hop]
    have hzr : (zeroValue e).run P w = .ok z w := by simp [zeroValue, typeInfo, hi, hz]
    have hsr : (sizeOf e).run P w = .ok s w := by simp [sizeOf, typeInfo, hi, hsz]
    simp only [Instr.buildSlice, Sem.run_bind, run_underlying hu, Result.andThen_ok, hsr, map_parts]
    rw [if_neg (by omega)]
    rcases hcs with ⟨h0, rfl⟩ | ⟨h0, rfl⟩
    · have e0 : (Array.range 0).map (fun x => (#[] : Array Value)[x % (#[] : Array Value).size]!) = #[] := by apply Array.ext'; simp
      simp only [h0, if_true, Sem.run_bind, Sem.run_pure, Result.andThen_ok]
      rw [e0, hfill]
      simp only [newRow, Sem.run_bind, run_newObj, Result.andThen_ok, Sem.run_pure, Array.toArray_toList]
      rfl
    · rw [if_neg h0]
      simp only [Sem.run_bind, hzr, Sem.run_pure, Result.andThen_ok]
      rw [hfill]
      simp only [newRow, Sem.run_bind, run_newObj, Result.andThen_ok, Sem.run_pure, Array.toArray_toList]
      rfl
  unfold Oper.wp
  rw [hrun, Oper.upon_value]
  have hb : Below w.heap.size w (w.alloc (.cells a'.toList.toArray e)) := (Below.refl _ _).alloc (Nat.le_refl _) _
  refine hK _ _ R (upd ι d (.slice (some ⟨w.heap.size, 0, none⟩) len len)) (hs.new hn hb (arr_new hs.below.size hs.rlt (by unfold maxLen; omega) hD hlen') (fun g hg => by simp [blk] at hg; omega)) ⟨⟨_, upd_same _ _ _⟩, (upd_same _ _ _).symm⟩
end
end Go.Proofs.Ythgdccokpgaicaa
