/- More operations: whether two structs are alike, whether a slice is nil, bytes as a string. No program is named here. -/
import Derived.Test.YtlblmofimjhbbaaDoorY15
import Derived.Test.YtlblmofimjhbbaaDoorY12
import Derived.Laws.StructEq
import Derived.Laws.BytesString
import Derived.Laws.Cover3
import Derived.Laws.Pointers
namespace Go.Proofs.YtlblmofimjhbbaaDoor
open Go.RowKit
/-- What a cell of a plain struct is. -/
inductive Kd where
  | b
  | i (k : IntKind)
  | s
def isSt (P : Program) (T : TypeId) : Bool := match P.underlying T with | some (.struct _) => true | _ => false
def kdsF (P : Program) (f : Field) (off m : Nat) : Bool := f.name != "_" && f.offset == off && decide (0 < m) && (match tyInfo P f.type with | some (ag, n) => (ag == isSt P f.type) && n == m | none => false)
def kdsL (P : Program) (go : TypeId → Option (List Kd)) : List Field → Nat → Option (List Kd)
  | [], _ => some []
  | f :: fs, off => match go f.type with
    | none => none
    | some ks => if kdsF P f off ks.length = true then (kdsL P go fs (off + ks.length)).map (ks ++ ·) else none
def kdsOf (P : Program) : Nat → TypeId → Option (List Kd)
  | 0, _ => none
  | d + 1, T => match P.underlying T with
    | some .bool => some [.b]
    | some (.int k) => some [.i k]
    | some .string => some [.s]
    | some (.struct fs) => if P.stoodInHeld T then none else kdsL P (kdsOf P d) fs.toList 0
    | _ => none
def eqTy (P : Program) (T : TypeId) : Option (List Kd) := if P.eqGuardType P.depth T then none else if isSt P T then kdsOf P 6 T else none
def fitK : List Kd → List Value → Bool
  | [], [] => true
  | .b :: ks, .bool _ :: vs => fitK ks vs
  | .i k :: ks, .int k' _ :: vs => decide (k = k') && fitK ks vs
  | .s :: ks, .string _ :: vs => fitK ks vs
  | _, _ => false
def eqV : Value → Value → Bool
  | .bool a, .bool b => decide (a = b)
  | .int _ a, .int _ b => decide (a = b)
  | .string a, .string b => decide (a = b)
  | _, _ => false
def eqVs : List Value → List Value → Bool
  | [], [] => true
  | a :: as, b :: bs => eqV a b && eqVs as bs
  | _, _ => false
theorem fitK_cons {k : Kd} {ks : List Kd} {vs : List Value} (h : fitK (k :: ks) vs = true) : ∃ v us, vs = v :: us ∧ fitK [k] [v] = true ∧ fitK ks us = true := by
  cases vs with
  | nil => cases k <;> simp [fitK] at h
  | cons v us =>
    refine ⟨v, us, rfl, ?_⟩
    cases k <;> cases v <;> simp_all [fitK]
theorem fitK_len : ∀ {ks : List Kd} {vs : List Value}, fitK ks vs = true → vs.length = ks.length
  | [], [], _ => rfl
  | [], _ :: _, h => by simp [fitK] at h
  | k :: ks, vs, h => by
    obtain ⟨v, us, rfl, _, h2⟩ := fitK_cons h
    simp [fitK_len h2]
theorem fitK_split : ∀ {ks ks' : List Kd} {vs : List Value}, fitK (ks ++ ks') vs = true → fitK ks (vs.take ks.length) = true ∧ fitK ks' (vs.drop ks.length) = true
  | [], ks', vs, h => ⟨by simp [fitK], by simpa using h⟩
  | k :: ks, ks', vs, h => by
    obtain ⟨v, us, rfl, h1, h2⟩ := fitK_cons (ks := ks ++ ks') h
    obtain ⟨h3, h4⟩ := fitK_split h2
    refine ⟨?_, by simpa using h4⟩
    simp only [List.length_cons, List.take_succ_cons]
    cases k <;> cases v <;> simp_all [fitK]
theorem eqVs_append : ∀ {as as' bs bs' : List Value}, as.length = bs.length → eqVs (as ++ as') (bs ++ bs') = (eqVs as bs && eqVs as' bs')
  | [], _, [], _, _ => by simp [eqVs]
  | a :: as, _, b :: bs, _, h => by
    simp only [List.cons_append, eqVs, eqVs_append (as := as) (bs := bs) (by simpa using h), Bool.and_assoc]
  | [], _, _ :: _, _, h => by simp at h
  | _ :: _, _, [], _, h => by simp at h
def valOf (st : Bool) (cs : List Value) : Value := if st then .agg cs.toArray else cs.headD undef
section
variable {P : Program} {w : World}
theorem run_part_of {T : TypeId} {ag : Bool} {n off : Nat} {cs : List Value} (hT : tyInfo P T = some (ag, n)) (hn : 0 < n) (hl : off + n ≤ cs.length) : (part T cs.toArray off).run P w = .ok (valOf ag ((cs.drop off).take n)) w := by
  obtain ⟨r1, r2⟩ := run_tyInfo (w := w) hT
  cases ag with
  | true =>
    simp only [part, Sem.run_bind, r1, Result.andThen_ok, if_true, r2, Sem.run_pure, valOf]
    congr 1
    simp [List.extract_toArray, List.take_drop]
  | false =>
    have he : cs[off]? = some (cs[off]'(by omega)) := List.getElem?_eq_getElem (by omega)
    simp only [part, Sem.run_bind, r1, Result.andThen_ok, Bool.false_eq_true, if_false, List.getElem?_toArray, he, Sem.run_pure, valOf]
    congr 1
    rw [List.drop_eq_getElem_cons (by omega)]
    obtain ⟨m, rfl⟩ : ∃ m, n = m + 1 := ⟨n - 1, by omega⟩
    rfl
theorem eqFields_ok {go : TypeId → Option (List Kd)} {m : Nat} (hgo : ∀ T ks, go T = some ks → ∀ as bs, fitK ks as = true → fitK ks bs = true → (Op.equalIn m T (valOf (isSt P T) as) (valOf (isSt P T) bs)).run P w = .ok (eqVs as bs) w) :
    ∀ (fs : List Field) (off : Nat) (ks : List Kd), kdsL P go fs off = some ks → ∀ as bs : List Value, fitK ks (as.drop off) = true → fitK ks (bs.drop off) = true → (Op.eqFields m as.toArray bs.toArray fs).run P w = .ok (eqVs (as.drop off) (bs.drop off)) w
  | [], off, ks, h, as, bs, h1, h2 => by
    cases h
    have e1 : as.drop off = [] := List.eq_nil_of_length_eq_zero (fitK_len h1)
    have e2 : bs.drop off = [] := List.eq_nil_of_length_eq_zero (fitK_len h2)
    rw [e1, e2]
    simp [Op.eqFields, eqVs, Sem.run_pure]
  | f :: fs, off, ks, h, as, bs, h1, h2 => by
    simp only [kdsL] at h
    split at h
    · cases h
    · rename_i k1 hk1
      split at h
      · rename_i hc
        simp only [kdsF, Bool.and_eq_true, bne_iff_ne, beq_iff_eq, decide_eq_true_eq] at hc
        obtain ⟨⟨⟨c1, c2⟩, c3⟩, c4⟩ := hc
        split at c4
        · rename_i ag n hT
          simp only [Bool.and_eq_true, beq_iff_eq] at c4
          obtain ⟨rfl, rfl⟩ := c4
          rw [Option.map_eq_some_iff] at h
          obtain ⟨k2, hk2, rfl⟩ := h
          obtain ⟨a1, a2⟩ := fitK_split h1
          obtain ⟨b1, b2⟩ := fitK_split h2
          have la := fitK_len a1
          have lb := fitK_len b1
          rw [List.length_take, List.length_drop] at la lb
          rw [List.drop_drop] at a2 b2
          have ih := eqFields_ok hgo fs (off + k1.length) k2 hk2 as bs a2 b2
          simp only [Op.eqFields, c1, ne_eq, not_false_eq_true, if_true, Sem.run_bind, c2, run_part_of hT c3 (show off + k1.length ≤ as.length by omega), run_part_of hT c3 (show off + k1.length ≤ bs.length by omega), Result.andThen_ok, hgo _ _ hk1 _ _ a1 b1, Sem.run_ite]
          have e : eqVs (as.drop off) (bs.drop off) = (eqVs ((as.drop off).take k1.length) ((bs.drop off).take k1.length) && eqVs (as.drop (off + k1.length)) (bs.drop (off + k1.length))) := by
            rw [← eqVs_append (by rw [List.length_take, List.length_take, List.length_drop, List.length_drop]; omega), ← List.drop_drop, ← List.drop_drop, List.take_append_drop, List.take_append_drop]
          rw [e]
          cases hb : eqVs ((as.drop off).take k1.length) ((bs.drop off).take k1.length) with
          | false => simp [Sem.run_pure]
          | true => simpa using ih
        · exact absurd c4 Bool.false_ne_true
      · cases h
theorem eq_ok : ∀ (d : Nat) (T : TypeId) (ks : List Kd), kdsOf P d T = some ks → ∀ m, d ≤ m → ∀ as bs, fitK ks as = true → fitK ks bs = true → (Op.equalIn m T (valOf (isSt P T) as) (valOf (isSt P T) bs)).run P w = .ok (eqVs as bs) w
  | 0, _, _, h, _, _, _, _, _, _ => by cases h
  | d + 1, T, ks, h, 0, hm, _, _, _, _ => by omega
  | d + 1, T, ks, h, m + 1, hm, as, bs, h1, h2 => by
    unfold kdsOf at h
    split at h
    · rename_i hu
      cases h
      have hst : isSt P T = false := by unfold isSt; rw [hu]
      obtain ⟨a, as', rfl, a1, a2⟩ := fitK_cons h1
      obtain ⟨b, bs', rfl, b1, b2⟩ := fitK_cons h2
      obtain rfl := List.eq_nil_of_length_eq_zero (fitK_len a2)
      obtain rfl := List.eq_nil_of_length_eq_zero (fitK_len b2)
      rw [hst]
      cases a <;> simp [fitK] at a1
      cases b <;> simp [fitK] at b1
      rename_i x y
      refine (run_equalIn_bool w m T x y hu).trans ?_
      cases x <;> cases y <;> rfl
    · rename_i k hu
      cases h
      have hst : isSt P T = false := by unfold isSt; rw [hu]
      obtain ⟨a, as', rfl, a1, a2⟩ := fitK_cons h1
      obtain ⟨b, bs', rfl, b1, b2⟩ := fitK_cons h2
      obtain rfl := List.eq_nil_of_length_eq_zero (fitK_len a2)
      obtain rfl := List.eq_nil_of_length_eq_zero (fitK_len b2)
      rw [hst]
      cases a <;> simp [fitK] at a1
      cases b <;> simp [fitK] at b1
      rename_i k1 x k2 y
      subst a1; subst b1
      refine (run_equalIn_int w m T k k x y hu).trans ?_
      simp only [eqVs, eqV, Bool.and_true]
      rfl
    · rename_i hu
      cases h
      have hst : isSt P T = false := by unfold isSt; rw [hu]
      obtain ⟨a, as', rfl, a1, a2⟩ := fitK_cons h1
      obtain ⟨b, bs', rfl, b1, b2⟩ := fitK_cons h2
      obtain rfl := List.eq_nil_of_length_eq_zero (fitK_len a2)
      obtain rfl := List.eq_nil_of_length_eq_zero (fitK_len b2)
      rw [hst]
      cases a <;> simp [fitK] at a1
      cases b <;> simp [fitK] at b1
      rename_i x y
      have : (Op.equalIn (m + 1) T (.string x) (.string y)).run P w = .ok (x == y) w := by simp [Op.equalIn, run_underlying hu]
      refine this.trans ?_
      simp only [eqVs, eqV, Bool.and_true]
      congr 1
      obtain ⟨⟨x⟩⟩ := x
      obtain ⟨⟨y⟩⟩ := y
      rw [Bool.eq_iff_iff]
      show ((⟨x⟩ : Array UInt8) == ⟨y⟩) = true ↔ _
      simp
    · rename_i fs hu
      have hst : isSt P T = true := by unfold isSt; rw [hu]
      split at h
      · cases h
      · rename_i hp
        have hf : P.fieldsOf T = fs := by unfold Program.fieldsOf; rw [hu]
        rw [hst]
        simp only [valOf, if_true]
        rw [run_equalIn_struct w m T _ _ (by rw [hf]; exact hu) (by simpa using hp), hf]
        simpa using eqFields_ok (fun T ks h as bs h1 h2 => eq_ok d T ks h m (by omega) as bs h1 h2) fs.toList 0 ks h as bs (by simpa using h1) (by simpa using h2)
    · cases h
end
theorem partsB_okS {w : World} {R : Nat → Prop} {ι : Nat → Value} {φ : Nat → List Nat} {a : Act} {st : St} (ho : ∀ p y, st.objs p = some y → RO w R ι st.dom (ι p) (φ p) y) : ∀ {parts : List (Nat × Operand)} {ps : List (Nat × List B)}, (∀ p ∈ parts, RA w R ι st.dom (a.eval p.2) (ev st.env p.2)) → partsB st parts = some ps →
    F2 (fun (p : Nat × Value) (q : Nat × List B) => p.1 = q.1 ∧ F2 (RB w R ι st.dom) p.2.cells.toList q.2) (parts.map fun x => (x.1, a.eval x.2)) ps
  | [], _, _, h => by simp only [partsB, Option.some.injEq] at h; subst h; exact .nil
  | (i, x) :: rest, ps, he, h => by
    simp only [partsB] at h
    split at h
    · rename_i v1 ps' e1 e2
      split at h
      · rename_i cs hc
        cases h
        have hv := he (i, x) (by simp)
        rw [e1] at hv
        exact .cons ⟨rfl, cellsV_ok ho hv hc⟩ (partsB_okS ho (fun p hp => he p (by simp [hp])) e2)
      · cases h
    · cases h
/-- Cells that are told as values. -/
def pvs : List B → Option (List Value)
  | [] => some []
  | .d (.pv v) :: bs => (pvs bs).map (v :: ·)
  | _ :: _ => none
theorem pvs_ok {w : World} {R : Nat → Prop} {ι : Nat → Value} {dom : Nat → Prop} : ∀ {vs : List Value} {cs : List B} {as : List Value}, F2 (RB w R ι dom) vs cs → pvs cs = some as → vs = as
  | _, _, as, .nil, h => by cases h; rfl
  | _, _, as, .cons (b := b) h1 h2, h => by
    cases b with
    | d x =>
      cases x with
      | pv v =>
        simp only [pvs, Option.map_eq_some_iff] at h
        obtain ⟨us, h3, rfl⟩ := h
        have h1 : RD w R _ (.pv v) := h1
        cases h1 with
        | pv _ _ => rw [pvs_ok h2 h3]
      | _ => cases h
    | _ => cases h
/-- Cells that are told as data. -/
def dsB : List B → Option (List D)
  | [] => some []
  | .d x :: bs => (dsB bs).map (x :: ·)
  | _ :: _ => none
theorem dsB_ok {w : World} {R : Nat → Prop} {ι : Nat → Value} {dom : Nat → Prop} : ∀ {vs : List Value} {bs : List B} {ds : List D}, F2 (RB w R ι dom) vs bs → dsB bs = some ds → F2 (RD w R) vs ds
  | _, _, _, .nil, h => by cases h; exact .nil
  | _, _, _, .cons (b := b) h1 h2, h => by
    cases b with
    | d x =>
      simp only [dsB, Option.map_eq_some_iff] at h
      obtain ⟨us, h3, rfl⟩ := h
      exact .cons h1 (dsB_ok h2 h3)
    | _ => cases h
def nilK (objs : Nat → Option Ob) : B → Option Bool
  | .d (.pv (.slice none 0 0)) => some true
  | .d (.rd _ (_ :: _)) => some false
  | .own o => match objs o with
    | some (.arr _ (_ :: _) _) => some false
    | _ => none
  | _ => none
/-- Bytes. -/
def enB8 (n : Int) : List D := [.pv (.int .u8 n)]
def bsOf (l : List Int) : ByteArray := ⟨(l.map fun n => UInt8.ofNat n.toNat).toArray⟩
theorem bs_fold : ∀ (l : List Int) (r : ByteArray), l.foldl (fun r n => r.push (UInt8.ofNat n.toNat)) r = ⟨r.data ++ (l.map fun n => UInt8.ofNat n.toNat).toArray⟩
  | [], r => by cases r; simp
  | n :: l, r => by
    rw [List.foldl_cons, bs_fold l]
    congr 1
    show (r.data.push _) ++ _ = _
    simp
theorem bsOf_fold (l : List Int) : l.foldl (fun r n => r.push (UInt8.ofNat n.toNat)) ByteArray.empty = bsOf l := by
  rw [bs_fold]; simp [bsOf]
theorem bsOf_size (l : List Int) : (bsOf l).size = l.length := by simp [bsOf, ByteArray.size]
section
variable {P : Program} {F : Fx} {st : St} {o : Oper}
theorem sound_buildS {T : TypeId} {parts : Array (Nat × Operand)} {zs : List Value} {pl : List (Nat × Nat)} {ps : List (Nat × List B)} {bs : List B} (hop : o.op = .build T parts) (hz : zeroCells P T = some zs) (hpl : placesOf P T = some pl) (hps : partsB st parts.toList = some ps) (hf : fillB (fun i => pl[i]?) (zs.map fun v => .d (.pv v)) ps = some bs) : OpS P st o (.v (.agg bs)) :=
  OpS.value fun a w R ι φ ho hxs => by
    obtain ⟨z, h1, h2, h3⟩ := run_zeroCells (w := w) hz
    have hF := partsB_okS (a := a) ho.1 (parts := parts.toList) (fun p hp => hxs p.2 (by simp only [hop, Op.operands]; simp; exact ⟨p.1, by simpa using hp⟩)) hps
    obtain ⟨a', hfill, hr⟩ := fill_ok (r := RB w R ι st.dom) (a := z.cells) (by rw [h2]; exact good_F2 h3) hF hf
    have hu : ∃ fs, P.underlying T = some (.struct fs) := by
      unfold placesOf at hpl
      split at hpl
      · rename_i fs h; exact ⟨fs, h⟩
      · cases hpl
    obtain ⟨fs, hu⟩ := hu
    refine ⟨.agg a', ?_, a'.toList, by simp, hr⟩
    unfold execOp
    rw [hop]
    simp only [Instr.build, Sem.run_bind, h1, Result.andThen_ok, run_underlying hu, run_places hu hpl, map_parts]
    have : (fun (x : Nat) => pl.toArray[x]?) = fun (i : Nat) => pl[i]? := by funext i; simp
    rw [this, hfill]
    rfl
/-- A slice of what is known, told as data. -/
theorem sound_bslS {T : TypeId} {len : Nat} {κ : Ky} {by' : Nat} {parts : Array (Nat × Operand)} {zs : List Value} {pl : List (Nat × List B)} {bs : List B} {ds : List D} (hop : o.op = .buildSlice T len parts) (hT : sliceInfo P T = some (κ, by', zs)) (hlen : len ≤ 65536) (hls : len * κ.k ≤ 16777216) (hps : partsB st parts.toList = some pl)
    (hf : fillB (fun i => some (i * κ.k, κ.k)) (List.replicate (len * κ.k) .dead) pl = some bs) (hab : dsB bs = some ds) : OpS P st o (rdA κ (chunks κ.k len ds)) := fun a w R ι φ hl ho hxs K Q hK => by
  obtain ⟨hu, i, z, hi, hz, hsz, hby, hzs, hzl, hs0, hg⟩ := run_sliceInfo hT
  have hF := partsB_okS (a := a) ho.1 (parts := parts.toList) (fun p hp => hxs p.2 (by simp only [hop, Op.operands]; simp; exact ⟨p.1, by simpa using hp⟩)) hps
  obtain ⟨cs, hcs, hcr⟩ : ∃ cs : Array Value, (len * κ.k = 0 ∧ cs = #[] ∨ len * κ.k ≠ 0 ∧ cs = (Array.range (len * κ.k)).map (z.cells[· % z.cells.size]!)) ∧ F2 (RB w R ι st.dom) cs.toList (List.replicate (len * κ.k) .dead) := by
    by_cases h0 : len * κ.k = 0
    · exact ⟨#[], .inl ⟨h0, rfl⟩, by rw [h0]; exact .nil⟩
    · refine ⟨_, .inr ⟨h0, rfl⟩, ?_⟩
      have := F2.dead (w := w) (R := R) (ι := ι) (dom := st.dom) ((Array.range (len * κ.k)).map (z.cells[· % z.cells.size]!)).toList
      simpa using this
  obtain ⟨a', hfill, hr⟩ := fill_ok (r := RB w R ι st.dom) hcr hF hf
  have hU := dsB_ok hr hab
  have hlen' : ds.length = len * κ.k := by
    have h1 := hU.len
    have h2 : a'.size = cs.size := fill_size _ _ _ _ hfill
    have h3 := hcr.len
    simp only [Array.length_toList, List.length_replicate] at h1 h3
    omega
  have hrun : (execOp a.eval o).run P w = .ok (.value (.slice (some ⟨w.heap.size, 0, none⟩) len len)) (w.alloc (.cells a'.toList.toArray κ.e)) := by
    unfold execOp
    rw [hop]
    have hzr : (zeroValue κ.e).run P w = .ok z w := by simp [zeroValue, typeInfo, hi, hz]
    have hsr : (sizeOf κ.e).run P w = .ok κ.k w := by simp [sizeOf, typeInfo, hi, hsz]
    simp only [Instr.buildSlice, Sem.run_bind, run_underlying hu, Result.andThen_ok, hsr, map_parts]
    rw [if_neg (by omega)]
    rcases hcs with ⟨h0, rfl⟩ | ⟨h0, rfl⟩
    · have e0 : (Array.range 0).map (fun x => (#[] : Array Value)[x % (#[] : Array Value).size]!) = #[] := by apply Array.ext'; simp
      simp only [h0, if_true, Sem.run_bind, Sem.run_pure, Result.andThen_ok]
      rw [e0, hfill]
      simp only [newRow, Sem.run_bind, run_newObj, Result.andThen_ok, Sem.run_pure, Array.toArray_toList]
      rfl
    · rw [if_neg h0]
      simp only [Sem.run_bind, hzr, Sem.run_pure, Result.andThen_ok]
      rw [hfill]
      simp only [newRow, Sem.run_bind, run_newObj, Result.andThen_ok, Sem.run_pure, Array.toArray_toList]
      rfl
  unfold Oper.wp
  rw [hrun, Oper.upon_value]
  have hb : Below w.heap.size w (w.alloc (.cells a'.toList.toArray κ.e)) := (Below.refl _ _).alloc (Nat.le_refl _) _
  obtain ⟨c1, c2, c3⟩ := chunks_ok κ.k len ds hlen'
  have hal : a'.size = len * κ.k := by have := hU.len; simp at this; omega
  refine hK _ _ (fun b => R b ∨ b = w.heap.size) hb (fun b h => .inl h) (fun b h => ?_) (fun b h hlt => h.resolve_right (by omega)) ?_
  · rcases h with h | h
    · exact Nat.lt_of_lt_of_le (hl b h) hb.size
    · subst h; simp
  · refine rd_of_row c2 (us := a'.toList) ?_ ?_ (fun g hg => ?_)
    · rw [c3]
      exact ⟨by simpa using hal, .inr ⟨w.heap.size, len, _, rfl, Nat.zero_le _, alloc_new_at _ _, Nat.le_refl _, by unfold maxLen; omega, by simpa using hal, by rw [List.toList_toArray, List.take_of_length_le (by simp; omega)]⟩⟩
    · rw [c1]
      exact hU.mono fun _ _ h => RD.keep (fun b h => .inl h) (fun b h => hb.block b (hl b h)) h
    · simp [Value.ownBlock] at hg
      exact .inr hg.symm
theorem sound_eqs {op : BinOp} {neg : Bool} {T T' : TypeId} {x y : Operand} {ks : List Kd} {cs cs' : List B} {as bs : List Value} (hop : o.op = .binOp op T x y T') (hn : (op = .eql ∧ neg = false) ∨ (op = .neq ∧ neg = true)) (hT : eqTy P T = some ks) (hx : ev st.env x = .v (.agg cs)) (hy : ev st.env y = .v (.agg cs')) (h1 : pvs cs = some as) (h2 : pvs cs' = some bs) (h3 : fitK ks as = true) (h4 : fitK ks bs = true) :
    OpS P st o (pvA (.bool (if neg then !(eqVs as bs) else eqVs as bs))) :=
  OpS.value fun a w R ι φ _ hxs => by
    have q1 := hxs x (by simp [hop, Op.operands])
    have q2 := hxs y (by simp [hop, Op.operands])
    rw [hx] at q1; rw [hy] at q2
    obtain ⟨us, e1, f1⟩ := q1
    obtain ⟨us', e2, f2⟩ := q2
    obtain rfl := pvs_ok f1 h1
    obtain rfl := pvs_ok f2 h2
    refine ⟨_, ?_, RA.of_pv rfl trivial⟩
    unfold eqTy at hT
    split at hT
    · cases hT
    · rename_i hg
      split at hT
      · rename_i hst
        have hr := eq_ok (w := w) 6 T ks hT 10000 (by omega) us us' h3 h4
        rw [hst] at hr
        simp only [valOf, if_true] at hr
        have hg' : P.eqGuardType P.depth T = false := by simpa using hg
        unfold execOp
        rw [hop]
        rcases hn with ⟨rfl, rfl⟩ | ⟨rfl, rfl⟩
        · simp only [e1, e2, Sem.run_bind, run_eqGuard_agg w .eql T x y us.toArray us'.toArray hg', Result.andThen_ok, run_eql_struct, hr, Sem.run_pure]
          rfl
        · simp only [e1, e2, Sem.run_bind, run_eqGuard_agg w .neq T x y us.toArray us'.toArray hg', Result.andThen_ok, run_neq_struct, hr, Sem.run_pure]
          rfl
      · cases hT
theorem run_isn {w : World} {op : BinOp} {neg : Bool} {T T' e : TypeId} {x : Operand} {a : Act} {b : Option Addr} {n c : Nat} (hop : o.op = .binOp op T x (.const (.slice none 0 0)) T') (hn : (op = .eql ∧ neg = false) ∨ (op = .neq ∧ neg = true)) (hT : P.underlying T = some (.slice e)) (hx : a.eval x = .slice b n c) : (execOp a.eval o).run P w = .ok (.value (.bool (if neg then !b.isNone else b.isNone))) w := by
  unfold execOp
  rw [hop]
  have h2 : a.eval (.const (.slice none 0 0)) = .slice none 0 0 := rfl
  rcases hn with ⟨rfl, rfl⟩ | ⟨rfl, rfl⟩
  · simp only [hx, h2, Sem.run_bind, eqGuard, binOp, run_equal_slice_nil w T e b n c hT, Result.andThen_ok, Sem.run_pure, Bool.not_true, Bool.false_eq_true, if_false]
  · simp only [hx, h2, Sem.run_bind, eqGuard, binOp, run_equal_slice_nil w T e b n c hT, Result.andThen_ok, Sem.run_pure, Bool.not_true, Bool.false_eq_true, if_false, if_true]
theorem nilK_ok {w : World} {R : Nat → Prop} {ι : Nat → Value} {φ : Nat → List Nat} (ho : ObjsOk w R ι φ st.objs) {v : Value} {b : B} {t : Bool} (hv : RB w R ι st.dom v b) (h : nilK st.objs b = some t) : ∃ ad n c, v = .slice ad n c ∧ ad.isNone = t := by
  unfold nilK at h
  split at h
  · cases h
    have hv : RD w R v (.pv (.slice none 0 0)) := hv
    cases hv with
    | pv _ _ => exact ⟨none, 0, 0, rfl, rfl⟩
  · cases h
    have hv : RD w R v _ := hv
    cases hv with
    | rd c h0 h1 h2 => exact ⟨_, _, _, rfl, rfl⟩
  · rename_i p
    split at h
    · rename_i κ y ys hs hob
      cases h
      obtain ⟨_, vs, S1, hown, _⟩ := ho.1 _ _ hob
      rcases hown.2 with ⟨_, h0⟩ | ⟨g, cap, cur, e, _⟩
      · simp at h0
      · exact ⟨_, _, _, hv.2.trans e, rfl⟩
    · cases h
  · cases h
theorem sound_isn {op : BinOp} {neg t : Bool} {T T' e : TypeId} {x : Operand} {b : B} (hop : o.op = .binOp op T x (.const (.slice none 0 0)) T') (hn : (op = .eql ∧ neg = false) ∨ (op = .neq ∧ neg = true)) (hT : P.underlying T = some (.slice e)) (hx : ev st.env x = .v (.c b)) (ht : nilK st.objs b = some t) : OpS P st o (pvA (.bool (if neg then !t else t))) :=
  OpS.value fun a w R ι φ ho hxs => by
    have q1 := hxs x (by simp [hop, Op.operands])
    rw [hx] at q1
    obtain ⟨ad, n, c, e1, rfl⟩ := nilK_ok ho q1 ht
    exact ⟨_, run_isn hop hn hT e1, RA.of_pv rfl trivial⟩
/-- Whether it is nil is not known: both ways, and it is empty if it is. -/
theorem sound_isn2 {op : BinOp} {neg : Bool} {T T' e : TypeId} {x : Operand} {κ : Ky} {xs : List (List D)} {b : B} {K : AV → St → Prop} (hop : o.op = .binOp op T x (.const (.slice none 0 0)) T') (hn : (op = .eql ∧ neg = false) ∨ (op = .neq ∧ neg = true)) (hT : P.underlying T = some (.slice e)) (hx : ev st.env x = .v (.c b))
    (hb : b = .d (.rd κ xs) ∨ ∃ p hs, b = .own p ∧ st.objs p = some (.arr κ xs hs)) (h1 : xs = [] → K (pvA (.bool (!neg))) st) (h2 : K (pvA (.bool neg)) st) : OpK P F st o K := fun a w R ι φ hs K' Q hK => by
  have q1 := ev_ok (a := a) hs.env x
  rw [hx] at q1
  have : ∃ ad n c, a.eval x = .slice ad n c ∧ (ad = none → xs = []) := by
    rcases hb with rfl | ⟨p, hs', rfl, hob⟩
    · have q1 : RD w R _ _ := q1
      generalize a.eval x = v at q1
      cases q1 with
      | nil => exact ⟨_, _, _, rfl, fun _ => rfl⟩
      | rd c h0 h1 h2 => exact ⟨_, _, _, rfl, fun h => by cases h⟩
    · obtain ⟨_, vs, S1, hown, _⟩ := hs.objs _ _ hob
      rcases hown.2 with ⟨e1, h0⟩ | ⟨g, cap, cur, e1, _⟩
      · exact ⟨_, _, _, q1.2.trans e1, fun _ => List.eq_nil_of_length_eq_zero h0⟩
      · exact ⟨_, _, _, q1.2.trans e1, fun h => by cases h⟩
  obtain ⟨ad, n, c, e1, hnil⟩ := this
  have hr := run_isn (P := P) (w := w) hop hn hT e1
  unfold Oper.wp
  rw [hr, Oper.upon_value]
  cases ad with
  | none => exact hK _ st _ w R ι φ (h1 (hnil rfl)) hs (by cases neg <;> exact RA.of_pv rfl trivial)
  | some ad => exact hK _ st _ w R ι φ h2 hs (by cases neg <;> exact RA.of_pv rfl trivial)
theorem sound_b2s {src dst e : TypeId} {x : Operand} {b : B} {κ : Ky} {l : List Int} (hop : o.op = .convert src dst x) (hs : P.underlying src = some (.slice e)) (he : P.underlying e = some (.int .u8)) (hd : P.underlying dst = some .string) (hx : ev st.env x = .v (.c b)) (hel : elemsOf st.objs κ b = some (l.map enB8)) : OpS P st o (pvA (.string (bsOf l))) :=
  OpS.value fun a w R ι φ ho hxs => by
    have q1 := hxs x (by simp [hop, Op.operands])
    rw [hx] at q1
    obtain ⟨U, ⟨_, A, cap, e1, hA, news, hE, hc⟩, _, _, hlen⟩ := src_ok (ps := []) ho q1 hel (.inl ⟨fun es hes d hd => by obtain ⟨n, _, rfl⟩ := List.mem_map.1 hes; simp [enB8] at hd; subst hd; rfl, rfl⟩)
    rw [List.length_map] at hlen
    refine ⟨.string (bsOf l), ?_, RA.of_pv rfl (by show (bsOf l).size ≤ maxLen; rw [bsOf_size]; exact hlen)⟩
    have hn : news = l.map (Value.int .u8) := by
      have : ∀ (l : List Int) (news : List Value) (U : List Nat), ET w news (l.map enB8).flatten U → news = l.map (Value.int .u8) := fun l => by
        induction l with
        | nil => intro news U h; cases h; rfl
        | cons n l ih => intro news U h; cases h with | pv q1 q2 h2 => rw [ih _ _ h2]; rfl
      exact this l news U hE
    subst hn
    unfold execOp
    rw [hop]
    simp only [e1, Sem.run_bind]
    cases A with
    | none =>
      have hl : l = [] := by simpa using hA rfl
      subst hl
      simp [convert, run_underlying hs, run_underlying he, run_underlying hd, Conv.bytesToString]
      rfl
    | some ad =>
      have hld : (loadCells ad (l.map enB8).length).run P w = .ok (l.map (Value.int .u8)).toArray w := by
        have := run_loadCells_list (P := P) w ad (l.map (Value.int .u8)) (fun j u hu => hc ad rfl j u hu)
        simpa using this
      have h2 := run_bytesToString (P := P) w ad (l.map enB8).length cap l hld
      rw [bsOf_fold] at h2
      simp only [convert, Sem.run_bind, run_underlying hs, run_underlying he, run_underlying hd, Result.andThen_ok, h2, Sem.run_pure]
end
end Go.Proofs.YtlblmofimjhbbaaDoor
