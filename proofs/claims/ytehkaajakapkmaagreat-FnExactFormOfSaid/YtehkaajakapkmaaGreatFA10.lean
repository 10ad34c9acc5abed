/- Texts of one proof, one behind the other. -/
import Derived.Laws.StructEq
import Derived.Laws.BytesString
import Derived.Laws.Cover3
import Derived.Laws.Pointers
import Derived.Test.YtehkaajakapkmaaGreatFA07
import Derived.Test.YtehkaajakapkmaaGreatFA09
namespace Go.Proofs.YtehkaajakapkmaaGreat
section
open Go.RowKit
inductive Kd where
  | b
  | i (k : IntKind)
  | s
def isSt (P : Program) (T : TypeId) : Bool := match P.underlying T with | some (.struct _) => true | _ => false
def kdsF (P : Program) (f : Field) (off m : Nat) : Bool := f.name != "_" && f.offset == off && decide (0 < m) && (match tyInfo P f.type with | some (ag, n) => (ag == isSt P f.type) && n == m | none => false)
def kdsL (P : Program) (go : TypeId → Option (List Kd)) : List Field → Nat → Option (List Kd)
  | [], _ => some []
  | f :: fs, off => match go f.type with
    | none => none
    | some ks => if kdsF P f off ks.length = true then (kdsL P go fs (off + ks.length)).map (ks ++ ·) else none
def kdsOf (P : Program) : Nat → TypeId → Option (List Kd)
  | 0, _ => none
  | d + 1, T => match P.underlying T with
    | some .bool => some [.b]
    | some (.int k) => some [.i k]
    | some .string => some [.s]
    | some (.struct fs) => if P.stoodInHeld T then none else kdsL P (kdsOf P d) fs.toList 0
    | _ => none
def eqTy (P : Program) (T : TypeId) : Option (List Kd) := if P.eqGuardType P.depth T then none else if isSt P T then kdsOf P 6 T else none
def fitK : List Kd → List Value → Bool
  | [], [] => true
  | .b :: ks, .bool _ :: vs => fitK ks vs
  | .i k :: ks, .int k' _ :: vs => decide (k = k') && fitK ks vs
  | .s :: ks, .string _ :: vs => fitK ks vs
  | _, _ => false
def eqV : Value → Value → Bool
  | .bool a, .bool b => decide (a = b)
  | .int _ a, .int _ b => decide (a = b)
  | .string a, .string b => decide (a = b)
  | _, _ => false
def eqVs : List Value → List Value → Bool
  | [], [] => true
  | a :: as, b :: bs => eqV a b && eqVs as bs
  | _, _ => false
theorem fitK_cons {k : Kd} {ks : List Kd} {vs : List Value} (h : fitK (k :: ks) vs = true) : ∃ v us, vs = v :: us ∧ fitK [k] [v] = true ∧ fitK ks us = true := by
  cases vs with
  | nil => cases k <;> simp [fitK] at h
  | cons v us =>
    refine ⟨v, us, rfl, ?_⟩
    cases k <;> cases v <;> simp_all [fitK]
theorem fitK_len : ∀ {ks : List Kd} {vs : List Value}, fitK ks vs = true → vs.length = ks.length
  | [], [], _ => rfl
  | [], _ :: _, h => by simp [fitK] at h
  | k :: ks, vs, h => by
    obtain ⟨v, us, rfl, _, h2⟩ := fitK_cons h
    simp [fitK_len h2]
theorem fitK_split : ∀ {ks ks' : List Kd} {vs : List Value}, fitK (ks ++ ks') vs = true → fitK ks (vs.take ks.length) = true ∧ fitK ks' (vs.drop ks.length) = true
  | [], ks', vs, h => ⟨by simp [fitK], by simpa using h⟩
  | k :: ks, ks', vs, h => by
    obtain ⟨v, us, rfl, h1, h2⟩ := fitK_cons (ks := ks ++ ks') h
    obtain ⟨h3, h4⟩ := fitK_split h2
    refine ⟨?_, by simpa using h4⟩
    simp only [List.length_cons, List.take_succ_cons]
    cases k <;> cases v <;> simp_all [fitK]
theorem eqVs_append : ∀ {as as' bs bs' : List Value}, as.length = bs.length → eqVs (as ++ as') (bs ++ bs') = (eqVs as bs && eqVs as' bs')
  | [], _, [], _, _ => by simp [eqVs]
  | a :: as, _, b :: bs, _, h => by
    simp only [List.cons_append, eqVs, eqVs_append (as := as) (bs := bs) (by simpa using h), Bool.and_assoc]
  | [], _, _ :: _, _, h => by simp at h
  | _ :: _, _, [], _, h => by simp at h
def valOf (st : Bool) (cs : List Value) : Value := if st then .agg cs.toArray else cs.headD undef
section
variable {P : Program} {w : World}
theorem run_part_of {T : TypeId} {ag : Bool} {n off : Nat} {cs : List Value} (hT : tyInfo P T = some (ag, n)) (hn : 0 < n) (hl : off + n ≤ cs.length) : (part T cs.toArray off).run P w = .ok (valOf ag ((cs.drop off).take n)) w := by
  obtain ⟨r1, r2⟩ := run_tyInfo (w := w) hT
  cases ag with
  | true =>
    simp only [part, Sem.run_bind, r1, Result.andThen_ok, if_true, r2, Sem.run_pure, valOf]
    congr 1
    simp [List.extract_toArray, List.take_drop]
  | false =>
    have he : cs[off]? = some (cs[off]'(by omega)) := List.getElem?_eq_getElem (by omega)
    simp only [part, Sem.run_bind, r1, Result.andThen_ok, Bool.false_eq_true, if_false, List.getElem?_toArray, he, Sem.run_pure, valOf]
    congr 1
    rw [List.drop_eq_getElem_cons (by omega)]
    obtain ⟨m, rfl⟩ : ∃ m, n = m + 1 := ⟨n - 1, by omega⟩
    rfl
theorem eqFields_ok {go : TypeId → Option (List Kd)} {m : Nat} (hgo : ∀ T ks, go T = some ks → ∀ as bs, fitK ks as = true → fitK ks bs = true → (Op.equalIn m T (valOf (isSt P T) as) (valOf (isSt P T) bs)).run P w = .ok (eqVs as bs) w) :
    ∀ (fs : List Field) (off : Nat) (ks : List Kd), kdsL P go fs off = some ks → ∀ as bs : List Value, fitK ks (as.drop off) = true → fitK ks (bs.drop off) = true → (Op.eqFields m as.toArray bs.toArray fs).run P w = .ok (eqVs (as.drop off) (bs.drop off)) w
  | [], off, ks, h, as, bs, h1, h2 => by
    cases h
    have e1 : as.drop off = [] := List.eq_nil_of_length_eq_zero (fitK_len h1)
    have e2 : bs.drop off = [] := List.eq_nil_of_length_eq_zero (fitK_len h2)
    rw [e1, e2]
    simp [Op.eqFields, eqVs, Sem.run_pure]
  | f :: fs, off, ks, h, as, bs, h1, h2 => by
    simp only [kdsL] at h
    split at h
    · cases h
    · rename_i k1 hk1
      split at h
      · rename_i hc
        simp only [kdsF, Bool.and_eq_true, bne_iff_ne, beq_iff_eq, decide_eq_true_eq] at hc
        obtain ⟨⟨⟨c1, c2⟩, c3⟩, c4⟩ := hc
        split at c4
        · rename_i ag n hT
          simp only [Bool.and_eq_true, beq_iff_eq] at c4
          obtain ⟨rfl, rfl⟩ := c4
          rw [Option.map_eq_some_iff] at h
          obtain ⟨k2, hk2, rfl⟩ := h
          obtain ⟨a1, a2⟩ := fitK_split h1
          obtain ⟨b1, b2⟩ := fitK_split h2
          have la := fitK_len a1
          have lb := fitK_len b1
          rw [List.length_take, List.length_drop] at la lb
          rw [List.drop_drop] at a2 b2
          have ih := eqFields_ok hgo fs (off + k1.length) k2 hk2 as bs a2 b2
          simp only [Op.eqFields, c1, ne_eq, not_false_eq_true, if_true, Sem.run_bind, c2, run_part_of hT c3 (show off + k1.length ≤ as.length by omega), run_part_of hT c3 (show off + k1.length ≤ bs.length by omega), Result.andThen_ok, hgo _ _ hk1 _ _ a1 b1, Sem.run_ite]
          have e : eqVs (as.drop off) (bs.drop off) = (eqVs ((as.drop off).take k1.length) ((bs.drop off).take k1.length) && eqVs (as.drop (off + k1.length)) (bs.drop (off + k1.length))) := by
            rw [← eqVs_append (by rw [List.length_take, List.length_take, List.length_drop, List.length_drop]; omega), ← List.drop_drop, ← List.drop_drop, List.take_append_drop, List.take_append_drop]
          rw [e]
          cases hb : eqVs ((as.drop off).take k1.length) ((bs.drop off).take k1.length) with
          | false => simp [Sem.run_pure]
          | true => simpa using ih
        · exact absurd c4 Bool.false_ne_true
      · cases h
theorem eq_ok : ∀ (d : Nat) (T : TypeId) (ks : List Kd), kdsOf P d T = some ks → ∀ m, d ≤ m → ∀ as bs, fitK ks as = true → fitK ks bs = true → (Op.equalIn m T (valOf (isSt P T) as) (valOf (isSt P T) bs)).run P w = .ok (eqVs as bs) w
  | 0, _, _, h, _, _, _, _, _, _ => by cases h
  | d + 1, T, ks, h, 0, hm, _, _, _, _ => by omega
  | d + 1, T, ks, h, m + 1, hm, as, bs, h1, h2 => by
    unfold kdsOf at h
    split at h
    · rename_i hu
      cases h
      have hst : isSt P T = false := by unfold isSt; rw [hu]
      obtain ⟨a, as', rfl, a1, a2⟩ := fitK_cons h1
      obtain ⟨b, bs', rfl, b1, b2⟩ := fitK_cons h2
      obtain rfl := List.eq_nil_of_length_eq_zero (fitK_len a2)
      obtain rfl := List.eq_nil_of_length_eq_zero (fitK_len b2)
      rw [hst]
      cases a <;> simp [fitK] at a1
      cases b <;> simp [fitK] at b1
      rename_i x y
      refine (run_equalIn_bool w m T x y hu).trans ?_
      cases x <;> cases y <;> rfl
    · rename_i k hu
      cases h
      have hst : isSt P T = false := by unfold isSt; rw [hu]
      obtain ⟨a, as', rfl, a1, a2⟩ := fitK_cons h1
      obtain ⟨b, bs', rfl, b1, b2⟩ := fitK_cons h2
      obtain rfl := List.eq_nil_of_length_eq_zero (fitK_len a2)
      obtain rfl := List.eq_nil_of_length_eq_zero (fitK_len b2)
      rw [hst]
      cases a <;> simp [fitK] at a1
      cases b <;> simp [fitK] at b1
      rename_i k1 x k2 y
      subst a1; subst b1
      refine (run_equalIn_int w m T k k x y hu).trans ?_
      simp only [eqVs, eqV, Bool.and_true]
      rfl
    · rename_i hu
      cases h
      have hst : isSt P T = false := by unfold isSt; rw [hu]
      obtain ⟨a, as', rfl, a1, a2⟩ := fitK_cons h1
      obtain ⟨b, bs', rfl, b1, b2⟩ := fitK_cons h2
      obtain rfl := List.eq_nil_of_length_eq_zero (fitK_len a2)
      obtain rfl := List.eq_nil_of_length_eq_zero (fitK_len b2)
      rw [hst]
      cases a <;> simp [fitK] at a1
      cases b <;> simp [fitK] at b1
      rename_i x y
      have : (Op.equalIn (m + 1) T (.string x) (.string y)).run P w = .ok (x == y) w := by simp [Op.equalIn, run_underlying hu]
      refine this.trans ?_
      simp only [eqVs, eqV, Bool.and_true]
      congr 1
      obtain ⟨⟨x⟩⟩ := x
      obtain ⟨⟨y⟩⟩ := y
      rw [Bool.eq_iff_iff]
      show ((⟨x⟩ : Array UInt8) == ⟨y⟩) = true ↔ _
      simp
    · rename_i fs hu
      have hst : isSt P T = true := by unfold isSt; rw [hu]
      split at h
      · cases h
      · rename_i hp
        have hf : P.fieldsOf T = fs := by unfold Program.fieldsOf; rw [hu]
        rw [hst]
        simp only [valOf, if_true]
        rw [run_equalIn_struct w m T _ _ (by rw [hf]; exact hu) (by simpa using hp), hf]
        simpa using eqFields_ok (fun T ks h as bs h1 h2 => eq_ok d T ks h m (by omega) as bs h1 h2) fs.toList 0 ks h as bs (by simpa using h1) (by simpa using h2)
    · cases h
end
theorem partsB_okS {w : World} {R : Nat → Prop} {ι : Nat → Value} {φ : Nat → List Nat} {a : Act} {st : St} (ho : ∀ p y, st.objs p = some y → RO w R ι st.dom (ι p) (φ p) y) : ∀ {parts : List (Nat × Operand)} {ps : List (Nat × List B)}, (∀ p ∈ parts, RA w R ι st.dom (a.eval p.2) (ev st.env p.2)) → partsB st parts = some ps →
    F2 (fun (p : Nat × Value) (q : Nat × List B) => p.1 = q.1 ∧ F2 (RB w R ι st.dom) p.2.cells.toList q.2) (parts.map fun x => (x.1, a.eval x.2)) ps
  | [], _, _, h => by simp only [partsB, Option.some.injEq] at h; subst h; exact .nil
  | (i, x) :: rest, ps, he, h => by
    simp only [partsB] at h
    split at h
    · rename_i v1 ps' e1 e2
      split at h
      · rename_i cs hc
        cases h
        have hv := he (i, x) (by simp)
        rw [e1] at hv
        exact .cons ⟨rfl, cellsV_ok ho hv hc⟩ (partsB_okS ho (fun p hp => he p (by simp [hp])) e2)
      · cases h
    · cases h
def pvs : List B → Option (List Value)
  | [] => some []
  | .d (.pv v) :: bs => (pvs bs).map (v :: ·)
  | _ :: _ => none
theorem pvs_ok {w : World} {R : Nat → Prop} {ι : Nat → Value} {dom : Nat → Prop} : ∀ {vs : List Value} {cs : List B} {as : List Value}, F2 (RB w R ι dom) vs cs → pvs cs = some as → vs = as
  | _, _, as, .nil, h => by cases h; rfl
  | _, _, as, .cons (b := b) h1 h2, h => by
    cases b with
    | d x =>
      cases x with
      | pv v =>
        simp only [pvs, Option.map_eq_some_iff] at h
        obtain ⟨us, h3, rfl⟩ := h
        have h1 : RD w R _ (.pv v) := h1
        cases h1 with
        | pv _ _ => rw [pvs_ok h2 h3]
      | _ => cases h
    | _ => cases h
def dsB : List B → Option (List D)
  | [] => some []
  | .d x :: bs => (dsB bs).map (x :: ·)
  | _ :: _ => none
theorem dsB_ok {w : World} {R : Nat → Prop} {ι : Nat → Value} {dom : Nat → Prop} : ∀ {vs : List Value} {bs : List B} {ds : List D}, F2 (RB w R ι dom) vs bs → dsB bs = some ds → F2 (RD w R) vs ds
  | _, _, _, .nil, h => by cases h; exact .nil
  | _, _, _, .cons (b := b) h1 h2, h => by
    cases b with
    | d x =>
      simp only [dsB, Option.map_eq_some_iff] at h
      obtain ⟨us, h3, rfl⟩ := h
      exact .cons h1 (dsB_ok h2 h3)
    | _ => cases h
def nilK (objs : Nat → Option Ob) : B → Option Bool
  | .d (.pv (.slice none 0 0)) => some true
  | .d (.rd _ (_ :: _)) => some false
  | .own o => match objs o with
    | some (.arr _ (_ :: _) _) => some false
    | _ => none
  | _ => none
def enB8 (n : Int) : List D := [.pv (.int .u8 n)]
def bsOf (l : List Int) : ByteArray := ⟨(l.map fun n => UInt8.ofNat n.toNat).toArray⟩
theorem bs_fold : ∀ (l : List Int) (r : ByteArray), l.foldl (fun r n => r.push (UInt8.ofNat n.toNat)) r = ⟨r.data ++ (l.map fun n => UInt8.ofNat n.toNat).toArray⟩
  | [], r => by cases r; simp
  | n :: l, r => by
    rw [List.foldl_cons, bs_fold l]
    congr 1
    show (r.data.push _) ++ _ = _
    simp
theorem bsOf_fold (l : List Int) : l.foldl (fun r n => r.push (UInt8.ofNat n.toNat)) ByteArray.empty = bsOf l := by
  rw [bs_fold]; simp [bsOf]
theorem bsOf_size (l : List Int) : (bsOf l).size = l.length := by simp [bsOf, ByteArray.size]
section
variable {P : Program} {F : Fx} {st : St} {o : Oper}
theorem sound_buildS {T : TypeId} {parts : Array (Nat × Operand)} {zs : List Value} {pl : List (Nat × Nat)} {ps : List (Nat × List B)} {bs : List B} (hop : o.op = .build T parts) (hz : zeroCells P T = some zs) (hpl : placesOf P T = some pl) (hps : partsB st parts.toList = some ps) (hf : fillB (fun i => pl[i]?) (zs.map fun v => .d (.pv v)) ps = some bs) : OpS P st o (.v (.agg bs)) :=
  OpS.value fun a w R ι φ ho hxs => by
    obtain ⟨z, h1, h2, h3⟩ := run_zeroCells (w := w) hz
    have hF := partsB_okS (a := a) ho.1 (parts := parts.toList) (fun p hp => hxs p.2 (by simp only [hop, Op.operands]; simp; exact ⟨p.1, by simpa using hp⟩)) hps
    obtain ⟨a', hfill, hr⟩ := fill_ok (r := RB w R ι st.dom) (a := z.cells) (by rw [h2]; exact good_F2 h3) hF hf
    have hu : ∃ fs, P.underlying T = some (.struct fs) := by
      unfold placesOf at hpl
      split at hpl
      · rename_i fs h; exact ⟨fs, h⟩
      · cases hpl
    obtain ⟨fs, hu⟩ := hu
    refine ⟨.agg a', ?_, a'.toList, by simp, hr⟩
    unfold execOp
    rw [hop]
    simp only [Instr.build, Sem.run_bind, h1, Result.andThen_ok, run_underlying hu, run_places hu hpl, map_parts]
    have : (fun (x : Nat) => pl.toArray[x]?) = fun (i : Nat) => pl[i]? := by funext i; simp
    rw [this, hfill]
    rfl
theorem sound_bslS {T : TypeId} {len : Nat} {κ : Ky} {by' : Nat} {parts : Array (Nat × Operand)} {zs : List Value} {pl : List (Nat × List B)} {bs : List B} {ds : List D} (hop : o.op = .buildSlice T len parts) (hT : sliceInfo P T = some (κ, by', zs)) (hlen : len ≤ 65536) (hls : len * κ.k ≤ 16777216) (hps : partsB st parts.toList = some pl)
    (hf : fillB (fun i => some (i * κ.k, κ.k)) (List.replicate (len * κ.k) .dead) pl = some bs) (hab : dsB bs = some ds) : OpS P st o (rdA κ (chunks κ.k len ds)) := fun a w R ι φ hl ho hxs K Q hK => by
  obtain ⟨hu, i, z, hi, hz, hsz, hby, hzs, hzl, hs0, hg⟩ := run_sliceInfo hT
  have hF := partsB_okS (a := a) ho.1 (parts := parts.toList) (fun p hp => hxs p.2 (by simp only [hop, Op.operands]; simp; exact ⟨p.1, by simpa using hp⟩)) hps
  obtain ⟨cs, hcs, hcr⟩ : ∃ cs : Array Value, (len * κ.k = 0 ∧ cs = #[] ∨ len * κ.k ≠ 0 ∧ cs = (Array.range (len * κ.k)).map (z.cells[· % z.cells.size]!)) ∧ F2 (RB w R ι st.dom) cs.toList (List.replicate (len * κ.k) .dead) := by
    by_cases h0 : len * κ.k = 0
    · exact ⟨#[], .inl ⟨h0, rfl⟩, by rw [h0]; exact .nil⟩
    · refine ⟨_, .inr ⟨h0, rfl⟩, ?_⟩
      have := F2.dead (w := w) (R := R) (ι := ι) (dom := st.dom) ((Array.range (len * κ.k)).map (z.cells[· % z.cells.size]!)).toList
      simpa using this
  obtain ⟨a', hfill, hr⟩ := fill_ok (r := RB w R ι st.dom) hcr hF hf
  have hU := dsB_ok hr hab
  have hlen' : ds.length = len * κ.k := by
    have h1 := hU.len
    have h2 : a'.size = cs.size := fill_size _ _ _ _ hfill
    have h3 := hcr.len
    simp only [Array.length_toList, List.length_replicate] at h1 h3
    omega
  have hrun : (execOp a.eval o).run P w = .ok (.value (.slice (some ⟨w.heap.size, 0, none⟩) len len)) (w.alloc (.cells a'.toList.toArray κ.e)) := by
    unfold execOp
    rw [hop]
    have hzr : (zeroValue κ.e).run P w = .ok z w := by simp [zeroValue, typeInfo, hi, hz]
    have hsr : (sizeOf κ.e).run P w = .ok κ.k w := by simp [sizeOf, typeInfo, hi, hsz]
    simp only [Instr.buildSlice, Sem.run_bind, run_underlying hu, Result.andThen_ok, hsr, map_parts]
    rw [if_neg (by omega)]
    rcases hcs with ⟨h0, rfl⟩ | ⟨h0, rfl⟩
    · have e0 : (Array.range 0).map (fun x => (#[] : Array Value)[x % (#[] : Array Value).size]!) = #[] := by apply Array.ext'; simp
      simp only [h0, if_true, Sem.run_bind, Sem.run_pure, Result.andThen_ok]
      rw [e0, hfill]
      simp only [newRow, Sem.run_bind, run_newObj, Result.andThen_ok, Sem.run_pure, Array.toArray_toList]
      rfl
    · rw [if_neg h0]
      simp only [Sem.run_bind, hzr, Sem.run_pure, Result.andThen_ok]
      rw [hfill]
      simp only [newRow, Sem.run_bind, run_newObj, Result.andThen_ok, Sem.run_pure, Array.toArray_toList]
      rfl
  unfold Oper.wp
  rw [hrun, Oper.upon_value]
  have hb : Below w.heap.size w (w.alloc (.cells a'.toList.toArray κ.e)) := (Below.refl _ _).alloc (Nat.le_refl _) _
  obtain ⟨c1, c2, c3⟩ := chunks_ok κ.k len ds hlen'
  have hal : a'.size = len * κ.k := by have := hU.len; simp at this; omega
  refine hK _ _ (fun b => R b ∨ b = w.heap.size) hb (fun b h => .inl h) (fun b h => ?_) (fun b h hlt => h.resolve_right (by omega)) ?_
  · rcases h with h | h
    · exact Nat.lt_of_lt_of_le (hl b h) hb.size
    · subst h; simp
  · refine rd_of_row c2 (us := a'.toList) ?_ ?_ (fun g hg => ?_)
    · rw [c3]
      exact ⟨by simpa using hal, .inr ⟨w.heap.size, len, _, rfl, Nat.zero_le _, alloc_new_at _ _, Nat.le_refl _, by unfold maxLen; omega, by simpa using hal, by rw [List.toList_toArray, List.take_of_length_le (by simp; omega)]⟩⟩
    · rw [c1]
      exact hU.mono fun _ _ h => RD.keep (fun b h => .inl h) (fun b h => hb.block b (hl b h)) h
    · simp [Value.ownBlock] at hg
      exact .inr hg.symm
theorem sound_eqs {op : BinOp} {neg : Bool} {T T' : TypeId} {x y : Operand} {ks : List Kd} {cs cs' : List B} {as bs : List Value} (hop : o.op = .binOp op T x y T') (hn : (op = .eql ∧ neg = false) ∨ (op = .neq ∧ neg = true)) (hT : eqTy P T = some ks) (hx : ev st.env x = .v (.agg cs)) (hy : ev st.env y = .v (.agg cs')) (h1 : pvs cs = some as) (h2 : pvs cs' = some bs) (h3 : fitK ks as = true) (h4 : fitK ks bs = true) :
    OpS P st o (pvA (.bool (if neg then !(eqVs as bs) else eqVs as bs))) :=
  OpS.value fun a w R ι φ _ hxs => by
    have q1 := hxs x (by simp [hop, Op.operands])
    have q2 := hxs y (by simp [hop, Op.operands])
    rw [hx] at q1; rw [hy] at q2
    obtain ⟨us, e1, f1⟩ := q1
    obtain ⟨us', e2, f2⟩ := q2
    obtain rfl := pvs_ok f1 h1
    obtain rfl := pvs_ok f2 h2
    refine ⟨_, ?_, RA.of_pv rfl trivial⟩
    unfold eqTy at hT
    split at hT
    · cases hT
    · rename_i hg
      split at hT
      · rename_i hst
        have hr := eq_ok (w := w) 6 T ks hT 10000 (by omega) us us' h3 h4
        rw [hst] at hr
        simp only [valOf, if_true] at hr
        have hg' : P.eqGuardType P.depth T = false := by simpa using hg
        unfold execOp
        rw [hop]
        rcases hn with ⟨rfl, rfl⟩ | ⟨rfl, rfl⟩
        · simp only [e1, e2, Sem.run_bind, run_eqGuard_agg w .eql T x y us.toArray us'.toArray hg', Result.andThen_ok, run_eql_struct, hr, Sem.run_pure]
          rfl
        · simp only [e1, e2, Sem.run_bind, run_eqGuard_agg w .neq T x y us.toArray us'.toArray hg', Result.andThen_ok, run_neq_struct, hr, Sem.run_pure]
          rfl
      · cases hT
theorem run_isn {w : World} {op : BinOp} {neg : Bool} {T T' e : TypeId} {x : Operand} {a : Act} {b : Option Addr} {n c : Nat} (hop : o.op = .binOp op T x (.const (.slice none 0 0)) T') (hn : (op = .eql ∧ neg = false) ∨ (op = .neq ∧ neg = true)) (hT : P.underlying T = some (.slice e)) (hx : a.eval x = .slice b n c) : (execOp a.eval o).run P w = .ok (.value (.bool (if neg then !b.isNone else b.isNone))) w := by
  unfold execOp
  rw [hop]
  have h2 : a.eval (.const (.slice none 0 0)) = .slice none 0 0 := rfl
  rcases hn with ⟨rfl, rfl⟩ | ⟨rfl, rfl⟩
  · simp only [hx, h2, Sem.run_bind, eqGuard, binOp, run_equal_slice_nil w T e b n c hT, Result.andThen_ok, Sem.run_pure, Bool.not_true, Bool.false_eq_true, if_false]
  · simp only [hx, h2, Sem.run_bind, eqGuard, binOp, run_equal_slice_nil w T e b n c hT, Result.andThen_ok, Sem.run_pure, Bool.not_true, Bool.false_eq_true, if_false, if_true]
theorem nilK_ok {w : World} {R : Nat → Prop} {ι : Nat → Value} {φ : Nat → List Nat} (ho : ObjsOk w R ι φ st.objs) {v : Value} {b : B} {t : Bool} (hv : RB w R ι st.dom v b) (h : nilK st.objs b = some t) : ∃ ad n c, v = .slice ad n c ∧ ad.isNone = t := by
  unfold nilK at h
  split at h
  · cases h
    have hv : RD w R v (.pv (.slice none 0 0)) := hv
    cases hv with
    | pv _ _ => exact ⟨none, 0, 0, rfl, rfl⟩
  · cases h
    have hv : RD w R v _ := hv
    cases hv with
    | rd c h0 h1 h2 => exact ⟨_, _, _, rfl, rfl⟩
  · rename_i p
    split at h
    · rename_i κ y ys hs hob
      cases h
      obtain ⟨_, vs, S1, hown, _⟩ := ho.1 _ _ hob
      rcases hown.2 with ⟨_, h0⟩ | ⟨g, cap, cur, e, _⟩
      · simp at h0
      · exact ⟨_, _, _, hv.2.trans e, rfl⟩
    · cases h
  · cases h
theorem sound_isn {op : BinOp} {neg t : Bool} {T T' e : TypeId} {x : Operand} {b : B} (hop : o.op = .binOp op T x (.const (.slice none 0 0)) T') (hn : (op = .eql ∧ neg = false) ∨ (op = .neq ∧ neg = true)) (hT : P.underlying T = some (.slice e)) (hx : ev st.env x = .v (.c b)) (ht : nilK st.objs b = some t) : OpS P st o (pvA (.bool (if neg then !t else t))) :=
  OpS.value fun a w R ι φ ho hxs => by
    have q1 := hxs x (by simp [hop, Op.operands])
    rw [hx] at q1
    obtain ⟨ad, n, c, e1, rfl⟩ := nilK_ok ho q1 ht
    exact ⟨_, run_isn hop hn hT e1, RA.of_pv rfl trivial⟩
theorem sound_isn2 {op : BinOp} {neg : Bool} {T T' e : TypeId} {x : Operand} {κ : Ky} {xs : List (List D)} {b : B} {K : AV → St → Prop} (hop : o.op = .binOp op T x (.const (.slice none 0 0)) T') (hn : (op = .eql ∧ neg = false) ∨ (op = .neq ∧ neg = true)) (hT : P.underlying T = some (.slice e)) (hx : ev st.env x = .v (.c b))
    (hb : b = .d (.rd κ xs) ∨ ∃ p hs, b = .own p ∧ st.objs p = some (.arr κ xs hs)) (h1 : xs = [] → K (pvA (.bool (!neg))) st) (h2 : K (pvA (.bool neg)) st) : OpK P F st o K := fun a w R ι φ hs K' Q hK => by
  have q1 := ev_ok (a := a) hs.env x
  rw [hx] at q1
  have : ∃ ad n c, a.eval x = .slice ad n c ∧ (ad = none → xs = []) := by
    rcases hb with rfl | ⟨p, hs', rfl, hob⟩
    · have q1 : RD w R _ _ := q1
      generalize a.eval x = v at q1
      cases q1 with
      | nil => exact ⟨_, _, _, rfl, fun _ => rfl⟩
      | rd c h0 h1 h2 => exact ⟨_, _, _, rfl, fun h => by cases h⟩
    · obtain ⟨_, vs, S1, hown, _⟩ := hs.objs _ _ hob
      rcases hown.2 with ⟨e1, h0⟩ | ⟨g, cap, cur, e1, _⟩
      · exact ⟨_, _, _, q1.2.trans e1, fun _ => List.eq_nil_of_length_eq_zero h0⟩
      · exact ⟨_, _, _, q1.2.trans e1, fun h => by cases h⟩
  obtain ⟨ad, n, c, e1, hnil⟩ := this
  have hr := run_isn (P := P) (w := w) hop hn hT e1
  unfold Oper.wp
  rw [hr, Oper.upon_value]
  cases ad with
  | none => exact hK _ st _ w R ι φ (h1 (hnil rfl)) hs (by cases neg <;> exact RA.of_pv rfl trivial)
  | some ad => exact hK _ st _ w R ι φ h2 hs (by cases neg <;> exact RA.of_pv rfl trivial)
theorem sound_b2s {src dst e : TypeId} {x : Operand} {b : B} {κ : Ky} {l : List Int} (hop : o.op = .convert src dst x) (hs : P.underlying src = some (.slice e)) (he : P.underlying e = some (.int .u8)) (hd : P.underlying dst = some .string) (hx : ev st.env x = .v (.c b)) (hel : elemsOf st.objs κ b = some (l.map enB8)) : OpS P st o (pvA (.string (bsOf l))) :=
  OpS.value fun a w R ι φ ho hxs => by
    have q1 := hxs x (by simp [hop, Op.operands])
    rw [hx] at q1
    obtain ⟨U, ⟨_, A, cap, e1, hA, news, hE, hc⟩, _, _, hlen⟩ := src_ok (ps := []) ho q1 hel (.inl ⟨fun es hes d hd => by obtain ⟨n, _, rfl⟩ := List.mem_map.1 hes; simp [enB8] at hd; subst hd; rfl, rfl⟩)
    rw [List.length_map] at hlen
    refine ⟨.string (bsOf l), ?_, RA.of_pv rfl (by show (bsOf l).size ≤ maxLen; rw [bsOf_size]; exact hlen)⟩
    have hn : news = l.map (Value.int .u8) := by
      have : ∀ (l : List Int) (news : List Value) (U : List Nat), ET w news (l.map enB8).flatten U → news = l.map (Value.int .u8) := fun l => by
        induction l with
        | nil => intro news U h; cases h; rfl
        | cons n l ih => intro news U h; cases h with | pv q1 q2 h2 => rw [ih _ _ h2]; rfl
      exact this l news U hE
    subst hn
    unfold execOp
    rw [hop]
    simp only [e1, Sem.run_bind]
    cases A with
    | none =>
      have hl : l = [] := by simpa using hA rfl
      subst hl
      simp [convert, run_underlying hs, run_underlying he, run_underlying hd, Conv.bytesToString]
      rfl
    | some ad =>
      have hld : (loadCells ad (l.map enB8).length).run P w = .ok (l.map (Value.int .u8)).toArray w := by
        have := run_loadCells_list (P := P) w ad (l.map (Value.int .u8)) (fun j u hu => hc ad rfl j u hu)
        simpa using this
      have h2 := run_bytesToString (P := P) w ad (l.map enB8).length cap l hld
      rw [bsOf_fold] at h2
      simp only [convert, Sem.run_bind, run_underlying hs, run_underlying he, run_underlying hd, Result.andThen_ok, h2, Sem.run_pure]
end
end
section
open Go.RowKit
inductive SOp where
  | mv (x : Operand)
  | pick (c a b : Operand)
  | ld (ag : Bool) (s : Nat) (x : Operand)
  | nc (x : Operand)
  | bin (op : BinOp) (x y : Operand)
  | bbin (op : BinOp) (x y : Operand)
  | not (x : Operand)
  | neg (x : Operand)
  | fa (off : Nat) (x : Operand)
  | fld (off : Nat) (ag : Bool) (s : Nat) (x : Operand)
  | ix (κ : Ky) (x i : Operand)
  | ixa (len s : Nat) (x i : Operand)
  | six (x i : Operand)
  | slc (κ : Ky) (x : Operand) (lo hi : Option Operand)
  | sslc (x : Operand) (lo hi : Option Operand)
  | cv (k : IntKind) (x : Operand)
  | ext (x : Operand) (j : Nat)
  | len (x : Operand)
  | slen (x : Operand)
  | max (x y : Operand)
  | min (x y : Operand)
  | call (f : Operand) (xs : List Operand)
  | mkf (g : FuncId) (caps : List Operand)
  | fcal (f : Operand) (xs : List Operand)
  | al (T : TypeId) (zs : List Value)
  | box (T : TypeId) (x : Operand)
  | sto (s : Nat) (x y : Operand)
  | bld (zs : List Value) (pl : List (Nat × Nat)) (parts : List (Nat × Operand))
  | bsl (κ : Ky) (len : Nat) (parts : List (Nat × Operand))
  | mks (κ : Ky) (zs : List Value) (l c : Operand)
  | app (κ : Ky) (by' : Nat) (x y : Operand)
  | eqs (neg : Bool) (ks : List Kd) (x y : Operand)
  | isn (neg : Bool) (x : Operand)
  | b2s (x : Operand)
  | kil
  | raw (op : Op) (ty : TypeId)
structure SR where
  dst : Option Tmp
  g : Option (Nat × Bool)
  fr : Bool
  op : SOp
inductive SC where
  | skip
  | reg (l : List SR)
  | regA (l : List SR) (al : List (Nat × TypeId × List Value)) (r : List SR)
  | regO (t : OT SR)
  | seq (a b : SC)
  | cond (c : Operand) (x y : SC)
  | block (id : Nat) (c : SC)
  | loop (c : SC)
  | exit (id : Nat)
  | ret
def rdOp (P : Program) (o : Op) : Option SOp :=
  match o with
  | .move x => some (.mv x)
  | .assign x => some (.mv x)
  | .pick c a b => some (.pick c a b)
  | .load T x => (tyInfo P T).map fun i => .ld i.1 i.2 x
  | .nilCheck x => some (.nc x)
  | .binOp op T x y _ => match P.underlying T with
    | some .bool => some (.bbin op x y)
    | some (.int _) => some (.bin op x y)
    | some .string => some (.bin op x y)
    | _ => none
  | .unOp .not _ x => some (.not x)
  | .unOp .neg _ x => some (.neg x)
  | .fieldAddr T x f => (fieldOff P T f).map fun i => .fa i x
  | .field T x f => (fieldInfo P T f).map fun i => .fld i.1 i.2.1 i.2.2 x
  | .indexAddr T x i => match sliceTy P T with
    | some κ => some (.ix κ x i)
    | none => (arrTy P T).map fun p => .ixa p.1 p.2 x i
  | .index T x i => match P.underlying T with
    | some .string => some (.six x i)
    | _ => none
  | .slice T x lo hi none => match sliceTy P T with
    | some κ => some (.slc κ x lo hi)
    | none => match P.underlying T with
      | some .string => some (.sslc x lo hi)
      | _ => none
  | .convert src dst x => match P.underlying src, P.underlying dst with
    | some (.int _), some (.int k) => some (.cv k x)
    | _, _ => none
  | .extract x j => some (.ext x j)
  | .makeFunc (.func g) first caps => if first.toList.isEmpty then some (.mkf g caps.toList) else none
  | .call c => match c.callee with
    | .builtin .len => match c.args.toList, c.argTypes.toList with
      | [x], [T] => match P.underlying T with
        | some .string => some (.slen x)
        | some (.slice _) => if (sliceTy P T).isSome then some (.len x) else none
        | _ => none
      | _, _ => none
    | .builtin .max => match c.args.toList with
      | [x, y] => some (.max x y)
      | _ => none
    | .builtin .min => match c.args.toList with
      | [x, y] => some (.min x y)
      | _ => none
    | .value f => some (.fcal f c.args.toList)
    | _ => none
  | _ => none
def isRd : SOp → Bool
  | .call _ _ | .fcal _ _ | .al _ _ | .box _ _ | .sto _ _ _ | .bld _ _ _ | .bsl _ _ _ | .mks _ _ _ _ | .app _ _ _ _ | .isn _ _ | .raw _ _ => false
  | _ => true
def rdOp' (P : Program) (o : Op) : Option SOp := (rdOp P o).bind fun s => if isRd s then some s else none
def wrOp (P : Program) (o : Op) : Option SOp :=
  match o with
  | .alloc T => (zeroCells P T).map fun zs => .al T zs
  | .box T x => some (.box T x)
  | .store T x y => (tyInfo P T).map fun i => .sto i.2 x y
  | .build T parts => match zeroCells P T, placesOf P T with
    | some zs, some pl => some (.bld zs pl parts.toList)
    | _, _ => none
  | .buildSlice T len parts => match sliceInfo P T with
    | some (κ, _, _) => if len ≤ 65536 ∧ len * κ.k ≤ 16777216 then some (.bsl κ len parts.toList) else none
    | none => none
  | .makeSlice T l c => match sliceInfo P T with
    | some (κ, by', zs) => if by' ≤ 65536 then some (.mks κ zs l c) else none
    | none => none
  | .call c => match c.callee with
    | .builtin .append => match c.args.toList, c.argTypes.toList with
      | [x, y], [T, T'] => if T = T' then match sliceInfo P T with
        | some (κ, by', _) => some (.app κ by' x y)
        | none => none else none
      | _, _ => none
    | .value f => some (.call f c.args.toList)
    | _ => rdOp' P o
  | _ => rdOp' P o
def xOp (P : Program) (o : Oper) : SOp :=
  match o.op with
  | .buildSlice T len parts => match sliceInfo P T with
    | some (κ, _, _) => if len ≤ 65536 ∧ len * κ.k ≤ 16777216 then .bsl κ len parts.toList else .raw o.op o.type
    | none => .raw o.op o.type
  | .build T parts => match zeroCells P T, placesOf P T with
    | some zs, some pl => .bld zs pl parts.toList
    | _, _ => .raw o.op o.type
  | .binOp op T x y _ => match (match op with | .eql => some false | .neq => some true | _ => none : Option Bool) with
    | none => .raw o.op o.type
    | some neg => match eqTy P T with
      | some ks => .eqs neg ks x y
      | none => match P.underlying T, y with
        | some (.slice _), .const (.slice none 0 0) => .isn neg x
        | _, _ => .raw o.op o.type
  | .convert src dst x => match P.underlying src, P.underlying dst with
    | some (.slice e), some .string => match P.underlying e with
      | some (.int .u8) => .b2s x
      | _ => .raw o.op o.type
    | _, _ => .raw o.op o.type
  | _ => .raw o.op o.type
def rdOpx (P : Program) (o : Oper) : Option SOp := match rdOp P o.op with
  | some s => some s
  | none => some (xOp P o)
def wrOpx (P : Program) (o : Oper) : Option SOp := match wrOp P o.op with
  | some s => some s
  | none => some (xOp P o)
def sGuard (ops : List Oper) (o : Oper) : Option (Option (Nat × Bool)) :=
  match o.guard with
  | none => some none
  | some (j, want) => (gslot ops j).map fun d => some (d, want)
def sOps (P : Program) (n : Nat) (ops : List Oper) : List Oper → Option (List SR)
  | [] => some []
  | o :: rest => match sGuard ops o, wrOpx P o, sOps P n ops rest with
    | some g, some s, some r => if okDst n o.dst then some (⟨o.dst, g, false, s⟩ :: r) else none
    | _, _, _ => none
def sOpsF (P : Program) (ops : List Oper) : Nat → List Oper → Option (List SR)
  | 0, _ => some []
  | _ + 1, [] => none
  | m + 1, o :: rest => if isAl o then (sOpsF P ops m rest).map (⟨o.dst, none, true, .kil⟩ :: ·) else match sGuard ops o, rdOpx P o, sOpsF P ops m rest with
    | some g, some s, some r => some (⟨o.dst, g, true, s⟩ :: r)
    | _, _, _ => none
def sAl (P : Program) (ops : List Oper) : List Nat → Option (List (Nat × TypeId × List Value))
  | [] => some []
  | i :: I => match ops[i]? with
    | some o => match o.op, o.dst, sAl P ops I with
      | .alloc T, some d, some r => (zeroCells P T).map fun zs => (d, T, zs) :: r
      | _, _, _ => none
    | none => none
def headReads (as bs : Bool) : List Oper → Nat
  | [] => 0
  | o :: rest => match o.op with
    | .assign _ => if as then headReads as bs rest + 1 else 0
    | .alloc _ => if o.guard.isNone then headReads as bs rest + 1 else 0
    | .buildSlice _ _ _ => if bs then headReads as bs rest + 1 else 0
    | .box _ _ | .store _ _ _ | .makeSlice _ _ _ | .call { callee := .builtin .append, .. } | .call { callee := .builtin .copy, .. } | .call { callee := .builtin .clear, .. } | .call { callee := .builtin .delete, .. } | .slice _ _ _ _ (some _) | .makeMap .. | .mapUpdate .. | .mapEntry .. | .entryStore .. | .insert .. | .range .. | .next .. => 0
    | _ => headReads as bs rest + 1
def sDraw (P : Program) (n : Nat) (ops : List Oper) (m : Nat) : Option SC :=
  match sOpsF P ops m ops, sAl P ops (alIdx ops m), sOps P n ops (rgTl ops m) with
  | some l, some [], some r => some (.reg (l ++ r))
  | some l, some al, some r => some (.regA l al r)
  | _, _, _ => none
def lastCall : List Oper → Nat → Nat → Option Nat
  | [], _, _ => none
  | _, _, 0 => none
  | o :: rest, k, m + 1 => match lastCall rest (k + 1) m with
    | some j => some j
    | none => match o.op with
      | .call { callee := .value _, .. } => some k
      | _ => none
def firstOk (ops : List Oper) (n : Nat) : List Nat → Option Nat
  | [] => none
  | m :: ms => if rgOk ops m n then some m else firstOk ops n ms
def cands (ops : List Oper) : List Nat :=
  (match lastCall ops 0 (headReads true true ops) with | some m => if Nat.ble ops.length (m + 4) then [m] else [] | none => []) ++ [headReads true false ops, headReads false false ops, headReads true true ops, headReads false true ops]
def sT (P : Program) (n : Nat) (ops : List Oper) : OT Oper → Option (OT SR)
  | .done => some .done
  | .vac => some .vac
  | .take o t => match sOps P n ops [o], sT P n ops t with
    | some [s], some u => some (.take s u)
    | _, _ => none
  | .both a b => match sT P n ops a, sT P n ops b with
    | some a, some b => some (.both a b)
    | _, _ => none
def sOrd (P : Program) (n : Nat) (ops : List Oper) : Option SC :=
  if Region.noSelect ops.toArray then match ordX P ops with
    | some t => (sT P n ops t).map .regO
    | none => none
  else none
def isBslO (o : Oper) : Bool := match o.op with
  | .buildSlice _ _ _ => true
  | _ => false
def isAppO (o : Oper) : Bool := match o.op with
  | .call { callee := .builtin .append, .. } => true
  | _ => false
def isCalS (P : Program) (o : Oper) : Bool := match o.op with
  | .call { callee := .value _, .. } => match P.underlying o.type with
    | some (.slice _) => true
    | _ => false
  | _ => false
def srcO (P : Program) (o : Oper) : Bool := match o.op with
  | .call { callee := .value (.func g), .. } => match P.funcs[g]? with
    | some f => match f.params[0]? with
      | some t => match P.underlying t with
        | some (.pointer e) => match P.underlying e with
          | some (.struct fs) => fs.toList.any fun q => match P.underlying q.type with
            | some (.int .u64) => true
            | _ => false
          | _ => false
        | _ => false
      | none => false
    | none => false
  | _ => false
def isBldO (o : Oper) : Bool := match o.op with
  | .build _ _ => true
  | _ => false
def isCalT (P : Program) (o : Oper) : Bool := match o.op with
  | .call { callee := .value _, .. } => match P.underlying o.type with
    | some (.tuple ts) => match ts.toList with
      | [t, _] => match P.underlying t with
        | some (.struct _) => true
        | _ => false
      | _ => false
    | _ => false
  | _ => false
def prefO (P : Program) (ops : List Oper) : Bool := ops.any isAl && ((ops.any (isCalS P) && ops.any isBldO) || ops.any (isCalT P)) || (Nat.ble 2 (ops.countP (isCalS P)) && ops.any isBslO)
def sReg (P : Program) (n : Nat) (ops : List Oper) (draw : Bool) : Option SC :=
  if draw then
    if !(ops.all (fldOk P)) then none
    else match (if prefO P ops then sOrd P n ops else none) with
      | some c => some c
      | none => match firstOk ops n (if ops.any (srcO P) || (ops.any (isCalS P) && ops.any isAppO) then [] else cands ops) with
        | some m => match sDraw P n ops m with
          | some c => some c
          | none => sOrd P n ops
        | none => sOrd P n ops
  else (sOps P n ops ops).map .reg
def strip (P : Program) (n : Nat) : Code → Option SC
  | .skip => some .skip
  | .region _ ops draw => sReg P n ops.toList draw
  | .seq a b => match strip P n a, strip P n b with
    | some a, some b => some (.seq a b)
    | _, _ => none
  | .cond c x y => match strip P n x, strip P n y with
    | some x, some y => some (.cond c x y)
    | _, _ => none
  | .block id c => (strip P n c).map (.block id)
  | .loop c => (strip P n c).map .loop
  | .exit id => some (.exit id)
  | .ret => some .ret
  | _ => none
def VR (P : Program) (st : St) (o : SOp) (K : AV → Prop) : Prop :=
  match o with
  | .mv x => K (ev st.env x)
  | .pick c a b => ∃ t, ev st.env c = pvA (.bool t) ∧ (t = true → K (ev st.env a)) ∧ (t = false → K (ev st.env b))
  | .ld ag s x => ∃ b cs, ev st.env x = .v (.c b) ∧ cellsAt st.objs b = some cs ∧ (ag = true → s ≤ cs.length ∧ K (.v (.agg (cs.take s)))) ∧ (ag = false → ∃ c, cs[0]? = some c ∧ K (.v (.c c)))
  | .nc x => ∃ b, ev st.env x = .v (.c b) ∧ isPtr b = true ∧ K (.v (.c b))
  | .bin op x y => ∃ a b r, ev st.env x = pvA a ∧ ev st.env y = pvA b ∧ (∀ u v, ¬ (a = .bool u ∧ b = .bool v)) ∧ (∀ T, binV P T op a b = some r) ∧ K (pvA r)
  | .bbin op x y => ∃ u v, ev st.env x = pvA (.bool u) ∧ ev st.env y = pvA (.bool v) ∧ ((op = .eql ∧ K (pvA (.bool (u == v)))) ∨ (op = .neq ∧ K (pvA (.bool (!(u == v))))))
  | .not x => ∃ t, ev st.env x = pvA (.bool t) ∧ K (pvA (.bool !t))
  | .neg x => ∃ k n, ev st.env x = pvA (.int k n) ∧ K (pvA (.int k (k.wrap (0 - n))))
  | .fa off x => ∃ b b', ev st.env x = .v (.c b) ∧ addOff b off = some b' ∧ K (.v (.c b'))
  | .fld off ag s x => ∃ cs, ev st.env x = .v (.agg cs) ∧ (ag = true → K (.v (.agg ((cs.drop off).take s)))) ∧ (ag = false → ∃ c, cs[off]? = some c ∧ K (.v (.c c)))
  | .ix κ x i => ∃ b k n, ev st.env x = .v (.c b) ∧ ev st.env i = pvA (.int k n) ∧ 0 ≤ n ∧
      ((∃ κ' xs es, κ'.k = κ.k ∧ b = .d (.rd κ' xs) ∧ xs[n.toNat]? = some es ∧ K (.v (.c (.d (.rp es))))) ∨
       (∃ o xs hs, b = .own o ∧ st.objs o = some (.arr κ xs hs) ∧ n < xs.length ∧ K (.v (.c (.ep o κ.k n.toNat 0)))))
  | .ixa len s x i => ∃ b k n b', ev st.env x = .v (.c b) ∧ ev st.env i = pvA (.int k n) ∧ 0 ≤ n ∧ isPtr b = true ∧ n < len ∧ addOff b (n.toNat * s) = some b' ∧ K (.v (.c b'))
  | .six x i => ∃ s k n b, ev st.env x = pvA (.string s) ∧ ev st.env i = pvA (.int k n) ∧ 0 ≤ n ∧ s[n.toNat]? = some b ∧ K (pvA (.int .u8 b.toNat))
  | .slc κ x lo hi => ∃ κ' xs l h, κ'.k = κ.k ∧ ev st.env x = rdA κ' xs ∧ l ≤ h ∧ h ≤ xs.length ∧ bndV st 0 lo l ∧ bndV st xs.length hi h ∧ K (.v (.c (.d (.rd κ' (sliceOf xs l h)))))
  | .sslc x lo hi => ∃ (s : ByteArray) (l h : Nat), ev st.env x = pvA (.string s) ∧ l ≤ h ∧ h ≤ s.size ∧ bndV st 0 lo l ∧ bndV st s.size hi h ∧ K (pvA (.string (s.extract l h)))
  | .cv k' x => ∃ k n, ev st.env x = pvA (.int k n) ∧ K (pvA (.int k' (k'.wrap n)))
  | .ext x j => ∃ xs y, ev st.env x = .tup xs ∧ xs[j]? = some y ∧ K (.v y)
  | .len x => ∃ b n, ev st.env x = .v (.c b) ∧ lenOf st.objs b = some n ∧ K (pvA (.int .i64 n))
  | .slen x => ∃ s, ev st.env x = pvA (.string s) ∧ K (pvA (.int .i64 s.size))
  | .max x y => ∃ k m n, ev st.env x = pvA (.int k m) ∧ ev st.env y = pvA (.int k n) ∧ K (pvA (.int k (if n > m then n else m)))
  | .min x y => ∃ k m n, ev st.env x = pvA (.int k m) ∧ ev st.env y = pvA (.int k n) ∧ K (pvA (.int k (if n < m then n else m)))
  | .fcal f xs => FCall P st f xs K
  | .mkf g caps => ∃ ds, capsD st caps = some ds ∧ K (.v (.c (.d (.fn g ds))))
  | .eqs neg ks x y => ∃ cs cs' as bs, ev st.env x = .v (.agg cs) ∧ ev st.env y = .v (.agg cs') ∧ pvs cs = some as ∧ pvs cs' = some bs ∧ fitK ks as = true ∧ fitK ks bs = true ∧ K (pvA (.bool (if neg then !(eqVs as bs) else eqVs as bs)))
  | .isn neg x => ∃ b t, ev st.env x = .v (.c b) ∧ nilK st.objs b = some t ∧ K (pvA (.bool (if neg then !t else t)))
  | .b2s x => ∃ b κ l, ev st.env x = .v (.c b) ∧ κ.k = 1 ∧ elemsOf st.objs κ b = some (l.map enB8) ∧ K (pvA (.string (bsOf l)))
  | .bld zs pl parts => ∃ ps bs, partsB st parts = some ps ∧ fillB (fun i => pl[i]?) (zs.map fun v => .d (.pv v)) ps = some bs ∧ K (.v (.agg bs))
  | .bsl κ len parts => ∃ pl bs ds, partsB st parts = some pl ∧ fillB (fun i => some (i * κ.k, κ.k)) (List.replicate (len * κ.k) .dead) pl = some bs ∧ dsB bs = some ds ∧ K (rdA κ (chunks κ.k len ds))
  | .kil => K deadA
  | .raw op ty => ∃ x, (∀ q : Oper, q.op = op → q.type = ty → OpS P st q x) ∧ K x
  | _ => False
def VS (P : Program) (st : St) (d : Option Tmp) (o : SOp) (K : AV → St → Prop) : Prop :=
  match o with
  | .call f xs => MCall P st (callId (d.getD 0)) f xs K ∨ FCall P st f xs fun x => K x st
  | .al T zs => ∃ d', d = some d' ∧ freeO st.objs d' ∧ K (.v (.c (.ptr d' 0))) ⟨st.env, upd st.objs d' (some (.box T (zs.map fun v => .d (.pv v))))⟩
  | .box T x => ∃ d' v1 cs, d = some d' ∧ freeO st.objs d' ∧ ev st.env x = .v v1 ∧ cellsV v1 = some cs ∧ K (.v (.c (.ptr d' 0))) ⟨st.env, upd st.objs d' (some (.box T cs))⟩
  | .sto s x y => ∃ b v1 cs, ev st.env x = .v (.c b) ∧ ev st.env y = .v v1 ∧ cellsV v1 = some cs ∧ cs.all B.live = true ∧ cs.length = s ∧
      ((∃ p off T' old, b = .ptr p off ∧ st.objs p = some (.box T' old) ∧ off + cs.length ≤ old.length ∧ K deadA ⟨st.env, upd st.objs p (some (.box T' (splice old off cs)))⟩) ∨
       (∃ p i off κ xs hs es ds ps, b = .ep p κ.k i off ∧ absL st.objs cs = some (ds, ps) ∧ nodupB ps = true ∧ (st.kill ps).objs p = some (.arr κ xs hs) ∧ xs[i]? = some es ∧ off + cs.length ≤ κ.k ∧
         K deadA ⟨(st.kill ps).env, upd (st.kill ps).objs p (some (.arr κ (xs.set i (splice es off ds)) (clearHo i off cs.length hs)))⟩))
  | .bld zs pl parts => ∃ ps bs, partsB st parts = some ps ∧ fillB (fun i => pl[i]?) (zs.map fun v => .d (.pv v)) ps = some bs ∧ K (.v (.agg bs)) st
  | .bsl κ len parts => ∃ d' pl bs ds ps, d = some d' ∧ partsB st parts = some pl ∧ fillB (fun i => some (i * κ.k, κ.k)) (List.replicate (len * κ.k) .dead) pl = some bs ∧
      absL st.objs bs = some (ds, ps) ∧ nodupB ps = true ∧ freeO (st.kill ps).objs d' ∧ K (.v (.c (.own d'))) ⟨(st.kill ps).env, upd (st.kill ps).objs d' (some (.arr κ (chunks κ.k len ds) []))⟩
  | .mks κ zs l c => ∃ d' n zd, d = some d' ∧ freeO st.objs d' ∧ ev st.env l = pvA (.int .i64 n) ∧ ev st.env c = pvA (.int .i64 n) ∧ 0 ≤ n ∧ n ≤ 16777216 ∧ F2 zD zs zd ∧
      K (.v (.c (.own d'))) ⟨st.env, upd st.objs d' (some (.arr κ (List.replicate n.toNat zd) []))⟩
  | .app κ by' x y => ∃ d' b b' ys, d = some d' ∧ ev st.env x = .v (.c b) ∧ ev st.env y = .v (.c b') ∧ elemsOf st.objs κ b' = some ys ∧
        ∃ ps, ((pureL ys ∧ ps = []) ∨ (∃ q, b' = .own q ∧ ps = [q])) ∧
        ((∃ p xs, b = .own p ∧ (st.kill ps).objs p = some (.arr κ xs []) ∧ p < pinN ∧ xs.length + ys.length ≤ maxLen ∧ (xs.length + ys.length) * by' ≤ 140737488355328 ∧ K (.v (.c (.own p))) ⟨((st.kill ps).kill [p]).env, upd ((st.kill ps).kill [p]).objs p (some (.arr κ (xs ++ ys) []))⟩) ∨
         (b = .d (.pv (.slice none 0 0)) ∧ freeO (st.kill ps).objs d' ∧ ys.length * by' ≤ 140737488355328 ∧ K (.v (.c (.own d'))) ⟨(st.kill ps).env, upd (st.kill ps).objs d' (some (.arr κ ys []))⟩))
  | .isn neg x => (∃ b t, ev st.env x = .v (.c b) ∧ nilK st.objs b = some t ∧ K (pvA (.bool (if neg then !t else t))) st) ∨
      ∃ b κ xs, ev st.env x = .v (.c b) ∧ (b = .d (.rd κ xs) ∨ ∃ p hs, b = .own p ∧ st.objs p = some (.arr κ xs hs)) ∧ (xs = [] → K (pvA (.bool (!neg))) st) ∧ K (pvA (.bool neg)) st
  | .raw op ty => ∀ F (q : Oper), q.op = op → q.type = ty → q.dst = d → OpK P F st q K
  | o => VR P st o fun x => K x st
def VLs (P : Program) : List SR → (St → Prop) → St → Prop
  | [], Q, st => Q st
  | ⟨dst, g, true, op⟩ :: rest, Q, st => (match g with
    | none => VR P st op fun x => VLs P rest Q (putD st dst x)
    | some (d, want) => (st.env d = undefA ∧ VLs P rest Q (putD st dst undefA)) ∨
        ∃ t, st.env d = pvA (.bool t) ∧ (t = want → VR P st op fun x => VLs P rest Q (putD st dst x)) ∧ (t = !want → VLs P rest Q (putD st dst undefA)))
  | ⟨dst, g, false, op⟩ :: rest, Q, st => (match g with
    | none => Wk st fun st1 => VS P st1 dst op fun x st' => VLs P rest Q (putD st' dst x)
    | some (d, want) => (st.env d = undefA ∧ VLs P rest Q (putD st dst undefA)) ∨
        ∃ t, st.env d = pvA (.bool t) ∧ (t = want → Wk st fun st1 => VS P st1 dst op fun x st' => VLs P rest Q (putD st' dst x)) ∧ (t = !want → VLs P rest Q (putD st dst undefA)))
def VAl : List (Nat × TypeId × List Value) → (St → Prop) → St → Prop
  | [], K, st => K st
  | (d, T, zs) :: al, K, st => freeO st.objs d ∧ VAl al K ⟨upd st.env d (.v (.c (.ptr d 0))), upd st.objs d (some (.box T (zs.map fun v => .d (.pv v))))⟩
def VT (P : Program) : OT SR → (St → Prop) → St → Prop
  | .done, Q, st => Q st
  | .vac, _, _ => True
  | .take s t, Q, st => VLs P [s] (fun s' => VT P t Q s') st
  | .both a b, Q, st => VT P a Q st ∧ VT P b Q st
def VSC (P : Program) : SC → (Exit → St → Prop) → St → Prop
  | .skip, Q, st => Q .normal st
  | .reg l, Q, st => VLs P l (Q .normal) st
  | .regA l al r, Q, st => VLs P l (VAl al (VLs P r (Q .normal))) st
  | .regO t, Q, st => VT P t (Q .normal) st
  | .seq a b, Q, st => VSC P a (fun e s => match e with | .normal => Wk s (fun s' => VSC P b Q s') | e => Q e s) st
  | .cond c x y, Q, st => ∃ t, ev st.env c = pvA (.bool t) ∧ (t = true → VSC P x Q st) ∧ (t = false → VSC P y Q st)
  | .block id c, Q, st => VSC P c (fun e s => match e with | .exit id' => if id' = id then Q .normal s else Q (.exit id') s | e => Q e s) st
  | .loop c, Q, st => ∃ I : Nat → St → Prop, (∃ k st', Weak st st' ∧ I k st') ∧ ∀ k s, I k s → VSC P c (fun e s' => match e with | .normal => ∃ k' s'', k' < k ∧ Weak s' s'' ∧ I k' s'' | e => Q e s') s
  | .exit id, Q, st => Q (.exit id) st
  | .ret, Q, st => Q .ret st
section
variable {P : Program} {n : Nat}
theorem rdOp_ok {st : St} {o : Op} {s : SOp} {K : AV → Prop} (hs : rdOp P o = some s) (h : VR P st s K) : VCR P st o K := by
  unfold rdOp at hs
  split at hs
  · cases hs; exact h
  · cases hs; exact h
  · cases hs; exact h
  · rename_i T x
    cases hT : tyInfo P T with
    | none => simp [hT] at hs
    | some p =>
      simp only [hT, Option.map_some, Option.some.injEq] at hs
      subst hs
      obtain ⟨b, cs, h1, h2, h3, h4⟩ := h
      exact ⟨b, cs, p.1, p.2, h1, h2, hT, h3, h4⟩
  · cases hs; exact h
  · rename_i op T x y T'
    split at hs
    · rename_i hT
      cases hs
      obtain ⟨u, v, h1, h2, h⟩ := h
      rcases h with ⟨rfl, h⟩ | ⟨rfl, h⟩
      · exact ⟨.bool u, .bool v, _, h1, h2, by simp [binV, boolV, hT], h⟩
      · exact ⟨.bool u, .bool v, _, h1, h2, by simp only [binV, boolV, hT], h⟩
    · cases hs
      obtain ⟨a, b, r, h1, h2, _, h3, h⟩ := h
      exact ⟨a, b, r, h1, h2, h3 T, h⟩
    · cases hs
      obtain ⟨a, b, r, h1, h2, _, h3, h⟩ := h
      exact ⟨a, b, r, h1, h2, h3 T, h⟩
    · cases hs
  · cases hs; exact h
  · cases hs; exact h
  · rename_i T x f
    cases hT : fieldOff P T f with
    | none => simp [hT] at hs
    | some p =>
      simp only [hT, Option.map_some, Option.some.injEq] at hs
      subst hs
      obtain ⟨b, b', h1, h2, h3⟩ := h
      exact ⟨b, p, b', h1, hT, h2, h3⟩
  · rename_i T x f
    cases hT : fieldInfo P T f with
    | none => simp [hT] at hs
    | some p =>
      simp only [hT, Option.map_some, Option.some.injEq] at hs
      subst hs
      obtain ⟨cs, h1, h2, h3⟩ := h
      exact ⟨cs, p.1, p.2.1, p.2.2, h1, hT, h2, h3⟩
  · rename_i T x i
    cases hT : sliceTy P T with
    | none =>
      simp only [hT] at hs
      cases hA : arrTy P T with
      | none => simp [hA] at hs
      | some q =>
        simp only [hA, Option.map_some, Option.some.injEq] at hs
        subst hs
        obtain ⟨b, k, m, b', h1, h2, h3, h4, h5, h6, h7⟩ := h
        exact ⟨b, k, m, h1, h2, h3, .inr (.inr ⟨q.1, q.2, b', hA, h4, h5, h6, h7⟩)⟩
    | some κ =>
      simp only [hT, Option.some.injEq] at hs
      subst hs
      obtain ⟨b, k, m, h1, h2, h3, h4 | h4⟩ := h
      · obtain ⟨κ', xs, es, q0, q1, q2, q3⟩ := h4
        exact ⟨b, k, m, h1, h2, h3, .inl ⟨κ, κ', xs, es, hT, q0, q1, q2, q3⟩⟩
      · obtain ⟨o, xs, hs, q1, q2, q3, q4⟩ := h4
        exact ⟨b, k, m, h1, h2, h3, .inr (.inl ⟨κ, o, xs, hs, hT, q1, q2, q3, q4⟩)⟩
  · rename_i T x i
    split at hs
    · rename_i hT
      cases hs
      obtain ⟨s, k, m, b, h1, h2, h3, h4, h5⟩ := h
      exact ⟨s, k, m, b, h1, h2, hT, h3, h4, h5⟩
    · cases hs
  · rename_i T x lo hi
    cases hT : sliceTy P T with
    | none =>
      simp only [hT] at hs
      split at hs
      · rename_i hS
        cases hs
        obtain ⟨s, l, h', h1, h2, h3, h4, h5, h6⟩ := h
        exact ⟨_, l, h', h1, h2, .inr ⟨s, hS, rfl, h3, h4, h5, h6⟩⟩
      · cases hs
    | some κ =>
      simp only [hT, Option.some.injEq] at hs
      subst hs
      obtain ⟨κ', xs, l, h', h0, h1, h2, h3, h4, h5, h6⟩ := h
      exact ⟨_, l, h', h1, h2, .inl ⟨κ, κ', xs, hT, h0, rfl, h3, h4, h5, h6⟩⟩
  · rename_i src dst x
    split at hs
    · rename_i k' k h1 h2
      cases hs
      obtain ⟨q, m, h3, h4⟩ := h
      exact ⟨q, m, k, h3, by rw [h1]; rfl, h2, h4⟩
    · cases hs
  · cases hs; exact h
  · rename_i g first caps
    split at hs
    · rename_i hf
      cases hs
      obtain ⟨ds, h1, h2⟩ := h
      exact ⟨g, ds, rfl, by simpa using hf, h1, h2⟩
    · cases hs
  · rename_i c
    show (match c.callee with | .builtin .len => _ | .builtin .max => _ | .builtin .min => _ | .value f => _ | _ => False)
    split at hs
    · rename_i hc
      split at hs
      · rename_i x T ha ht
        split at hs
        · rename_i hT
          cases hs
          obtain ⟨s, h1, h2⟩ := h
          exact ⟨x, T, _, ha, ht, h1, .inr ⟨s, rfl, hT, h2⟩⟩
        · split at hs
          · rename_i hT
            cases hs
            obtain ⟨b, m, h1, h2, h3⟩ := h
            exact ⟨x, T, b, ha, ht, h1, .inl ⟨m, hT, h2, h3⟩⟩
          · cases hs
        · cases hs
      · cases hs
    · rename_i hc
      split at hs
      · rename_i x y ha
        cases hs
        obtain ⟨k, m, p, h1, h2, h3⟩ := h
        exact ⟨x, y, k, m, p, ha, h1, h2, h3⟩
      · cases hs
    · rename_i hc
      split at hs
      · rename_i x y ha
        cases hs
        obtain ⟨k, m, p, h1, h2, h3⟩ := h
        exact ⟨x, y, k, m, p, ha, h1, h2, h3⟩
      · cases hs
    · rename_i f hc
      cases hs
      exact h
    · cases hs
  · cases hs
theorem VS_of_rd {st : St} {d : Option Tmp} {s : SOp} {K : AV → St → Prop} (hc : isRd s = true) (h : VS P st d s K) : VR P st s fun x => K x st := by
  cases s <;> first | exact h | (cases hc)
end
end
end Go.Proofs.YtehkaajakapkmaaGreat
