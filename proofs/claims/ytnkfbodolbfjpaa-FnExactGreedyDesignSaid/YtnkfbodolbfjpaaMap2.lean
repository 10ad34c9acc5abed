/- Keys of maps: numbers, strings, structs of such. No program is named here. -/
import Derived.Test.YtnkfbodolbfjpaaMap1
namespace Go.Proofs.Ytnkfbodolbfjpaa
open Go.RowKit
section
variable {P : Program}
theorem findNow_spec {kd : TypeDesc} {k : Value} : ∀ {ms : List MapEntry} (i : Nat), (∀ e ∈ ms, ∃ b, Instr.sameNow kd k e.key = some b ∧ (b = true ↔ e.key = k)) →
    (∃ j e, Instr.findNow kd k ms i = some (some (i + j, e.val)) ∧ ms[j]? = some e ∧ e.key = k ∧ ∀ i f, i < j → ms[i]? = some f → f.key ≠ k) ∨ (Instr.findNow kd k ms i = some none ∧ ∀ e ∈ ms, e.key ≠ k)
  | [], i, _ => .inr ⟨rfl, fun e he => by cases he⟩
  | e :: ms, i, h => by
    obtain ⟨b, h1, h2⟩ := h e (by simp)
    cases b with
    | true => exact .inl ⟨0, e, by simp [Instr.findNow, h1], rfl, h2.1 rfl, fun i f hi => by omega⟩
    | false =>
      have hne : e.key ≠ k := fun hh => by simpa using h2.2 hh
      rcases findNow_spec (ms := ms) (i + 1) (fun f hf => h f (by simp [hf])) with ⟨j, f, g1, g2, g3, g4⟩ | ⟨g1, g2⟩
      · refine .inl ⟨j + 1, f, by simp only [Instr.findNow, h1, g1]; congr 3; omega, by simpa using g2, g3, fun i' f' hi hf => ?_⟩
        cases i' with
        | zero => simp at hf; subst hf; exact hne
        | succ i' => exact g4 i' f' (by omega) (by simpa using hf)
      · refine .inr ⟨by simp only [Instr.findNow, h1, g1], fun f hf => ?_⟩
        rcases List.mem_cons.1 hf with rfl | hf
        · exact hne
        · exact g2 f hf
theorem findAsking_spec {kt : TypeId} {k : Value} {w : World} : ∀ {ms : List MapEntry} (i : Nat), (∀ e ∈ ms, ∃ b, (Op.equal kt k e.key).run P w = .ok b w ∧ (b = true ↔ e.key = k)) →
    (∃ j e, (Instr.findAsking kt k ms i).run P w = .ok (some (i + j, e.val)) w ∧ ms[j]? = some e ∧ e.key = k ∧ ∀ i f, i < j → ms[i]? = some f → f.key ≠ k) ∨ ((Instr.findAsking kt k ms i).run P w = .ok none w ∧ ∀ e ∈ ms, e.key ≠ k)
  | [], i, _ => .inr ⟨by simp [Instr.findAsking], fun e he => by cases he⟩
  | e :: ms, i, h => by
    obtain ⟨b, h1, h2⟩ := h e (by simp)
    cases b with
    | true => exact .inl ⟨0, e, by simp [Instr.findAsking, h1, Result.andThen], rfl, h2.1 rfl, fun i f hi => by omega⟩
    | false =>
      have hne : e.key ≠ k := fun hh => by simpa using h2.2 hh
      rcases findAsking_spec (ms := ms) (i + 1) (fun f hf => h f (by simp [hf])) with ⟨j, f, g1, g2, g3, g4⟩ | ⟨g1, g2⟩
      · refine .inl ⟨j + 1, f, by simp only [Instr.findAsking, Sem.run_bind, h1, Result.andThen_ok, Bool.false_eq_true, if_false, g1]; congr 3; omega, by simpa using g2, g3, fun i' f' hi hf => ?_⟩
        cases i' with
        | zero => simp at hf; subst hf; exact hne
        | succ i' => exact g4 i' f' (by omega) (by simpa using hf)
      · refine .inr ⟨by simp only [Instr.findAsking, Sem.run_bind, h1, Result.andThen_ok, Bool.false_eq_true, if_false, g1], fun f hf => ?_⟩
        rcases List.mem_cons.1 hf with rfl | hf
        · exact hne
        · exact g2 f hf
theorem key_now {kt : TypeId} {kd : TypeDesc} (hd : P.underlying kt = some kd) {k : Value} {ms : List MapEntry} (h : ∀ e ∈ ms, ∃ b, Instr.sameNow kd k e.key = some b ∧ (b = true ↔ e.key = k)) (w : World) :
    (∃ j e, (Instr.findKey kt k ms).run P w = .ok (some (j, e.val)) w ∧ ms[j]? = some e ∧ e.key = k ∧ ∀ i f, i < j → ms[i]? = some f → f.key ≠ k) ∨ ((Instr.findKey kt k ms).run P w = .ok none w ∧ ∀ e ∈ ms, e.key ≠ k) := by
  rcases findNow_spec 0 h with ⟨j, e, g1, g2⟩ | ⟨g1, g2⟩
  · rw [Nat.zero_add] at g1
    exact .inl ⟨j, e, MapKept.run_findKey hd g1, g2⟩
  · exact .inr ⟨MapKept.run_findKey hd g1, g2⟩
theorem keyPlain {kt : TypeId} {kd : TypeDesc} (hd : P.underlying kt = some kd) : KeyOk P kt (MapKept.IsKey kd) where
  check := fun k hk b w => MapKept.run_checkKey hd hk b 9999
  find := fun k hk ms hms w => key_now hd (fun f hf => by
    obtain ⟨r, h1, h2⟩ := MapKept.sameNow_of_keys hk (hms f hf)
    exact ⟨r, h1, h2.trans ⟨Eq.symm, Eq.symm⟩⟩) w
  stays := fun k hk w => MapKept.run_keyThatStays hk
theorem eqVs_iff : ∀ {ks : List Kd} {as bs : List Value}, fitK ks as = true → fitK ks bs = true → (eqVs as bs = true ↔ bs = as)
  | [], [], [], _, _ => by simp [eqVs]
  | .b :: ks, .bool a :: as, .bool b :: bs, h1, h2 => by
    have := eqVs_iff (ks := ks) (as := as) (bs := bs) h1 h2
    simp only [eqVs, eqV, Bool.and_eq_true, decide_eq_true_eq, this, List.cons.injEq, Value.bool.injEq]
    exact ⟨fun ⟨h, h'⟩ => ⟨h.symm, h'⟩, fun ⟨h, h'⟩ => ⟨h.symm, h'⟩⟩
  | .i k :: ks, .int k1 a :: as, .int k2 b :: bs, h1, h2 => by
    simp only [fitK, Bool.and_eq_true, decide_eq_true_eq] at h1 h2
    have := eqVs_iff (ks := ks) (as := as) (bs := bs) h1.2 h2.2
    simp only [eqVs, eqV, Bool.and_eq_true, decide_eq_true_eq, this, List.cons.injEq, Value.int.injEq]
    exact ⟨fun ⟨h, h'⟩ => ⟨⟨h2.1.symm.trans h1.1, h.symm⟩, h'⟩, fun ⟨h, h'⟩ => ⟨h.2.symm, h'⟩⟩
  | .s :: ks, .string a :: as, .string b :: bs, h1, h2 => by
    have := eqVs_iff (ks := ks) (as := as) (bs := bs) h1 h2
    simp only [eqVs, eqV, Bool.and_eq_true, decide_eq_true_eq, this, List.cons.injEq, Value.string.injEq]
    exact ⟨fun ⟨h, h'⟩ => ⟨h.symm, h'⟩, fun ⟨h, h'⟩ => ⟨h.symm, h'⟩⟩
theorem sameBits_fit (n : Nat) : ∀ {ks : List Kd} {as : List Value}, fitK ks as = true → ((as.zip as).all fun p => Instr.sameBits n p.1 p.2) = true
  | [], [], _ => rfl
  | .b :: ks, .bool a :: as, h => by
    have := sameBits_fit n (ks := ks) (as := as) h
    simp only [List.zip_cons_cons, List.all_cons, this, Bool.and_true]
    cases n <;> simp [Instr.sameBits]
  | .i k :: ks, .int k1 a :: as, h => by
    simp only [fitK, Bool.and_eq_true, decide_eq_true_eq] at h
    have := sameBits_fit n (ks := ks) (as := as) h.2
    simp only [List.zip_cons_cons, List.all_cons, this, Bool.and_true]
    cases n <;> simp [Instr.sameBits]
  | .s :: ks, .string a :: as, h => by
    have := sameBits_fit n (ks := ks) (as := as) h
    simp only [List.zip_cons_cons, List.all_cons, this, Bool.and_true]
    exact MapKept.sameBits_self (d := .string) (by simp [MapKept.IsKey]) n
theorem keySt {kt : TypeId} {fs : Array Field} {ks : List Kd} {d : Nat} (hd : P.underlying kt = some (.struct fs)) (hk : kdsOf P d kt = some ks) (hdm : d ≤ Op.maxDepth)
    (hc : ∀ as, fitK ks as = true → ∀ b w, (Instr.checkKey b 10000 kt (.agg as.toArray)).run P w = .ok () w) : KeyOk P kt (fun k => ∃ as : List Value, k = .agg as.toArray ∧ fitK ks as = true) where
  check := fun k ⟨as, e, h⟩ b w => by subst e; exact hc as h b w
  find := fun k ⟨as, e, h⟩ ms hms w => by
    subst e
    have hask : ∀ f ∈ ms, ∃ b, (Op.equal kt (.agg as.toArray) f.key).run P w = .ok b w ∧ (b = true ↔ f.key = .agg as.toArray) := fun f hf => by
      obtain ⟨bs, hb, hfit⟩ := hms f hf
      have := eq_ok (w := w) d kt ks hk Op.maxDepth hdm as bs h hfit
      have hst : isSt P kt = true := by simp [isSt, hd]
      simp only [valOf, hst, if_true] at this
      refine ⟨eqVs as bs, by rw [hb]; exact this, ?_⟩
      rw [eqVs_iff h hfit, hb]
      simp
    have hfind : (Instr.findKey kt (.agg as.toArray) ms).run P w = (Instr.findAsking kt (.agg as.toArray) ms).run P w := by
      cases ms with
      | nil => simp [Instr.findKey, run_underlying hd, Instr.findNow, Instr.findAsking, Result.andThen]
      | cons f ms => simp [Instr.findKey, run_underlying hd, Instr.findNow, Instr.sameNow, Result.andThen]
    rw [hfind]
    rcases findAsking_spec 0 hask with ⟨j, f, g1, g2⟩ | ⟨g1, g2⟩
    · rw [Nat.zero_add] at g1
      exact .inl ⟨j, f, g1, g2⟩
    · exact .inr ⟨g1, g2⟩
  stays := fun k ⟨as, e, h⟩ w => by
    subst e
    have := sameBits_fit 9999 h
    have h2 : Instr.sameBits 10000 (.agg as.toArray) (.agg as.toArray) = true := by
      show ((as.toArray.size == as.toArray.size) && ((as.toArray.toList.zip as.toArray.toList).all fun p => Instr.sameBits 9999 p.1 p.2)) = true
      simpa using this
    simp [Instr.keyThatStays, h2]
end
end Go.Proofs.Ytnkfbodolbfjpaa
