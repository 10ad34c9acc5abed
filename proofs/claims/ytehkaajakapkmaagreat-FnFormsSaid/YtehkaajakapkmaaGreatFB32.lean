/- A text of the proof. -/
import Derived.Test.YtehkaajakapkmaaGreatFB06
namespace Go.Proofs.YtehkaajakapkmaaGreat.RgD
open Go.RowKit
structure DBelow (B : Nat) (w w' : World) : Prop where
  below : Below B w w'
  drawn : w.drawn ≤ w'.drawn
theorem DBelow.refl (B : Nat) (w : World) : DBelow B w w := ⟨Below.refl B w, Nat.le_refl _⟩
theorem DBelow.trans {B : Nat} {a b c : World} (h : DBelow B a b) (k : DBelow B b c) : DBelow B a c := ⟨h.below.trans k.below, Nat.le_trans h.drawn k.drawn⟩
theorem DBelow.drew {B : Nat} {w w' : World} (h : DBelow B w w') : DBelow B w w'.drew := ⟨h.below.drew, Nat.le_succ_of_le h.drawn⟩
theorem DBelow.mono {B B' : Nat} {w w' : World} (h : DBelow B w w') (k : B' ≤ B) : DBelow B' w w' := ⟨h.below.mono k, h.drawn⟩
theorem DBelow.size {B : Nat} {w w' : World} (h : DBelow B w w') : w.heap.size ≤ w'.heap.size := h.below.size
section
def rgPost (d : Option Tmp) (ds : List Deferred) (w : World) (A : Value → World → Prop) : Exit → Act → World → Prop
  | .normal, a', w' => a'.defers = ds ∧ DBelow w.heap.size w w' ∧ (match d with | some t => A (a'.tmps.getD t undef) w' | none => False)
  | _, _, _ => False

def rgSteps (P : Program) (l : List Oper) (n : Nat) (a0 : Act) (w0 : World) (A : Nat → (Nat → Prop) → Value → World → Prop) (own : Nat → Value → List Nat) : Nat → List Oper → Prop
  | _, [] => True
  | k, o :: rest => (k < n → ∀ (v : Nat → Value) (w : World) (G : Nat → Prop), DBelow w0.heap.size w0 w → (∀ b, G b → w0.heap.size ≤ b ∧ b < w.heap.size) → (∀ j, (rgDeps l n k).contains j = true → A j G (v j) w) →
      wpList P l.toArray (rgPost o.dst a0.defers w (rgB A own k G w)) [o] (rgPut l a0 v n) w) ∧ rgSteps P l n a0 w0 A own (k + 1) rest
variable {P : Program} {l : List Oper} {n : Nat} {a0 : Act} {w0 : World} {A : Nat → (Nat → Prop) → Value → World → Prop} {own : Nat → Value → List Nat} {Q : Exit → Act → World → Prop}

theorem rgSteps_get : ∀ (l' : List Oper) (k i : Nat) (o : Oper), rgSteps P l n a0 w0 A own k l' → l'[i]? = some o → k + i < n → ∀ (v : Nat → Value) (w : World) (G : Nat → Prop), DBelow w0.heap.size w0 w → (∀ b, G b → w0.heap.size ≤ b ∧ b < w.heap.size) → (∀ j, (rgDeps l n (k + i)).contains j = true → A j G (v j) w) →
      wpList P l.toArray (rgPost o.dst a0.defers w (rgB A own (k + i) G w)) [o] (rgPut l a0 v n) w
  | [], _, _, _, _, h, _ => by simp at h
  | o' :: rest, k, 0, o, hs, h, hk => by
    simp at h; subst h
    exact hs.1 hk
  | o' :: rest, k, i + 1, o, hs, h, hk => by
    have := rgSteps_get rest (k + 1) i o hs.2 (by simpa using h) (by omega)
    rw [show k + 1 + i = k + (i + 1) by omega] at this
    exact this

theorem rgMain {s : Nat} (hfl : l.all (fldOk P) = true) (hout : LetsOut Q → False) (hT : RgText l n s) (hs : s = a0.tmps.size) (hQ : ∀ c a t v w, Q (.panic c) (a.put (some t) v) w → Q (.panic c) a w)
    (hst : ∀ i G X v w w', i < n → DBelow w.heap.size w w' → (∀ g ∈ X, w.heap.size ≤ g) → A i G v w → A i (gAdd G X) v w')
    (hsteps : rgSteps P l n a0 w0 A own 0 l)
    (htail : ∀ (v : Nat → Value) (w : World) (G : Nat → Prop), DBelow w0.heap.size w0 w → RgOwn w0 w n (fun _ => True) own v G → (∀ j, j < n → A j G (v j) w) → wpList P l.toArray Q (rgTl l n) (rgPut l a0 v n) w) :
    ∀ (fuel : Nat) (listed : Array Bool) (a : Act) (w : World) (v : Nat → Value) (G : Nat → Prop), listed.size = l.length → rgLeft listed n + (l.length - n) ≤ fuel →
      (∀ j, n ≤ j → j < l.length → listed.getD j true = false) →
      (∀ i, i < l.length → listed.getD i false = true → ∀ j ∈ rgDirect l i, listed.getD j false = true) →
      DBelow w0.heap.size w0 w → RgOwn w0 w n (fun j => listed.getD j false = true) own v G → (∀ j, j < n → listed.getD j false = true → A j G (v j) w) → RgFrame l n a0 v (fun j => listed.getD j false = true) a →
      wpAny P .any l.toArray Q fuel listed a w := by
  have hput : ∀ v, RgFrame l n a0 v (· < n) (rgPut l a0 v n) := fun v => rgPut_frame (fun i hi => by rw [← hs]; exact hT.dst i hi) hT.ne v n (Nat.le_refl _)
  intro fuel
  induction fuel with
  | zero =>
    intro listed a w v G hsz hfu htl hcl hB hG hA hF
    have h0 : rgLeft listed n = 0 := by omega
    have hall : ∀ j, j < n → listed.getD j false = true := fun j hj => getD_true_of (by have := hT.le; omega) (rgLeft_zero n h0 j hj)
    have e : a = rgPut l a0 v n := rgFrame_ext (L := (· < n)) ⟨hF.defers, hF.size, fun j d hj _ hd => hF.put j d hj (hall j hj) hd, fun t ht => hF.old t fun j hj _ => ht j hj hj⟩ (hput v)
    rw [e]
    exact rgTail hfl hout hT.lt hT.nosel hQ (rgIdx l n) 0 listed _ w rgIdx_nodup (by rw [rgIdx_length hT.le]; omega) hsz (fun i hi => ⟨(rgIdx_mem.1 hi).2, htl i (rgIdx_mem.1 hi).1 (rgIdx_mem.1 hi).2⟩) (fun j hj hjn => hall j (Nat.lt_of_not_le fun h => hjn (rgIdx_mem.2 ⟨h, hj⟩))) hcl hT.tl (htail v w G hB ⟨hG.new, fun b hb => by obtain ⟨j, h1, _, h3⟩ := hG.cov b hb; exact ⟨j, h1, trivial, h3⟩, fun j hj _ => hG.has j hj (hall j hj), fun i j hi hj _ _ => hG.dis i j hi hj (hall i hi) (hall j hj)⟩ fun j hj => hA j hj (hall j hj))
  | succ fuel ih =>
    intro listed a w v G hsz hfu htl hcl hB hG hA hF
    by_cases h0 : rgLeft listed n = 0
    · have hall : ∀ j, j < n → listed.getD j false = true := fun j hj => getD_true_of (by have := hT.le; omega) (rgLeft_zero n h0 j hj)
      have e : a = rgPut l a0 v n := rgFrame_ext (L := (· < n)) ⟨hF.defers, hF.size, fun j d hj _ hd => hF.put j d hj (hall j hj) hd, fun t ht => hF.old t fun j hj _ => ht j hj hj⟩ (hput v)
      rw [e]
      exact rgTail hfl hout hT.lt hT.nosel hQ (rgIdx l n) (fuel + 1) listed _ w rgIdx_nodup (by rw [rgIdx_length hT.le]; omega) hsz (fun i hi => ⟨(rgIdx_mem.1 hi).2, htl i (rgIdx_mem.1 hi).1 (rgIdx_mem.1 hi).2⟩) (fun j hj hjn => hall j (Nat.lt_of_not_le fun h => hjn (rgIdx_mem.2 ⟨h, hj⟩))) hcl hT.tl (htail v w G hB ⟨hG.new, fun b hb => by obtain ⟨j, h1, _, h3⟩ := hG.cov b hb; exact ⟨j, h1, trivial, h3⟩, fun j hj _ => hG.has j hj (hall j hj), fun i j hi hj _ _ => hG.dis i j hi hj (hall i hi) (hall j hj)⟩ fun j hj => hA j hj (hall j hj))
    · -- one of the first n stands out
      have hex : ∃ i, i < n ∧ listed.getD i true = false := by
        refine Classical.byContradiction fun hno => h0 ?_
        have : ∀ k, k ≤ n → rgLeft listed k = 0 := by
          intro k
          induction k with
          | zero => intro _; rfl
          | succ k ihk =>
            intro hk
            unfold rgLeft
            rw [ihk (by omega), if_neg fun hf => hno ⟨k, by omega, hf⟩]
        exact this n (Nat.le_refl _)
      have hleast : ∃ i, i < n ∧ listed.getD i true = false ∧ ∀ j, j < i → listed.getD j true = true := by
        obtain ⟨i, hi, hf⟩ := hex
        induction i using Nat.strongRecOn with
        | _ i ihi =>
          by_cases hj : ∃ j, j < i ∧ listed.getD j true = false
          · obtain ⟨j, hji, hjf⟩ := hj
            exact ihi j hji (by omega) hjf
          · exact ⟨i, hi, hf, fun j hji => by
              cases e : listed.getD j true
              · exact absurd ⟨j, hji, e⟩ hj
              · rfl⟩
      obtain ⟨i0, hi0, hf0, hbelow⟩ := hleast
      have hle := hT.le
      have hr0 : i0 ∈ Region.ready .any l.toArray listed := rgReady_of (by omega) hf0 fun j hj => getD_true_of (by have := hT.lt i0 (by omega) j hj; omega) (hbelow j (hT.lt i0 (by omega) j hj))
      -- what is shown of one operation that may come up
      have core : ∀ i, i < n → i ∈ Region.ready .any l.toArray listed → wpOp P l.toArray Q i (wpAny P .any l.toArray Q fuel (listed.setIfInBounds i true)) a w ∧
          (rgLate l i = true → ∃ o u, l[i]? = some o ∧ Yields P l.toArray o u a ∧ wpAny P .any l.toArray Q fuel (listed.setIfInBounds i true) (a.put o.dst u) w) := fun i hin hi => ?_
      · by_cases hlate : rgLate l i0 = true
        · obtain ⟨o, u, ho, hy, hh⟩ := (core i0 hi0 hr0).2 hlate
          refine wpAny_take (i := i0) (by simpa using ho) hT.nosel (rgLate_free (rgReady hr0).2.2 hlate) (by simpa using hr0) ?_ hy hh
          obtain ⟨d, hd0, _⟩ := hT.dst i0 hi0
          have hod : o.dst = some d := by simpa [rgDst, ho] using hd0
          rw [hod]
          exact fun c a w h => hQ c a d u w h
        · refine ⟨fun hr => (by rw [hr] at hr0; cases hr0), fun i hi => ?_⟩
          obtain ⟨hil, hf, hd⟩ := rgReady hi
          have hin : i < n := by
            rcases Nat.lt_or_ge i n with h' | h'
            · exact h'
            · have := rgDeps_listed hcl hT.lt l.length i hil hd i0 ((hT.ordP i h' hil i0 hi0).resolve_right hlate)
              rw [show listed.getD i0 true = true by
                have : i0 < listed.size := by omega
                simp [this] at *
                assumption] at hf0
              cases hf0
          exact (core i hin hi).1
      obtain ⟨hil, hf, hd⟩ := rgReady hi
      have hdeps : ∀ j, j ∈ rgDeps l n i → listed.getD j false = true := rgDeps_listed hcl hT.lt n i hil hd
      obtain ⟨d, hdi, hds⟩ := hT.dst i hin
      obtain ⟨o, ho⟩ : ∃ o, l[i]? = some o := ⟨l[i], by simp [hil]⟩
      have hod : o.dst = some d := by simpa [rgDst, ho] using hdi
      have hst' := rgSteps_get l 0 i o hsteps ho (by omega) v w G hB hG.new (fun j hj => by
        have hj' : j ∈ rgDeps l n i := by simpa using hj
        have hl := hdeps j hj'
        rcases Nat.lt_or_ge j n with hjn | hjn
        · exact hA j hjn hl
        · have hjl : j < l.length := by
            rcases Nat.lt_or_ge j listed.size with h' | h'
            · omega
            · simp [Array.getElem?_eq_none h'] at hl
          have := htl j hjn hjl
          rw [show listed.getD j true = true by
            have : j < listed.size := by omega
            simp [this] at *
            assumption] at this
          cases this)
      rw [Nat.zero_add] at hst'
      -- both frames show this operation the same
      have hsee : ∀ t, t ∈ o.looksAt l.toArray → a.tmps[t]? = (rgPut l a0 v n).tmps[t]? := fun t ht => by
        by_cases h : ∃ j, j < n ∧ rgDst l j = some t
        · obtain ⟨j, hj, hjd⟩ := h
          have hl := hdeps j (hT.sees i o hin ho j t hj hjd ht)
          rw [hF.put j t hj hl hjd, (hput v).put j t hj hj hjd]
        · rw [hF.old t fun j hj _ hjd => h ⟨j, hj, hjd⟩, (hput v).old t fun j hj _ hjd => h ⟨j, hj, hjd⟩]
      have he : execOp (rgPut l a0 v n).eval o = execOp a.eval o := execOp_congr o (hT.sel i o hin ho) fun x hx => by
        cases x with
        | tmp t =>
          have := hsee t (List.mem_append_left _ (List.mem_filterMap.2 ⟨.tmp t, by simpa using hx, rfl⟩))
          simp [Act.eval, this]
        | _ => rfl
      have hw : Region.wanted o (yielded l.toArray (rgPut l a0 v n).tmps) = Region.wanted o (yielded l.toArray a.tmps) := by
        unfold Region.wanted
        cases hg : o.guard with
        | none => rfl
        | some gw =>
          obtain ⟨g, want⟩ := gw
          have : yielded l.toArray (rgPut l a0 v n).tmps g = yielded l.toArray a.tmps g := by
            unfold yielded
            cases ht : (l.toArray[g]?).bind (·.dst) with
            | none => rfl
            | some t =>
              have := hsee t (List.mem_append_right _ (by rw [hg]; show t ∈ ((l.toArray[g]?).bind (·.dst)).toList; rw [ht]; simp))
              simp [this]
          simp only [this]
      -- what follows
      have next : ∀ (u : Value) (w' : World), rgPost o.dst a0.defers w (rgB A own i G w) .normal ((rgPut l a0 v n).put o.dst u) w' → wpAny P .any l.toArray Q fuel (listed.setIfInBounds i true) (a.put o.dst u) w' := by
        intro u w' hp
        obtain ⟨_, hb, hAi⟩ := hp
        rw [hod] at hAi ⊢
        have hu2 : rgB A own i G w u w' := by
          have hlt : d < (rgPut l a0 v n).tmps.size := by rw [(hput v).size, ← hs]; exact hds
          simpa [Act.put, hlt] using hAi
        obtain ⟨hu, hun⟩ := hu2
        have hL : ∀ j, (listed.setIfInBounds i true).getD j false = true → j ≠ i → listed.getD j false = true := fun j h hji => by
          rwa [getD_set_ne false (fun h => hji h.symm)] at h
        refine ih _ _ w' (fun j => if j = i then u else v j) (gAdd G (own i u)) (by simpa using hsz) ?_ ?_ ?_ ?_ ?_ ?_ ?_
        · have := rgLeft_set hf n
          rw [if_pos hin] at this
          omega
        · intro j hj hjl
          rw [getD_set_ne true (by omega)]; exact htl j hj hjl
        · intro k hk hkl j hj
          by_cases hki : k = i
          · subst hki
            have hji := hT.lt k hk j hj
            rw [getD_set_ne false (by omega)]
            exact hd j hj
          · rw [getD_set_ne false (fun h => hki h.symm)] at hkl
            exact getD_set_true (hcl k hk hkl j hj)
        · exact hB.trans (hb.mono hB.size)
        · have hget : ∀ j, j < n → (listed.setIfInBounds i true).getD j false = true → j ≠ i → own j (if j = i then u else v j) = own j (v j) := fun j _ _ h => by rw [if_neg h]
          refine ⟨fun b hb' => ?_, fun b hb' => ?_, fun j hj hjl b hb' => ?_, fun j k hj hk hjl hkl hjk b hb' hbk => ?_⟩
          · rcases hb' with hb' | hb'
            · have := hG.new b hb'
              exact ⟨this.1, Nat.lt_of_lt_of_le this.2 hb.size⟩
            · have := hun b hb'
              exact ⟨Nat.le_trans hB.size this.1, this.2⟩
          · rcases hb' with hb' | hb'
            · obtain ⟨j, h1, h2, h3⟩ := hG.cov b hb'
              have hji : j ≠ i := fun e => by
                subst e
                have h4 : listed.getD j true = true := by
                  have : j < listed.size := by omega
                  simp [this] at h2 ⊢
                  exact h2
                rw [h4] at hf; cases hf
              refine ⟨j, h1, ?_, by simp only [if_neg hji]; exact h3⟩
              show (listed.setIfInBounds i true).getD j false = true
              rw [getD_set_ne false (fun h => hji h.symm)]
              exact h2
            · exact ⟨i, hin, getD_set_self hf _, by simpa using hb'⟩
          · by_cases hji : j = i
            · subst hji
              exact .inr (by simpa using hb')
            · simp only [if_neg hji] at hb'
              exact .inl (hG.has j hj (hL j hjl hji) b hb')
          · by_cases hji : j = i
            · by_cases hki : k = i
              · exact hjk (hji.trans hki.symm)
              · simp only [if_neg hki] at hbk
                have h1 := hG.new b (hG.has k hk (hL k hkl hki) b hbk)
                subst hji
                have h2 := hun b (by simpa using hb')
                omega
            · simp only [if_neg hji] at hb'
              have h1 := hG.new b (hG.has j hj (hL j hjl hji) b hb')
              by_cases hki : k = i
              · subst hki
                have h2 := hun b (by simpa using hbk)
                omega
              · simp only [if_neg hki] at hbk
                exact hG.dis j k hj hk (hL j hjl hji) (hL k hkl hki) hjk b hb' hbk
        · intro j hj hjl
          by_cases hji : j = i
          · subst hji; simpa using hu
          · rw [getD_set_ne false (fun h => hji h.symm)] at hjl
            simp only [if_neg hji]
            exact hst j _ _ _ _ _ hj hb (fun g hg => (hun g hg).1) (hA j hj hjl)
        · have hlt : d < a.tmps.size := by rw [hF.size, ← hs]; exact hds
          refine ⟨hF.defers, by simp [Act.put, hF.size], ?_, ?_⟩
          · intro j e hj hjl hje
            by_cases hji : j = i
            · subst hji
              rw [hdi] at hje; cases hje
              simp [Act.put, hlt]
            · rw [getD_set_ne false (fun h => hji h.symm)] at hjl
              have hne' : d ≠ e := fun h => hT.ne i j hin hj (fun h => hji h.symm) (by rw [hdi, hje, h])
              simp only [Act.put, if_neg hji]
              rw [Array.getElem?_setIfInBounds_ne hne']
              exact hF.put j e hj hjl hje
          · intro t ht
            have hne' : d ≠ t := fun h => ht i hin (getD_set_self hf _) (by rw [hdi, h])
            simp only [Act.put]
            rw [Array.getElem?_setIfInBounds_ne hne']
            refine hF.old t fun j hj hjl => ht j hj (getD_set_true hjl)
      simp only [wpList] at hst'
      rw [hw] at hst'
      refine ⟨?_, fun hlate => ?_⟩
      · unfold wpOp
        rw [show l.toArray[i]? = some o by simpa using ho]
        show if Region.wanted o (yielded l.toArray a.tmps) = true then _ else _
        split
        · rename_i hwt
          rw [if_pos hwt] at hst'
          rcases hst' with hst' | ⟨_, a1, w1, hlo⟩
          case inr => exact hlo.elim
          refine .inl ?_
          unfold Oper.wp at *
          rw [he] at hst'
          generalize (execOp a.eval o).run P w = r at *
          cases r with
          | ok m w' =>
            cases m <;> simp only [Oper.upon] at hst' ⊢
            case value u => exact next u w' hst'
            case skip => exact next undef w' hst'
            case defer df =>
              exfalso
              have h1 := hst'.1
              have h2 : ∀ (x : Act) (t : Option Tmp) (q : Value), (x.put t q).defers = x.defers := fun x t q => by cases t <;> rfl
              rw [h2] at h1
              have h3 := congrArg List.length h1
              have h4 := (hput v).defers
              simp [h4] at h3
            case enter f args =>
              refine Calls.mono hst' fun e w'' hh => ?_
              cases e with
              | returned u => exact next u w'' hh
              | panicked c => exact hh.elim
              | outgrown => exact hh.elim (fun _ h => h.elim fun _ h => h.elim)
            case row row args => exact Rows.mono hst' fun u w'' hh => next u w'' hh
          | halt x w' => cases x <;> simp only [Oper.upon] at hst' ⊢ <;> exact hst'.elim
        · rename_i hwt
          rw [if_neg hwt] at hst'
          exact next undef w hst'
      · have hk : (match o.op with | .extract _ _ => true | .move _ => true | _ => false) = true := by
          unfold rgLate at hlate
          rw [ho] at hlate
          simp only [Bool.and_eq_true] at hlate
          exact hlate.1
        by_cases hwt : Region.wanted o (yielded l.toArray a.tmps) = true
        · rw [if_pos hwt] at hst'
          rcases hst' with hst' | ⟨_, a1, w1, hlo⟩
          case inr => exact hlo.elim
          unfold Oper.wp at hst'
          rw [he] at hst'
          cases hrun : (execOp a.eval o).run P w with
          | ok m w' =>
            rw [hrun] at hst'
            have hval : ∃ u, m = .value u ∧ w' = w := by
              obtain ⟨dst, op, type, pos, after, guard⟩ := o
              cases op <;> simp only [Bool.false_eq_true] at hk
              case move x => cases hrun; exact ⟨_, rfl, rfl⟩
              case extract x k =>
                have e : (execOp a.eval { dst := dst, op := .extract x k, type := type, pos := pos, after := after, guard := guard }).run P w = (do pure (Next.value (← Instr.extract (a.eval x) k)) : Sem Next).run P w := rfl
                rw [e] at hrun
                cases hx : a.eval x <;> rw [hx] at hrun <;> first
                  | (cases hrun; done)
                  | skip
                rename_i vs
                unfold Instr.extract at hrun
                simp only at hrun
                cases hv : vs[k]? <;> rw [hv] at hrun <;> first
                  | (cases hrun; done)
                  | (cases hrun; exact ⟨_, rfl, rfl⟩)
            obtain ⟨u, rfl, rfl⟩ := hval
            exact ⟨o, u, ho, .inl ⟨hwt, rgLate_run hk hrun⟩, next u _ hst'⟩
          | halt x w' =>
            rw [hrun] at hst'
            cases x <;> simp only [Oper.upon] at hst' <;> exact hst'.elim
        · rw [if_neg hwt] at hst'
          exact ⟨o, undef, ho, .inr ⟨by simpa using hwt, rfl⟩, next undef w hst'⟩

theorem wp_region_rg {id : Nat} (n : Nat) (A : Nat → (Nat → Prop) → Value → World → Prop) (own : Nat → Value → List Nat) (hfl : l.all (fldOk P) = true) (hout : LetsOut Q → False) (hQ : ∀ c a t v w, Q (.panic c) (a.put (some t) v) w → Q (.panic c) a w) (hm : P.follows .mixedOrders = true) (hok : rgOk l n a0.tmps.size = true)
    (hst : ∀ i G X v w w', i < n → DBelow w.heap.size w w' → (∀ g ∈ X, w.heap.size ≤ g) → A i G v w → A i (gAdd G X) v w')
    (hsteps : rgSteps P l n a0 w0 A own 0 l)
    (htail : ∀ (v : Nat → Value) (w : World) (G : Nat → Prop), DBelow w0.heap.size w0 w → RgOwn w0 w n (fun _ => True) own v G → (∀ j, j < n → A j G (v j) w) → wpList P l.toArray Q (rgTl l n) (rgPut l a0 v n) w) :
    (Code.region id l.toArray true).wp P Q a0 w0 := by
  have hT := rgText_of hok
  have hF : ∀ j d, (Array.replicate l.length false).getD j d = if j < l.length then false else d := fun j d => by
    by_cases h : j < l.length <;> simp [h]
  refine wp_region_any hm ?_
  have hsz : l.toArray.size = l.length := by simp
  rw [hsz]
  refine rgMain hfl hout hT rfl hQ hst hsteps htail l.length _ a0 w0.drew (fun _ => undef) (fun _ => False) (by simp) ?_ ?_ ?_ (DBelow.drew (DBelow.refl _ _)) ⟨fun b h => h.elim, fun b h => h.elim, fun j hj hl => ?_, fun i j hi hj hl => ?_⟩ ?_ ?_
  · have : ∀ k, rgLeft (Array.replicate l.length false) k ≤ k := by
      intro k
      induction k with
      | zero => exact Nat.le_refl _
      | succ k ih => unfold rgLeft; split <;> omega
    have := this n
    have := hT.le
    omega
  · intro j _ hj; rw [hF, if_pos hj]
  · intro i hi hl; rw [hF, if_pos hi] at hl; cases hl
  · rw [hF] at hl; split at hl <;> cases hl
  · rw [hF] at hl; split at hl <;> cases hl
  · intro j hj hl; rw [hF] at hl; split at hl <;> cases hl
  · refine ⟨rfl, rfl, fun j d hj hl => ?_, fun _ _ => rfl⟩
    rw [hF] at hl; split at hl <;> cases hl
def rgV (L : List (Value → Prop)) (i : Nat) (_ : Nat → Prop) (v : Value) (_ : World) : Prop := match L[i]? with
  | some p => p v
  | none => True
theorem wp_region_rgv {id : Nat} (n : Nat) (L : List (Value → Prop)) (hfl : l.all (fldOk P) = true) (hout : LetsOut Q → False) (hQ : ∀ c a t v w, Q (.panic c) (a.put (some t) v) w → Q (.panic c) a w) (hm : P.follows .mixedOrders = true) (hok : rgOk l n a0.tmps.size = true)
    (hsteps : rgSteps P l n a0 w0 (rgV L) (fun _ _ => []) 0 l)
    (htail : ∀ (v : Nat → Value) (w : World), DBelow w0.heap.size w0 w → (∀ j, j < n → rgV L j (fun _ => False) (v j) w) → wpList P l.toArray Q (rgTl l n) (rgPut l a0 v n) w) :
    (Code.region id l.toArray true).wp P Q a0 w0 :=
  wp_region_rg n (rgV L) (fun _ _ => []) hfl hout hQ hm hok (fun _ _ _ _ _ _ _ _ _ h => h) hsteps fun v w _ hB _ hA => htail v w hB hA
theorem wpList_tl {P : Program} {l : List Oper} {n : Nat} {ops : Array Oper} {Q : Exit → Act → World → Prop} {a : Act} {w : World} (h : rgTl l n = l.drop n) (k : wpList P ops Q (l.drop n) a w) : wpList P ops Q (rgTl l n) a w := h ▸ k
end
end Go.Proofs.YtehkaajakapkmaaGreat.RgD
