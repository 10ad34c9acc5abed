/- A region that draws its order, in words about what is known. No program is named here. -/
import Derived.Test.YthgdccokpgaicaaSx11
namespace Go.Proofs.Ythgdccokpgaicaa
open Go.RowKit
section
variable {P : Program} {w0 w : World} {n : Nat} {R : Nat → Prop} {ι : Nat → Value} {st : St} {a : Act}
/-- All that has been made since w may be read. -/
def Rmax (R : Nat → Prop) (w w' : World) (b : Nat) : Prop := b < w'.heap.size ∧ (b < w.heap.size → R b)
theorem rgSteps_of {l : List Oper} {m : Nat} {a0 : Act} {w0 : World} {A : Nat → Value → World → Prop} : ∀ (l' : List Oper) (k : Nat), (∀ i o, l'[i]? = some o → k + i < m → ∀ (v : Nat → Value) (w : World), Below w0.heap.size w0 w → (∀ j, (rgDeps l m (k + i)).contains j = true → A j (v j) w) →
      wpList P l.toArray (rgPost o.dst a0.defers w (A (k + i))) [o] (rgPut l a0 v m) w) → rgSteps P l m a0 w0 A k l'
  | [], _, _ => trivial
  | o :: rest, k, h => ⟨fun hk => h 0 o rfl hk, rgSteps_of rest (k + 1) fun i o' hi hk => by
      have := h (i + 1) o' (by simpa using hi) (by omega)
      rwa [show k + (i + 1) = k + 1 + i by omega] at this⟩
theorem rgDeps_lt {l : List Oper} (hlt : ∀ i, i < l.length → ∀ j ∈ rgDirect l i, j < i) : ∀ f i, i < l.length → ∀ j ∈ rgDeps l f i, j < i
  | 0, _, _, j, hj => by simp [rgDeps] at hj
  | f + 1, i, hi, j, hj => by
    simp only [rgDeps, List.mem_append, List.mem_flatMap] at hj
    rcases hj with hj | ⟨m, hm, hj⟩
    · exact hlt i hi j hj
    · have h1 := hlt i hi m hm
      have := rgDeps_lt hlt f m (by omega) j hj
      omega
theorem RA.below {w' : World} {dom : Nat → Prop} {v : Value} {x : AV} (hR : ∀ b, R b → b < w.heap.size) (hb : Below w.heap.size w w') (h : RA w R ι dom v x) : RA w' (Rmax R w w') ι dom v x :=
  RA.keep (fun b h => ⟨Nat.lt_of_lt_of_le (hR b h) hb.size, fun _ => h⟩) (fun b h => hb.block b (hR b h)) (fun _ h => h) (fun _ _ => rfl) h
theorem Rmax.keep {w1 w2 : World} {dom : Nat → Prop} {v : Value} {x : AV} (hb : Below w1.heap.size w1 w2) (h : RA w1 (Rmax R w w1) ι dom v x) : RA w2 (Rmax R w w2) ι dom v x :=
  RA.keep (fun _ h => ⟨Nat.lt_of_lt_of_le h.1 hb.size, h.2⟩) (fun b h => hb.block b h.1) (fun _ h => h) (fun _ _ => rfl) h
theorem rgDst_take {l : List Oper} {m j : Nat} (h : j < m) : rgDst (l.take m) j = rgDst l j := by simp [rgDst, h]
/-- THE REGION: m operations that only read and call, each on its own; the others behind them, in order. -/
theorem VCP_sound {id : Nat} {l : List Oper} {m : Nat} {Q : Exit → Act → World → Prop} {Qs : St → Prop} (hm : P.follows .mixedOrders = true) (hok : rgOk l m n = true) (hQp : ∀ c a t v w, Q (.panic c) (a.put (some t) v) w → Q (.panic c) a w)
    (hQ : ∀ st a w R ι, Qs st → Sat w0 n R ι st a w → Q .normal a w) (h : VCP P n l m l Qs st) (hs : Sat w0 n R ι st a w) : (Code.region id l.toArray true).wp P Q a w := by
  have hok' : rgOk l m a.tmps.size = true := by rw [hs.size]; exact hok
  have hT := rgText_of hok'
  obtain ⟨xs, st', hrun, htl⟩ := VCP_run (N0 := w0.heap.size) h
  have hlen : (l.take m).length = m := by rw [List.length_take]; exact Nat.min_eq_left hT.le
  have hne : ∀ i j, i < (l.take m).length → j < (l.take m).length → i ≠ j → rgDst (l.take m) i ≠ rgDst (l.take m) j := fun i j hi hj hij => by
    rw [hlen] at hi hj
    rw [rgDst_take hi, rgDst_take hj]
    exact hT.ne i j hi hj hij
  have hobjs := hrun.objs
  have hput : ∀ v, RgFrame l m a v (· < m) (rgPut l a v m) := fun v => rgPut_frame hT.dst hT.ne v m (Nat.le_refl _)
  let A : Nat → Value → World → Prop := fun j v w' => RA w' (Rmax R w w') ι st.dom v (xs.getD j undefA)
  refine wp_region_rg m A hQp hm hok' (fun i v w1 w2 _ hb h => Rmax.keep hb h) (rgSteps_of l 0 fun k o ho hk v w1 hb hd => ?_) fun v w1 hb hA => ?_
  · rw [Nat.zero_add] at hk hd ⊢
    have ho' : (l.take m)[k]? = some o := by rw [List.getElem?_take, if_pos hk]; exact ho
    obtain ⟨sk, x, hx, hstep, hso, hse, hsold⟩ := hrun.get hne ho'
    have hAk : xs.getD k undefA = x := by simp [List.getD, hx]
    -- what is known of a slot that the operation looks at
    have slot : ∀ t, t ∈ o.looksAt l.toArray → RA w1 (Rmax R w w1) ι st.dom ((rgPut l a v m).tmps.getD t undef) (sk.env t) := fun t ht => by
      by_cases hj : ∃ j, j < m ∧ rgDst l j = some t
      · obtain ⟨j, hjm, hjt⟩ := hj
        have hdep := hT.sees k o hk ho j t hjm hjt ht
        have hjk : j < k := rgDeps_lt hT.lt m k (by have := hT.le; omega) j hdep
        obtain ⟨y, hy, he⟩ := hse j t hjk (by rw [rgDst_take hjm]; exact hjt)
        have hv := hd j (by simpa using hdep)
        have hvj : A j (v j) w1 = RA w1 (Rmax R w w1) ι st.dom (v j) (xs.getD j undefA) := rfl
        rw [hvj, show xs.getD j undefA = y by simp [List.getD, hy]] at hv
        rw [he, Array.getD_eq_getD_getElem?, (hput v).put j t hjm hjm hjt]
        exact hv
      · have hno : ∀ j, j < m → j < m → rgDst l j ≠ some t := fun j hjm _ e => hj ⟨j, hjm, e⟩
        rw [hsold t fun j hjk => by rw [rgDst_take (by omega)]; exact hno j (by omega) (by omega), Array.getD_eq_getD_getElem?, (hput v).old t hno, ← Array.getD_eq_getD_getElem?]
        exact RA.below hs.rlt hb (hs.env t)
    have hobj : ∀ p y, sk.objs p = some y → RO w0.heap.size w1 (Rmax R w w1) ι sk.dom (ι p) y := fun p y hp => by
      have hp' : st.objs p = some y := by rw [← hso]; exact hp
      have hbl := fun g hg => RO.blk_lt (g := g) hg (hs.objs p y hp')
      have hdm : sk.dom = st.dom := by unfold St.dom; rw [hso]
      rw [hdm]
      exact RO.keep (fun b h => ⟨Nat.lt_of_lt_of_le (hs.rlt b h) hb.size, fun _ => h⟩) (fun b h => hb.block b (hs.rlt b h)) (fun _ h => h) (fun _ _ => rfl) (fun g hg => ⟨hb.block g (hbl g hg).2.1, fun hr => (hbl g hg).2.2 (hr.2 (hbl g hg).2.1)⟩) (hs.objs p y hp')
    have hdm : sk.dom = st.dom := by unfold St.dom; rw [hso]
    have hops : ∀ y ∈ o.op.operands.toList, RA w1 (Rmax R w w1) ι sk.dom ((rgPut l a v m).eval y) (ev sk.env y) := fun y hy => by
      rw [hdm]
      cases y with
      | tmp t => exact slot t (by unfold Oper.looksAt; exact List.mem_append_left _ (List.mem_filterMap.2 ⟨_, hy, rfl⟩))
      | const u => exact constA_ok u
      | func f => exact RD.fn (vs := []) rfl (by simp)
      | global g => trivial
    obtain ⟨d, hdd, hds⟩ := hT.dst k hk
    have hod : o.dst = some d := by simpa [rgDst, ho] using hdd
    have hsz : (rgPut l a v m).tmps.size = a.tmps.size := (hput v).size
    have hdef : (rgPut l a v m).defers = a.defers := (hput v).defers
    have post : ∀ u w2, Below w1.heap.size w1 w2 → A k u w2 → rgPost o.dst a.defers w1 (A k) .normal ((rgPut l a v m).put o.dst u) w2 := fun u w2 hb2 hA => by
      rw [hod]
      refine ⟨by simpa [Act.put] using hdef, hb2, ?_⟩
      show A k (((rgPut l a v m).put (some d) u).tmps.getD d undef) w2
      rw [Array.getD_eq_getD_getElem?]
      simp only [Act.put]
      rw [Array.getElem?_setIfInBounds_self_of_lt (by rw [hsz]; exact hds)]
      exact hA
    have guardSlot : ∀ j want g, o.guard = some (j, want) → gslot l j = some g → RA w1 (Rmax R w w1) ι sk.dom ((rgPut l a v m).tmps.getD g undef) (sk.env g) := fun j want g hg hgs => by
      rw [hdm]
      refine slot g ?_
      unfold Oper.looksAt
      refine List.mem_append_right _ ?_
      rw [hg]
      simp only [gslot] at hgs
      simp [hgs]
    refine wpList_step fun K hK => ?_
    rcases hstep with ⟨hw, hopS⟩ | ⟨hw, rfl⟩
    · have hwant : Region.wanted o (yielded l.toArray (rgPut l a v m).tmps) = true := by
        rcases hw with hg | ⟨j, want, g, hg, hgs, he⟩
        · simp [Region.wanted, hg]
        · have := (yielded_env (guardSlot j want g hg hgs) hgs).1 want he
          simp [Region.wanted, hg, this]
      rw [if_pos hwant]
      refine hopS _ w1 (Rmax R w w1) ι (fun b h => h.1) hobj hops K _ fun u w2 R' hb2 h1 h2 h3 hra => hK _ _ (post u w2 hb2 ?_)
      show RA w2 (Rmax R w w2) ι st.dom u (xs.getD k undefA)
      rw [hAk]
      rw [hdm] at hra
      exact RA.keep (fun b hb' => ⟨h2 b hb', fun hlt => (h3 b hb' (Nat.lt_of_lt_of_le hlt hb.size)).2 hlt⟩) (fun _ _ => rfl) (fun _ h => h) (fun _ _ => rfl) hra
    · have hwant : Region.wanted o (yielded l.toArray (rgPut l a v m).tmps) = false := by
        obtain ⟨j, want, g, hg, hgs, he⟩ := hw
        rcases he with he | he
        · have := (yielded_env (guardSlot j want g hg hgs) hgs).2 he
          simp [Region.wanted, hg, this]
        · have := (yielded_env (guardSlot j want g hg hgs) hgs).1 _ he
          simp [Region.wanted, hg, this]
      rw [if_neg (by rw [hwant]; exact Bool.false_ne_true)]
      refine hK _ _ (post undef w1 (Below.refl _ _) ?_)
      show RA w1 (Rmax R w w1) ι st.dom undef (xs.getD k undefA)
      rw [hAk]
      exact RA.undef
  · -- behind them
    have hfin := hrun.final hne
    have hdm : st'.dom = st.dom := by unfold St.dom; rw [hobjs.1]
    have hs1 : Sat w0 n (Rmax R w w1) ι st a w1 := hs.world hb (fun b h => ⟨Nat.lt_of_lt_of_le (hs.rlt b h) hb.size, fun _ => h⟩) (fun b h => h.1) (fun b h hlt => h.2 hlt)
    have hs2 : Sat w0 n (Rmax R w w1) ι st' (rgPut l a v m) w1 := by
      refine ⟨hs1.below, hs1.rlt, by rw [(hput v).size]; exact hs1.size, by rw [(hput v).defers]; exact hs1.defers, fun t => ?_, fun p y hp => by rw [hdm]; exact hs1.objs p y (by rw [← hobjs.1]; exact hp), fun o p x y g ho hp => hs1.apart o p x y g (by rw [← hobjs.1]; exact ho) (by rw [← hobjs.1]; exact hp)⟩
      rw [hdm]
      by_cases hj : ∃ j, j < m ∧ rgDst l j = some t
      · obtain ⟨j, hjm, hjt⟩ := hj
        obtain ⟨y, hy, he⟩ := hfin.1 j t (by rw [rgDst_take hjm]; exact hjt)
        have hv := hA j hjm
        have hvj : A j (v j) w1 = RA w1 (Rmax R w w1) ι st.dom (v j) (xs.getD j undefA) := rfl
        rw [hvj, show xs.getD j undefA = y by simp [List.getD, hy]] at hv
        rw [he, Array.getD_eq_getD_getElem?, (hput v).put j t hjm hjm hjt]
        exact hv
      · have hno : ∀ j, j < m → j < m → rgDst l j ≠ some t := fun j hjm _ e => hj ⟨j, hjm, e⟩
        rw [hfin.2 t fun j hjk => by rw [hlen] at hjk; rw [rgDst_take hjk]; exact hno j hjk hjk, Array.getD_eq_getD_getElem?, (hput v).old t hno, ← Array.getD_eq_getD_getElem?]
        exact hs1.env t
    exact VCL_sound hQ htl hs2
end
end Go.Proofs.Ythgdccokpgaicaa
