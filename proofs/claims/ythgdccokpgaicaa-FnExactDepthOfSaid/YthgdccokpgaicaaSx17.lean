/- Why the words on the stripped code are true. No program is named here. -/
import Derived.Test.YthgdccokpgaicaaSx16
namespace Go.Proofs.Ythgdccokpgaicaa
open Go.RowKit
section
variable {P : Program} {n : Nat}
theorem wr_of_rd {o : Op} {s : SOp} (h : rdOp P o = some s) : wrOp P o = some s := by
  cases o with
  | call c =>
    show (match c.callee with | .builtin .append => _ | _ => _) = some s
    split
    · rename_i hc
      simp only [rdOp, hc] at h
      cases h
    · exact h
  | alloc T => simp [rdOp] at h
  | box T x => simp [rdOp] at h
  | store T x y => simp [rdOp] at h
  | build T p => simp [rdOp] at h
  | buildSlice T l p => simp [rdOp] at h
  | makeSlice T l p => simp [rdOp] at h
  | _ => exact h
theorem wrOp_ok {st : St} {o : Oper} {s : SOp} {K : AV → St → Prop} (hs : wrOp P o.op = some s) (h : VS P st o.dst s K) : VCW P st o K := by
  obtain ⟨dst, op, guard⟩ := o
  simp only at hs h
  have rd : ∀ s, rdOp P op = some s → VS P st none s K → VCR P st op fun x => K x st := fun s h1 h2 => rdOp_ok h1 h2
  cases op with
  | alloc T =>
    cases hz : zeroCells P T with
    | none => simp [wrOp, hz] at hs
    | some zs =>
      simp only [wrOp, hz, Option.map_some, Option.some.injEq] at hs
      subst hs
      obtain ⟨d, h1, h2, h3⟩ := h
      exact ⟨d, zs, h1, h2, hz, h3⟩
  | box T x =>
    simp only [wrOp, Option.some.injEq] at hs
    subst hs
    exact h
  | store T x y =>
    cases hz : tyInfo P T with
    | none => simp [wrOp, hz] at hs
    | some p =>
      simp only [wrOp, hz, Option.map_some, Option.some.injEq] at hs
      subst hs
      obtain ⟨b, v1, cs, h1, h2, h3, h4, h5, h6⟩ := h
      exact ⟨b, v1, cs, p.1, h1, h2, h3, h4, by rw [hz, h5], h6⟩
  | build T parts =>
    cases hz : zeroCells P T with
    | none => simp [wrOp, hz] at hs
    | some zs =>
      cases hp : placesOf P T with
      | none => simp [wrOp, hz, hp] at hs
      | some pl =>
        simp only [wrOp, hz, hp, Option.some.injEq] at hs
        subst hs
        obtain ⟨ps, bs, h1, h2, h3⟩ := h
        exact ⟨zs, pl, ps, bs, hz, hp, h1, h2, h3⟩
  | buildSlice T len parts =>
    cases hz : sliceInfo P T with
    | none => simp [wrOp, hz] at hs
    | some p =>
      obtain ⟨e, s', by', zs⟩ := p
      simp only [wrOp, hz] at hs
      split at hs
      · rename_i hl
        cases hs
        obtain ⟨d', ps, bs, ds, h1, h2, h3, h4, h5, h6⟩ := h
        exact ⟨d', e, s', by', zs, ps, bs, ds, h1, h2, hz, hl.1, hl.2, h3, h4, h5, h6⟩
      · cases hs
  | makeSlice T l c =>
    cases hz : sliceInfo P T with
    | none => simp [wrOp, hz] at hs
    | some p =>
      obtain ⟨e, s', by', zs⟩ := p
      simp only [wrOp, hz] at hs
      split at hs
      · rename_i hl
        cases hs
        obtain ⟨d', m, h1, h2, h3, h4, h5, h6, h7⟩ := h
        exact ⟨d', m, e, s', by', zs, h1, h2, h3, h4, h5, h6, hz, hl, h7⟩
      · cases hs
  | call c =>
    unfold wrOp at hs
    simp only at hs
    split at hs
    · rename_i hc
      split at hs
      · rename_i x y T T' ha ht
        split at hs
        · rename_i hT
          subst hT
          split at hs
          · rename_i e s' by' zs hz
            cases hs
            obtain ⟨d', b, b', ys, h1, h2, h3, h4, h5⟩ := h
            simp only [VCW, hc]
            exact ⟨d', x, y, T, b, b', e, s', by', zs, ys, h1, ha, ht, h2, h3, hz, h4, h5⟩
          · cases hs
        · cases hs
      · cases hs
    · rename_i hna
      simp only [VCW]
      split
      · rename_i hc; exact absurd hc hna
      · rename_i f hc
        unfold rdOp at hs
        simp only [hc, Option.some.injEq] at hs
        subst hs
        exact h
      · rename_i hc1 hc2
        refine rd s hs ?_
        cases s with
        | call f xs =>
          exfalso
          unfold rdOp at hs
          simp only at hs
          split at hs
          · split at hs
            · split at hs
              · cases hs
              · split at hs <;> cases hs
              · cases hs
            · cases hs
          · split at hs <;> cases hs
          · split at hs <;> cases hs
          · rename_i f hf; exact hc2 f hf
          · cases hs
        | al _ _ => exact absurd hs (by unfold rdOp; intro hs; simp only at hs; repeat (first | cases hs | split at hs))
        | box _ _ => exact absurd hs (by unfold rdOp; intro hs; simp only at hs; repeat (first | cases hs | split at hs))
        | bsl _ _ _ _ => exact absurd hs (by unfold rdOp; intro hs; simp only at hs; repeat (first | cases hs | split at hs))
        | mks _ _ _ _ _ => exact absurd hs (by unfold rdOp; intro hs; simp only at hs; repeat (first | cases hs | split at hs))
        | app _ _ _ _ _ => exact absurd hs (by unfold rdOp; intro hs; simp only at hs; repeat (first | cases hs | split at hs))
        | _ => exact h
  | load T x => exact rd s hs (by
      simp only [wrOp, rdOp, Option.map_eq_some_iff] at hs
      obtain ⟨_, _, rfl⟩ := hs
      exact h)
  | fieldAddr T x f => exact rd s hs (by
      simp only [wrOp, rdOp, Option.map_eq_some_iff] at hs
      obtain ⟨_, _, rfl⟩ := hs
      exact h)
  | field T x f => exact rd s hs (by
      simp only [wrOp, rdOp, Option.map_eq_some_iff] at hs
      obtain ⟨_, _, rfl⟩ := hs
      exact h)
  | indexAddr T x f => exact rd s hs (by
      simp only [wrOp, rdOp, Option.map_eq_some_iff] at hs
      obtain ⟨_, _, rfl⟩ := hs
      exact h)
  | binOp op T x y T' => exact rd s hs (by
      simp only [wrOp, rdOp] at hs
      split at hs
      all_goals first | (cases hs; exact h) | cases hs)
  | index T x i => exact rd s hs (by
      simp only [wrOp, rdOp] at hs
      split at hs
      all_goals first | (cases hs; exact h) | cases hs)
  | convert T T' x => exact rd s hs (by
      simp only [wrOp, rdOp] at hs
      split at hs
      all_goals first | (cases hs; exact h) | cases hs)
  | unOp u T x => cases u <;> first | (refine rd s hs ?_; cases hs; exact h) | (simp [wrOp, rdOp] at hs)
  | move x => refine rd s hs ?_; cases hs; exact h
  | assign x => refine rd s hs ?_; cases hs; exact h
  | pick c a b => refine rd s hs ?_; cases hs; exact h
  | nilCheck x => refine rd s hs ?_; cases hs; exact h
  | extract x j => refine rd s hs ?_; cases hs; exact h
  | makeFunc fn first caps => exact rd s hs (by
      simp only [wrOp] at hs
      cases fn <;> simp only [rdOp] at hs <;> first
        | (split at hs <;> first | (cases hs; exact h) | cases hs)
        | cases hs)
  | _ => simp [wrOp, rdOp] at hs
theorem sOps_cons {ops : List Oper} {o : Oper} {rest : List Oper} {l : List SR} (h : sOps P n ops (o :: rest) = some l) : ∃ g s r, sGuard ops o = some g ∧ wrOp P o.op = some s ∧ sOps P n ops rest = some r ∧ okDst n o.dst = true ∧ l = ⟨o.dst, g, s⟩ :: r := by
  unfold sOps at h
  split at h
  · rename_i g s r h1 h2 h3
    split at h
    · rename_i hd
      cases h
      exact ⟨g, s, r, h1, h2, h3, hd, rfl⟩
    · cases h
  · cases h
theorem VS_mono {st : St} {d : Option Tmp} {s : SOp} {K K' : AV → St → Prop} (hK : ∀ x s, K x s → K' x s) (h : VS P st d s K) : VS P st d s K' := by
  cases s <;> simp only [VS] at h ⊢
  all_goals first
    | exact hK _ _ h
    | skip
  case pick => obtain ⟨t, h1, h2, h3⟩ := h; exact ⟨t, h1, fun e => hK _ _ (h2 e), fun e => hK _ _ (h3 e)⟩
  case ld => obtain ⟨b, cs, h1, h2, h3, h4⟩ := h; exact ⟨b, cs, h1, h2, fun e => ⟨(h3 e).1, hK _ _ (h3 e).2⟩, fun e => let ⟨c, q1, q2⟩ := h4 e; ⟨c, q1, hK _ _ q2⟩⟩
  case nc => obtain ⟨b, h1, h2, h3⟩ := h; exact ⟨b, h1, h2, hK _ _ h3⟩
  case bin => obtain ⟨a, b, r, h1, h2, h3, h4, h5⟩ := h; exact ⟨a, b, r, h1, h2, h3, h4, hK _ _ h5⟩
  case bbin =>
    obtain ⟨u, v, h1, h2, h3⟩ := h
    exact ⟨u, v, h1, h2, h3.imp (fun q => ⟨q.1, hK _ _ q.2⟩) (fun q => ⟨q.1, hK _ _ q.2⟩)⟩
  case not => obtain ⟨t, h1, h2⟩ := h; exact ⟨t, h1, hK _ _ h2⟩
  case neg => obtain ⟨k, m, h1, h2⟩ := h; exact ⟨k, m, h1, hK _ _ h2⟩
  case fa => obtain ⟨k, m, h1, h2, h3⟩ := h; exact ⟨k, m, h1, h2, hK _ _ h3⟩
  case fld => obtain ⟨cs, h1, h2, h3⟩ := h; exact ⟨cs, h1, fun e => hK _ _ (h2 e), fun e => let ⟨c, q1, q2⟩ := h3 e; ⟨c, q1, hK _ _ q2⟩⟩
  case ix =>
    obtain ⟨b, k, m, h1, h2, h3, h4⟩ := h
    refine ⟨b, k, m, h1, h2, h3, h4.imp (fun ⟨xs, es, q1, q2, q3⟩ => ⟨xs, es, q1, q2, hK _ _ q3⟩) (fun ⟨o, e, xs, q1, q2, q3, q4⟩ => ⟨o, e, xs, q1, q2, q3, hK _ _ q4⟩)⟩
  case six => obtain ⟨s, k, m, b, h1, h2, h3, h4, h5⟩ := h; exact ⟨s, k, m, b, h1, h2, h3, h4, hK _ _ h5⟩
  case cv => obtain ⟨k, m, h1, h2⟩ := h; exact ⟨k, m, h1, hK _ _ h2⟩
  case ext => obtain ⟨k, m, h1, h2, h3⟩ := h; exact ⟨k, m, h1, h2, hK _ _ h3⟩
  case len => obtain ⟨k, m, h1, h2, h3⟩ := h; exact ⟨k, m, h1, h2, hK _ _ h3⟩
  case slen => obtain ⟨k, h1, h2⟩ := h; exact ⟨k, h1, hK _ _ h2⟩
  case max => obtain ⟨k, m, p, h1, h2, h3⟩ := h; exact ⟨k, m, p, h1, h2, hK _ _ h3⟩
  case min => obtain ⟨k, m, p, h1, h2, h3⟩ := h; exact ⟨k, m, p, h1, h2, hK _ _ h3⟩
  case call =>
    obtain ⟨g, caps, ds, r, h1, h2, h3, h4⟩ := h
    refine ⟨g, caps, ds, r, h1, h2, h3, ?_⟩
    split at h4
    · exact ⟨h4.1, hK _ _ h4.2⟩
    · exact hK _ _ h4
  case mkf => obtain ⟨ds, h1, h2⟩ := h; exact ⟨ds, h1, hK _ _ h2⟩
  case fcal => obtain ⟨g, caps, ds, r, h1, h2, h3, h4⟩ := h; exact ⟨g, caps, ds, r, h1, h2, h3, hK _ _ h4⟩
  case al => obtain ⟨d, h1, h2, h3⟩ := h; exact ⟨d, h1, h2, hK _ _ h3⟩
  case box => obtain ⟨d, v1, cs, h1, h2, h3, h4, h5⟩ := h; exact ⟨d, v1, cs, h1, h2, h3, h4, hK _ _ h5⟩
  case sto =>
    obtain ⟨b, v1, cs, h1, h2, h3, h4, h5, h6⟩ := h
    refine ⟨b, v1, cs, h1, h2, h3, h4, h5, ?_⟩
    rcases h6 with ⟨p, off, T', old, q1, q2, q3, q4⟩ | ⟨p, k, i, off, e, xs, es, ds, q1, q2, q3, q4, q5, q6⟩
    · exact .inl ⟨p, off, T', old, q1, q2, q3, hK _ _ q4⟩
    · exact .inr ⟨p, k, i, off, e, xs, es, ds, q1, q2, q3, q4, q5, hK _ _ q6⟩
  case bld => obtain ⟨ps, bs, h1, h2, h3⟩ := h; exact ⟨ps, bs, h1, h2, hK _ _ h3⟩
  case bsl => obtain ⟨d', ps, bs, ds, h1, h2, h3, h4, h5, h6⟩ := h; exact ⟨d', ps, bs, ds, h1, h2, h3, h4, h5, hK _ _ h6⟩
  case mks => obtain ⟨d', m, h1, h2, h3, h4, h5, h6, h7⟩ := h; exact ⟨d', m, h1, h2, h3, h4, h5, h6, hK _ _ h7⟩
  case app =>
    obtain ⟨d', b, b', ys, h1, h2, h3, h4, h5⟩ := h
    refine ⟨d', b, b', ys, h1, h2, h3, h4, ?_⟩
    rcases h5 with ⟨p, xs, q1, q2, q3, q4, q5⟩ | ⟨q1, q2, q3, q4⟩
    · exact .inl ⟨p, xs, q1, q2, q3, q4, hK _ _ q5⟩
    · exact .inr ⟨q1, q2, q3, hK _ _ q4⟩
theorem VLs_ok {ops : List Oper} : ∀ {rest : List Oper} {l : List SR} {Q : St → Prop} {st : St}, sOps P n ops rest = some l → VLs P l Q st → VCL P n ops rest Q st
  | [], l, Q, st, hl, h => by cases hl; exact h
  | o :: rest, l, Q, st, hl, h => by
    obtain ⟨g, s, r, h1, h2, h3, h4, rfl⟩ := sOps_cons hl
    unfold VCL
    refine ⟨h4, ?_⟩
    unfold sGuard at h1
    split at h1
    · rename_i hg
      cases h1
      rw [hg]
      exact wrOp_ok h2 (VS_mono (fun x s' q => VLs_ok h3 q) h)
    · rename_i j want hg
      cases hgs : gslot ops j with
      | none => simp [hgs] at h1
      | some d =>
        simp only [hgs, Option.map_some, Option.some.injEq] at h1
        subst h1
        rw [hg]
        refine ⟨d, hgs, ?_⟩
        rcases h with ⟨q1, q2⟩ | ⟨t, q1, q2, q3⟩
        · exact .inl ⟨q1, VLs_ok h3 q2⟩
        · exact .inr ⟨t, q1, fun e => wrOp_ok h2 (VS_mono (fun x s' q => VLs_ok h3 q) (q2 e)), fun e => VLs_ok h3 (q3 e)⟩
def isRd : SOp → Bool
  | .al _ _ | .box _ _ | .bsl _ _ _ _ | .mks _ _ _ _ _ | .app _ _ _ _ _ => false
  | _ => true
theorem rd_isRd {o : Op} {s : SOp} (hs : rdOp P o = some s) : isRd s = true := by
  unfold rdOp at hs
  split at hs
  all_goals repeat' (first
    | (cases hs; done)
    | (cases hs; rfl)
    | (simp only [Option.map_eq_some_iff] at hs; obtain ⟨_, _, rfl⟩ := hs; rfl)
    | split at hs)
theorem rd_mark {o : Op} {s : SOp} (hs : rdOp P o = some s) {st : St} {d : Option Tmp} {K : AV → St → Prop} (h : VS P st d (mark s) K) : VS P st none s K := by
  cases s with
  | call f xs =>
    obtain ⟨g, caps, ds, r, h1, h2, h3, h4⟩ := h
    refine ⟨g, caps, ds, r, h1, h2, h3, ?_⟩
    split
    · rename_i hd; cases hd
    · exact h4
  | al _ _ => cases (rd_isRd hs)
  | box _ _ => cases (rd_isRd hs)
  | bsl _ _ _ _ => cases (rd_isRd hs)
  | mks _ _ _ _ _ => cases (rd_isRd hs)
  | app _ _ _ _ _ => cases (rd_isRd hs)
  | _ => exact h
theorem VPs_ok {ops : List Oper} : ∀ {m : Nat} {rest : List Oper} {l : List SR} {Q : St → Prop} {st : St}, sOps P n ops rest = some l → sReads P ops m rest = true → VLs P (markL m l) Q st → VCP P n ops m rest Q st
  | 0, rest, l, Q, st, hl, _, h => by
    have : VLs P l Q st := by cases l <;> exact h
    exact VLs_ok hl this
  | m + 1, [], l, Q, st, hl, hr, h => by cases hr
  | m + 1, o :: rest, l, Q, st, hl, hr, h => by
    obtain ⟨g, s, r, h1, h2, h3, h4, rfl⟩ := sOps_cons hl
    simp only [sReads, Bool.and_eq_true] at hr
    obtain ⟨hr1, hr2⟩ := hr
    have hrd : rdOp P o.op = some s := by
      obtain ⟨s', hs'⟩ := Option.isSome_iff_exists.1 hr1
      have := wr_of_rd hs'
      rw [h2] at this
      cases this
      exact hs'
    have run : VS P st o.dst (mark s) (fun x st' => VLs P (markL m r) Q (putD st' o.dst x)) → VCR P st o.op fun x => VCP P n ops m rest Q (putD st o.dst x) := fun h =>
      rdOp_ok (K := fun x st' => VCP P n ops m rest Q (putD st' o.dst x)) hrd (rd_mark hrd (VS_mono (fun x s' q => VPs_ok h3 hr2 q) h))
    unfold VCP
    unfold markL VLs at h
    unfold sGuard at h1
    split at h1
    · rename_i hg
      cases h1
      rw [hg]
      exact run h
    · rename_i j want hg
      cases hgs : gslot ops j with
      | none => simp [hgs] at h1
      | some d =>
        simp only [hgs, Option.map_some, Option.some.injEq] at h1
        subst h1
        rw [hg]
        refine ⟨d, hgs, ?_⟩
        rcases h with ⟨q1, q2⟩ | ⟨t, q1, q2, q3⟩
        · exact .inl ⟨q1, VPs_ok h3 hr2 q2⟩
        · exact .inr ⟨t, q1, fun e => run (q2 e), fun e => VPs_ok h3 hr2 (q3 e)⟩
theorem VLs_mono : ∀ {l : List SR} {Q Q' : St → Prop} {st : St}, (∀ s, Q s → Q' s) → VLs P l Q st → VLs P l Q' st
  | [], _, _, _, hQ, h => hQ _ h
  | o :: l, Q, Q', st, hQ, h => by
    unfold VLs at h ⊢
    split at h
    · exact VS_mono (fun x s q => VLs_mono hQ q) h
    · rcases h with ⟨q1, q2⟩ | ⟨t, q1, q2, q3⟩
      · exact .inl ⟨q1, VLs_mono hQ q2⟩
      · exact .inr ⟨t, q1, fun e => VS_mono (fun x s q => VLs_mono hQ q) (q2 e), fun e => VLs_mono hQ (q3 e)⟩
theorem VSC_mono : ∀ {c : SC} {Q Q' : Exit → St → Prop} {st : St}, (∀ e s, Q e s → Q' e s) → VSC P c Q st → VSC P c Q' st
  | .skip, _, _, _, hQ, h => hQ _ _ h
  | .reg l, _, _, _, hQ, h => VLs_mono (hQ _) h
  | .exit _, _, _, _, hQ, h => hQ _ _ h
  | .ret, _, _, _, hQ, h => hQ _ _ h
  | .seq a b, Q, Q', st, hQ, h => by
    unfold VSC at h ⊢
    refine VSC_mono (fun e s q => ?_) h
    cases e with
    | normal =>
      obtain ⟨s', hw, q⟩ := q
      exact ⟨s', hw, VSC_mono hQ q⟩
    | _ => exact hQ _ _ q
  | .cond c x y, Q, Q', st, hQ, h => by
    obtain ⟨t, q1, q2, q3⟩ := h
    exact ⟨t, q1, fun e => VSC_mono hQ (q2 e), fun e => VSC_mono hQ (q3 e)⟩
  | .block id c, Q, Q', st, hQ, h => by
    unfold VSC at h ⊢
    refine VSC_mono (fun e s q => ?_) h
    cases e with
    | exit id' =>
      simp only at q ⊢
      split at q
      · rename_i he; rw [if_pos he]; exact hQ _ _ q
      · rename_i he; rw [if_neg he]; exact hQ _ _ q
    | _ => exact hQ _ _ q
  | .loop c, Q, Q', st, hQ, h => by
    obtain ⟨I, q1, q2⟩ := h
    refine ⟨I, q1, fun k s hI => VSC_mono (fun e s q => ?_) (q2 k s hI)⟩
    cases e with
    | normal => exact q
    | _ => exact hQ _ _ q
theorem strip_ok : ∀ (c : Code) {s : SC} {Q : Exit → St → Prop} {st : St}, strip P n c = some s → VSC P s Q st → VC P n c Q st
  | .skip, s, Q, st, hs, h => by cases hs; exact h
  | .ret, s, Q, st, hs, h => by cases hs; exact h
  | .exit id, s, Q, st, hs, h => by cases hs; exact h
  | .region id ops draw, s, Q, st, hs, h => by
    unfold strip at hs
    split at hs
    · rename_i l hl
      split at hs
      · rename_i hd
        split at hs
        · rename_i hc
          cases hs
          simp only [Bool.and_eq_true] at hc
          subst hd
          exact ⟨_, hc.2, VPs_ok hl hc.1 h⟩
        · split at hs
          · rename_i hc
            cases hs
            simp only [Bool.and_eq_true] at hc
            subst hd
            exact ⟨_, hc.2, VPs_ok hl hc.1 h⟩
          · cases hs
      · rename_i hd
        cases hs
        cases draw with
        | true => exact absurd rfl hd
        | false => exact VLs_ok hl h
    · cases hs
  | .seq a b, s, Q, st, hs, h => by
    unfold strip at hs
    split at hs
    · rename_i x y h1 h2
      cases hs
      unfold VC
      refine strip_ok a h1 (VSC_mono (fun e s' q => ?_) h)
      cases e with
      | normal =>
        obtain ⟨s', hw, q⟩ := q
        exact ⟨s', hw, strip_ok b h2 q⟩
      | _ => exact q
    · cases hs
  | .cond c x y, s, Q, st, hs, h => by
    unfold strip at hs
    split at hs
    · rename_i a b h1 h2
      cases hs
      obtain ⟨t, q1, q2, q3⟩ := h
      exact ⟨t, q1, fun e => strip_ok x h1 (q2 e), fun e => strip_ok y h2 (q3 e)⟩
    · cases hs
  | .block id c, s, Q, st, hs, h => by
    unfold strip at hs
    rw [Option.map_eq_some_iff] at hs
    obtain ⟨a, h1, rfl⟩ := hs
    exact strip_ok c h1 h
  | .loop c, s, Q, st, hs, h => by
    unfold strip at hs
    rw [Option.map_eq_some_iff] at hs
    obtain ⟨a, h1, rfl⟩ := hs
    obtain ⟨I, q1, q2⟩ := h
    exact ⟨I, q1, fun k s hI => strip_ok c h1 (q2 k s hI)⟩
  | .rangeFunc _ _ _ _, s, Q, st, hs, h => by cases hs
  | .scope _, s, Q, st, hs, h => by cases hs
  | .label _, s, Q, st, hs, h => by cases hs
  | .goto _, s, Q, st, hs, h => by cases hs
  | .refuse _, s, Q, st, hs, h => by cases hs
/-- THE FUNCTION, stripped. -/
theorem Spec.of_vs (hm : P.follows .mixedOrders = true) {f : FuncId} {fn : Func} {c : Code} {s : SC} {args : List VD} {r : RT} (hf : P.funcs[f]? = some fn) (hb : fn.body = some c) (hname : (fn.name == "runtime.NumGoroutine") = false) (ha : args.length ≤ fn.ntmps) (hs : strip P fn.ntmps c = some s)
    (h : (∀ x ∈ args, ∀ d ∈ x.ds, Known d) → VSC P s (fun e st => (e = .normal ∨ e = .ret) ∧ RetOk P fn.results.toList r st) (st0 args)) : Spec P f args r :=
  Spec.of_vc hm hf hb hname ha fun hk => strip_ok c hs (h hk)
end
end Go.Proofs.Ythgdccokpgaicaa
