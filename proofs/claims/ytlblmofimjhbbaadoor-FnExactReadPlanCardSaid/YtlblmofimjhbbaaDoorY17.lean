/- Why the words on the stripped code are true. No program is named here. -/
import Derived.Test.YtlblmofimjhbbaaDoorY16
namespace Go.Proofs.YtlblmofimjhbbaaDoor
open Go.RowKit
section
variable {P : Program} {n : Nat}
theorem rdOp'_ok {st : St} {o : Op} {d : Option Tmp} {s : SOp} {K : AV → St → Prop} (hs : rdOp' P o = some s) (h : VS P st d s K) : VCR P st o fun x => K x st := by
  unfold rdOp' at hs
  cases hr : rdOp P o with
  | none => simp [hr] at hs
  | some s' =>
    simp only [hr, Option.bind_some] at hs
    split at hs
    · rename_i hi
      cases hs
      exact rdOp_ok hr (VS_of_rd hi h)
    · cases hs
theorem wrOp_ok {st : St} {o : Oper} {s : SOp} {K : AV → St → Prop} (hs : wrOp P o.op = some s) (h : VS P st o.dst s K) : VCW P st o K := by
  obtain ⟨dst, op, guard⟩ := o
  simp only at hs h
  cases op with
  | alloc T =>
    cases hz : zeroCells P T with
    | none => simp [wrOp, hz] at hs
    | some zs =>
      simp only [wrOp, hz, Option.map_some, Option.some.injEq] at hs
      subst hs
      obtain ⟨d, h1, h2, h3⟩ := h
      exact ⟨d, zs, h1, h2, hz, h3⟩
  | box T x =>
    simp only [wrOp, Option.some.injEq] at hs
    subst hs
    exact h
  | store T x y =>
    cases hz : tyInfo P T with
    | none => simp [wrOp, hz] at hs
    | some p =>
      simp only [wrOp, hz, Option.map_some, Option.some.injEq] at hs
      subst hs
      obtain ⟨b, v1, cs, h1, h2, h3, h4, h5, h6⟩ := h
      exact ⟨b, v1, cs, p.1, h1, h2, h3, h4, by rw [hz, h5], h6⟩
  | build T parts =>
    cases hz : zeroCells P T with
    | none => simp [wrOp, hz] at hs
    | some zs =>
      cases hp : placesOf P T with
      | none => simp [wrOp, hz, hp] at hs
      | some pl =>
        simp only [wrOp, hz, hp, Option.some.injEq] at hs
        subst hs
        obtain ⟨ps, bs, h1, h2, h3⟩ := h
        exact ⟨zs, pl, ps, bs, hz, hp, h1, h2, h3⟩
  | buildSlice T len parts =>
    cases hz : sliceInfo P T with
    | none => simp [wrOp, hz] at hs
    | some p =>
      obtain ⟨κ, by', zs⟩ := p
      simp only [wrOp, hz] at hs
      split at hs
      · rename_i hl
        cases hs
        obtain ⟨d', pl, bs, ds, ps, h1, h2, h3, h4, h5, h6, h7⟩ := h
        exact ⟨d', κ, by', zs, pl, bs, ds, ps, h1, hz, hl.1, hl.2, h2, h3, h4, h5, h6, h7⟩
      · cases hs
  | makeSlice T l c =>
    cases hz : sliceInfo P T with
    | none => simp [wrOp, hz] at hs
    | some p =>
      obtain ⟨κ, by', zs⟩ := p
      simp only [wrOp, hz] at hs
      split at hs
      · rename_i hl
        cases hs
        obtain ⟨d', m, zd, h1, h2, h3, h4, h5, h6, h7, h8⟩ := h
        exact ⟨d', m, κ, by', zs, zd, h1, h2, h3, h4, h5, h6, hz, hl, h7, h8⟩
      · cases hs
  | call c =>
    simp only [wrOp] at hs
    simp only [VCW]
    split at hs
    · rename_i hc
      simp only [hc]
      split at hs
      · rename_i x y T T' ha ht
        split at hs
        · rename_i hT
          subst hT
          cases hz : sliceInfo P T with
          | none => simp [hz] at hs
          | some p =>
            obtain ⟨κ, by', zs⟩ := p
            simp only [hz, Option.some.injEq] at hs
            subst hs
            obtain ⟨d', b, b', ys, h1, h2, h3, h4, h5⟩ := h
            exact ⟨d', x, y, T, b, b', κ, by', zs, ys, h1, ha, ht, h2, h3, hz, h4, h5⟩
        · cases hs
      · cases hs
    · rename_i f hc
      simp only [hc]
      cases hs
      exact h
    · rename_i h1 h2
      split
      · rename_i hc; exact absurd hc h1
      · rename_i f hc; exact absurd hc (h2 f)
      · exact rdOp'_ok hs h
  | move => exact rdOp'_ok hs h
  | assign => exact rdOp'_ok hs h
  | pick => exact rdOp'_ok hs h
  | load => exact rdOp'_ok hs h
  | nilCheck => exact rdOp'_ok hs h
  | binOp => exact rdOp'_ok hs h
  | unOp => exact rdOp'_ok hs h
  | fieldAddr => exact rdOp'_ok hs h
  | field => exact rdOp'_ok hs h
  | indexAddr => exact rdOp'_ok hs h
  | index => exact rdOp'_ok hs h
  | slice => exact rdOp'_ok hs h
  | convert => exact rdOp'_ok hs h
  | extract => exact rdOp'_ok hs h
  | makeFunc => exact rdOp'_ok hs h
  | _ => simp [wrOp, rdOp', rdOp] at hs
theorem xOp_R {st : St} {o : Oper} {K : AV → Prop} (h : VR P st (xOp P o) K) : VCRx P st o K := by
  have raw : VR P st (.raw o.op o.type) K → VCRx P st o K := fun ⟨x, h1, h2⟩ => .inr ⟨x, h1 o rfl rfl, h2⟩
  unfold xOp at h
  split at h
  · rename_i T len parts hop
    split at h
    · rename_i κ by' zs hT
      split at h
      · rename_i hl
        obtain ⟨pl, bs, ds, h1, h2, h3, h4⟩ := h
        exact .inr ⟨_, sound_bslS hop hT hl.1 hl.2 h1 h2 h3, h4⟩
      · exact raw h
    · exact raw h
  · rename_i T parts hop
    split at h
    · rename_i zs pl hz hp
      obtain ⟨ps, bs, h1, h2, h3⟩ := h
      exact .inr ⟨_, sound_buildS hop hz hp h1 h2, h3⟩
    · exact raw h
  · rename_i op T x y T' hop
    split at h
    · exact raw h
    · rename_i neg hn
      have hn' : (op = .eql ∧ neg = false) ∨ (op = .neq ∧ neg = true) := by cases op <;> simp at hn <;> simp [hn]
      split at h
      · rename_i ks hT
        obtain ⟨cs, cs', as, bs, h1, h2, h3, h4, h5, h6, h7⟩ := h
        exact .inr ⟨_, sound_eqs hop hn' hT h1 h2 h3 h4 h5 h6, h7⟩
      · split at h
        · rename_i e hT
          obtain ⟨b, t, h1, h2, h3⟩ := h
          exact .inr ⟨_, sound_isn hop hn' hT h1 h2, h3⟩
        · exact raw h
  · rename_i src dst x hop
    split at h
    · rename_i e hs hd
      split at h
      · rename_i he
        obtain ⟨b, κ, l, h1, h2, h3, h4⟩ := h
        exact .inr ⟨_, sound_b2s hop hs he hd h1 h3, h4⟩
      · exact raw h
    · exact raw h
  · exact raw h
theorem xOp_W {st : St} {o : Oper} {K : AV → St → Prop} (h : VS P st o.dst (xOp P o) K) : VCWx P st o K := by
  have raw : VS P st o.dst (.raw o.op o.type) K → VCWx P st o K := fun h => .inr fun F => h F o rfl rfl rfl
  have read : ∀ {x : AV}, OpS P st o x → K x st → VCWx P st o K := fun h1 h2 => .inr fun F => OpK.of_W (OpW.of_read h1) h2
  unfold xOp at h
  split at h
  · rename_i T len parts hop
    split at h
    · rename_i κ by' zs hT
      split at h
      · rename_i hl
        obtain ⟨d', pl, bs, ds, ps, h1, h2, h3, h4, h5, h6, h7⟩ := h
        exact .inl (by unfold VCW; rw [hop]; exact ⟨d', κ, by', zs, pl, bs, ds, ps, h1, hT, hl.1, hl.2, h2, h3, h4, h5, h6, h7⟩)
      · exact raw h
    · exact raw h
  · rename_i T parts hop
    split at h
    · rename_i zs pl hz hp
      obtain ⟨ps, bs, h1, h2, h3⟩ := h
      exact read (sound_buildS hop hz hp h1 h2) h3
    · exact raw h
  · rename_i op T x y T' hop
    split at h
    · exact raw h
    · rename_i neg hn
      have hn' : (op = .eql ∧ neg = false) ∨ (op = .neq ∧ neg = true) := by cases op <;> simp at hn <;> simp [hn]
      split at h
      · rename_i ks hT
        obtain ⟨cs, cs', as, bs, h1, h2, h3, h4, h5, h6, h7⟩ := h
        exact read (sound_eqs hop hn' hT h1 h2 h3 h4 h5 h6) h7
      · split at h
        · rename_i e hT
          rcases h with ⟨b, t, h1, h2, h3⟩ | ⟨b, κ, xs, h1, h2, h3, h4⟩
          · exact read (sound_isn hop hn' hT h1 h2) h3
          · exact .inr fun F => sound_isn2 hop hn' hT h1 h2 h3 h4
        · exact raw h
  · rename_i src dst x hop
    split at h
    · rename_i e hs hd
      split at h
      · rename_i he
        obtain ⟨b, κ, l, h1, h2, h3, h4⟩ := h
        exact read (sound_b2s hop hs he hd h1 h3) h4
      · exact raw h
    · exact raw h
  · exact raw h
theorem rdOpx_ok {st : St} {o : Oper} {s : SOp} {K : AV → Prop} (hs : rdOpx P o = some s) (h : VR P st s K) : VCRx P st o K := by
  unfold rdOpx at hs
  split at hs
  · rename_i s' hr
    cases hs
    exact .inl (rdOp_ok hr h)
  · cases hs
    exact xOp_R h
theorem wrOpx_ok {st : St} {o : Oper} {s : SOp} {K : AV → St → Prop} (hs : wrOpx P o = some s) (h : VS P st o.dst s K) : VCWx P st o K := by
  unfold wrOpx at hs
  split at hs
  · rename_i s' hr
    cases hs
    exact .inl (wrOp_ok hr h)
  · cases hs
    exact xOp_W h
/-- Guards, alike on both sides. -/
theorem sGuard_ok {ops : List Oper} {o : Oper} {g : Option (Nat × Bool)} (h : sGuard ops o = some g) : (o.guard = none ∧ g = none) ∨ ∃ j want d, o.guard = some (j, want) ∧ gslot ops j = some d ∧ g = some (d, want) := by
  unfold sGuard at h
  split at h
  · rename_i hg; cases h; exact .inl ⟨hg, rfl⟩
  · rename_i j want hg
    rw [Option.map_eq_some_iff] at h
    obtain ⟨d, h1, rfl⟩ := h
    exact .inr ⟨j, want, d, hg, h1, rfl⟩
theorem sOps_L {ops : List Oper} {Q : St → Prop} : ∀ {l : List Oper} {sl : List SR} {st : St}, sOps P n ops l = some sl → VLs P sl Q st → VCL P n ops l Q st
  | [], sl, st, hs, h => by cases hs; exact h
  | o :: rest, sl, st, hs, h => by
    simp only [sOps] at hs
    split at hs
    · rename_i g s r hg hw hr
      split at hs
      · rename_i hd
        cases hs
        refine ⟨hd, ?_⟩
        have run : (Wk st fun st1 => VS P st1 o.dst s (fun x st' => VLs P r Q (putD st' o.dst x))) → Wk st fun st1 => VCWx P st1 o fun x st' => VCL P n ops rest Q (putD st' o.dst x) := fun h => Wk.mono (fun st1 h => VCWx_mono (wrOpx_ok hw h) fun x st' h => sOps_L hr h) h
        rcases sGuard_ok hg with ⟨e1, rfl⟩ | ⟨j, want, d, e1, e2, rfl⟩
        · rw [e1]; exact run h
        · rw [e1]
          refine ⟨d, e2, ?_⟩
          rcases h with ⟨h1, h2⟩ | ⟨t, h1, h2, h3⟩
          · exact .inl ⟨h1, sOps_L hr h2⟩
          · exact .inr ⟨t, h1, fun e => run (h2 e), fun e => sOps_L hr (h3 e)⟩
      · cases hs
    · cases hs
where
  FCall_mono {st : St} {f : Operand} {xs : List Operand} {K K' : AV → Prop} (h : FCall P st f xs K) (hK : ∀ x, K x → K' x) : FCall P st f xs K' := by
    obtain ⟨g, caps, bor, args, r, outs, r', h1, h2, h3, h4, h5, h6⟩ := h
    exact ⟨g, caps, bor, args, r, outs, r', h1, h2, h3, h4, h5, hK _ h6⟩
  VCR_mono {st : St} {o : Op} {K K' : AV → Prop} (h : VCR P st o K) (hK : ∀ x, K x → K' x) : VCR P st o K' := by
    unfold VCR at h ⊢
    split at h
    · exact hK _ h
    · exact hK _ h
    · obtain ⟨t, h1, h2, h3⟩ := h; exact ⟨t, h1, fun e => hK _ (h2 e), fun e => hK _ (h3 e)⟩
    · obtain ⟨b, cs, ag, s, h1, h2, h3, h4, h5⟩ := h
      exact ⟨b, cs, ag, s, h1, h2, h3, fun e => ⟨(h4 e).1, hK _ (h4 e).2⟩, fun e => by obtain ⟨c, q1, q2⟩ := h5 e; exact ⟨c, q1, hK _ q2⟩⟩
    · obtain ⟨b, h1, h2, h3⟩ := h; exact ⟨b, h1, h2, hK _ h3⟩
    · obtain ⟨a, b, r, h1, h2, h3, h4⟩ := h; exact ⟨a, b, r, h1, h2, h3, hK _ h4⟩
    · obtain ⟨t, h1, h2⟩ := h; exact ⟨t, h1, hK _ h2⟩
    · obtain ⟨k, m, h1, h2⟩ := h; exact ⟨k, m, h1, hK _ h2⟩
    · obtain ⟨b, off, b', h1, h2, h3, h4⟩ := h; exact ⟨b, off, b', h1, h2, h3, hK _ h4⟩
    · obtain ⟨cs, off, ag, s, h1, h2, h3, h4⟩ := h
      exact ⟨cs, off, ag, s, h1, h2, fun e => hK _ (h3 e), fun e => by obtain ⟨c, q1, q2⟩ := h4 e; exact ⟨c, q1, hK _ q2⟩⟩
    · obtain ⟨b, k, m, h1, h2, h3, h4⟩ := h
      refine ⟨b, k, m, h1, h2, h3, ?_⟩
      rcases h4 with ⟨κ, κ', xs, es, q1, q0, q2, q3, q4⟩ | ⟨κ, o, xs, hs, q1, q2, q3, q4, q5⟩ | ⟨len, s, b', q1, q2, q3, q4, q5⟩
      · exact .inl ⟨κ, κ', xs, es, q1, q0, q2, q3, hK _ q4⟩
      · exact .inr (.inl ⟨κ, o, xs, hs, q1, q2, q3, q4, hK _ q5⟩)
      · exact .inr (.inr ⟨len, s, b', q1, q2, q3, q4, hK _ q5⟩)
    · obtain ⟨s, k, m, b, h1, h2, h3, h4, h5, h6⟩ := h; exact ⟨s, k, m, b, h1, h2, h3, h4, h5, hK _ h6⟩
    · obtain ⟨b, l, h', h1, h2, h3⟩ := h
      refine ⟨b, l, h', h1, h2, ?_⟩
      rcases h3 with ⟨κ, κ', xs, q1, q0, q2, q3, q4, q5, q6⟩ | ⟨s, q1, q2, q3, q4, q5, q6⟩
      · exact .inl ⟨κ, κ', xs, q1, q0, q2, q3, q4, q5, hK _ q6⟩
      · exact .inr ⟨s, q1, q2, q3, q4, q5, hK _ q6⟩
    · obtain ⟨k, m, k', h1, h2, h3, h4⟩ := h; exact ⟨k, m, k', h1, h2, h3, hK _ h4⟩
    · obtain ⟨xs, y, h1, h2, h3⟩ := h; exact ⟨xs, y, h1, h2, hK _ h3⟩
    · obtain ⟨g, ds, h1, h2, h3, h4⟩ := h; exact ⟨g, ds, h1, h2, h3, hK _ h4⟩
    · split at h
      · obtain ⟨x, T, b, h1, h2, h3, h4⟩ := h
        refine ⟨x, T, b, h1, h2, h3, ?_⟩
        rcases h4 with ⟨m, q1, q2, q3⟩ | ⟨s, q1, q2, q3⟩
        · exact .inl ⟨m, q1, q2, hK _ q3⟩
        · exact .inr ⟨s, q1, q2, hK _ q3⟩
      · obtain ⟨x, y, k, m, p, h1, h2, h3, h4⟩ := h; exact ⟨x, y, k, m, p, h1, h2, h3, hK _ h4⟩
      · obtain ⟨x, y, k, m, p, h1, h2, h3, h4⟩ := h; exact ⟨x, y, k, m, p, h1, h2, h3, hK _ h4⟩
      · exact FCall_mono h hK
      · exact h
    · exact h
  VCW_mono {st : St} {o : Oper} {K K' : AV → St → Prop} (h : VCW P st o K) (hK : ∀ x st', K x st' → K' x st') : VCW P st o K' := by
    unfold VCW at h ⊢
    split at h
    · obtain ⟨d, zs, h1, h2, h3, h4⟩ := h; exact ⟨d, zs, h1, h2, h3, hK _ _ h4⟩
    · obtain ⟨d, v1, cs, h1, h2, h3, h4, h5⟩ := h; exact ⟨d, v1, cs, h1, h2, h3, h4, hK _ _ h5⟩
    · obtain ⟨b, v1, cs, ag, h1, h2, h3, h4, h5, h6⟩ := h
      refine ⟨b, v1, cs, ag, h1, h2, h3, h4, h5, ?_⟩
      rcases h6 with ⟨p, off, T', old, q1, q2, q3, q4⟩ | ⟨p, i, off, κ, xs, hs, es, ds, ps, q1, q2, q3, q4, q5, q6, q7⟩
      · exact .inl ⟨p, off, T', old, q1, q2, q3, hK _ _ q4⟩
      · exact .inr ⟨p, i, off, κ, xs, hs, es, ds, ps, q1, q2, q3, q4, q5, q6, hK _ _ q7⟩
    · obtain ⟨zs, pl, ps, bs, h1, h2, h3, h4, h5⟩ := h; exact ⟨zs, pl, ps, bs, h1, h2, h3, h4, hK _ _ h5⟩
    · obtain ⟨d, κ, by', zs, pl, bs, ds, ps, h1, h2, h3, h4, h5, h6, h7, h8, h9, h10⟩ := h
      exact ⟨d, κ, by', zs, pl, bs, ds, ps, h1, h2, h3, h4, h5, h6, h7, h8, h9, hK _ _ h10⟩
    · obtain ⟨d, m, κ, by', zs, zd, h1, h2, h3, h4, h5, h6, h7, h8, h9, h10⟩ := h
      exact ⟨d, m, κ, by', zs, zd, h1, h2, h3, h4, h5, h6, h7, h8, h9, hK _ _ h10⟩
    · split at h
      · obtain ⟨d, x, y, T, b, b', κ, by', zs, ys, h1, h2, h3, h4, h5, h6, h7, ps, h8, h9⟩ := h
        refine ⟨d, x, y, T, b, b', κ, by', zs, ys, h1, h2, h3, h4, h5, h6, h7, ps, h8, ?_⟩
        rcases h9 with ⟨p, xs, q1, q2, q3, q4, q5, q6⟩ | ⟨q1, q2, q3, q4⟩
        · exact .inl ⟨p, xs, q1, q2, q3, q4, q5, hK _ _ q6⟩
        · exact .inr ⟨q1, q2, q3, hK _ _ q4⟩
      · rcases h with ⟨g, caps, bor, ρ, args, ins, r, outs, h1, h2, h3, h4, h5, h6, h7⟩ | h
        · exact .inl ⟨g, caps, bor, ρ, args, ins, r, outs, h1, h2, h3, h4, h5, h6, hK _ _ h7⟩
        · exact .inr (FCall_mono h fun x h => hK _ _ h)
      · exact VCR_mono h fun x h => hK _ _ h
    · exact VCR_mono h fun x h => hK _ _ h
  VCRx_mono {st : St} {o : Oper} {K K' : AV → Prop} (h : VCRx P st o K) (hK : ∀ x, K x → K' x) : VCRx P st o K' :=
    h.imp (fun h => VCR_mono h hK) fun ⟨x, h1, h2⟩ => ⟨x, h1, hK _ h2⟩
  VCWx_mono {st : St} {o : Oper} {K K' : AV → St → Prop} (h : VCWx P st o K) (hK : ∀ x st', K x st' → K' x st') : VCWx P st o K' :=
    h.imp (fun h => VCW_mono h hK) fun h F => (h F).mono hK
theorem sOps_P {ops : List Oper} {Q : St → Prop} : ∀ {m : Nat} {l : List Oper} {sl : List SR} {st : St}, sOpsF P ops m l = some sl → VLs P sl Q st → VCP P n ops m l Q st
  | 0, l, sl, st, hs, h => by cases hs; exact h
  | m + 1, [], sl, st, hs, h => by cases hs
  | m + 1, o :: rest, sl, st, hs, h => by
    simp only [sOpsF] at hs
    unfold VCP
    by_cases hal : isAl o = true
    · rw [if_pos hal, Option.map_eq_some_iff] at hs
      obtain ⟨r, hr, rfl⟩ := hs
      rw [if_pos hal]
      exact sOps_P hr h
    rw [if_neg hal] at hs ⊢
    split at hs
    · rename_i g s r hg hw hr
      cases hs
      have run : VR P st s (fun x => VLs P r Q (putD st o.dst x)) → VCRx P st o fun x => VCP P n ops m rest Q (putD st o.dst x) := fun h => sOps_L.VCRx_mono (rdOpx_ok hw h) fun x h => sOps_P hr h
      rcases sGuard_ok hg with ⟨e1, rfl⟩ | ⟨j, want, d, e1, e2, rfl⟩
      · rw [e1]; exact run h
      · rw [e1]
        refine ⟨d, e2, ?_⟩
        rcases h with ⟨h1, h2⟩ | ⟨t, h1, h2, h3⟩
        · exact .inl ⟨h1, sOps_P hr h2⟩
        · exact .inr ⟨t, h1, fun e => run (h2 e), fun e => sOps_P hr (h3 e)⟩
    · cases hs
theorem sAl_ok {ops : List Oper} {Q Q' : St → Prop} (hQ : ∀ s, Q s → Q' s) : ∀ {I : List Nat} {al : List (Nat × TypeId × List Value)} {st : St}, sAl P ops I = some al → VAl al Q st → VCA P ops I Q' st
  | [], al, st, hs, h => by cases hs; exact hQ st h
  | i :: I, al, st, hs, h => by
    simp only [sAl] at hs
    split at hs
    · rename_i o ho
      split at hs
      · rename_i T d r hop hd hr
        rw [Option.map_eq_some_iff] at hs
        obtain ⟨zs, hz, rfl⟩ := hs
        exact ⟨o, T, d, zs, ho, hop, hd, h.1, hz, sAl_ok hQ hr h.2⟩
      · cases hs
    · cases hs
theorem VAl_mono {Q Q' : St → Prop} (hQ : ∀ s, Q s → Q' s) : ∀ {al : List (Nat × TypeId × List Value)} {st : St}, VAl al Q st → VAl al Q' st
  | [], _, h => hQ _ h
  | _ :: _, _, h => ⟨h.1, VAl_mono hQ h.2⟩
theorem VR_mono {st : St} {s : SOp} {K K' : AV → Prop} (h : VR P st s K) (hK : ∀ x, K x → K' x) : VR P st s K' := by
  unfold VR at h ⊢
  split at h
  · exact hK _ h
  · obtain ⟨t, h1, h2, h3⟩ := h; exact ⟨t, h1, fun e => hK _ (h2 e), fun e => hK _ (h3 e)⟩
  · obtain ⟨b, cs, h1, h2, h4, h5⟩ := h
    exact ⟨b, cs, h1, h2, fun e => ⟨(h4 e).1, hK _ (h4 e).2⟩, fun e => by obtain ⟨c, q1, q2⟩ := h5 e; exact ⟨c, q1, hK _ q2⟩⟩
  · obtain ⟨b, h1, h2, h3⟩ := h; exact ⟨b, h1, h2, hK _ h3⟩
  · obtain ⟨a, b, r, h1, h2, h3, h4, h5⟩ := h; exact ⟨a, b, r, h1, h2, h3, h4, hK _ h5⟩
  · obtain ⟨u, v, h1, h2, h3⟩ := h; exact ⟨u, v, h1, h2, h3.imp (fun h => ⟨h.1, hK _ h.2⟩) (fun h => ⟨h.1, hK _ h.2⟩)⟩
  · obtain ⟨t, h1, h2⟩ := h; exact ⟨t, h1, hK _ h2⟩
  · obtain ⟨k, m, h1, h2⟩ := h; exact ⟨k, m, h1, hK _ h2⟩
  · obtain ⟨b, b', h1, h2, h3⟩ := h; exact ⟨b, b', h1, h2, hK _ h3⟩
  · obtain ⟨cs, h1, h3, h4⟩ := h
    exact ⟨cs, h1, fun e => hK _ (h3 e), fun e => by obtain ⟨c, q1, q2⟩ := h4 e; exact ⟨c, q1, hK _ q2⟩⟩
  · obtain ⟨b, k, m, h1, h2, h3, h4⟩ := h
    refine ⟨b, k, m, h1, h2, h3, ?_⟩
    rcases h4 with ⟨κ', xs, es, q0, q1, q2, q3⟩ | ⟨o, xs, hs, q1, q2, q3, q4⟩
    · exact .inl ⟨κ', xs, es, q0, q1, q2, hK _ q3⟩
    · exact .inr ⟨o, xs, hs, q1, q2, q3, hK _ q4⟩
  · obtain ⟨b, k, m, b', h1, h2, h3, h4, h5, h6, h7⟩ := h; exact ⟨b, k, m, b', h1, h2, h3, h4, h5, h6, hK _ h7⟩
  · obtain ⟨s, k, m, b, h1, h2, h3, h4, h5⟩ := h; exact ⟨s, k, m, b, h1, h2, h3, h4, hK _ h5⟩
  · obtain ⟨κ', xs, l, h', h0, h1, h2, h3, h4, h5, h6⟩ := h; exact ⟨κ', xs, l, h', h0, h1, h2, h3, h4, h5, hK _ h6⟩
  · obtain ⟨xs, l, h', h1, h2, h3, h4, h5, h6⟩ := h; exact ⟨xs, l, h', h1, h2, h3, h4, h5, hK _ h6⟩
  · obtain ⟨k, m, h1, h2⟩ := h; exact ⟨k, m, h1, hK _ h2⟩
  · obtain ⟨xs, y, h1, h2, h3⟩ := h; exact ⟨xs, y, h1, h2, hK _ h3⟩
  · obtain ⟨b, m, h1, h2, h3⟩ := h; exact ⟨b, m, h1, h2, hK _ h3⟩
  · obtain ⟨s, h1, h2⟩ := h; exact ⟨s, h1, hK _ h2⟩
  · obtain ⟨k, m, p, h1, h2, h3⟩ := h; exact ⟨k, m, p, h1, h2, hK _ h3⟩
  · obtain ⟨k, m, p, h1, h2, h3⟩ := h; exact ⟨k, m, p, h1, h2, hK _ h3⟩
  · exact sOps_L.FCall_mono h hK
  · obtain ⟨ds, h1, h2⟩ := h; exact ⟨ds, h1, hK _ h2⟩
  · obtain ⟨cs, cs', as, bs, h1, h2, h3, h4, h5, h6, h7⟩ := h; exact ⟨cs, cs', as, bs, h1, h2, h3, h4, h5, h6, hK _ h7⟩
  · obtain ⟨b, t, h1, h2, h3⟩ := h; exact ⟨b, t, h1, h2, hK _ h3⟩
  · obtain ⟨b, κ, l, h1, h2, h3, h4⟩ := h; exact ⟨b, κ, l, h1, h2, h3, hK _ h4⟩
  · obtain ⟨ps, bs, h1, h2, h3⟩ := h; exact ⟨ps, bs, h1, h2, hK _ h3⟩
  · obtain ⟨pl, bs, ds, h1, h2, h3, h4⟩ := h; exact ⟨pl, bs, ds, h1, h2, h3, hK _ h4⟩
  · exact hK _ h
  · obtain ⟨x, h1, h2⟩ := h; exact ⟨x, h1, hK _ h2⟩
  · exact h
theorem VS_mono {st : St} {d : Option Tmp} {s : SOp} {K K' : AV → St → Prop} (h : VS P st d s K) (hK : ∀ x st', K x st' → K' x st') : VS P st d s K' := by
  unfold VS at h ⊢
  split at h
  · rcases h with ⟨g, caps, bor, ρ, args, ins, r, outs, h1, h2, h3, h4, h5, h6, h7⟩ | h
    · exact .inl ⟨g, caps, bor, ρ, args, ins, r, outs, h1, h2, h3, h4, h5, h6, hK _ _ h7⟩
    · exact .inr (sOps_L.FCall_mono h fun x h => hK _ _ h)
  · obtain ⟨d', h1, h2, h3⟩ := h; exact ⟨d', h1, h2, hK _ _ h3⟩
  · obtain ⟨d', v1, cs, h1, h2, h3, h4, h5⟩ := h; exact ⟨d', v1, cs, h1, h2, h3, h4, hK _ _ h5⟩
  · obtain ⟨b, v1, cs, h1, h2, h3, h4, h5, h6⟩ := h
    refine ⟨b, v1, cs, h1, h2, h3, h4, h5, ?_⟩
    rcases h6 with ⟨p, off, T', old, q1, q2, q3, q4⟩ | ⟨p, i, off, κ, xs, hs, es, ds, ps, q1, q2, q3, q4, q5, q6, q7⟩
    · exact .inl ⟨p, off, T', old, q1, q2, q3, hK _ _ q4⟩
    · exact .inr ⟨p, i, off, κ, xs, hs, es, ds, ps, q1, q2, q3, q4, q5, q6, hK _ _ q7⟩
  · obtain ⟨ps, bs, h1, h2, h3⟩ := h; exact ⟨ps, bs, h1, h2, hK _ _ h3⟩
  · obtain ⟨d', pl, bs, ds, ps, h1, h2, h3, h4, h5, h6, h7⟩ := h; exact ⟨d', pl, bs, ds, ps, h1, h2, h3, h4, h5, h6, hK _ _ h7⟩
  · obtain ⟨d', m, zd, h1, h2, h3, h4, h5, h6, h7, h8⟩ := h; exact ⟨d', m, zd, h1, h2, h3, h4, h5, h6, h7, hK _ _ h8⟩
  · obtain ⟨d', b, b', ys, h1, h2, h3, h4, ps, h5, h6⟩ := h
    refine ⟨d', b, b', ys, h1, h2, h3, h4, ps, h5, ?_⟩
    rcases h6 with ⟨p, xs, q1, q2, q3, q4, q5, q6⟩ | ⟨q1, q2, q3, q4⟩
    · exact .inl ⟨p, xs, q1, q2, q3, q4, q5, hK _ _ q6⟩
    · exact .inr ⟨q1, q2, q3, hK _ _ q4⟩
  · rcases h with ⟨b, t, h1, h2, h3⟩ | ⟨b, κ, xs, h1, h2, h3, h4⟩
    · exact .inl ⟨b, t, h1, h2, hK _ _ h3⟩
    · exact .inr ⟨b, κ, xs, h1, h2, fun e => hK _ _ (h3 e), hK _ _ h4⟩
  · exact fun F q h1 h2 h3 => (h F q h1 h2 h3).mono hK
  · exact VR_mono h fun x h => hK _ _ h
theorem VLs_mono {Q Q' : St → Prop} (hQ : ∀ s, Q s → Q' s) : ∀ {l : List SR} {st : St}, VLs P l Q st → VLs P l Q' st
  | [], st, h => hQ st h
  | ⟨dst, g, true, op⟩ :: rest, st, h => by
    cases g with
    | none =>
      have h : VR P st op fun x => VLs P rest Q (putD st dst x) := h
      exact VR_mono h fun x h => VLs_mono hQ h
    | some p =>
      obtain ⟨d, want⟩ := p
      rcases h with ⟨h1, h2⟩ | ⟨t, h1, h2, h3⟩
      · exact .inl ⟨h1, VLs_mono hQ h2⟩
      · exact .inr ⟨t, h1, fun e => VR_mono (h2 e) fun x h => VLs_mono hQ h, fun e => VLs_mono hQ (h3 e)⟩
  | ⟨dst, g, false, op⟩ :: rest, st, h => by
    cases g with
    | none =>
      exact Wk.mono (fun st1 h => VS_mono h fun x st' h => VLs_mono hQ h) h
    | some p =>
      obtain ⟨d, want⟩ := p
      rcases h with ⟨h1, h2⟩ | ⟨t, h1, h2, h3⟩
      · exact .inl ⟨h1, VLs_mono hQ h2⟩
      · exact .inr ⟨t, h1, fun e => Wk.mono (fun st1 h => VS_mono h fun x st' h => VLs_mono hQ h) (h2 e), fun e => VLs_mono hQ (h3 e)⟩
theorem VLs_append {Q : St → Prop} {r : List SR} : ∀ {l : List SR} {st : St}, VLs P (l ++ r) Q st → VLs P l (VLs P r Q) st
  | [], st, h => h
  | ⟨dst, g, true, op⟩ :: rest, st, h => by
    cases g with
    | none =>
      have h : VR P st op fun x => VLs P (rest ++ r) Q (putD st dst x) := h
      exact VR_mono h fun x h => VLs_append h
    | some p =>
      obtain ⟨d, want⟩ := p
      rcases h with ⟨h1, h2⟩ | ⟨t, h1, h2, h3⟩
      · exact .inl ⟨h1, VLs_append h2⟩
      · exact .inr ⟨t, h1, fun e => VR_mono (h2 e) fun x h => VLs_append h, fun e => VLs_append (h3 e)⟩
  | ⟨dst, g, false, op⟩ :: rest, st, h => by
    cases g with
    | none =>
      exact Wk.mono (fun st1 h => VS_mono h fun x st' h => VLs_append h) h
    | some p =>
      obtain ⟨d, want⟩ := p
      rcases h with ⟨h1, h2⟩ | ⟨t, h1, h2, h3⟩
      · exact .inl ⟨h1, VLs_append h2⟩
      · exact .inr ⟨t, h1, fun e => Wk.mono (fun st1 h => VS_mono h fun x st' h => VLs_append h) (h2 e), fun e => VLs_append (h3 e)⟩
theorem sDraw_ok {ops : List Oper} {m : Nat} {s : SC} {Q Q' : Exit → St → Prop} {st : St} (hs : sDraw P n ops m = some s) (hQ : ∀ e s, Q e s → Q' e s) (h : VSC P s Q st) : VCP P n ops m ops (VCA P ops (alIdx ops m) (VCL P n ops (rgTl ops m) (Q' .normal))) st := by
  unfold sDraw at hs
  have tl : ∀ {r}, sOps P n ops (rgTl ops m) = some r → ∀ st, VLs P r (Q .normal) st → VCL P n ops (rgTl ops m) (Q' .normal) st := fun hr st h => sOps_L hr (VLs_mono (fun s h => hQ _ s h) h)
  split at hs
  · rename_i l r hl ha hr
    cases hs
    have h : VLs P (l ++ r) (Q .normal) st := h
    exact sOps_P hl (VLs_mono (fun st h => sAl_ok (Q := VLs P r (Q .normal)) (tl hr) ha h) (VLs_append h))
  · rename_i l al r _ hl ha hr
    cases hs
    exact sOps_P hl (VLs_mono (fun st h => sAl_ok (tl hr) ha h) h)
  · cases hs
theorem VT_mono {Q Q' : St → Prop} (hQ : ∀ s, Q s → Q' s) : ∀ {t : OT SR} {st : St}, VT P t Q st → VT P t Q' st
  | .done, st, h => hQ st h
  | .vac, _, _ => trivial
  | .take s t, _, h => VLs_mono (P := P) (l := [s]) (Q := fun s' => VT P t Q s') (fun _ h => VT_mono hQ h) h
  | .both _ _, _, ⟨h1, h2⟩ => ⟨VT_mono hQ h1, VT_mono hQ h2⟩
theorem sT_ok {ops : List Oper} {Q Q' : St → Prop} (hQ : ∀ s, Q s → Q' s) : ∀ {t : OT Oper} {u : OT SR} {st : St}, sT P n ops t = some u → VT P u Q st → VCT P n ops t Q' st
  | .done, u, st, hs, h => by
    simp only [sT, Option.some.injEq] at hs
    subst hs
    exact hQ st h
  | .vac, _, _, _, _ => trivial
  | .take o t, u, st, hs, h => by
    simp only [sT] at hs
    split at hs
    · rename_i s v h1 h2
      cases hs
      have h : VLs P [s] (fun s' => VT P v Q s') st := h
      exact sOps_L h1 (VLs_mono (fun s h => sT_ok hQ h2 h) h)
    · cases hs
  | .both a b, u, st, hs, h => by
    simp only [sT] at hs
    split at hs
    · rename_i a' b' h1 h2
      cases hs
      exact ⟨sT_ok hQ h1 h.1, sT_ok hQ h2 h.2⟩
    · cases hs
theorem sOrd_ok {ops : List Oper} {c : SC} {Q Q' : Exit → St → Prop} {st : St} (hs : sOrd P n ops = some c) (hQ : ∀ e s, Q e s → Q' e s) (h : VSC P c Q st) : Region.noSelect ops.toArray = true ∧ ∃ t, ordX P ops = some t ∧ VCT P n ops t (Q' .normal) st := by
  unfold sOrd at hs
  split at hs
  · rename_i hf
    split at hs
    · rename_i t ht
      rw [Option.map_eq_some_iff] at hs
      obtain ⟨u, hu, rfl⟩ := hs
      exact ⟨hf, t, ht, sT_ok (fun s h => hQ _ s h) hu h⟩
    · cases hs
  · cases hs
theorem sZl_get {ops : List Oper} : ∀ {l : List Oper} {k : Nat} {r : List (SR × List Nat)}, sZl P n ops k l = some r → r.length = l.length ∧ ∀ (i : Nat) o, l[i]? = some o → ∃ s, r[i]? = some (s, rgDirect ops (k + i)) ∧ sOps P n ops [o] = some [s]
  | [], k, r, h => by cases h; exact ⟨rfl, fun i o h => by simp at h⟩
  | o :: rest, k, r, h => by
    simp only [sZl] at h
    split at h
    · rename_i s r' h1 h2
      cases h
      obtain ⟨q1, q2⟩ := sZl_get h2
      refine ⟨by simp [q1], fun i o' ho => ?_⟩
      cases i with
      | zero => cases ho; exact ⟨s, rfl, h1⟩
      | succ i =>
        obtain ⟨s', q3, q4⟩ := q2 i o' (by simpa using ho)
        exact ⟨s', by rw [List.getElem?_cons_succ, q3, show k + 1 + i = k + (i + 1) by omega], q4⟩
    · cases h
theorem sZ_ok {ops : List Oper} {c : SC} {Q Q' : Exit → St → Prop} {st : St} (hs : (if prefZ ops then (sZl P n ops 0 ops).map SC.regZ else none) = some c) (hQ : ∀ e s, Q e s → Q' e s) (h : VSC P c Q st) : hltB ops = true ∧ VCZ P n ops (Q' .normal) st := by
  split at hs
  · rename_i hp
    rw [Option.map_eq_some_iff] at hs
    obtain ⟨r, hr, rfl⟩ := hs
    obtain ⟨hlen, hget⟩ := sZl_get hr
    have hb : hltB ops = true := by
      unfold prefZ at hp
      simp only [Bool.and_eq_true] at hp
      exact hp.2
    obtain ⟨S, h0, h1, h2⟩ := h
    refine ⟨hb, S, fun L hL => h0 L fun i hi => hL i (by omega), fun L k o ho hk hd hc => ?_, fun L hL => hQ _ _ (h2 L fun i hi => hL i (by omega))⟩
    obtain ⟨s, q1, q2⟩ := hget k o ho
    rw [Nat.zero_add] at q1
    refine sOps_L q2 (h1 L k s _ q1 hk hd fun i j s' dp hi hL hj => ?_)
    have hio : i < ops.length := by have := (List.getElem?_eq_some_iff.1 hi).1; omega
    obtain ⟨s2, q3, _⟩ := hget i _ (List.getElem?_eq_getElem hio)
    rw [Nat.zero_add, hi] at q3
    cases q3
    exact hc i j hL hio hj
  · cases hs
theorem VSC_mono : ∀ {c : SC} {Q Q' : Exit → St → Prop} {st : St}, (∀ e s, Q e s → Q' e s) → VSC P c Q st → VSC P c Q' st
  | .skip, _, _, _, hQ, h => hQ _ _ h
  | .reg _, _, _, _, hQ, h => VLs_mono (fun s h => hQ _ s h) h
  | .regA _ _ _, _, _, _, hQ, h => VLs_mono (fun s h => VAl_mono (fun s h => VLs_mono (fun s h => hQ _ s h) h) h) h
  | .regO _, _, _, _, hQ, h => VT_mono (fun s h => hQ _ s h) h
  | .regZ _, _, _, _, hQ, ⟨S, h0, h1, h2⟩ => ⟨S, h0, h1, fun L hL => hQ _ _ (h2 L hL)⟩
  | .seq a b, _, _, _, hQ, h => VSC_mono (c := a) (fun e s h => by
      cases e with
      | normal => exact Wk.mono (fun s' h2 => VSC_mono (c := b) hQ h2) h
      | _ => exact hQ _ _ h) h
  | .cond _ x y, _, _, _, hQ, ⟨t, h1, h2, h3⟩ => ⟨t, h1, fun e => VSC_mono (c := x) hQ (h2 e), fun e => VSC_mono (c := y) hQ (h3 e)⟩
  | .block id c, _, _, _, hQ, h => VSC_mono (c := c) (fun e s h => by
      cases e with
      | exit id' =>
        simp only at h ⊢
        split at h
        · rename_i hi; rw [if_pos hi]; exact hQ _ _ h
        · rename_i hi; rw [if_neg hi]; exact hQ _ _ h
      | _ => exact hQ _ _ h) h
  | .loop c, _, _, _, hQ, ⟨I, h1, h2⟩ => ⟨I, h1, fun k s hI => VSC_mono (c := c) (fun e s h => by
      cases e with
      | normal => exact h
      | _ => exact hQ _ _ h) (h2 k s hI)⟩
  | .exit _, _, _, _, hQ, h => hQ _ _ h
  | .ret, _, _, _, hQ, h => hQ _ _ h
  | .code _ _, _, _, _, hQ, h => RegK.mono hQ h
  | .alt _ _ s, _, _, _, hQ, h => h.elim (fun h => .inl (RegK.mono hQ h)) fun h => .inr (VSC_mono (c := s) hQ h)
theorem firstOk_ok {ops : List Oper} {n m : Nat} : ∀ {ms : List Nat}, firstOk ops n ms = some m → rgOk ops m n = true
  | [], h => by cases h
  | k :: ms, h => by
    unfold firstOk at h
    split at h
    · rename_i hk; cases h; exact hk
    · exact firstOk_ok h
theorem sReg_ok {ops : Array Oper} {draw : Bool} {Q Q' : Exit → St → Prop} {st : St} {s : SC} (hs : sReg P n ops.toList draw = some s) (hQ : ∀ e s, Q e s → Q' e s) (h : VSC P s Q st) :
    match draw with
    | false => VCL P n ops.toList ops.toList (Q' .normal) st
    | true => (∃ m, rgOk ops.toList m n = true ∧ ops.toList.all (fldOk P) = true ∧ VCP P n ops.toList m ops.toList (VCA P ops.toList (alIdx ops.toList m) (VCL P n ops.toList (rgTl ops.toList m) (Q' .normal))) st) ∨
      (Region.noSelect ops.toList.toArray = true ∧ ∃ t, ordX P ops.toList = some t ∧ VCT P n ops.toList t (Q' .normal) st) ∨
      (hltB ops.toList = true ∧ VCZ P n ops.toList (Q' .normal) st) := by
  unfold sReg at hs
  cases draw with
  | false =>
    simp only [Bool.false_eq_true, if_false, Option.map_eq_some_iff] at hs
    obtain ⟨l, hl, rfl⟩ := hs
    have h : VLs P l (Q .normal) st := h
    exact sOps_L hl (VLs_mono (Q' := Q' .normal) (fun s h => hQ _ s h) h)
  | true =>
    simp only [if_true] at hs
    split at hs
    · cases hs
    · rename_i hfl
      have hfl : ops.toList.all (fldOk P) = true := by simpa using hfl
      split at hs
      · rename_i c hc
        cases hs
        exact .inr (.inr (sZ_ok hc hQ h))
      · split at hs
        · rename_i c hc
          cases hs
          split at hc
          · exact .inr (.inl (sOrd_ok hc hQ h))
          · cases hc
        · split at hs
          · rename_i m hm
            split at hs
            · rename_i c hc
              cases hs
              exact .inl ⟨m, firstOk_ok hm, hfl, sDraw_ok hc hQ h⟩
            · exact .inr (.inl (sOrd_ok hs hQ h))
          · exact .inr (.inl (sOrd_ok hs hQ h))
theorem VC_mono : ∀ {c : Code} {Q Q' : Exit → St → Prop} {st : St} {s : SC}, strip P n c = some s → (∀ e s, Q e s → Q' e s) → VSC P s Q st → VC P n c Q' st
  | .skip, _, _, _, s, hs, hQ, h => by cases hs; exact hQ _ _ h
  | .region id ops draw, Q, Q', st, s, hs, hQ, h => by
    simp only [strip] at hs
    unfold sRegP at hs
    unfold VC
    split at hs
    · cases hs
      exact .inl (RegK.mono hQ h)
    · split at hs
      · rw [Option.map_eq_some_iff] at hs
        obtain ⟨c, hc, rfl⟩ := hs
        rcases h with h | h
        · exact .inl (RegK.mono hQ h)
        · cases draw <;> exact .inr (sReg_ok hc hQ h)
      · cases draw <;> exact .inr (sReg_ok hs hQ h)
  | .seq a b, Q, Q', st, s, hs, hQ, h => by
    simp only [strip] at hs
    split at hs
    · rename_i a' b' ha hb
      cases hs
      refine VC_mono (c := a) ha (fun e s h => ?_) h
      cases e with
      | normal => exact Wk.mono (fun s' h2 => VC_mono (c := b) hb hQ h2) h
      | _ => exact hQ _ _ h
    · cases hs
  | .cond c x y, Q, Q', st, s, hs, hQ, h => by
    simp only [strip] at hs
    split at hs
    · rename_i x' y' hx hy
      cases hs
      obtain ⟨t, h1, h2, h3⟩ := h
      exact ⟨t, h1, fun e => VC_mono (c := x) hx hQ (h2 e), fun e => VC_mono (c := y) hy hQ (h3 e)⟩
    · cases hs
  | .block id c, Q, Q', st, s, hs, hQ, h => by
    simp only [strip, Option.map_eq_some_iff] at hs
    obtain ⟨c', hc, rfl⟩ := hs
    refine VC_mono (c := c) hc (fun e s h => ?_) h
    cases e with
    | exit id' =>
      simp only at h ⊢
      split at h
      · rename_i hi; rw [if_pos hi]; exact hQ _ _ h
      · rename_i hi; rw [if_neg hi]; exact hQ _ _ h
    | _ => exact hQ _ _ h
  | .loop c, Q, Q', st, s, hs, hQ, h => by
    simp only [strip, Option.map_eq_some_iff] at hs
    obtain ⟨c', hc, rfl⟩ := hs
    obtain ⟨I, h1, h2⟩ := h
    refine ⟨I, h1, fun k s hI => VC_mono (c := c) hc (fun e s h => ?_) (h2 k s hI)⟩
    cases e with
    | normal => exact h
    | _ => exact hQ _ _ h
  | .exit _, _, _, _, s, hs, hQ, h => by cases hs; exact hQ _ _ h
  | .ret, _, _, _, s, hs, hQ, h => by cases hs; exact hQ _ _ h
  | .rangeFunc _ _ _ _, _, _, _, _, hs, _, _ => by cases hs
  | .scope _, _, _, _, _, hs, _, _ => by cases hs
  | .label _, _, _, _, _, hs, _, _ => by cases hs
  | .goto _, _, _, _, _, hs, _, _ => by cases hs
  | .refuse _, _, _, _, _, hs, _, _ => by cases hs
end
def stripF (P : Program) (fn : Func) : Option SC := fn.body.bind fun c => if (fn.name == "runtime.NumGoroutine") then none else strip P fn.ntmps c
theorem SpecM.of_s {P : Program} (hm : P.follows .mixedOrders = true) {f : FuncId} {fn : Func} (hf : P.funcs[f]? = some fn) {s : SC} (hs : stripF P fn = some s) {args : List V1} {ins : List (Nat × Ob)} {r : AV} {outs : List (Nat × Ob)} (ha : args.length ≤ fn.ntmps)
    (h : KnownAll args ins → VSC P s (fun e st => (e = .normal ∨ e = .ret) ∧ RetOk P fn.results.toList r outs st) (st0 args ins)) : SpecM P f args ins r outs := by
  unfold stripF at hs
  cases hb : fn.body with
  | none => simp [hb] at hs
  | some c =>
    simp only [hb, Option.bind_some] at hs
    split at hs
    · cases hs
    · rename_i hn
      exact SpecM.of_vc hm hf hb (by simpa using hn) ha fun hk => VC_mono hs (fun _ _ h => h) (h hk)
end Go.Proofs.YtlblmofimjhbbaaDoor
