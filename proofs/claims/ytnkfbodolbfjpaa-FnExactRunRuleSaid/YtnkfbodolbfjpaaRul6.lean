/- A rule's rectangle: the program's loop. -/
import Derived.Test.YtnkfbodolbfjpaaRul5
namespace Go.Proofs.Ytnkfbodolbfjpaa
open Go.RowKit
set_option maxRecDepth 100000
set_option maxHeartbeats 2000000
/-- Rows that the call owns, each in a block of its own. -/
def NestR (w : World) (B N : Nat) (v : Value) (n : Nat) (rows : List (List Int)) : Prop := ∃ us S, w.ownsRow B 49 1 v n us ∧ ET w us (rows.map fun l => .rd kI (ints l)) S ∧ (v.ownBlock.toList ++ S).Nodup ∧ ∀ b ∈ S, B ≤ b ∧ b < N
theorem nest_nil (w : World) (B N : Nat) : NestR w B N (.slice none 0 0) 0 [] := ⟨[], [], World.ownsRow_nil _ _ _ _, .nil, by simp [Value.ownBlock], fun b hb => by cases hb⟩
theorem NestR.step {w w' : World} {B N n : Nat} {v : Value} {rows : List (List Int)} (h : NestR w B N v n rows) (hb : Below w.heap.size w w') : NestR w' B N v n rows := by
  obtain ⟨us, S, h1, h2, h3, h4⟩ := h
  exact ⟨us, S, own_keep h1 hb, h2.keep fun b hb' => hb.block b (h2.lt b hb'), h3, h4⟩
/-- One row more. -/
theorem nest_app {w : World} {B N n : Nat} {v rv : Value} {rows : List (List Int)} {l : List Int} (h : NestR w B N v n rows) (hn : n ≤ 1048576) (hB : B ≤ w.heap.size) (hN : N ≤ w.heap.size) (hrow : w.ownsRow 0 2 1 rv l.length (l.map (Value.int .i64))) (hl : ∀ x ∈ l, okI (.int .i64 x)) (hnew : ∀ g, rv.ownBlock = some g → B ≤ g ∧ N ≤ g ∧ v.ownBlock ≠ some g) :
    ∀ ty, ∃ v' w', (Builtin.append_ #[98, 98] ty #[v, .slice (some ⟨w.heap.size, 0, none⟩) 1 1]).run Try.prog (w.alloc (.cells #[rv] 49)) = .ok v' w' ∧ NestR w' B w'.heap.size v' (n + 1) (rows ++ [l]) ∧ Below B w w' ∧ (∀ k, k < w.heap.size → v.ownBlock ≠ some k → w'.heap[k]? = w.heap[k]?) ∧ (v'.ownBlock = v.ownBlock ∨ ∃ g, v'.ownBlock = some g ∧ w.heap.size ≤ g) := fun ty => by
  obtain ⟨us, S, h1, h2, h3, h4⟩ := h
  obtain ⟨v', w', hr, ho, hb, hk, ha⟩ := app_val h1 hn hB rv (ownsRow_one hrow) ty
  refine ⟨v', w', hr, ?_, hb, hk, ha⟩
  have hvS : ∀ b ∈ S, v.ownBlock ≠ some b := fun b hb' e => by
    rw [e] at h3
    simp only [Option.toList_some, List.cons_append, List.nil_append, List.nodup_cons] at h3
    exact h3.1 hb'
  have hlt := h2.lt
  have e1 : ET w' us (rows.map fun l => .rd kI (ints l)) S := h2.keep fun b hb' => hk b (hlt b hb') (hvS b hb')
  have hrl : ∀ g, rv.ownBlock = some g → g < w.heap.size := fun g hg => (hrow.lt g hg).2
  have hrow' : w'.ownsRow 0 2 1 rv l.length (l.map (Value.int .i64)) := ownsRow_keep hrow fun g hg => hk g (hrl g hg) (hnew g hg).2.2
  have e2 : ET w' [rv] [.rd kI (ints l)] (rv.ownBlock.toList ++ ([] ++ [])) := by
    refine ET.rd (κ := kI) (fun es he => ?_) (us := l.map (Value.int .i64)) ?_ ?_ .nil
    · obtain ⟨x, _, rfl⟩ := List.mem_map.1 he
      rfl
    · have hlen : (ints l).length = l.length := by simp
      rw [hlen]
      exact hrow'
    · rw [flat_ints5]
      exact ET.toInts5 hl
  have e3 := e1.append e2
  refine ⟨us ++ [rv], S ++ (rv.ownBlock.toList ++ ([] ++ [])), ho, by rw [List.map_append]; exact e3, ?_, ?_⟩
  · simp only [List.append_nil]
    have hSn : S.Nodup := (List.nodup_append.1 h3).2.1
    have hv' : ∀ b ∈ S, v'.ownBlock ≠ some b := fun b hb' e => by
      rcases ha with ha | ⟨g, ha, hg⟩
      · exact hvS b hb' (ha ▸ e)
      · rw [ha] at e
        cases e
        have := hlt b hb'
        omega
    cases hrb : rv.ownBlock with
    | none =>
      simp only [Option.toList_none, List.append_nil]
      cases hvb : v'.ownBlock with
      | none => simpa using hSn
      | some g =>
        simp only [Option.toList_some, List.cons_append, List.nil_append, List.nodup_cons]
        exact ⟨fun hg => hv' g hg hvb, hSn⟩
    | some g =>
      obtain ⟨hBg, hNg, hvg⟩ := hnew g hrb
      have hgS : g ∉ S := fun hg => by
        have := (h4 g hg).2
        omega
      have hgl := hrl g hrb
      have hSg2 : (S ++ [g]).Nodup := by
        rw [List.nodup_append]
        refine ⟨hSn, by simp, fun a ha b hb' => ?_⟩
        rw [List.mem_singleton.1 hb']
        exact fun e => hgS (e ▸ ha)
      simp only [Option.toList_some]
      cases hvb : v'.ownBlock with
      | none => simpa using hSg2
      | some g' =>
        simp only [Option.toList_some, List.cons_append, List.nil_append, List.nodup_cons]
        refine ⟨fun hg => ?_, hSg2⟩
        rcases List.mem_append.1 hg with hg | hg
        · exact hv' g' hg hvb
        · rw [List.mem_singleton.1 hg] at hvb
          rcases ha with ha | ⟨g2, ha, hg2⟩
          · exact hvg (ha ▸ hvb)
          · rw [ha] at hvb
            cases hvb
            omega
  · intro b hb'
    rcases List.mem_append.1 hb' with hb' | hb'
    · have h5 := h4 b hb'
      have h6 := hb.size
      omega
    · simp only [List.append_nil, Option.mem_toList] at hb'
      have h5 := hrl b hb'
      have h6 := hb.size
      exact ⟨(hnew b hb').1, by omega⟩
theorem NestR.lt {w : World} {B N n : Nat} {v : Value} {rows : List (List Int)} (h : NestR w B N v n rows) (b : Nat) (hb : v.ownBlock = some b) : B ≤ b ∧ b < w.heap.size := by
  obtain ⟨us, S, h1, _⟩ := h
  exact h1.lt b hb
theorem slice_of {w : World} {B e n : Nat} {v : Value} {xs : List Value} (h : w.ownsRow B e 1 v n xs) : ∃ a m c, v = .slice a m c := by
  rcases h.2 with ⟨hv, _⟩ | ⟨g, cap, cur, hv, _⟩
  · exact ⟨_, _, _, hv⟩
  · exact ⟨_, _, _, hv⟩
theorem run57 (r : TRule) (west south : List Int) (tv wv sv : Value) (w : World) (R : Nat → Prop) (hR : ∀ b, R b → b < w.heap.size) (hst : okI (.int .i64 r.fStates)) (qT : RD w R tv (.rd kI (ints r.fTable))) (qW : RD w R wv (.rd kI (ints west))) (qS : RD w R sv (.rd kI (ints south))) :
    Calls Try.prog 57 #[.agg #[.int .i64 r.fStates, tv], wv, sv] w fun e w' => ∃ v, e = .returned (.tuple #[v, .int .i64 (fRR r west south).2]) ∧ Below w.heap.size w w' ∧ NestR w' w.heap.size w'.heap.size v (fRR r west south).1.length (fRR r west south).1 := by
  have hT := rowI_of hR qT
  have hTk := hT
  obtain ⟨ta, tc, rfl, hct⟩ := hT
  obtain ⟨wa, wc, rfl, hcw⟩ := rowI_of hR qW
  obtain ⟨sa, sc, rfl, hcs⟩ := rowI_of hR qS
  have hb1 : Below w.heap.size w (w.alloc (.cells #[.int .i64 r.fStates, .slice ta r.fTable.length tc] 101)) := (Below.refl _ w).alloc (Nat.le_refl _) _
  have z1 : (w.alloc (.cells #[.int .i64 r.fStates, .slice ta r.fTable.length tc] 101)).heap.size = w.heap.size + 1 := World.size_alloc _ _
  have k0 : (w.alloc (.cells #[.int .i64 r.fStates, .slice ta r.fTable.length tc] 101)).cell? ⟨w.heap.size, 0, none⟩ = some (.int .i64 r.fStates) := World.cell?_alloc_new _ _ _ _
  have k1 : (w.alloc (.cells #[.int .i64 r.fStates, .slice ta r.fTable.length tc] 101)).cell? ⟨w.heap.size, 1, none⟩ = some (.slice ta r.fTable.length tc) := World.cell?_alloc_new _ _ _ _
  have kp : ∀ {v : Value} {d : D}, RD w R v d → RD (w.alloc (.cells #[.int .i64 r.fStates, .slice ta r.fTable.length tc] 101)) R v d := fun h => h.keep (fun _ h => h) fun b hb => heap_alloc_old w _ (hR b hb)
  have hR1 : ∀ b, R b → b < (w.alloc (.cells #[.int .i64 r.fStates, .slice ta r.fTable.length tc] 101)).heap.size := fun b hb => by have := hR b hb; omega
  have hSd := spec_call (iSides r west south) hR1 (vs := [.agg #[.int .i64 r.fStates, .slice ta r.fTable.length tc], .slice wa west.length wc, .slice sa south.length sc]) (.cons ⟨[.int .i64 r.fStates, .slice ta r.fTable.length tc], rfl, .cons (.pv rfl hst) (.cons (kp qT) .nil)⟩ (.cons (kp qW) (.cons (kp qS) .nil)))
  go_enter Try.func57, Try.ntmps57
  go_wp2_with fail
  generalize w.alloc (.cells #[.int .i64 r.fStates, .slice ta r.fTable.length tc] 101) = W1 at *
  refine hSd.mono ?_
  clear hSd
  rintro e w2 ⟨u, rfl, hb2, R2, hu⟩
  have hu : RD w2 R2 u (.pv (.int .i64 (fRR r west south).2)) := hu
  cases hu
  have hb12 := hb1.trans (hb2.mono (by omega))
  by_cases hok : okRu r ∧ okSd r.fStates west ∧ okSd r.fStates south
  case neg =>
    have hf : ∃ c : Int, fRR r west south = ([], c) ∧ ¬ c = 0 := by
      by_cases h : okRu r
      · exact ⟨2, by unfold fRR; rw [if_pos h, if_neg fun h' => hok ⟨h, h'⟩], by decide⟩
      · exact ⟨1, if_neg h, by decide⟩
    obtain ⟨c, hf, hc⟩ := hf
    have hf' := Lib.hid hf
    have e2 : (fRR r west south).2 = c := by rw [hf]
    rw [e2]
    clear hf e2 hct hcw hcs
    go_wp2
    go_ret2
    rw [hf'.out]
    exact ⟨_, rfl, hb12, nest_nil _ _ _⟩
  have hf : fRR r west south = (rws r.fStates r.fTable west south west.length, 0) := by unfold fRR; rw [if_pos hok.1, if_pos hok.2]
  have hf' := Lib.hid hf
  have e2 : (fRR r west south).2 = 0 := by rw [hf]
  rw [e2]
  obtain ⟨h, h1, h2⟩ := hok
  have hokT : okT r.fStates r.fTable := h
  have hwt : ∀ b ∈ west, inS r.fStates b := h1.2
  have hsth : ∀ b ∈ south, inS r.fStates b := h2.2
  have hwl : west.length ≤ 15 := by have := h1.1; omega
  have hsl : south.length ≤ 15 := by have := h2.1; omega
  have z2 := hb2.size
  have hS0 : RD w2 (RnD R (w.heap.size + 1) w2 (.slice none 0 0)) (.slice sa south.length sc) (.rd kI (ints south)) := qS.keep (fun b hb => ⟨.inl hb, by simp [Value.ownBlock]⟩) fun b hb => hb12.block b (hR b hb)
  have hB0 : Below (w.heap.size + 1) W1 w2 := hb2.mono (by omega)
  clear hf e2 kp hR1 h1 h2 h hct hcs qT qW qS
  go_wp2_with fail
  go_loopw [2, 9, 21] (fun v2 v9 v21 wr => ∃ y : Nat, y ≤ west.length ∧ v21 = .int .i64 y ∧ NestR wr (w.heap.size + 1) wr.heap.size v9 y (rws r.fStates r.fTable west south y) ∧ RD wr (RnD R (w.heap.size + 1) wr v9) v2 (.rd kI (ints ((rws r.fStates r.fTable west south y).getLastD south))) ∧ Below (w.heap.size + 1) W1 wr) (fun _ _ v21 _ => (west.length - intOf v21).toNat)
  case atStart => exact ⟨0, Nat.zero_le _, rfl, nest_nil _ _ _, hS0, hB0⟩
  case round =>
    obtain ⟨y, hy, rfl, hnest, hbel, hBb⟩ := hrel
    clear hS0 hB0
    have hbw : Below w.heap.size w wr := hb1.trans (hBb.mono (by omega))
    by_cases hyl : y < west.length
    · obtain ⟨wx, hg⟩ : ∃ wx, west[y]? = some wx := ⟨_, List.getElem?_eq_getElem hyl⟩
      have hwx := hwt wx (List.mem_of_getElem? hg)
      obtain ⟨gb, off, rfl, hgb, hcell⟩ := hcw y wx hg
      have cW := (hbw.cell (p := ⟨gb, off + y, none⟩) hgb).trans hcell
      have c0 := (hBb.cell (p := ⟨w.heap.size, 0, none⟩) (Nat.lt_succ_self _)).trans k0
      have c1 := (hBb.cell (p := ⟨w.heap.size, 1, none⟩) (Nat.lt_succ_self _)).trans k1
      obtain ⟨hbs, hbl⟩ := bel_ok hokT hwt hsth y hy
      have hsuc := bel_succ r.fStates r.fTable west south y
      have hwd : west.getD y 0 = wx := by rw [List.getD, hg]; rfl
      have hrw : rws r.fStates r.fTable west south (y + 1) = rws r.fStates r.fTable west south y ++ [stp r.fStates r.fTable wx ((rws r.fStates r.fTable west south y).getLastD south) south.length] := by rw [rws, hwd]
      rw [hwd, ← hbl] at hsuc
      rw [← hbl] at hrw
      have hw3 : RowKit.wrap64 ((y : Int) + 1) = ((y + 1 : Nat) : Int) := IntWalk.wrap64_in _ (by omega)
      have hzw := hBb.size
      have hRw : ∀ b, RnD R (w.heap.size + 1) wr u9 b → b < wr.heap.size := fun b hb => hb.1.elim (fun h => Nat.lt_of_lt_of_le (hR b h) (by omega)) fun h => h.2
      have hbr := rowI_of hRw hbel
      generalize (rws r.fStates r.fTable west south y).getLastD south = below at *
      have hF := fill1 hokT hwx hbs (by omega) (.slice ta r.fTable.length tc) u2 wr (hTk.keep hbw hbw.size) hbr
      have hoks : ∀ z ∈ stp r.fStates r.fTable wx below below.length, okI (.int .i64 z) := fun z hz => inS_ok hokT.1 ((stp_bd hokT hwx hbs below.length (Nat.le_refl _)).2 z hz)
      have hln := stp_len r.fStates r.fTable wx below below.length
      generalize stp r.fStates r.fTable wx below below.length = row at *
      have HX := Lib.hid (And.intro hsuc (And.intro hrw (And.intro hy (And.intro hyl (And.intro hbl hln)))))
      have HB := Lib.hid (And.intro hbel (And.intro hRw hbr))
      have HC := Lib.hid hcw
      clear hsuc hrw hy hbl hln hbel hRw hbr hcw hwd hg
      go_wp2_with fail
      refine hF.mono ?_
      rintro e w3 ⟨v3, rfl, hrow3, hb3⟩
      obtain ⟨a3, m3, c3, rfl⟩ := slice_of hrow3
      have hrd3 : RD w3 (· < w3.heap.size) (.slice a3 m3 c3) (.rd kI (ints row)) := rd_own hrow3 HX.out.2.2.2.2.2.symm (fun b hb => (hrow3.lt b hb).2) hoks
      have hC := spec_callN (lib_cloneI5 row (by have := HX.out.2.2.2.2; omega)) (W := w3) (R := (· < w3.heap.size)) (vs := [.slice a3 m3 c3]) (fun _ h => h) (.cons hrd3 .nil)
      go_wp2_with fail
      refine hC.mono ?_
      rintro e w5 ⟨v5, rfl, hb5, hrow5, hnew5⟩
      obtain ⟨a5, m5, c5, rfl⟩ := slice_of hrow5
      have hz3 := hb3.size
      have hz5 := hb5.size
      obtain ⟨v6, w6, hr6, hn6, hb6, hk6, ha6⟩ := nest_app ((hnest.step hb3).step hb5) (by have := HX.out.2.2.1; omega) (by omega) (by omega) hrow5 hoks (fun g hg => ⟨by have := hnew5 g hg; omega, by have := hnew5 g hg; omega, fun e => by have h1 := hnew5 g hg; have h2 := (hnest.lt g e).2; omega⟩) 98
      have hz6 := hb6.size
      go_wp2_with (at_builtin; refine Lib.wpList_append_run _ rfl _ _ _ _ rfl _ _ rfl rfl _ _ hr6 ?_)
      go_roundw
      case rel =>
        have hR3 : ∀ b, R b → b < w3.heap.size := fun b hb => by have := hR b hb; omega
        have hRow : RD w3 (RnD R (w.heap.size + 1) w3 u9) (.slice a3 m3 c3) (.rd kI (ints row)) := rd_own hrow3 HX.out.2.2.2.2.2.symm (fun b hb => ⟨.inr ⟨by have := (hrow3.lt b hb).1; omega, (hrow3.lt b hb).2⟩, fun e => by
          have h1 := (hnest.lt b e).2
          have h2 := (hrow3.lt b hb).1
          omega⟩) hoks
        refine ⟨y + 1, HX.out.2.2.2.1, (by first | rw [hw3] | exact congrArg (Value.int .i64) (by omega)), by rw [HX.out.2.1]; exact hn6, ?_, ((hBb.trans (hb3.mono (by omega))).trans (hb5.mono (by omega))).trans hb6⟩
        rw [HX.out.1]
        exact rnd_app (fun b hb => by have := hR3 b hb; omega) (rnd_step hR3 hRow hb5) (by omega) hk6 ha6
      case measure =>
        have := HX.out.2.2.2.1
        first
          | (show ((west.length : Int) - ((y : Int) + 1)).toNat < ((west.length : Int) - (y : Int)).toNat
             clear hw3
             omega)
          | (show ((west.length : Int) - intOf (Value.int .i64 (RowKit.wrap64 ((y : Int) + 1)))).toNat < ((west.length : Int) - intOf (Value.int .i64 (y : Int))).toNat
             rw [intOf_int, intOf_int, hw3]
             clear hw3
             omega)
    · obtain rfl : y = west.length := by omega
      clear hcw
      go_wp2
      go_ret2
      have hnl := rws_len r.fStates r.fTable west south west.length
      obtain ⟨us, S, e1, e2, e3, e4⟩ := hnest
      rw [hf'.out]
      refine ⟨_, rfl, hbw, us, S, ?_, e2, e3, fun b hb => ⟨by have := (e4 b hb).1; omega, (e4 b hb).2⟩⟩
      rw [hnl]
      exact ⟨e1.1, e1.2.imp id fun ⟨g, cp, cur, q1, q2, q3⟩ => ⟨g, cp, cur, q1, by omega, q3⟩⟩
end Go.Proofs.Ytnkfbodolbfjpaa
