/- RdU and LawRD. -/
import Derived.Test.YtlblmofimjhbbaaDoorQPg
import Derived.Test.YtlblmofimjhbbaaDoorQPa
namespace Go.Proofs.YtlblmofimjhbbaaDoor
open Go.RowKit
set_option maxRecDepth 100000 in
def S.s4 : SC := (.seq (.reg [⟨(.some 2), .none, .false, (.mv (.const (Go.Value.bool false)))⟩]) (.seq (.seq (.reg [⟨(.some 11), .none, .false, (.mv (.tmp 0))⟩, ⟨(.some 12), .none, .false, (.slen (.tmp 11))⟩, ⟨(.some 13), .none, .false, (.bin .gtr (.tmp 12) (.const (Go.Value.int Go.IntKind.i64 1048576)))⟩]) (.cond (.tmp 13) (.seq (.reg [⟨(.some 2), .none, .false, (.mv (.const (Go.Value.bool true)))⟩]) .ret) .skip)) (.seq (.reg [⟨(.some 15), .none, .false, (.mv (.tmp 0))⟩, ⟨(.some 16), .none, .false, (.call (.func 13) [(.tmp 15)])⟩, ⟨(.some 14), .none, .false, (.mv (.tmp 16))⟩, ⟨(.some 17), .none, .false, (.ext (.tmp 14) 0)⟩, ⟨(.some 18), .none, .false, (.ext (.tmp 14) 1)⟩, ⟨(.some 3), .none, .false, (.al 28 [(Go.Value.slice none 0 0)])⟩, ⟨.none, .none, .false, (.sto 1 (.tmp 3) (.tmp 17))⟩, ⟨(.some 4), .none, .false, (.mv (.tmp 18))⟩]) (.seq (.reg [⟨(.some 20), .none, .false, (.mv (.tmp 0))⟩, ⟨(.some 21), .none, .false, (.call (.func 14) [(.tmp 20)])⟩, ⟨(.some 19), .none, .false, (.mv (.tmp 21))⟩, ⟨(.some 22), .none, .false, (.ext (.tmp 19) 0)⟩, ⟨(.some 23), .none, .false, (.ext (.tmp 19) 1)⟩, ⟨(.some 5), .none, .false, (.al 28 [(Go.Value.slice none 0 0)])⟩, ⟨.none, .none, .false, (.sto 1 (.tmp 5) (.tmp 22))⟩, ⟨(.some 6), .none, .false, (.mv (.tmp 23))⟩]) (.seq (.seq (.reg [⟨(.some 24), .none, .false, (.ld .true 1 (.tmp 5))⟩, ⟨(.some 25), .none, .false, (.ld .true 1 (.tmp 3))⟩, ⟨(.some 26), .none, .false, (.call (.func 8) [(.tmp 24), (.tmp 25)])⟩, ⟨(.some 27), .none, .false, (.not (.tmp 26))⟩, ⟨(.some 28), .none, .false, (.mv (.tmp 27))⟩, ⟨(.some 29), (.some (28, .false)), .false, (.mv (.tmp 6))⟩, ⟨(.some 30), (.some (28, .false)), .false, (.mv (.tmp 4))⟩, ⟨(.some 31), (.some (28, .false)), .false, (.bbin .neq (.tmp 29) (.tmp 30))⟩, ⟨(.some 32), .none, .false, (.pick (.tmp 28) (.const (Go.Value.bool true)) (.tmp 31))⟩]) (.cond (.tmp 32) (.seq (.reg [⟨(.some 2), .none, .false, (.mv (.const (Go.Value.bool false)))⟩]) .ret) .skip)) (.seq (.reg [⟨(.some 7), .none, .false, (.mv (.const (Go.Value.int Go.IntKind.i64 1)))⟩]) (.seq (.reg [⟨(.some 33), .none, .false, (.ld .true 1 (.tmp 5))⟩, ⟨(.some 34), .none, .false, (.mv (.tmp 7))⟩, ⟨(.some 35), .none, .false, (.call (.func 10) [(.tmp 33), (.tmp 34)])⟩, ⟨(.some 7), .none, .false, (.mv (.tmp 35))⟩]) (.seq (.reg [⟨(.some 8), .none, .false, (.mv (.const (Go.Value.int Go.IntKind.i64 1)))⟩]) (.seq (.reg [⟨(.some 36), .none, .false, (.ld .true 1 (.tmp 5))⟩, ⟨(.some 37), .none, .false, (.mv (.tmp 8))⟩, ⟨(.some 38), .none, .false, (.call (.func 12) [(.tmp 36), (.tmp 37)])⟩, ⟨(.some 8), .none, .false, (.mv (.tmp 38))⟩]) (.seq (.seq (.reg [⟨(.some 39), .none, .false, (.mv (.tmp 8))⟩, ⟨(.some 40), .none, .false, (.bin .lss (.tmp 39) (.const (Go.Value.int Go.IntKind.i64 0)))⟩]) (.cond (.tmp 40) (.seq (.reg [⟨(.some 2), .none, .false, (.mv (.const (Go.Value.bool false)))⟩]) .ret) .skip)) (.seq (.seq (.reg [⟨(.some 41), .none, .false, (.mv (.tmp 8))⟩, ⟨(.some 42), .none, .false, (.mv (.tmp 7))⟩, ⟨(.some 43), .none, .false, (.bin .neq (.tmp 41) (.tmp 42))⟩]) (.cond (.tmp 43) (.seq (.reg [⟨(.some 2), .none, .false, (.mv (.const (Go.Value.bool false)))⟩]) .ret) .skip)) (.seq (.reg [⟨(.some 45), .none, .false, (.mv (.tmp 0))⟩, ⟨(.some 46), .none, .false, (.call (.func 14) [(.tmp 45)])⟩, ⟨(.some 44), .none, .false, (.mv (.tmp 46))⟩, ⟨(.some 47), .none, .false, (.ext (.tmp 44) 0)⟩, ⟨(.some 48), .none, .false, (.ext (.tmp 44) 1)⟩, ⟨(.some 9), .none, .false, (.al 28 [(Go.Value.slice none 0 0)])⟩, ⟨.none, .none, .false, (.sto 1 (.tmp 9) (.tmp 47))⟩, ⟨(.some 10), .none, .false, (.mv (.tmp 48))⟩]) (.seq (.seq (.reg [⟨(.some 49), .none, .false, (.ld .true 1 (.tmp 9))⟩, ⟨(.some 50), .none, .false, (.ld .true 1 (.tmp 3))⟩, ⟨(.some 51), .none, .false, (.call (.func 8) [(.tmp 49), (.tmp 50)])⟩, ⟨(.some 52), .none, .false, (.not (.tmp 51))⟩, ⟨(.some 53), .none, .false, (.mv (.tmp 52))⟩, ⟨(.some 54), (.some (53, .false)), .false, (.mv (.tmp 10))⟩, ⟨(.some 55), (.some (53, .false)), .false, (.mv (.tmp 4))⟩, ⟨(.some 56), (.some (53, .false)), .false, (.bbin .neq (.tmp 54) (.tmp 55))⟩, ⟨(.some 57), .none, .false, (.pick (.tmp 53) (.const (Go.Value.bool true)) (.tmp 56))⟩]) (.cond (.tmp 57) (.seq (.reg [⟨(.some 2), .none, .false, (.mv (.const (Go.Value.bool false)))⟩]) .ret) .skip)) (.seq (.reg [⟨(.some 8), .none, .false, (.mv (.const (Go.Value.int Go.IntKind.i64 1)))⟩]) (.seq (.reg [⟨(.some 58), .none, .false, (.ld .true 1 (.tmp 5))⟩, ⟨(.some 59), .none, .false, (.mv (.tmp 8))⟩, ⟨(.some 60), .none, .false, (.call (.func 12) [(.tmp 58), (.tmp 59)])⟩, ⟨(.some 8), .none, .false, (.mv (.tmp 60))⟩]) (.seq (.seq (.reg [⟨(.some 61), .none, .false, (.mv (.tmp 8))⟩, ⟨(.some 62), .none, .false, (.bin .lss (.tmp 61) (.const (Go.Value.int Go.IntKind.i64 0)))⟩]) (.cond (.tmp 62) (.seq (.reg [⟨(.some 2), .none, .false, (.mv (.const (Go.Value.bool false)))⟩]) .ret) .skip)) (.seq (.seq (.reg [⟨(.some 63), .none, .false, (.mv (.tmp 8))⟩, ⟨(.some 64), .none, .false, (.mv (.tmp 7))⟩, ⟨(.some 65), .none, .false, (.bin .neq (.tmp 63) (.tmp 64))⟩]) (.cond (.tmp 65) (.seq (.reg [⟨(.some 2), .none, .false, (.mv (.const (Go.Value.bool false)))⟩]) .ret) .skip)) (.seq (.reg [⟨(.some 2), .none, .false, (.mv (.const (Go.Value.bool true)))⟩]) .ret))))))))))))))))))
set_option maxRecDepth 100000 in
theorem S.ok4 : stripF Tryd.prog Tryd.f4 = some S.s4 := by kernel_rfl
set_option maxRecDepth 100000 in
def S.s14 : SC := (.seq (.reg [⟨(.some 2), .none, .false, (.al 28 [(Go.Value.slice none 0 0)])⟩, ⟨(.some 3), .none, .false, (.mv (.const (Go.Value.bool false)))⟩]) (.seq (.reg [⟨(.some 4), .none, .false, (.mv (.tmp 0))⟩, ⟨(.some 5), .none, .false, (.call (.func 37) [(.tmp 4)])⟩, ⟨(.some 6), .none, .false, (.ext (.tmp 5) 0)⟩, ⟨(.some 7), .none, .false, (.ext (.tmp 5) 1)⟩, ⟨.none, .none, .false, (.sto 1 (.tmp 2) (.tmp 6))⟩, ⟨(.some 3), .none, .false, (.mv (.tmp 7))⟩]) .ret))
set_option maxRecDepth 100000 in
theorem S.ok14 : stripF Tryd.prog Tryd.f14 = some S.s14 := by kernel_rfl
set_option maxRecDepth 20000
set_option maxHeartbeats 8000000
abbrev rpAct (s : List UInt8) (w : World) : Act := { tmps := #[.string (bA s), undef, .pointer (some ⟨w.heap.size, 0, none⟩), .pointer (some ⟨w.heap.size + 1, 0, none⟩), undef, undef, undef, undef, undef, undef, .func (.func 61) #[] #[.pointer (some ⟨w.heap.size, 0, none⟩), .pointer (some ⟨w.heap.size + 1, 0, none⟩)], undef, undef, undef, undef, undef, undef, undef, undef, undef, undef, undef, undef, undef, undef, undef, undef, undef, undef, undef, undef, undef, undef, undef, undef, undef, undef, undef, undef, undef, undef, undef, undef, undef, undef, undef, undef, undef, undef, undef], defers := [{ target := .fn (.func 61) #[.pointer (some ⟨w.heap.size, 0, none⟩), .pointer (some ⟨w.heap.size + 1, 0, none⟩)], args := #[] }] }
abbrev rpW (w : World) : World := (w.alloc (.cells #[.slice none 0 0] 28)).alloc (.cells #[.bool false] 4)
abbrev rpI (ι : Nat → Value) (w : World) : Nat → Value := upd (upd ι (pin 0) (.pointer (some ⟨w.heap.size, 0, none⟩))) (pin 1) (.pointer (some ⟨w.heap.size + 1, 0, none⟩))
abbrev rpF (φ : Nat → List Nat) (w : World) : Nat → List Nat := upd (upd φ (pin 0) [w.heap.size]) (pin 1) [w.heap.size + 1]
abbrev rpX (s : List UInt8) (w : World) (R : Nat → Prop) (ι : Nat → Value) (hT : TabW w R) : Fx := ⟨w, fun _ => False, rpI ι w, R, 50, hT, fun _ h => h.elim, (rpAct s w).defers⟩
abbrev rpO : Nat → Option Ob := frO [(pin 0, .box 28 [nilB]), (pin 1, .box 4 [.d (bD false)])]
theorem rpBelow (w : World) : Below w.heap.size w (rpW w) := ((Below.refl _ _).alloc (Nat.le_refl _) _).alloc (by simp) _
theorem rp_objs {o : Nat} {x : Ob} (h : rpO o = some x) : (o = pin 0 ∧ x = .box 28 [nilB]) ∨ (o = pin 1 ∧ x = .box 4 [.d (bD false)]) := by
  simp only [rpO, frO, upd] at h
  split at h
  · rename_i e; cases h; exact .inl ⟨e, rfl⟩
  · split at h
    · rename_i e; cases h; exact .inr ⟨e, rfl⟩
    · cases h
theorem rpSat (s : List UInt8) (hs : okI (.string (bA s))) (w : World) (R : Nat → Prop) (ι : Nat → Value) (φ : Nat → List Nat) (hR : ∀ b, R b → b < w.heap.size) (hT : TabW w R) :
    Sat (rpX s w R ι hT) R (rpI ι w) (rpF φ w) ⟨frE [(0, pvA (.string (bA s))), (2, .v (.c (.ptr (pin 0) 0))), (3, .v (.c (.ptr (pin 1) 0)))], rpO⟩ (rpAct s w) (rpW w) := by
  have hb := rpBelow w
  have hsz : (rpW w).heap.size = w.heap.size + 1 + 1 := by simp
  have h0 : (rpW w).heap[w.heap.size]? = some (.cells #[.slice none 0 0] 28 (0, 0)) := by
    have h1 : Below (w.heap.size + 1) (w.alloc (.cells #[.slice none 0 0] 28)) (rpW w) := (Below.refl _ _).alloc (by simp) _
    exact (h1.block _ (by omega)).trans (alloc_new_at _ _)
  have h1 : (rpW w).heap[w.heap.size + 1]? = some (.cells #[.bool false] 4 (0, 0)) := by
    have := alloc_new_at (w.alloc (.cells #[.slice none 0 0] 28)) (.cells #[.bool false] 4)
    rw [World.size_alloc] at this
    exact this
  refine ⟨BelowM.of_below hb, fun b h => Nat.lt_of_lt_of_le (hR b h) hb.size, fun _ h => h, fun _ h => .inl h, rfl, rfl, fun d => ?_, fun o x h => ?_, fun o x h g hg => ?_, fun o p x y g h h' hg hg' => ?_, fun _ _ => rfl⟩
  · simp only [frE, upd]
    split
    · rename_i e; subst e; exact RA.of_pv rfl hs
    · split
      · rename_i e; subst e; exact ⟨⟨_, rfl⟩, w.heap.size, rfl, rfl⟩
      · split
        · rename_i e; subst e; exact ⟨⟨_, rfl⟩, w.heap.size + 1, rfl, rfl⟩
        · trivial
  · rcases rp_objs h with ⟨rfl, rfl⟩ | ⟨rfl, rfl⟩
    · exact ⟨w.heap.size, [.slice none 0 0], rfl, rfl, h0, .cons (RD.pv rfl trivial) .nil⟩
    · exact ⟨w.heap.size + 1, [.bool false], rfl, rfl, h1, .cons (.pv rfl trivial) .nil⟩
  · rcases rp_objs h with ⟨rfl, rfl⟩ | ⟨rfl, rfl⟩
    · have hg : g ∈ [w.heap.size] := hg
      obtain rfl := List.mem_singleton.1 hg
      exact ⟨.inr (Nat.le_refl _), fun h => Nat.lt_irrefl _ (hR _ h), by omega⟩
    · have hg : g ∈ [w.heap.size + 1] := hg
      obtain rfl := List.mem_singleton.1 hg
      exact ⟨.inr (Nat.le_succ _), fun h => by have := hR _ h; omega, by omega⟩
  · rcases rp_objs h with ⟨rfl, rfl⟩ | ⟨rfl, rfl⟩ <;> rcases rp_objs h' with ⟨rfl, rfl⟩ | ⟨rfl, rfl⟩
    · rfl
    · have hg : g ∈ [w.heap.size] := hg
      have hg' : g ∈ [w.heap.size + 1] := hg'
      rw [List.mem_singleton] at hg hg'
      omega
    · have hg : g ∈ [w.heap.size + 1] := hg
      have hg' : g ∈ [w.heap.size] := hg'
      rw [List.mem_singleton] at hg hg'
      omega
    · rfl
theorem rp_res (a : Act) (w : World) (g g' : Nat) (h2 : a.tmps.getD 2 undef = .pointer (some ⟨g, 0, none⟩)) (h3 : a.tmps.getD 3 undef = .pointer (some ⟨g', 0, none⟩)) (hc : w.cell? ⟨g, 0, none⟩ = some (.slice none 0 0)) (hc' : w.cell? ⟨g', 0, none⟩ = some (.bool false)) :
    (results Tryd.f37 a.tmps).run Tryd.prog w = .ok (.tuple #[.agg #[.slice none 0 0], .bool false]) w := by
  rw [Array.getD_eq_getD_getElem?] at h2 h3
  simp [results, Tryd.results37, go_sem, h2, h3, hc, hc']
/-- A result, where the cells' names are forgotten. -/
theorem After.forget {w w' : World} {R : Nat → Prop} {ι ι0 : Nat → Value} {φ φ0 : Nat → List Nat} {r : AV} {outs : List (Nat × Ob)} {v : Value} (ho : ∀ o x, frO outs o = some x → o < pinN) (h : After w R ι0 φ0 (frO []) r (frO outs) v w') : After w R ι φ (frO []) r (frO outs) v w' := by
  obtain ⟨R', ι', φ', h1, h2, h3, h4, h5, ⟨h6, h7, h8, h9⟩, h10, _⟩ := h
  have hn : ∀ (φ : Nat → List Nat) g, ¬ fpO φ (frO []) g := fun φ g ⟨o, x, h, _⟩ => by cases h
  have hι : ∀ o, domO (frO outs) o → (if pinN ≤ o then ι o else ι' o) = ι' o := fun o ⟨x, hx⟩ => if_neg (by have := ho o x hx; omega)
  refine ⟨R', fun o => if pinN ≤ o then ι o else ι' o, φ', ⟨h1.os, h1.tape, h1.output, h1.size, fun k hk _ => h1.block k hk (hn _ k)⟩, h2, h3, fun b hb hl => (h4 b hb hl).imp id fun h => (hn _ b h).elim, RA.keep (fun _ h => h) (fun _ _ => rfl) (fun _ h => h) hι h5, ⟨fun o x hx => ?_, h7, h8, h9⟩, fun g hg => (h10 g hg).imp (fun h => (hn _ g h).elim) id, fun o ho => if_pos ho⟩
  have := h6 o x hx
  show RO w' R' _ _ (if pinN ≤ o then ι o else ι' o) (φ' o) x
  rw [hι o ⟨x, hx⟩]
  exact RO.keep (fun _ h => h) (fun _ _ => rfl) (fun _ h => h) hι (fun _ _ => rfl) this
theorem rp_outs (r : TPlan × Bool) : ∀ o x, frO (oRP r).outs o = some x → o < pinN := fun o x h => by
  have h : frO [(0, Ob.arr kRMixture (r.1.fStages.map enRMixture) [])] o = some x := h
  simp only [frO, upd] at h
  split at h
  · rename_i e; subst e; decide
  · cases h
theorem iReadPlan0 (s : List UInt8) (hs : s.length ≤ 1048576) : Spec Tryd.prog 37 [.c (sD (bA s))] (oRP (iRP s)) := by
  refine ⟨callFunc_enter Tryd.func37 rfl (by simp [Tryd.f37]), fun w R ι φ vs hR hF ho => ?_⟩
  cases hF with | cons h1 h2 =>
  cases h2
  rename_i v
  have h1 : RD w R v (sD (bA s)) := h1
  cases h1
  rename_i hst _
  have hT : TabW w R := ho.2.2.2
  have hok : okI (.string (bA s)) := by show (bA s).size ≤ maxLen; rw [bA_size]; unfold maxLen; omega
  have hsat := rpSat s hok w R ι φ hR hT
  refine calls_of_wp_defers Tryd.func37 rfl ?_
  simp only [Tryd.ntmps37, List.size_toArray, List.length_cons, List.length_nil, Nat.reduceAdd, Nat.reduceSub, Array.replicate_succ, Array.replicate_zero, List.push_toArray, List.append_toArray, List.nil_append, List.cons_append]
  refine wp_seq (wp_region_lit ?_)
  refine wpList_step fun K hK => ?_
  rw [if_pos (by simp [Region.wanted])]
  unfold Oper.wp
  simp [execOp, go_sem, Oper.upon]
  refine hK _ _ ?_
  clear hK K
  refine wpList_step fun K hK => ?_
  rw [if_pos (by simp [Region.wanted])]
  unfold Oper.wp
  simp [execOp, go_sem, Oper.upon]
  refine hK _ _ (wpList_nil ?_)
  clear hK K
  refine wp_seq (wp_region_lit ?_)
  refine wpList_step fun K hK => ?_
  rw [if_pos (by simp [Region.wanted])]
  unfold Oper.wp
  simp [execOp, go_sem, Oper.upon]
  refine hK _ _ ?_
  clear hK K
  refine wpList_step fun K hK => ?_
  rw [if_pos (by simp [Region.wanted])]
  unfold Oper.wp
  simp [execOp, go_sem, Oper.upon]
  refine hK _ _ (wpList_nil ?_)
  clear hK K
  refine Code.wp_mono (fun e a' w' hp => ?_) (VC_sound (F := rpX s w R ι hT) T.mixed _ (VC_mono (strip_seq (strip_seq rpStrip)) (fun _ _ h => h) (WC.intro (rpWalk s hs))) hsat)
  obtain ⟨st, R', ι', φ', hq, hS⟩ := hp.mk
  have hbl : Below w.heap.size w w' := hS.below.below fun _ h => h
  have hdf : a'.defers = (rpAct s w).defers := hS.defers
  rcases hq with ⟨rfl, hret⟩ | ⟨rfl, hbad, he2, he3, ho2, ho3⟩
  · show Leaves _ _ _ _ a'.defers .returning w'
    rw [hdf]
    refine leaves_cons (f := 61) (args := #[.pointer (some ⟨w.heap.size, 0, none⟩), .pointer (some ⟨w.heap.size + 1, 0, none⟩)]) (by simp) (addr_invoke _ _ _) ?_
    refine (catch_idle _ _ _).mono ?_
    rintro e u' w'' ⟨rfl, rfl, rfl⟩
    obtain ⟨v, h1, R1, ι1, φ1, q1, q2, q3, q4, q5, q6, q7⟩ := run_results hS hret
    refine ⟨v, h1, v, rfl, After.forget (ι0 := rpI ι w) (φ0 := φ) (rp_outs _) ⟨R1, ι1, φ1, BelowM.of_below hbl, q1, q2, fun b hb hlt => ?_, q4, q5, fun g hg => ?_, q7⟩⟩
    · rcases q3 b hb with h | h | h
      · exact .inl h
      · exact h.elim
      · have h : w.heap.size ≤ b := h
        omega
    · exact .inr ((q6 g hg).resolve_left id)
  · show Leaves _ _ _ _ a'.defers (.panicking npCh) w'
    rw [hdf]
    have p0 : ι' (pin 0) = .pointer (some ⟨w.heap.size, 0, none⟩) := hS.pin (pin 0) (by decide)
    have p1 : ι' (pin 1) = .pointer (some ⟨w.heap.size + 1, 0, none⟩) := hS.pin (pin 1) (by decide)
    obtain ⟨g, us, e1, e2, e3, e4⟩ := hS.objs _ _ ho2
    obtain ⟨g', us', f1, f2, f3, f4⟩ := hS.objs _ _ ho3
    rw [p0] at e1
    rw [p1] at f1
    cases e1
    cases f1
    cases e4 with | cons e4 e5 =>
    cases e5
    cases f4 with | cons f4 f5 =>
    cases f5
    rename_i u u'
    have e4 : RD w' R' u (.pv (.slice none 0 0)) := e4
    have f4 : RD w' R' u' (bD false) := f4
    have e5 : u = .slice none 0 0 := by cases e4; rfl
    have f5 : u' = .bool false := by cases f4; rfl
    subst e5
    subst f5
    have hc2 : w'.cell? ⟨w.heap.size, 0, none⟩ = some (.slice none 0 0) := by simp [World.cell?, e3]
    have hc3 : w'.cell? ⟨w.heap.size + 1, 0, none⟩ = some (.bool false) := by simp [World.cell?, f3]
    have hz2 : w'.frozen? ⟨w.heap.size, 0, none⟩ = false := by simp [World.frozen?, e3]
    have hz3 : w'.frozen? ⟨w.heap.size + 1, 0, none⟩ = false := by simp [World.frozen?, f3]
    have hl2 := (Array.getElem?_eq_some_iff.1 e3).1
    have hl3 := (Array.getElem?_eq_some_iff.1 f3).1
    have t2 : a'.tmps.getD 2 undef = .pointer (some ⟨w.heap.size, 0, none⟩) := by
      have := hS.env 2
      rw [he2] at this
      obtain ⟨_, g, h1, h2⟩ := this
      rw [p0] at h1
      cases h1
      exact h2
    have t3 : a'.tmps.getD 3 undef = .pointer (some ⟨w.heap.size + 1, 0, none⟩) := by
      have := hS.env 3
      rw [he3] at this
      obtain ⟨_, g, h1, h2⟩ := this
      rw [p1] at h1
      cases h1
      exact h2
    refine leaves_cons (f := 61) (args := #[.pointer (some ⟨w.heap.size, 0, none⟩), .pointer (some ⟨w.heap.size + 1, 0, none⟩)]) (by simp) (addr_invoke _ _ _) ?_
    refine (catch_np w.heap.size (w.heap.size + 1) w' false _ hc2 hc3 hz2 hz3 (by omega) hl2 hl3).mono ?_
    rintro e u' w'' ⟨rfl, rfl, rfl⟩
    have hb2 : Below w.heap.size w (((w'.setCell ⟨w.heap.size, 0, none⟩ (.slice none 0 0)).setCell ⟨w.heap.size + 1, 0, none⟩ (.bool false)).alloc (.cells #[] 100)) := ((hbl.setCell (by show _ ≤ w.heap.size; omega) _).setCell (by show _ ≤ w.heap.size + 1; omega) _).alloc (by simp; exact hbl.size) _
    have d2 : (((w'.setCell ⟨w.heap.size, 0, none⟩ (.slice none 0 0)).setCell ⟨w.heap.size + 1, 0, none⟩ (.bool false)).alloc (.cells #[] 100)).cell? ⟨w.heap.size, 0, none⟩ = some (.slice none 0 0) := by simp [go_sem, World.cell?_setCell_same, World.cell?_setCell_other, hc2, hl2]
    have d3 : (((w'.setCell ⟨w.heap.size, 0, none⟩ (.slice none 0 0)).setCell ⟨w.heap.size + 1, 0, none⟩ (.bool false)).alloc (.cells #[] 100)).cell? ⟨w.heap.size + 1, 0, none⟩ = some (.bool false) := by simp [go_sem, World.cell?_setCell_same, World.cell?_setCell_other, hc3, hl3]
    generalize ((w'.setCell ⟨w.heap.size, 0, none⟩ (.slice none 0 0)).setCell ⟨w.heap.size + 1, 0, none⟩ (.bool false)).alloc (.cells #[] 100) = w2 at *
    refine ⟨_, rp_res a' w2 _ _ t2 t3 d2 d3, _, rfl, ?_⟩
    rw [hbad]
    have hg : ∀ o x, frO ([(0, Ob.arr kRMixture [] [])]) o = some x → o = 0 ∧ x = .arr kRMixture [] [] := fun o x hf => by
      simp only [frO, upd] at hf
      split at hf
      · cases hf; exact ⟨by assumption, rfl⟩
      · cases hf
    refine ⟨R, upd ι 0 (.slice none 0 0), upd φ 0 [], BelowM.of_below hb2, fun b h => h, fun b h => Nat.lt_of_lt_of_le (hR b h) hb2.size, fun b h _ => .inl h, ?_, ⟨fun o x hf => ?_, fun o x hf g hgm => ?_, fun o p x y g hf hf' _ _ => (hg o x hf).1.trans (hg p y hf').1.symm, hT.keep (fun _ h => h) fun b hb => hb2.block b (hR b hb)⟩, fun g hf => ?_, fun o hf => upd_ne _ _ (fun e => by subst e; exact absurd hf (by decide))⟩
    · exact ⟨[_, _], rfl, .cons ⟨[_], rfl, .cons ⟨⟨_, upd_same _ _ _⟩, (upd_same _ _ _).symm⟩ .nil⟩ (.cons (RD.pv rfl trivial) .nil)⟩
    · obtain ⟨rfl, rfl⟩ := hg o x hf
      rw [upd_same, upd_same]
      exact RArr.nil _ _ _ _
    · obtain ⟨rfl, rfl⟩ := hg o x hf
      rw [upd_same] at hgm
      cases hgm
    · obtain ⟨o, x, hf, hgm⟩ := hf
      obtain ⟨rfl, rfl⟩ := hg o x hf
      rw [upd_same] at hgm
      cases hgm
theorem iReadPlan (s : List UInt8) (hs : s.length ≤ 1048576) : Spec Tryd.prog 14 [.c (sD (bA s))] (oRP (iRP s)) := by
  have hP := iReadPlan0 s hs
  generalize iRP s = r at *
  refine Spec.walk T.mixed Tryd.func14 S.ok14 (by simp [Tryd.f14]) fun hk => ?_
  clear hk
  unfold S.s14
  repeat' (first | refine R.mv rfl ?_ | refine R.reg ?_ | refine R.nil ?_ | refine R.seq ?_ | refine R.nseq ?_ | refine R.nblk ?_ | refine R.skip ?_ | refine R.blk ?_ | refine R.exit rfl ?_ | refine R.mvU rfl ?_ | refine R.ext rfl rfl ?_ | refine R.al rfl ?_ | refine R.stoB rfl rfl rfl rfl ⟨rfl, rfl, Nat.le_of_ble_eq_true rfl⟩ rfl ?_ | refine R.stoE _ rfl rfl rfl rfl rfl (by assumption) rfl ⟨rfl, rfl, Nat.le_of_ble_eq_true rfl⟩ ?_ | refine R.condT rfl ?_ | refine R.condF rfl ?_ | refine R.callN1 (bor := false) rfl rfl (hP) rfl rfl ?_ | refine R.callN1 (bor := true) rfl rfl (hP) rfl rfl ?_ | refine R.callN (bor := false) rfl rfl (hP) rfl rfl rfl rfl rfl ?_ | refine R.callN (bor := true) rfl rfl (hP) rfl rfl rfl rfl rfl ?_ | refine R.cond rfl (fun hc => ?_) (fun hc => ?_) | refine R.condN rfl (fun hc => ?_) (fun hc => ?_) | refine R.condB rfl (fun hc => ?_) (fun hc => ?_))
  exact R.ret ⟨.inr rfl, R.outR rfl (.cons (R.cell rfl rfl T.ty28 (Nat.le_of_ble_eq_true rfl) rfl) (.cons (R.tmp rfl) .nil)) rfl rfl rfl ⟨by show ¬ (2 = 1); omega, rfl⟩⟩
theorem sm_cnt {p : TPlan} (h : smPlan p) : cnPlan p ≤ 100000 := by
  obtain ⟨h8, hst⟩ := h
  have h1 : ∀ s ∈ p.fStages, (cnt cMixture) s ≤ 2816 := fun s hs => by
    obtain ⟨h16, hm⟩ := hst s hs
    have := cnt_bd (c := cMixture) (M := 176) (l := s) fun m hmm => by
      obtain ⟨g1, g2, _⟩ := hm m hmm
      have e1 : (cnt c1) m.fFrom = m.fFrom.length * 1 := cnt_const fun _ => rfl
      have e2 : (cnt c1) m.fTiles = m.fTiles.length * 1 := cnt_const fun _ => rfl
      show (cnt c1) m.fFrom + (cnt c1) m.fTiles ≤ 176
      omega
    omega
  have := cnt_bd (c := cnt cMixture) (M := 2816) (l := p.fStages) h1
  show cnt (cnt cMixture) p.fStages ≤ 100000
  omega
theorem iRP_cnt (s : List UInt8) : cnPlan (iRP s).1 ≤ 100000 := by
  unfold iRP
  split
  · rename_i h
    exact sm_cnt (okPlan_sm h.2.1)
  · refine sm_cnt ⟨Nat.zero_le _, fun s hs => ?_⟩
    cases hs
theorem law_ReadPlan (x0 : ByteArray) : Spec Tryd.prog 4 [.c (sD x0)] (oB true) := by
  obtain ⟨l, rfl⟩ : ∃ l, x0 = bA l := ⟨x0.data.toList, (bA_data x0).symm⟩
  refine Spec.walk T.mixed Tryd.func4 S.ok4 (by simp [Tryd.f4]) fun hk => ?_
  clear hk
  unfold S.s4
  by_cases hs : l.length ≤ 1048576
  case neg =>
    repeat' (first | refine R.slenA rfl ?_ | refine R.mv rfl ?_ | refine R.reg ?_ | refine R.nil ?_ | refine R.seq ?_ | refine R.nseq ?_ | refine R.nblk ?_ | refine R.skip ?_ | refine R.blk ?_ | refine R.exit rfl ?_ | refine R.gRun rfl ?_ | refine R.gSkip rfl ?_ | refine R.gSkip0 rfl ?_ | refine R.gUndef rfl ?_ | refine R.gUndef0 rfl ?_ | refine R.ldEp rfl rfl (by assumption) rfl rfl ?_ | refine R.ldaEp rfl rfl (by assumption) (Nat.le_of_ble_eq_true rfl) rfl rfl ?_ | refine R.ld rfl rfl rfl ?_ | refine R.lda rfl rfl (Nat.le_of_ble_eq_true rfl) rfl ?_ | refine R.slen rfl ?_ | refine R.lss rfl rfl ?_ | refine R.gtr rfl rfl ?_ | refine R.neq rfl rfl ?_ | refine R.pickT rfl rfl ?_ | refine R.pickF rfl rfl ?_ | refine R.not rfl ?_ | refine R.beql rfl rfl ?_ | refine R.bneq rfl rfl ?_ | refine R.mvU rfl ?_ | refine R.ext rfl rfl ?_ | refine R.al rfl ?_ | refine R.stoB rfl rfl rfl rfl ⟨rfl, rfl, Nat.le_of_ble_eq_true rfl⟩ rfl ?_ | refine R.stoE _ rfl rfl rfl rfl rfl (by assumption) rfl ⟨rfl, rfl, Nat.le_of_ble_eq_true rfl⟩ ?_ | refine R.condT rfl ?_ | refine R.condF rfl ?_ | refine R.cond rfl (fun hc => ?_) (fun hc => ?_) | refine R.condN rfl (fun hc => ?_) (fun hc => ?_) | refine R.condB rfl (fun hc => ?_) (fun hc => ?_) | refine R.gP rfl (fun hc => ?_) (fun hc => ?_) | refine R.gN rfl (fun hc => ?_) (fun hc => ?_) | refine R.gB rfl (fun hc => ?_) (fun hc => ?_))
    all_goals first | (exfalso; omega) | exact R.ret ⟨.inr rfl, R.outB rfl rfl rfl⟩
  have hI := iReadPlan l hs
  have hS := sReadPlan l hs
  rw [← rp_same] at hS
  have hcn := iRP_cnt l
  unfold oRP at hI hS
  generalize (iRP l).1 = p at *
  generalize (iRP l).2 = b at *
  repeat' (first | refine R.slenA rfl ?_ | refine R.mv rfl ?_ | refine R.reg ?_ | refine R.nil ?_ | refine R.seq ?_ | refine R.nseq ?_ | refine R.nblk ?_ | refine R.skip ?_ | refine R.blk ?_ | refine R.exit rfl ?_ | refine R.gRun rfl ?_ | refine R.gSkip rfl ?_ | refine R.gSkip0 rfl ?_ | refine R.gUndef rfl ?_ | refine R.gUndef0 rfl ?_ | refine R.ldEp rfl rfl (by assumption) rfl rfl ?_ | refine R.ldaEp rfl rfl (by assumption) (Nat.le_of_ble_eq_true rfl) rfl rfl ?_ | refine R.ld rfl rfl rfl ?_ | refine R.lda rfl rfl (Nat.le_of_ble_eq_true rfl) rfl ?_ | refine R.slen rfl ?_ | refine R.lss rfl rfl ?_ | refine R.gtr rfl rfl ?_ | refine R.neq rfl rfl ?_ | refine R.pickT rfl rfl ?_ | refine R.pickF rfl rfl ?_ | refine R.not rfl ?_ | refine R.beql rfl rfl ?_ | refine R.bneq rfl rfl ?_ | refine R.mvU rfl ?_ | refine R.ext rfl rfl ?_ | refine R.al rfl ?_ | refine R.stoB rfl rfl rfl rfl ⟨rfl, rfl, Nat.le_of_ble_eq_true rfl⟩ rfl ?_ | refine R.stoE _ rfl rfl rfl rfl rfl (by assumption) rfl ⟨rfl, rfl, Nat.le_of_ble_eq_true rfl⟩ ?_ | refine R.condT rfl ?_ | refine R.condF rfl ?_ | refine R.callN1 (bor := false) rfl rfl (hS) rfl rfl ?_ | refine R.callN1 (bor := true) rfl rfl (hS) rfl rfl ?_ | refine R.callN (bor := false) rfl rfl (hS) rfl rfl rfl rfl rfl ?_ | refine R.callN (bor := true) rfl rfl (hS) rfl rfl rfl rfl rfl ?_ | refine R.call (bor := false) rfl rfl (hS) rfl rfl rfl ?_ | refine R.call (bor := true) rfl rfl (hS) rfl rfl rfl ?_ | refine R.fcal (bor := false) rfl rfl (hS) rfl rfl rfl ?_ | refine R.fcal (bor := true) rfl rfl (hS) rfl rfl rfl ?_ | refine R.callN1 (bor := false) rfl rfl (hI) rfl rfl ?_ | refine R.callN1 (bor := true) rfl rfl (hI) rfl rfl ?_ | refine R.callN (bor := false) rfl rfl (hI) rfl rfl rfl rfl rfl ?_ | refine R.callN (bor := true) rfl rfl (hI) rfl rfl rfl rfl rfl ?_ | refine R.call (bor := false) rfl rfl (hI) rfl rfl rfl ?_ | refine R.call (bor := true) rfl rfl (hI) rfl rfl rfl ?_ | refine R.fcal (bor := false) rfl rfl (hI) rfl rfl rfl ?_ | refine R.fcal (bor := true) rfl rfl (hI) rfl rfl rfl ?_ | refine R.call (bor := false) rfl rfl (eqPlan_ok p) rfl rfl rfl ?_ | refine R.call (bor := true) rfl rfl (eqPlan_ok p) rfl rfl rfl ?_ | refine R.fcal (bor := false) rfl rfl (eqPlan_ok p) rfl rfl rfl ?_ | refine R.fcal (bor := true) rfl rfl (eqPlan_ok p) rfl rfl rfl ?_ | refine R.callM1 (bor := false) rfl rfl (markPlan_ok p _ ⟨by omega, by omega⟩) rfl rfl rfl rfl ?_ | refine R.callM1 (bor := true) rfl rfl (markPlan_ok p _ ⟨by omega, by omega⟩) rfl rfl rfl rfl ?_ | refine R.callM2 (bor := false) rfl rfl (markPlan_ok p _ ⟨by omega, by omega⟩) rfl rfl rfl rfl rfl ?_ | refine R.callM2 (bor := true) rfl rfl (markPlan_ok p _ ⟨by omega, by omega⟩) rfl rfl rfl rfl rfl ?_ | refine R.callM3 (bor := false) rfl rfl (markPlan_ok p _ ⟨by omega, by omega⟩) rfl rfl rfl rfl rfl rfl ?_ | refine R.callM3 (bor := true) rfl rfl (markPlan_ok p _ ⟨by omega, by omega⟩) rfl rfl rfl rfl rfl rfl ?_ | refine R.call (bor := false) rfl rfl (heldPlan_ok p _ ⟨by omega, by omega⟩) rfl rfl rfl ?_ | refine R.call (bor := true) rfl rfl (heldPlan_ok p _ ⟨by omega, by omega⟩) rfl rfl rfl ?_ | refine R.fcal (bor := false) rfl rfl (heldPlan_ok p _ ⟨by omega, by omega⟩) rfl rfl rfl ?_ | refine R.fcal (bor := true) rfl rfl (heldPlan_ok p _ ⟨by omega, by omega⟩) rfl rfl rfl ?_ | refine R.cond rfl (fun hc => ?_) (fun hc => ?_) | refine R.condN rfl (fun hc => ?_) (fun hc => ?_) | refine R.condB rfl (fun hc => ?_) (fun hc => ?_) | refine R.gP rfl (fun hc => ?_) (fun hc => ?_) | refine R.gN rfl (fun hc => ?_) (fun hc => ?_) | refine R.gB rfl (fun hc => ?_) (fun hc => ?_))
  all_goals first | exact R.ret ⟨.inr rfl, R.outB rfl rfl rfl⟩ | (exfalso; omega) | (exfalso; simp_all; done) | skip
end Go.Proofs.YtlblmofimjhbbaaDoor
