/- The text of a configuration: the program's side as a contract. -/
import Derived.Test.YtnkfbodolbfjpaaDoorCfg1
namespace Go.Proofs.YtnkfbodolbfjpaaDoor
open Go.RowKit
set_option maxRecDepth 10000
set_option maxHeartbeats 4000000
/-- From the frame's tables. -/
theorem tab10 {w : World} {R : Nat → Prop} (h : TabW w R) : Tab10 w := by
  obtain ⟨hgR, cs, T, p, hb, hcs⟩ := h (0, 0) (by simp [tabG])
  have hcs : cs = tabCells := hcs
  unfold Tab10 Lib.TabIs World.var?
  rw [show Tryd.prog.globalNamed "internal/strconv.uint64pow10" = some 0 by kernel_rfl]
  simp only [Option.bind_some, hb]
  rw [hcs]
  rfl
theorem iConfigText (c : TConfig) (h : okCfg c) : Spec Tryd.prog 9 [.agg (enConfig c)] (oS (bA (fCf c))) := by
  obtain ⟨hl, hs, ht⟩ := h
  have hsz : okI (.string (bA (fCf c))) := by
    show (bA (fCf c)).size ≤ maxLen
    rw [bA_size]
    have := cfL_len (hd := c.fHead) hs ht c.fTape.length (Nat.le_refl _)
    unfold fCf maxLen
    omega
  refine ⟨callFunc_enter Tryd.func9 rfl (by simp [Tryd.f9]), fun w R ι φ vs hR hFs ho => ?_⟩
  cases hFs with | cons h1 h2 =>
  cases h2
  obtain ⟨us, rfl, hus⟩ := h1
  cases hus with | cons u1 hus => cases hus with | cons u2 hus => cases hus with | cons u3 hus =>
  cases hus
  rename_i v v2 v3
  cases u2; cases u3
  have h1 : RD w R v (.rd kI (ints c.fTape)) := u1
  obtain ⟨a, len, cap, rfl⟩ : ∃ a len cap, v = .slice a len cap := by
    generalize ints c.fTape = xs at h1
    cases h1
    · exact ⟨_, _, _, rfl⟩
    · exact ⟨_, _, _, rfl⟩
  obtain ⟨b, off, hI⟩ : ∃ b off, ISl w w.heap.size (.slice a len cap) c.fTape b off := by
    generalize hxs : ints c.fTape = xs at h1
    cases h1 with
    | nil => exact ⟨0, 0, .inl ⟨List.map_eq_nil_iff.1 hxs, _, _, rfl⟩⟩
    | rd cc g0 g1 g2 gR gk gc gr =>
      have hl : xs.length = c.fTape.length := by rw [← hxs]; simp
      refine ⟨_, _, .inr ⟨_, by rw [hl], hR _ gR, by omega, g2, fun i n hn => ?_⟩⟩
      have hx : xs[i]? = some (enI n) := by rw [← hxs, List.getElem?_map, hn]; rfl
      have e1 := gc i _ 0 hx (by decide)
      have e2 := gr i _ 0 _ hx rfl
      generalize cc i 0 = u at e1 e2
      cases e2
      have e3 : ∀ o : Nat, o + i * kI.k + 0 = o + i := fun o => by show o + i * 1 + 0 = o + i; omega
      rw [e3] at e1
      exact e1
  have hcalls := cfg1 _ a len cap rfl c.fTape c.fHead c.fState b off hs ht hl w hI (tab10 ho.2.2.2)
  refine hcalls.mono ?_
  rintro e w1 ⟨rfl, hbl⟩
  have hn : ∀ o x, frO [] o = some x → False := fun o x h => by simp [frO] at h
  have hO : ObjsOk w1 R ι φ (frO []) := ⟨fun o x h => (hn o x h).elim, fun o x h => (hn o x h).elim, fun o p x y g h => (hn o x h).elim, ho.2.2.2.keep (fun _ h => h) fun b hb => hbl.block b (hR b hb)⟩
  refine ⟨.string (bA (fCf c)), rfl, R, ι, φ, BelowM.of_below hbl, fun b h => h, fun b h => Nat.lt_of_lt_of_le (hR b h) hbl.size, fun b h _ => .inl h, RA.of_pv rfl hsz, hO, fun g h => ?_, fun o h => rfl⟩
  obtain ⟨o, x, h, _⟩ := h
  exact (hn o x h).elim
end Go.Proofs.YtnkfbodolbfjpaaDoor
