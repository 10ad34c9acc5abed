/- strings.Join, handed over as a contract. -/
import Derived.Test.YtnkfbodolbfjpaaDoorBel
import Derived.Test.YtnkfbodolbfjpaaDoorShD
import Derived.Sort.Grow
namespace Go.Proofs.YtnkfbodolbfjpaaDoor
open Go.RowKit Go.Sort
set_option maxRecDepth 10000
set_option maxHeartbeats 400000
def joinB (l : List ByteArray) (sep : ByteArray) : ByteArray := ⟨(Lib.join (l.map (·.data.toList)) sep.data.toList).toArray⟩
theorem lib_join (l : List ByteArray) (sep : ByteArray) (hN : l.length ≤ 1048576) (hlen : (Lib.join (l.map (·.data.toList)) sep.data.toList).length ≤ 140737488355328) : Spec Tryd.prog 60 [.c (.rd ⟨9, 1⟩ (l.map fun b => [sD b])), .c (sD sep)] (.v (.c (.fz (sD (joinB l sep))))) := by
  refine ⟨fun vs w => by kernel_rfl, fun w R ι φ vs hR hF ho => ?_⟩
  cases hF with | cons h1 h2 =>
  cases h2 with | cons h2 h3 =>
  cases h3
  rename_i v v2
  have h1 : RD w R v (.rd ⟨9, 1⟩ (l.map fun b => [sD b])) := h1
  have h2 : RD w R v2 (sD sep) := h2
  cases h2
  have hcalls : Calls Tryd.prog 60 #[v, .string sep] w (fun e w1 => e = .returned (.string (joinB l sep)) ∧ Below w.heap.size w w1) := by
    unfold joinB
    generalize hxs : (l.map fun b => [sD b]) = xs at h1
    cases h1 with
    | nil =>
      obtain rfl : l = [] := List.map_eq_nil_iff.1 hxs
      exact (Tryd.strings_Join_none _ _ _ w).mono fun e w1 ⟨he, hw⟩ => ⟨he, by rw [hw]; exact Below.refl _ _⟩
    | rd c g0 g1 g2 gR gk gc gr =>
      have hl : xs.length = l.length := by rw [← hxs]; simp
      rw [hl]
      have hJ := fun b off cap h1 h2 h3 h4 => Tryd.strings_Join b off cap l sep w h1 h2 h3 h4 hlen
      clear hlen
      refine hJ _ _ _ (fun j x hx => ?_) (hR _ gR) (by omega) (by omega)
      have e0 : xs[j]? = some [sD x] := by rw [← hxs, List.getElem?_map, hx]; rfl
      have e1 := gc j _ 0 e0 (Nat.zero_lt_one)
      have e2 := gr j _ 0 _ e0 rfl
      generalize c j 0 = u at e1 e2
      cases e2
      rw [Nat.mul_one, Nat.add_zero] at e1
      exact e1
  refine hcalls.mono ?_
  rintro e w1 ⟨rfl, hbl⟩
  have hn : ∀ o x, frO [] o = some x → False := fun o x h => by simp [frO] at h
  have hO : ObjsOk w1 R ι φ (frO []) := ⟨fun o x h => (hn o x h).elim, fun o x h => (hn o x h).elim, fun o p x y g h => (hn o x h).elim, ho.2.2.2.keep (fun _ h => h) fun b hb => hbl.block b (hR b hb)⟩
  have hsz : okI (.string (joinB l sep)) := by
    show ((Lib.join (l.map (·.data.toList)) sep.data.toList).toArray).size ≤ maxLen
    rw [List.size_toArray]
    unfold maxLen
    omega
  refine ⟨.string (joinB l sep), rfl, R, ι, φ, BelowM.of_below hbl, fun b h => h, fun b h => Nat.lt_of_lt_of_le (hR b h) hbl.size, fun b h _ => .inl h, RA.of_pv rfl hsz, hO, fun g h => ?_, fun o h => rfl⟩
  obtain ⟨o, x, h, _⟩ := h
  exact (hn o x h).elim
end Go.Proofs.YtnkfbodolbfjpaaDoor
