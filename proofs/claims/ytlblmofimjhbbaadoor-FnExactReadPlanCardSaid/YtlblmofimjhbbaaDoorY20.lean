/- From what the row says of the arguments to what is known of them; from a law's contract to the row. No program is named here. -/
import Derived.Test.YtlblmofimjhbbaaDoorY19
import Derived.Test.YtlblmofimjhbbaaDoorOpen
import Derived.Test.YtlblmofimjhbbaaDoorFrame
namespace Go.Proofs.YtlblmofimjhbbaaDoor
open Go.ChangeShapes Go.WideShapes Go.RowKit
/-- A reading, and the data it is. -/
def Enc {α : Type} (r : Rdr α) (f : α → List D) : Prop := ∀ (W : World) (S : Nat → Prop) (cs : List Value) (x : α), r W S cs x → F2 (RD W S) cs (f x)
theorem encI : Enc rI (fun n => [iD n]) := fun W S cs x ⟨h, h1⟩ => by
  subst h
  exact .cons (.pv rfl ((wf_iff .i64 x).2 (by simpa [IntKind.min, IntKind.max, IntKind.signed, IntKind.bits] using (show -9223372036854775808 ≤ x ∧ x ≤ 9223372036854775807 from h1)))) .nil
theorem encB : Enc rB (fun b => [bD b]) := fun W S cs x h => by
  subst h
  exact .cons (.pv rfl trivial) .nil
theorem encS : Enc rS (fun s => [sD s]) := fun W S cs x ⟨h, h1⟩ => by
  subst h
  exact .cons (.pv rfl h1) .nil
theorem encP {α β : Type} {k : Nat} {r1 : Rdr α} {r2 : Rdr β} {f : α → List D} {g : β → List D} (h1 : Enc r1 f) (h2 : Enc r2 g) : Enc (rP k r1 r2) (fun x => f x.1 ++ g x.2) := fun W S cs x ⟨c1, c2, e, _, q1, q2⟩ => by
  subst e
  exact (h1 W S c1 x.1 q1).append (h2 W S c2 x.2 q2)
theorem encL {α : Type} (κ : Ky) {r : Rdr α} {f : α → List D} (h : Enc r f) : Enc (rL κ.k r) (fun xs => [.rd κ (xs.map f)]) := fun W S cs xs ⟨v, e, hv⟩ => by
  subst e
  refine .cons ?_ .nil
  rcases hv with ⟨rfl, a, cap, rfl⟩ | ⟨b, off, cap, rfl, h0, h1, h2, hS, hx⟩
  · exact .nil
  · have hel : ∀ (i : Nat) (x : α), xs[i]? = some x → ∃ es : List Value, es.length = κ.k ∧ CellsAt W b (off + i * κ.k) es ∧ F2 (RD W S) es (f x) := fun i x hi => by
      obtain ⟨es, q1, q2, q3⟩ := hx i x hi
      exact ⟨es, q1, q2, h W S es x q3⟩
    have hget : ∀ (i : Nat) (es : List D), (xs.map f)[i]? = some es → ∃ x, xs[i]? = some x ∧ es = f x := fun i es hi => by
      rw [List.getElem?_map, Option.map_eq_some_iff] at hi
      obtain ⟨x, q1, q2⟩ := hi
      exact ⟨x, q1, q2.symm⟩
    have := RD.rd (W := W) (R := S) (κ := κ) (xs := xs.map f) (b := b) (off := off) (cap := cap) (fun i j => (W.cell? ⟨b, off + i * κ.k + j, none⟩).getD undef) (by simpa using h0) (by simpa using h1) h2 hS
      (fun i es hi => by
        obtain ⟨x, q1, rfl⟩ := hget i es hi
        obtain ⟨us, q2, _, q4⟩ := hel i x q1
        rw [← q4.len, q2])
      (fun i es j hi hj => by
        obtain ⟨x, q1, rfl⟩ := hget i es hi
        obtain ⟨us, q2, q3, q4⟩ := hel i x q1
        rw [q3.cell (List.getElem?_eq_getElem (by omega))]
        rfl)
      (fun i es j d hi hd => by
        obtain ⟨x, q1, rfl⟩ := hget i es hi
        obtain ⟨us, q2, q3, q4⟩ := hel i x q1
        obtain ⟨u, hu, hr⟩ := q4.get hd
        rw [q3.cell hu]
        exact hr)
    simpa using this
/-- An argument of one cell. -/
theorem RVD.one {W : World} {S : Nat → Prop} {v : Value} {d : D} (h : F2 (RD W S) v.cells.toList [d]) (hv : ∀ cs, v ≠ .agg cs) : RVD W S v (.c d) := by
  generalize hc : v.cells.toList = cs at h
  cases h with
  | cons h1 h2 =>
    cases h2
    have := one_of hc hv
    exact this ▸ h1
theorem RVD.agg {W : World} {S : Nat → Prop} {v : Value} {ds : List D} {P : Program} {r : Reach} {b t : Nat} {fs : Array Field} (ht : P.underlying t = some (.struct fs)) (hv : Value.okWide P W r b t v) (h : F2 (RD W S) v.cells.toList ds) : RVD W S v (.agg ds) :=
  ⟨v.cells.toList, agg_of ht hv rfl, h⟩
theorem RVD.cast {W : World} {S : Nat → Prop} {v : Value} {d d' : VD} (h : RVD W S v d) (e : d = d') : RVD W S v d' := e ▸ h
/-- A LAW'S CONTRACT is what the row asks. -/
theorem law_of_spec {P : Program} {k : FuncId} {args : List VD} (h : Spec P k args (oB true)) {W : World} {vs : Array Value} (hT : TabW W (· < W.heap.size)) (hF : F2 (RVD W (· < W.heap.size)) vs.toList args) : Calls P k vs W fun e W' => e = .returned (.bool true) ∧ Below W.heap.size W W' := by
  have hF' : ∀ {vs : List Value} {args : List VD}, F2 (RVD W (· < W.heap.size)) vs args → F2 (RV1 W (· < W.heap.size) (fun _ => undef) (domO (frO []))) vs (args.map VD.v1) := fun h => by
    induction h with
    | nil => exact .nil
    | cons h1 _ ih =>
      refine .cons ?_ ih
      rename_i v x _ _ _
      cases x with
      | c y => exact h1
      | agg ys => obtain ⟨us, e, h2⟩ := h1; exact ⟨us, e, F2.map_right (f := B.d) (fun _ _ h => h) h2⟩
  refine (h.2 W (· < W.heap.size) (fun _ => undef) (fun _ => []) vs.toList (fun _ h => h) (hF' hF) ⟨fun o x h => (by cases h), fun o x h => (by cases h), fun o p x y g h => (by cases h), hT⟩).mono fun e W' => ?_
  rintro ⟨v, rfl, R', ι', φ', hb, _, _, _, hra, _⟩
  have hra : RD W' R' v (.pv (.bool true)) := hra
  cases hra
  exact ⟨rfl, hb.below fun g ⟨o, x, h, _⟩ => by cases h⟩
end Go.Proofs.YtlblmofimjhbbaaDoor
