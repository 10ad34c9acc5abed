/- How Go data lie in memory: what cells read as, inside a set S of blocks. No program is named here. -/
import Derived.Test.YtlblmofimjhbbaaDoorBase
import Derived.Test.YtlblmofimjhbbaaDoorMem
import Derived.ChangeShapes
import Derived.ChangeArms
import Derived.ChangeSlices
namespace Go.Proofs.YtlblmofimjhbbaaDoor
open Go.RowKit
/-- In world W, inside the blocks S, these cells read as this. -/
abbrev Rdr (α : Type) := World → (Nat → Prop) → List Value → α → Prop
/-- A whole number of 64 bits. -/
def InI64 (n : Int) : Prop := -9223372036854775808 ≤ n ∧ n ≤ 9223372036854775807
def rI : Rdr Int := fun _ _ cs n => cs = [.int .i64 n] ∧ InI64 n
def rB : Rdr Bool := fun _ _ cs b => cs = [.bool b]
def rS : Rdr ByteArray := fun _ _ cs s => cs = [.string s] ∧ s.size ≤ maxLen
/-- A struct: its first field, then the others. -/
def rP {α β : Type} (k : Nat) (r1 : Rdr α) (r2 : Rdr β) : Rdr (α × β) := fun W S cs x => ∃ c1 c2, cs = c1 ++ c2 ∧ c1.length = k ∧ r1 W S c1 x.1 ∧ r2 W S c2 x.2
/-- Block b holds these cells from off on. -/
def CellsAt (W : World) (b off : Nat) (es : List Value) : Prop := ∃ cur T fr, W.heap[b]? = some (.cells cur T fr) ∧ ∀ j e, es[j]? = some e → cur[off + j]? = some e
/-- A slice, its elements of k cells each. -/
def SlAt {α : Type} (k : Nat) (r : Rdr α) (W : World) (S : Nat → Prop) (v : Value) (xs : List α) : Prop :=
  (xs = [] ∧ ∃ a cap, v = .slice a 0 cap) ∨
  (∃ b off cap, v = .slice (some ⟨b, off, none⟩) xs.length cap ∧ 0 < xs.length ∧ xs.length ≤ cap ∧ cap ≤ maxLen ∧ S b ∧
    ∀ i x, xs[i]? = some x → ∃ es, es.length = k ∧ CellsAt W b (off + i * k) es ∧ r W S es x)
def rL {α : Type} (k : Nat) (r : Rdr α) : Rdr (List α) := fun W S cs xs => ∃ v, cs = [v] ∧ SlAt k r W S v xs

theorem CellsAt.cell {W : World} {b off : Nat} {es : List Value} (h : CellsAt W b off es) {j : Nat} {e : Value} (he : es[j]? = some e) : W.cell? ⟨b, off + j, none⟩ = some e := by
  obtain ⟨cur, T, fr, hb, hc⟩ := h
  simp [World.cell?, hb, hc j e he]
theorem CellsAt.lt {W : World} {b off : Nat} {es : List Value} (h : CellsAt W b off es) : b < W.heap.size := by
  obtain ⟨cur, T, fr, hb, _⟩ := h
  rcases Nat.lt_or_ge b W.heap.size with h' | h'
  · exact h'
  · rw [Array.getElem?_eq_none h'] at hb; cases hb
theorem CellsAt.of_eq {W W' : World} {b off : Nat} {es : List Value} (e : W'.heap[b]? = W.heap[b]?) (h : CellsAt W b off es) : CellsAt W' b off es := by
  obtain ⟨cur, T, fr, hb, hc⟩ := h
  exact ⟨cur, T, fr, e.trans hb, hc⟩

/-- A reading hangs on its blocks alone, and may be said inside more blocks. -/
class Keeps {α : Type} (r : Rdr α) : Prop where
  keep : ∀ {W W' : World} {S S' : Nat → Prop} {cs : List Value} {x : α}, (∀ b, S b → S' b) → (∀ b, S b → W'.heap[b]? = W.heap[b]?) → r W S cs x → r W' S' cs x
instance : Keeps rI := ⟨fun _ _ h => h⟩
instance : Keeps rB := ⟨fun _ _ h => h⟩
instance : Keeps rS := ⟨fun _ _ h => h⟩
instance {α β : Type} (k : Nat) (r1 : Rdr α) (r2 : Rdr β) [Keeps r1] [Keeps r2] : Keeps (rP k r1 r2) :=
  ⟨fun hs he ⟨c1, c2, e, hl, h1, h2⟩ => ⟨c1, c2, e, hl, Keeps.keep hs he h1, Keeps.keep hs he h2⟩⟩
theorem SlAt.keep {α : Type} {k : Nat} {r : Rdr α} [Keeps r] {W W' : World} {S S' : Nat → Prop} {v : Value} {xs : List α} (hs : ∀ b, S b → S' b) (he : ∀ b, S b → W'.heap[b]? = W.heap[b]?) (h : SlAt k r W S v xs) : SlAt k r W' S' v xs := by
  rcases h with h | ⟨b, off, cap, hv, h0, h1, h2, hS, hx⟩
  · exact .inl h
  · refine .inr ⟨b, off, cap, hv, h0, h1, h2, hs b hS, fun i x hi => ?_⟩
    obtain ⟨es, hl, hc, hr⟩ := hx i x hi
    exact ⟨es, hl, hc.of_eq (he b hS), Keeps.keep hs he hr⟩
instance {α : Type} (k : Nat) (r : Rdr α) [Keeps r] : Keeps (rL k r) := ⟨fun hs he ⟨v, e, h⟩ => ⟨v, e, h.keep hs he⟩⟩

theorem SlAt.below {α : Type} {k : Nat} {r : Rdr α} [Keeps r] {W W' : World} {S : Nat → Prop} {B : Nat} {v : Value} {xs : List α} (hb : Below B W W') (hS : ∀ b, S b → b < B) (h : SlAt k r W S v xs) : SlAt k r W' S v xs :=
  h.keep (fun _ h => h) (fun b hb' => hb.block b (hS b hb'))

section
variable {α : Type} {k : Nat} {r : Rdr α} {W : World} {S : Nat → Prop} {v : Value} {xs : List α}
theorem SlAt.len (h : SlAt k r W S v xs) : ∃ a cap, v = .slice a xs.length cap := by
  rcases h with ⟨rfl, a, cap, rfl⟩ | ⟨b, off, cap, rfl, _⟩
  · exact ⟨a, cap, rfl⟩
  · exact ⟨_, cap, rfl⟩
theorem SlAt.le (h : SlAt k r W S v xs) : xs.length ≤ 9223372036854775807 := by
  rcases h with ⟨rfl, _⟩ | ⟨b, off, cap, _, _, h1, h2, _⟩
  · simp
  · unfold maxLen at h2; omega
theorem SlAt.at {i : Nat} {x : α} (h : SlAt k r W S v xs) (hi : xs[i]? = some x) :
    ∃ b off cap, v = .slice (some ⟨b, off, none⟩) xs.length cap ∧ S b ∧ ∃ es, es.length = k ∧ CellsAt W b (off + i * k) es ∧ r W S es x := by
  rcases h with ⟨rfl, _⟩ | ⟨b, off, cap, hv, _, _, _, hS, hx⟩
  · simp at hi
  · exact ⟨b, off, cap, hv, hS, hx i x hi⟩
/-- An element of a slice of numbers. -/
theorem SlAt.int {zs : List Int} {i : Nat} {x : Int} (h : SlAt 1 rI W S v zs) (hi : zs[i]? = some x) :
    ∃ b off cap, v = .slice (some ⟨b, off, none⟩) zs.length cap ∧ S b ∧ W.cell? ⟨b, off + i, none⟩ = some (.int .i64 x) ∧ InI64 x := by
  obtain ⟨b, off, cap, hv, hS, es, hl, hc, rfl, hx⟩ := h.at hi
  refine ⟨b, off, cap, hv, hS, ?_, hx⟩
  have := hc.cell (j := 0) rfl
  simpa using this
end

/-! ### From the row's own reading -/
section
open Go.ChangeShapes
variable {H : Type} {enc : TypeId × Value → H} {P : Program} {W : World} {sp : Nat → Bool} {hd : Bool}
/-- What can be read at type t reads so. -/
def Opens (enc : TypeId × Value → H) (P : Program) (W : World) (sp : Nat → Bool) (hd : Bool) {α : Type} (t : TypeId) (r : Rdr α) : Prop :=
  ∀ fuel cs y, DataW.trod enc P W 0 sp hd fuel t cs = some y → ∃ x, r W (· < W.heap.size) cs x
theorem wf_i64 {n : Int} (h : (Lit.int .i64 n).wf = true) : InI64 n := by
  simp [Lit.wf, IntKind.min, IntKind.max, IntKind.bits, IntKind.signed] at h
  unfold InI64
  omega
theorem opens_int {t : TypeId} (ht : P.underlying t = some (.int .i64)) : Opens enc P W sp hd t rI := fun fuel cs y h => by
  obtain ⟨n, hc, _, hw⟩ := DataW.trod_int ht h
  exact ⟨n, hc, wf_i64 hw⟩
theorem opens_bool {t : TypeId} (ht : P.underlying t = some .bool) : Opens enc P W sp hd t rB := fun fuel cs y h => by
  obtain ⟨b, hc, _⟩ := DataW.trod_bool ht h
  exact ⟨b, hc⟩
theorem opens_string {t : TypeId} (ht : P.underlying t = some .string) : Opens enc P W sp hd t rS := fun fuel cs y h => by
  obtain ⟨s, hc, _, hs⟩ := DataW.trod_string ht h
  exact ⟨s, hc, hs⟩
theorem cellsAt_of {b off k : Nat} {es : List Value} (hk : 0 < k) (h : W.cells? 0 ⟨b, off, none⟩ k = some es) : es.length = k ∧ CellsAt W b off es := by
  obtain ⟨_, hl, hc⟩ := World.cells?_some h
  refine ⟨hl, ?_⟩
  have h0 := hc 0 hk
  obtain ⟨c0, hc0⟩ : ∃ c0, es[0]? = some c0 := ⟨es[0], by simp [hl, hk]⟩
  rw [hc0] at h0
  have h0' : W.cell? ⟨b, off, none⟩ = some c0 := by simpa [Addr.add] using h0
  unfold World.cell? at h0'
  cases hb : W.heap[b]? with
  | none => simp [hb] at h0'
  | some o =>
    cases o <;> simp [hb] at h0'
    rename_i cur T fr
    refine ⟨cur, T, fr, hb, fun j e hj => ?_⟩
    have hjl : j < k := by
      rcases Nat.lt_or_ge j es.length with h' | h'
      · omega
      · rw [List.getElem?_eq_none h'] at hj; cases hj
    have := hc j hjl
    rw [hj, WideShapes.add_plain] at this
    simpa [World.cell?, hb] using this
theorem opens_slice {α : Type} {k : Nat} {r : Rdr α} {t e : TypeId} (ht : P.underlying t = some (.slice e)) (hk : P.cellsOf e = k) (hk0 : 0 < k) (hr : Opens enc P W sp hd e r) : Opens enc P W sp hd t (rL k r) := fun fuel cs y h => by
  rcases DataW.trod_slice ht h with ⟨rfl, _⟩ | ⟨a, len, cap, elems, rest, n, _, rfl, _, _, hl, hm, hlen, hel, _⟩
  · exact ⟨[], _, rfl, .inl ⟨rfl, _, _, rfl⟩⟩
  · rcases Nat.eq_zero_or_pos len with h0 | h0
    · subst h0
      exact ⟨[], _, rfl, .inl ⟨rfl, _, _, rfl⟩⟩
    · rw [hk] at hel
      have hex : ∀ i, i < len → ∃ x es, W.cells? 0 (a.add (i * k)) k = some es ∧ r W (· < W.heap.size) es x := fun i hi => by
        have h1 := hel i hi
        rw [List.getElem?_eq_getElem (by omega)] at h1
        cases hc : W.cells? 0 (a.add (i * k)) k with
        | none => rw [hc] at h1; simp at h1
        | some es =>
          rw [hc] at h1
          obtain ⟨x, hx⟩ := hr n es _ (by simpa using h1)
          exact ⟨x, es, rfl, hx⟩
      obtain ⟨b, off, spot⟩ := a
      have hspot : spot = none := by
        obtain ⟨x, es, hc, _⟩ := hex 0 h0
        obtain ⟨_, hl', hc'⟩ := World.cells?_some hc
        have h2 := hc' 0 hk0
        rw [List.getElem?_eq_getElem (by omega)] at h2
        simpa [Addr.add] using World.cell?_spot h2
      subst hspot
      let xs : List α := List.ofFn fun i : Fin len => Classical.choose (hex i.1 i.2)
      have hxl : xs.length = len := by simp [xs]
      have hget : ∀ i x, xs[i]? = some x → ∃ es, W.cells? 0 ((⟨b, off, none⟩ : Addr).add (i * k)) k = some es ∧ r W (· < W.heap.size) es x := fun i x hx => by
        have hi : i < len := by
          rcases Nat.lt_or_ge i xs.length with h' | h'
          · omega
          · rw [List.getElem?_eq_none h'] at hx; cases hx
        have : xs[i]? = some (Classical.choose (hex i hi)) := by simp [xs, hi]
        rw [this] at hx
        obtain rfl := Option.some.inj hx
        exact Classical.choose_spec (hex i hi)
      have hb : b < W.heap.size := by
        obtain ⟨x, es, hc, _⟩ := hex 0 h0
        rw [WideShapes.add_plain] at hc
        exact (cellsAt_of hk0 hc).2.lt
      refine ⟨xs, _, rfl, .inr ⟨b, off, cap, by rw [hxl], by omega, by omega, hm, hb, fun i x hx => ?_⟩⟩
      obtain ⟨es, hc, hrx⟩ := hget i x hx
      rw [WideShapes.add_plain] at hc
      obtain ⟨h3, h4⟩ := cellsAt_of hk0 hc
      exact ⟨es, h3, h4, hrx⟩
/-- The fields from offset off on. -/
def OpensFs (enc : TypeId × Value → H) (P : Program) (W : World) (sp : Nat → Bool) (hd : Bool) {α : Type} (off : Nat) (fs : List Field) (r : Rdr α) : Prop :=
  ∀ (n : Nat) (cs : List Value) (ys : List (DataW H × List MemPlace)), (∀ (i : Nat) (f : Field), fs[i]? = some f → DataW.trod enc P W 0 sp hd n f.type ((cs.drop f.offset).take (P.cellsOf f.type)) = ys[i]?) → ys.length = fs.length →
    cs.length = off + (fs.map fun f => P.cellsOf f.type).sum → ∃ x, r W (· < W.heap.size) (cs.drop off) x
theorem opensFs_one {α : Type} {r : Rdr α} {off : Nat} {f : Field} (ho : f.offset = off) (h : Opens enc P W sp hd f.type r) : OpensFs enc P W sp hd off [f] r := fun n cs ys hy hl hc => by
  have h0 := hy 0 f rfl
  rw [List.getElem?_eq_getElem (by simp at hl; omega), ho] at h0
  simp at hc
  rw [List.take_of_length_le (by simp; omega)] at h0
  exact h _ _ _ h0
theorem opensFs_cons {α β : Type} {r1 : Rdr α} {r2 : Rdr β} {off k : Nat} {f : Field} {fs : List Field} (ho : f.offset = off) (hk : P.cellsOf f.type = k) (h1 : Opens enc P W sp hd f.type r1) (h2 : OpensFs enc P W sp hd (off + k) fs r2) :
    OpensFs enc P W sp hd off (f :: fs) (rP k r1 r2) := fun n cs ys hy hl hc => by
  have h0 := hy 0 f rfl
  rw [List.getElem?_eq_getElem (by simp at hl; omega), ho, hk] at h0
  obtain ⟨x1, hx1⟩ := h1 _ _ _ h0
  simp [hk] at hc
  obtain ⟨x2, hx2⟩ := h2 n cs ys.tail (fun i g hg => by rw [hy (i + 1) g (by simpa using hg)]; cases ys <;> simp) (by simp at hl ⊢; omega) (by omega)
  refine ⟨(x1, x2), (cs.drop off).take k, cs.drop (off + k), ?_, ?_, hx1, hx2⟩
  · exact (List.take_append_drop k _).symm.trans (by rw [List.drop_drop])
  · simp; omega
theorem opens_struct {α : Type} {r : Rdr α} {t : TypeId} {fs : Array Field} (ht : P.underlying t = some (.struct fs)) (hc : P.cellsOf t = (fs.toList.map fun f => P.cellsOf f.type).sum) (h : OpensFs enc P W sp hd 0 fs.toList r) : Opens enc P W sp hd t r := fun fuel cs y hy => by
  obtain ⟨xs, n, _, _, hl, hlen, hf⟩ := DataW.trod_struct ht hy
  have := h n cs xs (fun i f hi => hf i f (by simpa using hi)) (by simpa using hlen) (by rw [hl, hc]; simp)
  simpa using this
/-- An argument that is read: its cells. -/
theorem opens_arg {α : Type} {r : Rdr α} {t : TypeId} {v : Value} {d : DataW H} {p : List MemPlace} (h : Opens enc P W sp hd t r) (hd' : DataW.Trod enc P W 0 sp hd t v d p) : ∃ x, r W (· < W.heap.size) v.cells.toList x := by
  obtain ⟨fuel, hf⟩ := hd'
  exact h _ _ _ hf
end
end Go.Proofs.YtlblmofimjhbbaaDoor
