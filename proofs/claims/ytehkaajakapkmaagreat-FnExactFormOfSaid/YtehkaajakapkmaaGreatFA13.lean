/- Texts of one proof, one behind the other. -/
import Derived.ChangeShapes
import Derived.ChangeArms
import Derived.ChangeSlices
import Derived.ProofKit
import Derived.Below
import Derived.ChangeSame
import Derived.Carry
import Derived.SizedLaws
import Derived.Test.YtehkaajakapkmaaGreatProg
import Derived.Test.YtehkaajakapkmaaGreatFA04
import Derived.Test.YtehkaajakapkmaaGreatFA05
import Derived.Test.YtehkaajakapkmaaGreatFA09
import Derived.Test.YtehkaajakapkmaaGreatFA12
namespace Go.Proofs.YtehkaajakapkmaaGreat
section
open Go.RowKit
abbrev Rdr (α : Type) := World → (Nat → Prop) → List Value → α → Prop
def InI64 (n : Int) : Prop := -9223372036854775808 ≤ n ∧ n ≤ 9223372036854775807
def rI : Rdr Int := fun _ _ cs n => cs = [.int .i64 n] ∧ InI64 n
def rB : Rdr Bool := fun _ _ cs b => cs = [.bool b]
def rS : Rdr ByteArray := fun _ _ cs s => cs = [.string s] ∧ s.size ≤ maxLen
def rP {α β : Type} (k : Nat) (r1 : Rdr α) (r2 : Rdr β) : Rdr (α × β) := fun W S cs x => ∃ c1 c2, cs = c1 ++ c2 ∧ c1.length = k ∧ r1 W S c1 x.1 ∧ r2 W S c2 x.2
def CellsAt (W : World) (b off : Nat) (es : List Value) : Prop := ∃ cur T fr, W.heap[b]? = some (.cells cur T fr) ∧ ∀ j e, es[j]? = some e → cur[off + j]? = some e
def SlAt {α : Type} (k : Nat) (r : Rdr α) (W : World) (S : Nat → Prop) (v : Value) (xs : List α) : Prop :=
  (xs = [] ∧ ∃ a cap, v = .slice a 0 cap) ∨
  (∃ b off cap, v = .slice (some ⟨b, off, none⟩) xs.length cap ∧ 0 < xs.length ∧ xs.length ≤ cap ∧ cap ≤ maxLen ∧ S b ∧
    ∀ i x, xs[i]? = some x → ∃ es, es.length = k ∧ CellsAt W b (off + i * k) es ∧ r W S es x)
def rL {α : Type} (k : Nat) (r : Rdr α) : Rdr (List α) := fun W S cs xs => ∃ v, cs = [v] ∧ SlAt k r W S v xs

theorem CellsAt.cell {W : World} {b off : Nat} {es : List Value} (h : CellsAt W b off es) {j : Nat} {e : Value} (he : es[j]? = some e) : W.cell? ⟨b, off + j, none⟩ = some e := by
  obtain ⟨cur, T, fr, hb, hc⟩ := h
  simp [World.cell?, hb, hc j e he]
theorem CellsAt.lt {W : World} {b off : Nat} {es : List Value} (h : CellsAt W b off es) : b < W.heap.size := by
  obtain ⟨cur, T, fr, hb, _⟩ := h
  rcases Nat.lt_or_ge b W.heap.size with h' | h'
  · exact h'
  · rw [Array.getElem?_eq_none h'] at hb; cases hb
theorem CellsAt.of_eq {W W' : World} {b off : Nat} {es : List Value} (e : W'.heap[b]? = W.heap[b]?) (h : CellsAt W b off es) : CellsAt W' b off es := by
  obtain ⟨cur, T, fr, hb, hc⟩ := h
  exact ⟨cur, T, fr, e.trans hb, hc⟩

class Keeps {α : Type} (r : Rdr α) : Prop where
  keep : ∀ {W W' : World} {S S' : Nat → Prop} {cs : List Value} {x : α}, (∀ b, S b → S' b) → (∀ b, S b → W'.heap[b]? = W.heap[b]?) → r W S cs x → r W' S' cs x
instance : Keeps rI := ⟨fun _ _ h => h⟩
instance : Keeps rB := ⟨fun _ _ h => h⟩
instance : Keeps rS := ⟨fun _ _ h => h⟩
instance {α β : Type} (k : Nat) (r1 : Rdr α) (r2 : Rdr β) [Keeps r1] [Keeps r2] : Keeps (rP k r1 r2) :=
  ⟨fun hs he ⟨c1, c2, e, hl, h1, h2⟩ => ⟨c1, c2, e, hl, Keeps.keep hs he h1, Keeps.keep hs he h2⟩⟩
theorem SlAt.keep {α : Type} {k : Nat} {r : Rdr α} [Keeps r] {W W' : World} {S S' : Nat → Prop} {v : Value} {xs : List α} (hs : ∀ b, S b → S' b) (he : ∀ b, S b → W'.heap[b]? = W.heap[b]?) (h : SlAt k r W S v xs) : SlAt k r W' S' v xs := by
  rcases h with h | ⟨b, off, cap, hv, h0, h1, h2, hS, hx⟩
  · exact .inl h
  · refine .inr ⟨b, off, cap, hv, h0, h1, h2, hs b hS, fun i x hi => ?_⟩
    obtain ⟨es, hl, hc, hr⟩ := hx i x hi
    exact ⟨es, hl, hc.of_eq (he b hS), Keeps.keep hs he hr⟩
instance {α : Type} (k : Nat) (r : Rdr α) [Keeps r] : Keeps (rL k r) := ⟨fun hs he ⟨v, e, h⟩ => ⟨v, e, h.keep hs he⟩⟩

theorem SlAt.below {α : Type} {k : Nat} {r : Rdr α} [Keeps r] {W W' : World} {S : Nat → Prop} {B : Nat} {v : Value} {xs : List α} (hb : Below B W W') (hS : ∀ b, S b → b < B) (h : SlAt k r W S v xs) : SlAt k r W' S v xs :=
  h.keep (fun _ h => h) (fun b hb' => hb.block b (hS b hb'))

section
variable {α : Type} {k : Nat} {r : Rdr α} {W : World} {S : Nat → Prop} {v : Value} {xs : List α}
theorem SlAt.len (h : SlAt k r W S v xs) : ∃ a cap, v = .slice a xs.length cap := by
  rcases h with ⟨rfl, a, cap, rfl⟩ | ⟨b, off, cap, rfl, _⟩
  · exact ⟨a, cap, rfl⟩
  · exact ⟨_, cap, rfl⟩
theorem SlAt.le (h : SlAt k r W S v xs) : xs.length ≤ 9223372036854775807 := by
  rcases h with ⟨rfl, _⟩ | ⟨b, off, cap, _, _, h1, h2, _⟩
  · simp
  · unfold maxLen at h2; omega
theorem SlAt.at {i : Nat} {x : α} (h : SlAt k r W S v xs) (hi : xs[i]? = some x) :
    ∃ b off cap, v = .slice (some ⟨b, off, none⟩) xs.length cap ∧ S b ∧ ∃ es, es.length = k ∧ CellsAt W b (off + i * k) es ∧ r W S es x := by
  rcases h with ⟨rfl, _⟩ | ⟨b, off, cap, hv, _, _, _, hS, hx⟩
  · simp at hi
  · exact ⟨b, off, cap, hv, hS, hx i x hi⟩
theorem SlAt.int {zs : List Int} {i : Nat} {x : Int} (h : SlAt 1 rI W S v zs) (hi : zs[i]? = some x) :
    ∃ b off cap, v = .slice (some ⟨b, off, none⟩) zs.length cap ∧ S b ∧ W.cell? ⟨b, off + i, none⟩ = some (.int .i64 x) ∧ InI64 x := by
  obtain ⟨b, off, cap, hv, hS, es, hl, hc, rfl, hx⟩ := h.at hi
  refine ⟨b, off, cap, hv, hS, ?_, hx⟩
  have := hc.cell (j := 0) rfl
  simpa using this
end
/-! ### From the row's own reading -/
section
open Go.ChangeShapes
variable {H : Type} {enc : TypeId × Value → H} {P : Program} {W : World} {sp : Nat → Bool} {hd : Bool}
def Opens (enc : TypeId × Value → H) (P : Program) (W : World) (sp : Nat → Bool) (hd : Bool) {α : Type} (t : TypeId) (r : Rdr α) : Prop :=
  ∀ fuel cs y, DataW.trod enc P W 0 sp hd fuel t cs = some y → ∃ x, r W (· < W.heap.size) cs x
theorem wf_i64 {n : Int} (h : (Lit.int .i64 n).wf = true) : InI64 n := by
  simp [Lit.wf, IntKind.min, IntKind.max, IntKind.bits, IntKind.signed] at h
  unfold InI64
  omega
theorem opens_int {t : TypeId} (ht : P.underlying t = some (.int .i64)) : Opens enc P W sp hd t rI := fun fuel cs y h => by
  obtain ⟨n, hc, _, hw⟩ := DataW.trod_int ht h
  exact ⟨n, hc, wf_i64 hw⟩
theorem cellsAt_of {b off k : Nat} {es : List Value} (hk : 0 < k) (h : W.cells? 0 ⟨b, off, none⟩ k = some es) : es.length = k ∧ CellsAt W b off es := by
  obtain ⟨_, hl, hc⟩ := World.cells?_some h
  refine ⟨hl, ?_⟩
  have h0 := hc 0 hk
  obtain ⟨c0, hc0⟩ : ∃ c0, es[0]? = some c0 := ⟨es[0], by simp [hl, hk]⟩
  rw [hc0] at h0
  have h0' : W.cell? ⟨b, off, none⟩ = some c0 := by simpa [Addr.add] using h0
  unfold World.cell? at h0'
  cases hb : W.heap[b]? with
  | none => simp [hb] at h0'
  | some o =>
    cases o <;> simp [hb] at h0'
    rename_i cur T fr
    refine ⟨cur, T, fr, hb, fun j e hj => ?_⟩
    have hjl : j < k := by
      rcases Nat.lt_or_ge j es.length with h' | h'
      · omega
      · rw [List.getElem?_eq_none h'] at hj; cases hj
    have := hc j hjl
    rw [hj, WideShapes.add_plain] at this
    simpa [World.cell?, hb] using this
theorem opens_slice {α : Type} {k : Nat} {r : Rdr α} {t e : TypeId} (ht : P.underlying t = some (.slice e)) (hk : P.cellsOf e = k) (hk0 : 0 < k) (hr : Opens enc P W sp hd e r) : Opens enc P W sp hd t (rL k r) := fun fuel cs y h => by
  rcases DataW.trod_slice ht h with ⟨rfl, _⟩ | ⟨a, len, cap, elems, rest, n, _, rfl, _, _, hl, hm, hlen, hel, _⟩
  · exact ⟨[], _, rfl, .inl ⟨rfl, _, _, rfl⟩⟩
  · rcases Nat.eq_zero_or_pos len with h0 | h0
    · subst h0
      exact ⟨[], _, rfl, .inl ⟨rfl, _, _, rfl⟩⟩
    · rw [hk] at hel
      have hex : ∀ i, i < len → ∃ x es, W.cells? 0 (a.add (i * k)) k = some es ∧ r W (· < W.heap.size) es x := fun i hi => by
        have h1 := hel i hi
        rw [List.getElem?_eq_getElem (by omega)] at h1
        cases hc : W.cells? 0 (a.add (i * k)) k with
        | none => rw [hc] at h1; simp at h1
        | some es =>
          rw [hc] at h1
          obtain ⟨x, hx⟩ := hr n es _ (by simpa using h1)
          exact ⟨x, es, rfl, hx⟩
      obtain ⟨b, off, spot⟩ := a
      have hspot : spot = none := by
        obtain ⟨x, es, hc, _⟩ := hex 0 h0
        obtain ⟨_, hl', hc'⟩ := World.cells?_some hc
        have h2 := hc' 0 hk0
        rw [List.getElem?_eq_getElem (by omega)] at h2
        simpa [Addr.add] using World.cell?_spot h2
      subst hspot
      let xs : List α := List.ofFn fun i : Fin len => Classical.choose (hex i.1 i.2)
      have hxl : xs.length = len := by simp [xs]
      have hget : ∀ i x, xs[i]? = some x → ∃ es, W.cells? 0 ((⟨b, off, none⟩ : Addr).add (i * k)) k = some es ∧ r W (· < W.heap.size) es x := fun i x hx => by
        have hi : i < len := by
          rcases Nat.lt_or_ge i xs.length with h' | h'
          · omega
          · rw [List.getElem?_eq_none h'] at hx; cases hx
        have : xs[i]? = some (Classical.choose (hex i hi)) := by simp [xs, hi]
        rw [this] at hx
        obtain rfl := Option.some.inj hx
        exact Classical.choose_spec (hex i hi)
      have hb : b < W.heap.size := by
        obtain ⟨x, es, hc, _⟩ := hex 0 h0
        rw [WideShapes.add_plain] at hc
        exact (cellsAt_of hk0 hc).2.lt
      refine ⟨xs, _, rfl, .inr ⟨b, off, cap, by rw [hxl], by omega, by omega, hm, hb, fun i x hx => ?_⟩⟩
      obtain ⟨es, hc, hrx⟩ := hget i x hx
      rw [WideShapes.add_plain] at hc
      obtain ⟨h3, h4⟩ := cellsAt_of hk0 hc
      exact ⟨es, h3, h4, hrx⟩
def OpensFs (enc : TypeId × Value → H) (P : Program) (W : World) (sp : Nat → Bool) (hd : Bool) {α : Type} (off : Nat) (fs : List Field) (r : Rdr α) : Prop :=
  ∀ (n : Nat) (cs : List Value) (ys : List (DataW H × List MemPlace)), (∀ (i : Nat) (f : Field), fs[i]? = some f → DataW.trod enc P W 0 sp hd n f.type ((cs.drop f.offset).take (P.cellsOf f.type)) = ys[i]?) → ys.length = fs.length →
    cs.length = off + (fs.map fun f => P.cellsOf f.type).sum → ∃ x, r W (· < W.heap.size) (cs.drop off) x
theorem opensFs_one {α : Type} {r : Rdr α} {off : Nat} {f : Field} (ho : f.offset = off) (h : Opens enc P W sp hd f.type r) : OpensFs enc P W sp hd off [f] r := fun n cs ys hy hl hc => by
  have h0 := hy 0 f rfl
  rw [List.getElem?_eq_getElem (by simp at hl; omega), ho] at h0
  simp at hc
  rw [List.take_of_length_le (by simp; omega)] at h0
  exact h _ _ _ h0
theorem opensFs_cons {α β : Type} {r1 : Rdr α} {r2 : Rdr β} {off k : Nat} {f : Field} {fs : List Field} (ho : f.offset = off) (hk : P.cellsOf f.type = k) (h1 : Opens enc P W sp hd f.type r1) (h2 : OpensFs enc P W sp hd (off + k) fs r2) :
    OpensFs enc P W sp hd off (f :: fs) (rP k r1 r2) := fun n cs ys hy hl hc => by
  have h0 := hy 0 f rfl
  rw [List.getElem?_eq_getElem (by simp at hl; omega), ho, hk] at h0
  obtain ⟨x1, hx1⟩ := h1 _ _ _ h0
  simp [hk] at hc
  obtain ⟨x2, hx2⟩ := h2 n cs ys.tail (fun i g hg => by rw [hy (i + 1) g (by simpa using hg)]; cases ys <;> simp) (by simp at hl ⊢; omega) (by omega)
  refine ⟨(x1, x2), (cs.drop off).take k, cs.drop (off + k), ?_, ?_, hx1, hx2⟩
  · exact (List.take_append_drop k _).symm.trans (by rw [List.drop_drop])
  · simp; omega
theorem opens_struct {α : Type} {r : Rdr α} {t : TypeId} {fs : Array Field} (ht : P.underlying t = some (.struct fs)) (hc : P.cellsOf t = (fs.toList.map fun f => P.cellsOf f.type).sum) (h : OpensFs enc P W sp hd 0 fs.toList r) : Opens enc P W sp hd t r := fun fuel cs y hy => by
  obtain ⟨xs, n, _, _, hl, hlen, hf⟩ := DataW.trod_struct ht hy
  have := h n cs xs (fun i f hi => hf i f (by simpa using hi)) (by simpa using hlen) (by rw [hl, hc]; simp)
  simpa using this
theorem opens_arg {α : Type} {r : Rdr α} {t : TypeId} {v : Value} {d : DataW H} {p : List MemPlace} (h : Opens enc P W sp hd t r) (hd' : DataW.Trod enc P W 0 sp hd t v d p) : ∃ x, r W (· < W.heap.size) v.cells.toList x := by
  obtain ⟨fuel, hf⟩ := hd'
  exact h _ _ _ hf
end
end
section
open Go.ChangeShapes Go.WideShapes Go.RowKit
theorem agg_of {cs : List Value} {v : Value} {P : Program} {W : World} {r : Reach} {b : Nat} {t : TypeId} {fs : Array Field} (ht : P.underlying t = some (.struct fs)) (hv : Value.okWide P W r b t v) (h : v.cells.toList = cs) : v = .agg cs.toArray := by
  obtain ⟨cs', rfl, _⟩ := okWide_struct ht hv
  rw [← h]
  simp [Value.cells]
theorem one_of {v x : Value} (h : v.cells.toList = [x]) (hv : ∀ cs, v ≠ .agg cs) : v = x := by
  cases v <;> simp [Value.cells] at h <;> first | exact h | exact absurd rfl (hv _)
end
section
open Go.ChangeShapes Go.WideShapes Go.ChangeAt Go.RowKit
section
variable {H : Type} {enc : TypeId × Value → H} {P : Program}
theorem trodAll_stays (hl : laidOutB P = true) {W W' : World} (hb : Below W.heap.size W W') : ∀ {ts : List TypeId} {vs : List Value} {ds : List (DataW H)} {ps : List MemPlace},
    (∀ t ∈ ts, P.readableRec t = true ∧ t < P.types.size) → DataW.TrodAll enc P W 0 (fun _ => true) true ts vs ds ps → (∀ x ∈ ps, x.block < W.heap.size) →
    DataW.TrodAll enc P W' 0 (fun b => decide (b < W.heap.size)) true ts vs ds ps
  | [], [], [], _, _, h, _ => h
  | t :: ts, v :: vs, d :: ds, ps, hr, ⟨p, q, h1, h2, e⟩, hs =>
    ⟨p, q, Below.trod hl (hr t (List.mem_cons.2 (.inl rfl))).1 (hr t (List.mem_cons.2 (.inl rfl))).2 h1 hb (fun x hx => hs x (by rw [e]; exact List.mem_append_left _ hx)),
      trodAll_stays hl hb (fun t ht => hr t (List.mem_cons.2 (.inr ht))) h2 (fun x hx => hs x (by rw [e]; exact List.mem_append_right _ hx)), e⟩
  | [], [], _ :: _, _, _, h, _ => h.elim
  | [], _ :: _, _, _, _, h, _ => h.elim
  | _ :: _, [], _, _, _, h, _ => h.elim
  | _ :: _, _ :: _, [], _, _, h, _ => h.elim

theorem trodAll_length {W : World} {base : Nat} {sp : Nat → Bool} {hd : Bool} : ∀ {ts : List TypeId} {vs : List Value} {ds : List (DataW H)} {ps : List MemPlace},
    DataW.TrodAll enc P W base sp hd ts vs ds ps → ds.length = ts.length
  | [], [], [], _, _ => rfl
  | _ :: _, _ :: _, _ :: _, _, ⟨_, _, _, h2, _⟩ => by simp [trodAll_length h2]
  | [], [], _ :: _, _, h => h.elim
  | [], _ :: _, _, _, h => h.elim
  | _ :: _, [], _, _, h => h.elim
  | _ :: _, _ :: _, [], _, h => h.elim

theorem law_close {f : Func} {s : ChangeSpec} {k : FuncId} {tb : TypeId} {W : World} {args : Array Value} {ds gs : List (DataW H)} {before : List MemPlace}
    (hl : laidOutB P = true) (hts : (f.params.toList.all fun t => P.readableRec t && decide (t < P.types.size)) = true) (hrt : f.resultTypes = #[tb]) (htb : P.underlying tb = some .bool)
    (hv : s.vars = [])
    (hW : DataW.Whole enc P f.params.toList s.vars false W args.toList ds gs before)
    (hfn : ∀ ds' : List (DataW H), ds'.length = f.params.toList.length → (s.fn H (ds' ++ [])).results = [.lit (.bool true)] ∧ (s.fn H (ds' ++ [])).args = ds' ∧ (s.fn H (ds' ++ [])).vars = [])
    (hcall : ∀ p, DataW.TrodAll enc P W 0 (fun _ => true) true f.params.toList args.toList ds p → (∀ x ∈ p, x.block < W.heap.size) →
      Calls P k args W fun e W' => e = .returned (.bool true) ∧ Below W.heap.size W W') :
    Calls P k args W fun e W' => ∃ v, e = .returned v ∧ s.post enc P f false true false false W args v W' := by
  have hW' := hW
  obtain ⟨p, q, hA, hV, rfl, _, _⟩ := hW
  rw [hv] at hV
  obtain ⟨rfl, rfl⟩ := trodVars_none hV
  have hlt : ∀ x ∈ p, x.block < W.heap.size := fun x hx => hW'.lt x (by simp [hx])
  obtain ⟨er, ea, ev⟩ := hfn ds (trodAll_length hA)
  refine (hcall p hA hlt).mono fun e W' ⟨he, hb⟩ => ⟨_, he, ?_⟩
  refine ⟨ds, [], p ++ [], [], p, [], hW', ?_, ?_, ?_, hb.frame _, fun h => by cases h⟩
  · rw [er, hrt]; exact trodAll_mk1 (shut_bool htb true)
  · rw [ea]
    refine trodAll_stays hl hb (fun t ht => ?_) hA hlt
    have := List.all_eq_true.1 hts t ht
    simpa using this
  · rw [ev, hv]; rfl
end
end
section
open Go.ChangeShapes Go.WideShapes Go.RowKit
def Enc {α : Type} (r : Rdr α) (f : α → List D) : Prop := ∀ (W : World) (S : Nat → Prop) (cs : List Value) (x : α), r W S cs x → F2 (RD W S) cs (f x)
theorem encI : Enc rI (fun n => [iD n]) := fun W S cs x ⟨h, h1⟩ => by
  subst h
  exact .cons (.pv rfl ((wf_iff .i64 x).2 (by simpa [IntKind.min, IntKind.max, IntKind.signed, IntKind.bits] using (show -9223372036854775808 ≤ x ∧ x ≤ 9223372036854775807 from h1)))) .nil
theorem encP {α β : Type} {k : Nat} {r1 : Rdr α} {r2 : Rdr β} {f : α → List D} {g : β → List D} (h1 : Enc r1 f) (h2 : Enc r2 g) : Enc (rP k r1 r2) (fun x => f x.1 ++ g x.2) := fun W S cs x ⟨c1, c2, e, _, q1, q2⟩ => by
  subst e
  exact (h1 W S c1 x.1 q1).append (h2 W S c2 x.2 q2)
theorem encL {α : Type} (κ : Ky) {r : Rdr α} {f : α → List D} (h : Enc r f) : Enc (rL κ.k r) (fun xs => [.rd κ (xs.map f)]) := fun W S cs xs ⟨v, e, hv⟩ => by
  subst e
  refine .cons ?_ .nil
  rcases hv with ⟨rfl, a, cap, rfl⟩ | ⟨b, off, cap, rfl, h0, h1, h2, hS, hx⟩
  · exact .nil
  · have hel : ∀ (i : Nat) (x : α), xs[i]? = some x → ∃ es : List Value, es.length = κ.k ∧ CellsAt W b (off + i * κ.k) es ∧ F2 (RD W S) es (f x) := fun i x hi => by
      obtain ⟨es, q1, q2, q3⟩ := hx i x hi
      exact ⟨es, q1, q2, h W S es x q3⟩
    have hget : ∀ (i : Nat) (es : List D), (xs.map f)[i]? = some es → ∃ x, xs[i]? = some x ∧ es = f x := fun i es hi => by
      rw [List.getElem?_map, Option.map_eq_some_iff] at hi
      obtain ⟨x, q1, q2⟩ := hi
      exact ⟨x, q1, q2.symm⟩
    have := RD.rd (W := W) (R := S) (κ := κ) (xs := xs.map f) (b := b) (off := off) (cap := cap) (fun i j => (W.cell? ⟨b, off + i * κ.k + j, none⟩).getD undef) (by simpa using h0) (by simpa using h1) h2 hS
      (fun i es hi => by
        obtain ⟨x, q1, rfl⟩ := hget i es hi
        obtain ⟨us, q2, _, q4⟩ := hel i x q1
        rw [← q4.len, q2])
      (fun i es j hi hj => by
        obtain ⟨x, q1, rfl⟩ := hget i es hi
        obtain ⟨us, q2, q3, q4⟩ := hel i x q1
        rw [q3.cell (List.getElem?_eq_getElem (by omega))]
        rfl)
      (fun i es j d hi hd => by
        obtain ⟨x, q1, rfl⟩ := hget i es hi
        obtain ⟨us, q2, q3, q4⟩ := hel i x q1
        obtain ⟨u, hu, hr⟩ := q4.get hd
        rw [q3.cell hu]
        exact hr)
    simpa using this
theorem RVD.one {W : World} {S : Nat → Prop} {v : Value} {d : D} (h : F2 (RD W S) v.cells.toList [d]) (hv : ∀ cs, v ≠ .agg cs) : RVD W S v (.c d) := by
  generalize hc : v.cells.toList = cs at h
  cases h with
  | cons h1 h2 =>
    cases h2
    have := one_of hc hv
    exact this ▸ h1
theorem RVD.agg {W : World} {S : Nat → Prop} {v : Value} {ds : List D} {P : Program} {r : Reach} {b t : Nat} {fs : Array Field} (ht : P.underlying t = some (.struct fs)) (hv : Value.okWide P W r b t v) (h : F2 (RD W S) v.cells.toList ds) : RVD W S v (.agg ds) :=
  ⟨v.cells.toList, agg_of ht hv rfl, h⟩
theorem RVD.cast {W : World} {S : Nat → Prop} {v : Value} {d d' : VD} (h : RVD W S v d) (e : d = d') : RVD W S v d' := e ▸ h
theorem law_of_spec {P : Program} {k : FuncId} {args : List VD} (h : Spec P k args (oB true)) {W : World} {vs : Array Value} (hT : TabW W (· < W.heap.size)) (hF : F2 (RVD W (· < W.heap.size)) vs.toList args) : Calls P k vs W fun e W' => e = .returned (.bool true) ∧ Below W.heap.size W W' := by
  have hF' : ∀ {vs : List Value} {args : List VD}, F2 (RVD W (· < W.heap.size)) vs args → F2 (RV1 W (· < W.heap.size) (fun _ => undef) (domO (frO []))) vs (args.map VD.v1) := fun h => by
    induction h with
    | nil => exact .nil
    | cons h1 _ ih =>
      refine .cons ?_ ih
      rename_i v x _ _ _
      cases x with
      | c y => exact h1
      | agg ys => obtain ⟨us, e, h2⟩ := h1; exact ⟨us, e, F2.map_right (f := B.d) (fun _ _ h => h) h2⟩
  refine (h.2 W (· < W.heap.size) (fun _ => undef) (fun _ => []) vs.toList (fun _ h => h) (hF' hF) ⟨fun o x h => (by cases h), fun o x h => (by cases h), fun o p x y g h => (by cases h), hT⟩).mono fun e W' => ?_
  rintro ⟨v, rfl, R', ι', φ', hb, _, _, _, hra, _⟩
  have hra : RD W' R' v (.pv (.bool true)) := hra
  cases hra
  exact ⟨rfl, hb.below fun g ⟨o, x, h, _⟩ => by cases h⟩
end
section
open Go.RowKit
theorem T.ty30 : tyInfo Tryz.prog 30 = some (true, 3) := by kernel_rfl
theorem T.ty35 : tyInfo Tryz.prog 35 = some (true, 3) := by kernel_rfl
theorem T.ty91 : tyInfo Tryz.prog 91 = some (true, 3) := by kernel_rfl
theorem T.mixed : Tryz.prog.follows .mixedOrders = true := by kernel_rfl
end
section
open Go.RowKit
set_option maxRecDepth 100000 in
def S.s57 : SC := (.seq (.reg [⟨(.some 4), .none, .false, (.mv (.const (Go.Value.bool false)))⟩]) (.seq (.reg [⟨(.some 5), .none, .false, (.mv (.tmp 0))⟩, ⟨(.some 6), .none, .false, (.mv (.tmp 1))⟩, ⟨(.some 7), .none, .false, (.call (.func 88) [(.tmp 5), (.tmp 6)])⟩, ⟨(.some 8), .none, .false, (.bin .geq (.tmp 7) (.const (Go.Value.int Go.IntKind.i64 0)))⟩, ⟨(.some 4), .none, .false, (.mv (.tmp 8))⟩]) .ret))
set_option maxRecDepth 100000 in
theorem S.ok57 : stripF Tryz.prog Tryz.f57 = some S.s57 := by kernel_rfl
set_option maxRecDepth 100000 in
def S.s88 : SC := (.seq (.reg [⟨(.some 4), .none, .false, (.mv (.const (Go.Value.int Go.IntKind.i64 0)))⟩]) (.seq (.seq (.reg [⟨(.some 6), .none, .false, (.mv (.tmp 0))⟩, ⟨(.some 7), .none, .false, (.len (.tmp 6))⟩, ⟨(.some 8), .none, .false, (.mv (.const (Go.Value.int Go.IntKind.i64 0)))⟩]) (.block 0 (.loop (.seq (.reg [⟨(.some 9), .none, .false, (.bin .lss (.tmp 8) (.tmp 7))⟩]) (.seq (.cond (.tmp 9) .skip (.exit 0)) (.seq (.block 1 (.seq (.reg [⟨(.some 10), .none, .false, (.mv (.tmp 8))⟩, ⟨(.some 5), .none, .false, (.mv (.tmp 10))⟩]) (.seq (.reg [⟨(.some 11), .none, .false, (.mv (.tmp 1))⟩, ⟨(.some 12), .none, .false, (.mv (.tmp 0))⟩, ⟨(.some 13), .none, .false, (.mv (.tmp 5))⟩, ⟨(.some 14), .none, .false, (.ix (.mk 2 1) (.tmp 12) (.tmp 13))⟩, ⟨(.some 15), .none, .false, (.ld .false 1 (.tmp 14))⟩, ⟨(.some 16), .none, .false, (.call (.tmp 11) [(.tmp 15)])⟩]) (.cond (.tmp 16) (.seq (.reg [⟨(.some 17), .none, .false, (.mv (.tmp 5))⟩, ⟨(.some 4), .none, .false, (.mv (.tmp 17))⟩]) .ret) .skip)))) (.reg [⟨(.some 18), .none, .false, (.bin .add (.tmp 8) (.const (Go.Value.int Go.IntKind.i64 1)))⟩, ⟨(.some 8), .none, .false, (.mv (.tmp 18))⟩]))))))) (.seq (.reg [⟨(.some 4), .none, .false, (.mv (.const (Go.Value.int Go.IntKind.i64 (-1))))⟩]) .ret)))
set_option maxRecDepth 100000 in
theorem S.ok88 : stripF Tryz.prog Tryz.f88 = some S.s88 := by kernel_rfl
abbrev kI : Ky := ⟨2, 1⟩
def enI (n : Int) : List D := [iD n]
abbrev ints (l : List Int) : List (List D) := l.map enI
def idxOf {α : Type} (p : α → Bool) (l : List α) : Int := match l.findIdx? p with | some i => (i : Int) | none => -1
theorem idxOf_some {α : Type} {p : α → Bool} {l : List α} {i : Nat} {a : α} (h : ∀ b ∈ l.take i, p b = false) (hi : l[i]? = some a) (ha : p a = true) : idxOf p l = i := by
  unfold idxOf
  have : l.findIdx? p = some i := by
    rw [List.findIdx?_eq_some_iff_getElem]
    obtain ⟨hlt, he⟩ := List.getElem?_eq_some_iff.1 hi
    refine ⟨hlt, by rw [he]; exact ha, fun j hj => ?_⟩
    have := h (l[j]'(by omega)) (List.mem_take_iff_getElem.2 ⟨j, by omega, rfl⟩)
    simp [this]
  rw [this]
theorem idxOf_none {α : Type} {p : α → Bool} {l : List α} (h : ∀ b ∈ l, p b = false) : idxOf p l = -1 := by
  unfold idxOf
  have : l.findIdx? p = none := by rw [List.findIdx?_eq_none_iff]; simpa using h
  rw [this]
theorem idxOf_any {α : Type} {p : α → Bool} {l : List α} : decide (0 ≤ idxOf p l) = l.any p := by
  unfold idxOf
  cases h : l.findIdx? p with
  | none =>
    rw [List.findIdx?_eq_none_iff] at h
    simp
    exact h
  | some i =>
    rw [List.findIdx?_eq_some_iff_getElem] at h
    obtain ⟨h1, h2, _⟩ := h
    simp
    exact ⟨_, List.getElem_mem h1, h2⟩
theorem take_snoc {α : Type} {l : List α} {i : Nat} {a : α} (h : l[i]? = some a) : l.take (i + 1) = l.take i ++ [a] := by
  rw [List.take_add_one, h]; rfl
theorem lib_indexI {l : List Int} {g : FuncId} {caps : List D} {p : Int → Bool} (h : ∀ a ∈ l, Spec Tryz.prog g ([vI a] ++ caps.map .c) (oB (p a))) : Spec Tryz.prog 88 [vL kI (ints l), .c (.fn g caps)] (oI (idxOf p l)) := by
  refine Spec.walk T.mixed Tryz.func88 S.ok88 (by simp [Tryz.f88]) fun hk => ?_
  have hlen := (K.c hk 0 rfl).lenM
  unfold S.s88
  repeat' (first|refine R.mv rfl ?_|refine R.reg ?_|refine R.nil ?_|refine R.seq ?_|refine R.nseq ?_|refine R.nblk ?_|refine R.skip ?_|refine R.blk ?_|refine R.exit rfl ?_|refine R.ldEp rfl rfl (by assumption) rfl rfl ?_|refine R.ldaEp rfl rfl (by assumption) (lbT rfl) rfl rfl ?_|refine R.ld rfl rfl rfl ?_|refine R.lda rfl rfl (lbT rfl) rfl ?_|refine R.lenM rfl ?_|refine R.lenO rfl rfl ?_|refine R.len rfl rfl ?_|refine R.lss rfl rfl ?_|refine R.add rfl rfl (by omega) ?_|refine R.ixN rfl rfl rfl (by omega) (fun a ha => ?_)|refine R.ixM rfl rfl rfl (by omega) (fun a ha => ?_)|refine R.ixON rfl rfl rfl (by first|omega|(simp; omega)) (fun a' ha' => ?_)|refine R.ixO rfl rfl rfl (by first|omega|(simp; omega)) (fun a' ha' => ?_)|refine R.condT rfl ?_|refine R.condF rfl ?_|refine R.cond rfl (fun hc => ?_) (fun hc => ?_)|refine R.condN rfl (fun hc => ?_) (fun hc => ?_)|refine R.condB rfl (fun hc => ?_) (fun hc => ?_))
  refine R.loop (G := Nat) (fun i => [(0, rdA kI (ints l)), (1, .v (.c (.d (.fn g caps)))), (7, pvA (.int .i64 l.length)), (8, pvA (.int .i64 i))]) (fun _ => []) (fun i => i ≤ l.length ∧ ∀ b ∈ l.take i, p b = false) (fun i => l.length - i) 0 ⟨by omega, by simp⟩ (Weak.frame _ _ ⟨rfl, rfl, rfl, rfl, trivial⟩ trivial rfl rfl) fun i hi => ?_
  repeat' (first|refine R.mv rfl ?_|refine R.reg ?_|refine R.nil ?_|refine R.seq ?_|refine R.nseq ?_|refine R.nblk ?_|refine R.skip ?_|refine R.blk ?_|refine R.exit rfl ?_|refine R.ldEp rfl rfl (by assumption) rfl rfl ?_|refine R.ldaEp rfl rfl (by assumption) (lbT rfl) rfl rfl ?_|refine R.ld rfl rfl rfl ?_|refine R.lda rfl rfl (lbT rfl) rfl ?_|refine R.lenM rfl ?_|refine R.lenO rfl rfl ?_|refine R.len rfl rfl ?_|refine R.lss rfl rfl ?_|refine R.add rfl rfl (by omega) ?_|refine R.ixN rfl rfl rfl (by omega) (fun a ha => ?_)|refine R.ixM rfl rfl rfl (by omega) (fun a ha => ?_)|refine R.ixON rfl rfl rfl (by first|omega|(simp; omega)) (fun a' ha' => ?_)|refine R.ixO rfl rfl rfl (by first|omega|(simp; omega)) (fun a' ha' => ?_)|refine R.condT rfl ?_|refine R.condF rfl ?_|refine R.cond rfl (fun hc => ?_) (fun hc => ?_)|refine R.condN rfl (fun hc => ?_) (fun hc => ?_)|refine R.condB rfl (fun hc => ?_) (fun hc => ?_))
  · refine R.call (bor := false) rfl rfl (h a (List.mem_of_getElem? ha)) (by simp [VD.v1]) rfl rfl ?_
    repeat' (first|refine R.mv rfl ?_|refine R.reg ?_|refine R.nil ?_|refine R.seq ?_|refine R.nseq ?_|refine R.nblk ?_|refine R.skip ?_|refine R.blk ?_|refine R.exit rfl ?_|refine R.ldEp rfl rfl (by assumption) rfl rfl ?_|refine R.ldaEp rfl rfl (by assumption) (lbT rfl) rfl rfl ?_|refine R.ld rfl rfl rfl ?_|refine R.lda rfl rfl (lbT rfl) rfl ?_|refine R.lenM rfl ?_|refine R.lenO rfl rfl ?_|refine R.len rfl rfl ?_|refine R.lss rfl rfl ?_|refine R.add rfl rfl (by omega) ?_|refine R.ixN rfl rfl rfl (by omega) (fun a ha => ?_)|refine R.ixM rfl rfl rfl (by omega) (fun a ha => ?_)|refine R.ixON rfl rfl rfl (by first|omega|(simp; omega)) (fun a' ha' => ?_)|refine R.ixO rfl rfl rfl (by first|omega|(simp; omega)) (fun a' ha' => ?_)|refine R.condT rfl ?_|refine R.condF rfl ?_|refine R.cond rfl (fun hc => ?_) (fun hc => ?_)|refine R.condN rfl (fun hc => ?_) (fun hc => ?_)|refine R.condB rfl (fun hc => ?_) (fun hc => ?_))
    · refine R.ret ⟨.inr rfl, R.outI rfl rfl ?_⟩
      exact (idxOf_some hi.2 ha (by assumption)).symm
    · refine R.nloop (R.again (i + 1) ⟨by omega, ?_⟩ (by omega) ⟨rfl, rfl, rfl, rfl, trivial⟩ trivial rfl rfl)
      rw [take_snoc ha]
      intro b hb
      rcases List.mem_append.1 hb with hb | hb
      · exact hi.2 b hb
      · simp at hb; subst hb; assumption
  · refine R.ret ⟨.inr rfl, R.outI rfl rfl ?_⟩
    have : i = l.length := by omega
    subst this
    exact (idxOf_none (by simpa using hi.2)).symm
theorem lib_anyI {l : List Int} {g : FuncId} {caps : List D} {p : Int → Bool} (h : ∀ a ∈ l, Spec Tryz.prog g ([vI a] ++ caps.map .c) (oB (p a))) : Spec Tryz.prog 57 [vL kI (ints l), .c (.fn g caps)] (oB (l.any p)) := by
  refine Spec.walk T.mixed Tryz.func57 S.ok57 (by simp [Tryz.f57]) fun hk => ?_
  unfold S.s57
  repeat' (first|refine R.mv rfl ?_|refine R.reg ?_|refine R.nil ?_|refine R.seq ?_|refine R.nseq ?_|refine R.nblk ?_|refine R.skip ?_|refine R.blk ?_|refine R.exit rfl ?_|refine R.geq rfl rfl ?_|refine R.condT rfl ?_|refine R.condF rfl ?_|refine R.cond rfl (fun hc => ?_) (fun hc => ?_)|refine R.condN rfl (fun hc => ?_) (fun hc => ?_)|refine R.condB rfl (fun hc => ?_) (fun hc => ?_))
  refine R.call (bor := false) rfl rfl (lib_indexI h) rfl rfl rfl ?_
  repeat' (first|refine R.mv rfl ?_|refine R.reg ?_|refine R.nil ?_|refine R.seq ?_|refine R.nseq ?_|refine R.nblk ?_|refine R.skip ?_|refine R.blk ?_|refine R.exit rfl ?_|refine R.geq rfl rfl ?_|refine R.condT rfl ?_|refine R.condF rfl ?_|refine R.cond rfl (fun hc => ?_) (fun hc => ?_)|refine R.condN rfl (fun hc => ?_) (fun hc => ?_)|refine R.condB rfl (fun hc => ?_) (fun hc => ?_))
  exact R.ret ⟨.inr rfl, R.outB rfl rfl idxOf_any⟩
theorem set_fill {α : Type} {l : List α} {z : α} {i : Nat} {a : α} (h : l[i]? = some a) : (l.take i ++ List.replicate (l.length - i) z).set i a = l.take (i + 1) ++ List.replicate (l.length - (i + 1)) z := by
  have hi := (List.getElem?_eq_some_iff.1 h).1
  rw [take_snoc h]
  have : l.length - i = (l.length - (i + 1)) + 1 := by omega
  rw [this, List.replicate_succ, List.set_append]
  simp [Nat.min_eq_left (Nat.le_of_lt hi)]
end
section
open Go.RowKit
section
variable {P : Program} {Q : Exit → St → Prop} {ks : List Fr} {e : Nat → AV} {o : Nat → Option Ob} {d : Nat} {fr : Bool} {x y z : Operand} {rest : List SR}
theorem R.ixK {α : Type} {f : α → List D} {l : List α} {κ κ' : Ky} {k' : IntKind} {i : Nat} (a : α) (ha : l[i]? = some a) (h : ev e x = rdA κ' (l.map f)) (hk : κ'.k = κ.k) (h1 : ev e y = pvA (.int k' (i : Int))) (k : WL P rest ks Q ⟨upd e d (.v (.c (.d (.rp (f a))))), o⟩) : WL P (⟨some d, none, fr, .ix κ x y⟩ :: rest) ks Q ⟨e, o⟩ :=
  R.ixN h hk h1 (List.getElem?_eq_some_iff.1 ha).1 fun b hb => by rw [ha] at hb; cases hb; exact k
theorem R.ixOK {α : Type} {f : α → List D} {l : List α} {κ : Ky} {p : Nat} {hs : List Ho} {k' : IntKind} {i : Nat} (a : α) (ha : l[i]? = some a) (h : ev e x = .v (.c (.own p))) (ho : o p = some (.arr κ (l.map f) hs)) (h1 : ev e y = pvA (.int k' (i : Int))) (k : WL P rest ks Q ⟨upd e d (.v (.c (.ep p κ.k i 0))), o⟩) : WL P (⟨some d, none, fr, .ix κ x y⟩ :: rest) ks Q ⟨e, o⟩ :=
  R.ixON h ho h1 (List.getElem?_eq_some_iff.1 ha).1 fun _ _ => k
theorem R.ixS {α : Type} {f : α → List D} {l : List α} {b : α} {κ : Ky} {p : Nat} {hs : List Ho} {k' : IntKind} {i : Nat} (h : ev e x = .v (.c (.own p))) (ho : o p = some (.arr κ ((l.set i b).map f) hs)) (h1 : ev e y = pvA (.int k' (i : Int))) (h0 : i < l.length) (k : (l.set i b)[i]? = some b → WL P rest ks Q ⟨upd e d (.v (.c (.ep p κ.k i 0))), o⟩) : WL P (⟨some d, none, fr, .ix κ x y⟩ :: rest) ks Q ⟨e, o⟩ :=
  R.ixON h ho h1 (by simpa using h0) fun _ _ => k (List.getElem?_set_self h0)
def openId (d : Nat) : Nat := 960000 + d
theorem R.ldOpen {α β : Type} {f : α → List D} {g : β → List D} {l : List α} {l' : List β} {p i j : Nat} {κ κ' : Ky} {a : α} {s' : Nat} (h : ev e x = .v (.c (.ep p κ.k i j))) (ho : o p = some (.arr κ (l.map f) [])) (hi : l[i]? = some a) (hj : (f a)[j]? = some (.rd κ' (l'.map g))) (hjk : j < κ.k) (hq : freeO o (openId d))
    (k : WL P rest ks Q ⟨upd e d (.v (.c (.own (openId d)))), upd (upd o p (some (.arr κ (l.map f) [⟨i, j, some (openId d)⟩]))) (openId d) (some (.arr κ' (l'.map g) []))⟩) : WL P (⟨some d, none, false, .ld false s' x⟩ :: rest) ks Q ⟨e, o⟩ := by
  have hpq : p ≠ openId d := fun e => by have := hq.none.1; rw [← e, ho] at this; cases this
  have hfa : (l.map f)[i]? = some (f a) := by rw [List.getElem?_map, hi]; rfl
  refine R.weak (Weak.open (st := ⟨e, o⟩) p i j (openId d) ho hfa hj (fun _ h => by cases h) hq) (R.ld h (cs := ((elemC κ.k i (f a) [⟨i, j, some (openId d)⟩]).drop j).map clB) (c := .own (openId d)) ?_ ?_ k)
  · simp only [cellsAt, upd_ne _ _ hpq, upd_same, if_true, hfa, Option.map_some]
  · have hlen : j < ((f a).map Cl.d).length := by simpa using (List.getElem?_eq_some_iff.1 hj).1
    simp only [elemC, true_and, hjk, if_true, List.map_drop, List.getElem?_drop, Nat.add_zero, List.getElem?_map]
    rw [List.getElem?_set_self hlen]
    rfl
theorem Weak.close {α β : Type} {f : α → List D} {g : β → List D} {l : List α} {l' : List β} {p i j q : Nat} {κ κ' : Ky} {a : α} (b : α) (ho : o p = some (.arr κ (l.map f) [⟨i, j, some q⟩])) (hq : o q = some (.arr κ' (l'.map g) [])) (hne : Nat.beq p q = false) (hi : l[i]? = some a) (hj : Nat.blt j κ.k = true) (hb : splice (f a) j [.rd κ' (l'.map g)] = f b) :
    Weak ⟨e, o⟩ ⟨(eK [q] e), upd (oK [q] o) p (some (.arr κ ((l.set i b).map f) []))⟩ := by
  have hne' : p ≠ q := fun e => by subst e; simp at hne
  have h := Weak.fold (st := ⟨e, o⟩) p i j q (hs' := []) ho hq (by simp [St.kill, hne', ho, Ob.kill, Ho.kill]) (by rw [List.getElem?_map, hi]; rfl) (by rw [Nat.blt] at hj; exact Nat.le_of_ble_eq_true hj)
  rw [hb, ← List.map_set] at h
  exact h
theorem R.callN1 {bor : Bool} {g : FuncId} {f : Operand} {xs : List Operand} {caps : List D} {args : List V1} {ds : List VD} {κ : Ky} {ys : List (List D)} (h1 : ev e f = .v (.c (.d (.fn g caps)))) (h2 : argsC (hobOf bor [] o) [] e xs = some args) (hc : Spec P g ds (oN κ ys)) (h3 : (args ++ caps.map fun d => .c (.d d)) = ds.map VD.v1)
    (h5 : freeO o (callId d)) (k : WL P rest ks Q ⟨upd e d (.v (.c (.own (callId d)))), upd o (callId d) (some (.arr κ ys []))⟩) : WL P (⟨some d, none, false, .call f xs⟩ :: rest) ks Q ⟨e, o⟩ :=
  R.callN (bor := bor) (dst := some d) h1 h2 hc h3 (by
    unfold freeO at h5
    simpa [outsOk, look2, RT.outs, R1.outs, RC.out] using h5) (by cases bor <;> rfl) rfl rfl k
def pairV1 : V1 → V1 → List (Nat × Nat)
  | .c b, .c c => pairB b c
  | .agg bs, .agg cs => pairBs bs cs
  | _, _ => []
def pairY : List V1 → List V1 → List (Nat × Nat)
  | y :: ys, x :: xs => pairV1 y x ++ pairY ys xs
  | _, _ => []
def avL : AV → List V1
  | .v y => [y]
  | .tup l => l
def pinsOf (ρ : List (Nat × Nat)) : List (Nat × Ob) → List (Nat × Nat)
  | [] => []
  | (j, _) :: l => if Nat.ble pinN j && (look2 ρ j).isNone then (j, j) :: pinsOf ρ l else pinsOf ρ l
def ρOut (ys : List V1) (r : AV) (outs : List (Nat × Ob)) : List (Nat × Nat) := pairY ys (avL r) ++ pinsOf (pairY ys (avL r)) outs
def shp (r : AV) (ys' : List V1) : Prop := match r with
  | .v y => ys' = [y]
  | .tup l => l.length ≠ 1 ∧ ys' = l
theorem R.outR {fn : Func} {rs : List ResultVar} {r : AV} {outs : List (Nat × Ob)} {st : St} {ys ys' : List V1} (hrs : fn.results.toList = rs) (h1 : F2 (resV P st) rs ys) (h2 : vAll (cV1 (fun _ => none) (ρOut ys r outs)) ys = some ys') (h3 : insC st.objs (fun _ => none) (ρOut ys r outs) (ρOut ys r outs) = some outs) (h4 : okρ (ρOut ys r outs) = true) (h5 : shp r ys') : RetOk P fn.results.toList r outs st :=
  R.out hrs h1 _ h2 h3 h4 (by cases r <;> exact h5)
def ownsB : List B → List Nat
  | [] => []
  | .own p :: bs => p :: ownsB bs
  | .ptr p _ :: bs => p :: ownsB bs
  | _ :: bs => ownsB bs
def ownsA : AV → List Nat
  | .v (.c b) => ownsB [b]
  | .v (.agg bs) => ownsB bs
  | .tup _ => []
theorem R.callM1 {bor : Bool} {dst : Option Nat} {g : FuncId} {f x0 : Operand} {xs : List Operand} {caps : List D} {args as' : List V1} {i1 p1 : Nat} {κ1 : Ky} {X1 Y1 : List (List D)} {v : Value} (h1 : ev e f = .v (.c (.d (.fn g caps)))) (_ : ownsA (ev e x0) = [p1]) (hc : SpecM P g as' [(i1, .arr κ1 X1 [])] (.v (.c (.d (.pv v)))) [(i1, .arr κ1 Y1 [])])
    (h2 : argsC (hobOf bor [(p1, i1)] o) [(p1, i1)] e (x0 :: xs) = some args) (h3 : (args ++ caps.map fun d => .c (.d d)) = as') (h4 : o p1 = some (.arr κ1 X1 [])) (h5 : Nat.ble pinN i1 = true) (k : WL P rest ks Q (putD ⟨e, upd o p1 (some (.arr κ1 Y1 []))⟩ dst (pvA v))) : WL P (⟨dst, none, false, .call f (x0 :: xs)⟩ :: rest) ks Q ⟨e, o⟩ := by
  unfold WL at k
  refine WL.wr (.inl ⟨g, caps, bor, [(p1, i1)], args, _, _, _, h1, h2, ?_, by rw [h3]; exact hc, ?_, fun _ => ⟨rfl, fun j Y h => ?_⟩, ?_⟩)
  · simp [insC, h4, cOb, vAll]
  · simp [nodupB, outsOk, look2, h5]
  · by_cases hj : j = i1
    · subst hj; simp [frO, upd_same] at h; rw [← h]; rfl
    · simp [frO, upd_ne _ _ hj] at h
  · have e1 : stAfter ⟨e, o⟩ [(p1, i1)] (callId (dst.getD 0)) [(i1, .arr κ1 Y1 [])] = ⟨e, upd o p1 (some (.arr κ1 Y1 []))⟩ := by
      simp [stAfter, deadL, hasKey, St.kill, putOuts, sg, look2, Ob.ren]
    rw [e1]
    exact k
theorem R.callM2 {bor : Bool} {dst : Option Nat} {g : FuncId} {f x0 : Operand} {xs : List Operand} {caps : List D} {args as' : List V1} {i1 p1 i2 p2 : Nat} {κ1 κ2 : Ky} {X1 Y1 X2 Y2 : List (List D)} {v : Value} (h1 : ev e f = .v (.c (.d (.fn g caps)))) (_ : ownsA (ev e x0) = [p1, p2]) (hc : SpecM P g as' [(i1, .arr κ1 X1 []), (i2, .arr κ2 X2 [])] (.v (.c (.d (.pv v)))) [(i1, .arr κ1 Y1 []), (i2, .arr κ2 Y2 [])])
    (h2 : argsC (hobOf bor [(p1, i1), (p2, i2)] o) [(p1, i1), (p2, i2)] e (x0 :: xs) = some args) (h3 : (args ++ caps.map fun d => .c (.d d)) = as') (h4 : o p1 = some (.arr κ1 X1 [])) (h4' : o p2 = some (.arr κ2 X2 [])) (h5 : (Nat.ble pinN i1 && Nat.ble pinN i2 && nodupB [i1, i2] && nodupB [p1, p2]) = true)
    (k : WL P rest ks Q (putD ⟨e, upd (upd o p2 (some (.arr κ2 Y2 []))) p1 (some (.arr κ1 Y1 []))⟩ dst (pvA v))) : WL P (⟨dst, none, false, .call f (x0 :: xs)⟩ :: rest) ks Q ⟨e, o⟩ := by
  unfold WL at k
  simp only [Bool.and_eq_true] at h5
  obtain ⟨⟨⟨q1, q2⟩, q4⟩, q5⟩ := h5
  have n4 := nodupB_ok q4
  simp only [List.nodup_cons, List.mem_cons, List.not_mem_nil, or_false] at n4
  have a1 := n4.1
  refine WL.wr (.inl ⟨g, caps, bor, [(p1, i1), (p2, i2)], args, _, _, _, h1, h2, ?_, by rw [h3]; exact hc, ?_, fun _ => ⟨rfl, fun j Y h => ?_⟩, ?_⟩)
  · simp [insC, h4, h4', cOb, vAll]
  · simp [q4, q5, outsOk, look2, q1, q2, Ne.symm a1]
  · by_cases hj : j = i1
    · subst hj; simp [frO, upd_same] at h; rw [← h]; rfl
    · simp [frO, upd_ne _ _ hj] at h
      by_cases hj2 : j = i2
      · subst hj2; simp [upd_same] at h; rw [← h]; rfl
      · simp [upd_ne _ _ hj2] at h
  · have e1 : stAfter ⟨e, o⟩ [(p1, i1), (p2, i2)] (callId (dst.getD 0)) [(i1, .arr κ1 Y1 []), (i2, .arr κ2 Y2 [])] = ⟨e, upd (upd o p2 (some (.arr κ2 Y2 []))) p1 (some (.arr κ1 Y1 []))⟩ := by
      simp [stAfter, deadL, hasKey, St.kill, putOuts, sg, look2, Ob.ren, Ne.symm a1]
    rw [e1]
    exact k
theorem R.callM3 {bor : Bool} {dst : Option Nat} {g : FuncId} {f x0 : Operand} {xs : List Operand} {caps : List D} {args as' : List V1} {i1 p1 i2 p2 i3 p3 : Nat} {κ1 κ2 κ3 : Ky} {X1 Y1 X2 Y2 X3 Y3 : List (List D)} {v : Value} (h1 : ev e f = .v (.c (.d (.fn g caps)))) (_ : ownsA (ev e x0) = [p1, p2, p3]) (hc : SpecM P g as' [(i1, .arr κ1 X1 []), (i2, .arr κ2 X2 []), (i3, .arr κ3 X3 [])] (.v (.c (.d (.pv v)))) [(i1, .arr κ1 Y1 []), (i2, .arr κ2 Y2 []), (i3, .arr κ3 Y3 [])])
    (h2 : argsC (hobOf bor [(p1, i1), (p2, i2), (p3, i3)] o) [(p1, i1), (p2, i2), (p3, i3)] e (x0 :: xs) = some args) (h3 : (args ++ caps.map fun d => .c (.d d)) = as') (h4 : o p1 = some (.arr κ1 X1 [])) (h4' : o p2 = some (.arr κ2 X2 [])) (h4'' : o p3 = some (.arr κ3 X3 [])) (h5 : (Nat.ble pinN i1 && Nat.ble pinN i2 && Nat.ble pinN i3 && nodupB [i1, i2, i3] && nodupB [p1, p2, p3]) = true)
    (k : WL P rest ks Q (putD ⟨e, upd (upd (upd o p3 (some (.arr κ3 Y3 []))) p2 (some (.arr κ2 Y2 []))) p1 (some (.arr κ1 Y1 []))⟩ dst (pvA v))) : WL P (⟨dst, none, false, .call f (x0 :: xs)⟩ :: rest) ks Q ⟨e, o⟩ := by
  unfold WL at k
  simp only [Bool.and_eq_true] at h5
  obtain ⟨⟨⟨⟨q1, q2⟩, q3⟩, q4⟩, q5⟩ := h5
  have n4 := nodupB_ok q4
  have n5 := nodupB_ok q5
  simp only [List.nodup_cons, List.mem_cons, List.not_mem_nil, or_false, not_or] at n4 n5
  obtain ⟨⟨a1, a2⟩, a3, _⟩ := n4
  refine WL.wr (.inl ⟨g, caps, bor, [(p1, i1), (p2, i2), (p3, i3)], args, _, _, _, h1, h2, ?_, by rw [h3]; exact hc, ?_, fun _ => ⟨rfl, fun j Y h => ?_⟩, ?_⟩)
  · simp [insC, h4, h4', h4'', cOb, vAll]
  · simp [q4, q5, outsOk, look2, q1, q2, q3, Ne.symm a1, Ne.symm a2, Ne.symm a3]
  · by_cases hj : j = i1
    · subst hj; simp [frO, upd_same] at h; rw [← h]; rfl
    · simp [frO, upd_ne _ _ hj] at h
      by_cases hj2 : j = i2
      · subst hj2; simp [upd_same] at h; rw [← h]; rfl
      · simp [upd_ne _ _ hj2] at h
        by_cases hj3 : j = i3
        · subst hj3; simp [upd_same] at h; rw [← h]; rfl
        · simp [upd_ne _ _ hj3] at h
  · have e1 : stAfter ⟨e, o⟩ [(p1, i1), (p2, i2), (p3, i3)] (callId (dst.getD 0)) [(i1, .arr κ1 Y1 []), (i2, .arr κ2 Y2 []), (i3, .arr κ3 Y3 [])] = ⟨e, upd (upd (upd o p3 (some (.arr κ3 Y3 []))) p2 (some (.arr κ2 Y2 []))) p1 (some (.arr κ1 Y1 []))⟩ := by
      simp [stAfter, deadL, hasKey, St.kill, putOuts, sg, look2, Ob.ren, Ne.symm a1, Ne.symm a2, Ne.symm a3]
    rw [e1]
    exact k
end
end
section
open Go.RowKit
section
variable {P : Program} {Q : Exit → St → Prop} {ks : List Fr} {e : Nat → AV} {o : Nat → Option Ob} {d : Nat} {fr : Bool} {x y z : Operand} {rest : List SR}
theorem wrapU {n : Int} (h : 0 ≤ n ∧ n ≤ 18446744073709551615) : IntKind.wrap .u64 n = n := by
  have h2 : n % 18446744073709551616 = n := Int.emod_eq_of_lt h.1 (by omega)
  simp [IntKind.wrap, IntKind.bits, IntKind.signed, h2]
theorem R.cvU {k1 : IntKind} {m : Int} (h : ev e x = pvA (.int k1 m)) (hr : 0 ≤ m ∧ m ≤ 18446744073709551615) (k : WL P rest ks Q ⟨upd e d (pvA (.int .u64 m)), o⟩) : WL P (⟨some d, none, fr, .cv .u64 x⟩ :: rest) ks Q ⟨e, o⟩ := R.cv h (by rw [wrapU hr]; exact k)
theorem R.shrU {k' : IntKind} {m n : Int} (h1 : ev e x = pvA (.int .u64 m)) (h2 : ev e y = pvA (.int k' n)) (h0 : 0 ≤ n ∧ n ≤ 63) (k : WL P rest ks Q ⟨upd e d (pvA (.int .u64 (m / 2 ^ n.toNat))), o⟩) : WL P (⟨some d, none, fr, .bin .shr x y⟩ :: rest) ks Q ⟨e, o⟩ :=
  R.bin h1 h2 (by
    simp only [binI, shV]
    rw [if_neg (by omega), show Min.min n.toNat (IntKind.u64.bits) = n.toNat from by simp [IntKind.bits]; omega, Int.fdiv_eq_ediv_of_nonneg _ (Int.le_of_lt (Int.pow_pos (by decide)))]) k
theorem R.shrU1 {k' : IntKind} {m : Int} (h1 : ev e x = pvA (.int .u64 m)) (h2 : ev e y = pvA (.int k' 1)) (k : WL P rest ks Q ⟨upd e d (pvA (.int .u64 (m / 2))), o⟩) : WL P (⟨some d, none, fr, .bin .shr x y⟩ :: rest) ks Q ⟨e, o⟩ := R.shrU h1 h2 ⟨by omega, by omega⟩ k
end
end
section
open Go.RowKit
set_option maxRecDepth 100000 in
def S.s49 : SC := (.seq (.reg [⟨(.some 6), .none, .false, (.mv (.const (Go.Value.bool false)))⟩]) (.seq (.reg [⟨(.some 7), .none, .false, (.mv (.tmp 0))⟩, ⟨(.some 8), .none, .false, (.mv (.tmp 1))⟩, ⟨(.some 9), .none, .false, (.bin .geq (.tmp 7) (.tmp 8))⟩, ⟨(.some 10), .none, .false, (.mv (.tmp 9))⟩, ⟨(.some 11), (.some (10, .true)), .false, (.mv (.tmp 0))⟩, ⟨(.some 12), (.some (10, .true)), .false, (.mv (.tmp 2))⟩, ⟨(.some 13), (.some (10, .true)), .false, (.bin .leq (.tmp 11) (.tmp 12))⟩, ⟨(.some 14), .none, .false, (.pick (.tmp 10) (.tmp 13) (.const (Go.Value.bool false)))⟩, ⟨(.some 6), .none, .false, (.mv (.tmp 14))⟩]) .ret))
set_option maxRecDepth 100000 in
theorem S.ok49 : stripF Tryz.prog Tryz.f49 = some S.s49 := by kernel_rfl
set_option maxRecDepth 100000 in
def S.s63 : SC := (.seq (.reg [⟨(.some 6), .none, .false, (.mv (.const (Go.Value.bool false)))⟩]) (.seq (.reg [⟨(.some 7), .none, .false, (.mv (.tmp 0))⟩, ⟨(.some 8), .none, .false, (.mv (.tmp 1))⟩, ⟨(.some 9), .none, .false, (.bin .geq (.tmp 7) (.tmp 8))⟩, ⟨(.some 10), .none, .false, (.mv (.tmp 9))⟩, ⟨(.some 11), (.some (10, .true)), .false, (.mv (.tmp 0))⟩, ⟨(.some 12), (.some (10, .true)), .false, (.mv (.tmp 2))⟩, ⟨(.some 13), (.some (10, .true)), .false, (.bin .leq (.tmp 11) (.tmp 12))⟩, ⟨(.some 14), .none, .false, (.pick (.tmp 10) (.tmp 13) (.const (Go.Value.bool false)))⟩, ⟨(.some 6), .none, .false, (.mv (.tmp 14))⟩]) .ret))
set_option maxRecDepth 100000 in
theorem S.ok63 : stripF Tryz.prog Tryz.f63 = some S.s63 := by kernel_rfl
set_option maxRecDepth 10000
set_option maxHeartbeats 4000000
abbrev inB (n a b : Int) : Bool := decide (a ≤ n ∧ n ≤ b)
theorem iWithin (n a b : Int) : Spec Tryz.prog 49 [vI n, vI a, vI b] (oB (inB n a b)) := by
  refine Spec.walk T.mixed Tryz.func49 S.ok49 (by simp [Tryz.f49]) fun hk => ?_
  unfold S.s49
  repeat' (first|refine R.mv rfl ?_|refine R.reg ?_|refine R.nil ?_|refine R.seq ?_|refine R.nseq ?_|refine R.nblk ?_|refine R.skip ?_|refine R.blk ?_|refine R.exit rfl ?_|refine R.gRun rfl ?_|refine R.gSkip rfl ?_|refine R.gSkip0 rfl ?_|refine R.gUndef rfl ?_|refine R.gUndef0 rfl ?_|refine R.leq rfl rfl ?_|refine R.geq rfl rfl ?_|refine R.pickT rfl rfl ?_|refine R.pickF rfl rfl ?_|refine R.condT rfl ?_|refine R.condF rfl ?_|refine R.cond rfl (fun hc => ?_) (fun hc => ?_)|refine R.condN rfl (fun hc => ?_) (fun hc => ?_)|refine R.condB rfl (fun hc => ?_) (fun hc => ?_)|refine R.gP rfl (fun hc => ?_) (fun hc => ?_)|refine R.gN rfl (fun hc => ?_) (fun hc => ?_)|refine R.gB rfl (fun hc => ?_) (fun hc => ?_))
  all_goals refine R.ret ⟨.inr rfl, R.outB rfl rfl ?_⟩
  all_goals simp [inB, *]
theorem sIn (n a b : Int) : Spec Tryz.prog 63 [vI n, vI a, vI b] (oB (inB n a b)) := by
  refine Spec.walk T.mixed Tryz.func63 S.ok63 (by simp [Tryz.f63]) fun hk => ?_
  unfold S.s63
  repeat' (first|refine R.mv rfl ?_|refine R.reg ?_|refine R.nil ?_|refine R.seq ?_|refine R.nseq ?_|refine R.nblk ?_|refine R.skip ?_|refine R.blk ?_|refine R.exit rfl ?_|refine R.gRun rfl ?_|refine R.gSkip rfl ?_|refine R.gSkip0 rfl ?_|refine R.gUndef rfl ?_|refine R.gUndef0 rfl ?_|refine R.leq rfl rfl ?_|refine R.geq rfl rfl ?_|refine R.pickT rfl rfl ?_|refine R.pickF rfl rfl ?_|refine R.condT rfl ?_|refine R.condF rfl ?_|refine R.cond rfl (fun hc => ?_) (fun hc => ?_)|refine R.condN rfl (fun hc => ?_) (fun hc => ?_)|refine R.condB rfl (fun hc => ?_) (fun hc => ?_)|refine R.gP rfl (fun hc => ?_) (fun hc => ?_)|refine R.gN rfl (fun hc => ?_) (fun hc => ?_)|refine R.gB rfl (fun hc => ?_) (fun hc => ?_))
  all_goals refine R.ret ⟨.inr rfl, R.outB rfl rfl ?_⟩
  all_goals simp [inB, *]
def cmpC (a b : Int) : Int := if a < b then -1 else if b < a then 1 else 0
theorem cmpC_lt {a b : Int} : cmpC a b < 0 ↔ a < b := by unfold cmpC; split <;> (try split) <;> omega
theorem cmpC_eq {a b : Int} : cmpC a b = 0 ↔ a = b := by unfold cmpC; split <;> (try split) <;> omega
end
end Go.Proofs.YtehkaajakapkmaaGreat
