/- Texts of one proof, one behind the other. -/
import Derived.ChangeShapes
import Derived.ChangeArms
import Derived.ChangeSlices
import Derived.ProofKit
import Derived.Below
import Derived.ChangeSame
import Derived.Carry
import Derived.SizedLaws
import Derived.Test.YtehkaajakapkmaaGreatProg
import Derived.Test.YtehkaajakapkmaaGreatFB05
import Derived.Test.YtehkaajakapkmaaGreatFB07
import Derived.Test.YtehkaajakapkmaaGreatFB11
import Derived.Test.YtehkaajakapkmaaGreatFB15
namespace Go.Proofs.YtehkaajakapkmaaGreat
section
open Go.RowKit
def andI (m n : Int) : Int := IntKind.wrap .i64 (BitVec.ofInt 64 m &&& BitVec.ofInt 64 n).toNat
def orI (m n : Int) : Int := IntKind.wrap .i64 (BitVec.ofInt 64 m ||| BitVec.ofInt 64 n).toNat
def xorI (m n : Int) : Int := IntKind.wrap .i64 (BitVec.ofInt 64 m ^^^ BitVec.ofInt 64 n).toNat
def andNotI (m n : Int) : Int := IntKind.wrap .i64 (BitVec.ofInt 64 m &&& ~~~ BitVec.ofInt 64 n).toNat
section
variable {P : Program} {Q : Exit → St → Prop} {ks : List Fr} {e : Nat → AV} {o : Nat → Option Ob} {d : Nat} {fr : Bool} {x y z : Operand} {rest : List SR}
theorem R.and {m n : Int} (h1 : ev e x = pvA (.int .i64 m)) (h2 : ev e y = pvA (.int .i64 n)) (k : WL P rest ks Q ⟨upd e d (pvA (.int .i64 (andI m n))), o⟩) : WL P (⟨some d, none, fr, .bin .and x y⟩ :: rest) ks Q ⟨e, o⟩ := R.bin h1 h2 (by rfl) k
theorem R.or {m n : Int} (h1 : ev e x = pvA (.int .i64 m)) (h2 : ev e y = pvA (.int .i64 n)) (k : WL P rest ks Q ⟨upd e d (pvA (.int .i64 (orI m n))), o⟩) : WL P (⟨some d, none, fr, .bin .or x y⟩ :: rest) ks Q ⟨e, o⟩ := R.bin h1 h2 (by rfl) k
theorem R.xor {m n : Int} (h1 : ev e x = pvA (.int .i64 m)) (h2 : ev e y = pvA (.int .i64 n)) (k : WL P rest ks Q ⟨upd e d (pvA (.int .i64 (xorI m n))), o⟩) : WL P (⟨some d, none, fr, .bin .xor x y⟩ :: rest) ks Q ⟨e, o⟩ := R.bin h1 h2 (by rfl) k
theorem R.andNot {m n : Int} (h1 : ev e x = pvA (.int .i64 m)) (h2 : ev e y = pvA (.int .i64 n)) (k : WL P rest ks Q ⟨upd e d (pvA (.int .i64 (andNotI m n))), o⟩) : WL P (⟨some d, none, fr, .bin .andNot x y⟩ :: rest) ks Q ⟨e, o⟩ := R.bin h1 h2 (by rfl) k
theorem pow62 {n : Int} (h : 0 ≤ n ∧ n ≤ 62) : 0 < (2 : Int) ^ n.toNat ∧ (2 : Int) ^ n.toNat ≤ 4611686018427387904 := by
  constructor
  · exact Int.pow_pos (by decide)
  · have : (2 : Nat) ^ n.toNat ≤ 2 ^ 62 := Nat.pow_le_pow_right (by decide) (by omega)
    have h2 : ((2 ^ n.toNat : Nat) : Int) ≤ ((2 ^ 62 : Nat) : Int) := by exact_mod_cast this
    simpa using h2
theorem R.shl1 {k' : IntKind} {n : Int} (h1 : ev e x = pvA (.int .i64 1)) (h2 : ev e y = pvA (.int k' n)) (h0 : 0 ≤ n ∧ n ≤ 62) (k : 0 < (2 : Int) ^ n.toNat ∧ (2 : Int) ^ n.toNat ≤ 4611686018427387904 → WL P rest ks Q ⟨upd e d (pvA (.int .i64 (2 ^ n.toNat))), o⟩) : WL P (⟨some d, none, fr, .bin .shl x y⟩ :: rest) ks Q ⟨e, o⟩ :=
  R.bin h1 h2 (by
    have hp := pow62 h0
    simp only [binI, shV]
    rw [if_neg (by omega), show Min.min n.toNat (IntKind.i64.bits) = n.toNat from by simp [IntKind.bits]; omega, Int.one_mul, wrap64 (by omega)]) (k (pow62 h0))
theorem R.shr {k' : IntKind} {m n : Int} (h1 : ev e x = pvA (.int .i64 m)) (h2 : ev e y = pvA (.int k' n)) (h0 : 0 ≤ n ∧ n ≤ 63) (k : WL P rest ks Q ⟨upd e d (pvA (.int .i64 (m / 2 ^ n.toNat))), o⟩) : WL P (⟨some d, none, fr, .bin .shr x y⟩ :: rest) ks Q ⟨e, o⟩ :=
  R.bin h1 h2 (by
    simp only [binI, shV]
    rw [if_neg (by omega), show Min.min n.toNat (IntKind.i64.bits) = n.toNat from by simp [IntKind.bits]; omega, Int.fdiv_eq_ediv_of_nonneg _ (Int.le_of_lt (Int.pow_pos (by decide)))]) k
end
theorem ofInt_toNat {n : Int} (h : 0 ≤ n ∧ n ≤ 9223372036854775807) : (BitVec.ofInt 64 n).toNat = n.toNat := by
  rw [BitVec.toNat_ofInt]
  simp
  omega
theorem andI_le {m n : Int} (h : 0 ≤ n ∧ n ≤ 9223372036854775807) : 0 ≤ andI m n ∧ andI m n ≤ n := by
  unfold andI
  have h1 : (BitVec.ofInt 64 m &&& BitVec.ofInt 64 n).toNat ≤ n.toNat := by
    rw [BitVec.toNat_and, ofInt_toNat h]
    exact Nat.and_le_right
  rw [wrap64 (by omega)]
  omega
end
section
open Go.RowKit
abbrev Rdr (α : Type) := World → (Nat → Prop) → List Value → α → Prop
def InI64 (n : Int) : Prop := -9223372036854775808 ≤ n ∧ n ≤ 9223372036854775807
def rI : Rdr Int := fun _ _ cs n => cs = [.int .i64 n] ∧ InI64 n
def rB : Rdr Bool := fun _ _ cs b => cs = [.bool b]
def rS : Rdr ByteArray := fun _ _ cs s => cs = [.string s] ∧ s.size ≤ maxLen
def rP {α β : Type} (k : Nat) (r1 : Rdr α) (r2 : Rdr β) : Rdr (α × β) := fun W S cs x => ∃ c1 c2, cs = c1 ++ c2 ∧ c1.length = k ∧ r1 W S c1 x.1 ∧ r2 W S c2 x.2
def CellsAt (W : World) (b off : Nat) (es : List Value) : Prop := ∃ cur T fr, W.heap[b]? = some (.cells cur T fr) ∧ ∀ j e, es[j]? = some e → cur[off + j]? = some e
def SlAt {α : Type} (k : Nat) (r : Rdr α) (W : World) (S : Nat → Prop) (v : Value) (xs : List α) : Prop :=
  (xs = [] ∧ ∃ a cap, v = .slice a 0 cap) ∨
  (∃ b off cap, v = .slice (some ⟨b, off, none⟩) xs.length cap ∧ 0 < xs.length ∧ xs.length ≤ cap ∧ cap ≤ maxLen ∧ S b ∧
    ∀ i x, xs[i]? = some x → ∃ es, es.length = k ∧ CellsAt W b (off + i * k) es ∧ r W S es x)
def rL {α : Type} (k : Nat) (r : Rdr α) : Rdr (List α) := fun W S cs xs => ∃ v, cs = [v] ∧ SlAt k r W S v xs

theorem CellsAt.cell {W : World} {b off : Nat} {es : List Value} (h : CellsAt W b off es) {j : Nat} {e : Value} (he : es[j]? = some e) : W.cell? ⟨b, off + j, none⟩ = some e := by
  obtain ⟨cur, T, fr, hb, hc⟩ := h
  simp [World.cell?, hb, hc j e he]
theorem CellsAt.lt {W : World} {b off : Nat} {es : List Value} (h : CellsAt W b off es) : b < W.heap.size := by
  obtain ⟨cur, T, fr, hb, _⟩ := h
  rcases Nat.lt_or_ge b W.heap.size with h' | h'
  · exact h'
  · rw [Array.getElem?_eq_none h'] at hb; cases hb
theorem CellsAt.of_eq {W W' : World} {b off : Nat} {es : List Value} (e : W'.heap[b]? = W.heap[b]?) (h : CellsAt W b off es) : CellsAt W' b off es := by
  obtain ⟨cur, T, fr, hb, hc⟩ := h
  exact ⟨cur, T, fr, e.trans hb, hc⟩

class Keeps {α : Type} (r : Rdr α) : Prop where
  keep : ∀ {W W' : World} {S S' : Nat → Prop} {cs : List Value} {x : α}, (∀ b, S b → S' b) → (∀ b, S b → W'.heap[b]? = W.heap[b]?) → r W S cs x → r W' S' cs x
instance : Keeps rI := ⟨fun _ _ h => h⟩
instance : Keeps rB := ⟨fun _ _ h => h⟩
instance : Keeps rS := ⟨fun _ _ h => h⟩
instance {α β : Type} (k : Nat) (r1 : Rdr α) (r2 : Rdr β) [Keeps r1] [Keeps r2] : Keeps (rP k r1 r2) :=
  ⟨fun hs he ⟨c1, c2, e, hl, h1, h2⟩ => ⟨c1, c2, e, hl, Keeps.keep hs he h1, Keeps.keep hs he h2⟩⟩
theorem SlAt.keep {α : Type} {k : Nat} {r : Rdr α} [Keeps r] {W W' : World} {S S' : Nat → Prop} {v : Value} {xs : List α} (hs : ∀ b, S b → S' b) (he : ∀ b, S b → W'.heap[b]? = W.heap[b]?) (h : SlAt k r W S v xs) : SlAt k r W' S' v xs := by
  rcases h with h | ⟨b, off, cap, hv, h0, h1, h2, hS, hx⟩
  · exact .inl h
  · refine .inr ⟨b, off, cap, hv, h0, h1, h2, hs b hS, fun i x hi => ?_⟩
    obtain ⟨es, hl, hc, hr⟩ := hx i x hi
    exact ⟨es, hl, hc.of_eq (he b hS), Keeps.keep hs he hr⟩
instance {α : Type} (k : Nat) (r : Rdr α) [Keeps r] : Keeps (rL k r) := ⟨fun hs he ⟨v, e, h⟩ => ⟨v, e, h.keep hs he⟩⟩

theorem SlAt.below {α : Type} {k : Nat} {r : Rdr α} [Keeps r] {W W' : World} {S : Nat → Prop} {B : Nat} {v : Value} {xs : List α} (hb : Below B W W') (hS : ∀ b, S b → b < B) (h : SlAt k r W S v xs) : SlAt k r W' S v xs :=
  h.keep (fun _ h => h) (fun b hb' => hb.block b (hS b hb'))

section
variable {α : Type} {k : Nat} {r : Rdr α} {W : World} {S : Nat → Prop} {v : Value} {xs : List α}
theorem SlAt.len (h : SlAt k r W S v xs) : ∃ a cap, v = .slice a xs.length cap := by
  rcases h with ⟨rfl, a, cap, rfl⟩ | ⟨b, off, cap, rfl, _⟩
  · exact ⟨a, cap, rfl⟩
  · exact ⟨_, cap, rfl⟩
theorem SlAt.le (h : SlAt k r W S v xs) : xs.length ≤ 9223372036854775807 := by
  rcases h with ⟨rfl, _⟩ | ⟨b, off, cap, _, _, h1, h2, _⟩
  · simp
  · unfold maxLen at h2; omega
theorem SlAt.at {i : Nat} {x : α} (h : SlAt k r W S v xs) (hi : xs[i]? = some x) :
    ∃ b off cap, v = .slice (some ⟨b, off, none⟩) xs.length cap ∧ S b ∧ ∃ es, es.length = k ∧ CellsAt W b (off + i * k) es ∧ r W S es x := by
  rcases h with ⟨rfl, _⟩ | ⟨b, off, cap, hv, _, _, _, hS, hx⟩
  · simp at hi
  · exact ⟨b, off, cap, hv, hS, hx i x hi⟩
theorem SlAt.int {zs : List Int} {i : Nat} {x : Int} (h : SlAt 1 rI W S v zs) (hi : zs[i]? = some x) :
    ∃ b off cap, v = .slice (some ⟨b, off, none⟩) zs.length cap ∧ S b ∧ W.cell? ⟨b, off + i, none⟩ = some (.int .i64 x) ∧ InI64 x := by
  obtain ⟨b, off, cap, hv, hS, es, hl, hc, rfl, hx⟩ := h.at hi
  refine ⟨b, off, cap, hv, hS, ?_, hx⟩
  have := hc.cell (j := 0) rfl
  simpa using this
end
/-! ### From the row's own reading -/
section
open Go.ChangeShapes
variable {H : Type} {enc : TypeId × Value → H} {P : Program} {W : World} {sp : Nat → Bool} {hd : Bool}
def Opens (enc : TypeId × Value → H) (P : Program) (W : World) (sp : Nat → Bool) (hd : Bool) {α : Type} (t : TypeId) (r : Rdr α) : Prop :=
  ∀ fuel cs y, DataW.trod enc P W 0 sp hd fuel t cs = some y → ∃ x, r W (· < W.heap.size) cs x
theorem cellsAt_of {b off k : Nat} {es : List Value} (hk : 0 < k) (h : W.cells? 0 ⟨b, off, none⟩ k = some es) : es.length = k ∧ CellsAt W b off es := by
  obtain ⟨_, hl, hc⟩ := World.cells?_some h
  refine ⟨hl, ?_⟩
  have h0 := hc 0 hk
  obtain ⟨c0, hc0⟩ : ∃ c0, es[0]? = some c0 := ⟨es[0], by simp [hl, hk]⟩
  rw [hc0] at h0
  have h0' : W.cell? ⟨b, off, none⟩ = some c0 := by simpa [Addr.add] using h0
  unfold World.cell? at h0'
  cases hb : W.heap[b]? with
  | none => simp [hb] at h0'
  | some o =>
    cases o <;> simp [hb] at h0'
    rename_i cur T fr
    refine ⟨cur, T, fr, hb, fun j e hj => ?_⟩
    have hjl : j < k := by
      rcases Nat.lt_or_ge j es.length with h' | h'
      · omega
      · rw [List.getElem?_eq_none h'] at hj; cases hj
    have := hc j hjl
    rw [hj, WideShapes.add_plain] at this
    simpa [World.cell?, hb] using this
theorem opens_slice {α : Type} {k : Nat} {r : Rdr α} {t e : TypeId} (ht : P.underlying t = some (.slice e)) (hk : P.cellsOf e = k) (hk0 : 0 < k) (hr : Opens enc P W sp hd e r) : Opens enc P W sp hd t (rL k r) := fun fuel cs y h => by
  rcases DataW.trod_slice ht h with ⟨rfl, _⟩ | ⟨a, len, cap, elems, rest, n, _, rfl, _, _, hl, hm, hlen, hel, _⟩
  · exact ⟨[], _, rfl, .inl ⟨rfl, _, _, rfl⟩⟩
  · rcases Nat.eq_zero_or_pos len with h0 | h0
    · subst h0
      exact ⟨[], _, rfl, .inl ⟨rfl, _, _, rfl⟩⟩
    · rw [hk] at hel
      have hex : ∀ i, i < len → ∃ x es, W.cells? 0 (a.add (i * k)) k = some es ∧ r W (· < W.heap.size) es x := fun i hi => by
        have h1 := hel i hi
        rw [List.getElem?_eq_getElem (by omega)] at h1
        cases hc : W.cells? 0 (a.add (i * k)) k with
        | none => rw [hc] at h1; simp at h1
        | some es =>
          rw [hc] at h1
          obtain ⟨x, hx⟩ := hr n es _ (by simpa using h1)
          exact ⟨x, es, rfl, hx⟩
      obtain ⟨b, off, spot⟩ := a
      have hspot : spot = none := by
        obtain ⟨x, es, hc, _⟩ := hex 0 h0
        obtain ⟨_, hl', hc'⟩ := World.cells?_some hc
        have h2 := hc' 0 hk0
        rw [List.getElem?_eq_getElem (by omega)] at h2
        simpa [Addr.add] using World.cell?_spot h2
      subst hspot
      let xs : List α := List.ofFn fun i : Fin len => Classical.choose (hex i.1 i.2)
      have hxl : xs.length = len := by simp [xs]
      have hget : ∀ i x, xs[i]? = some x → ∃ es, W.cells? 0 ((⟨b, off, none⟩ : Addr).add (i * k)) k = some es ∧ r W (· < W.heap.size) es x := fun i x hx => by
        have hi : i < len := by
          rcases Nat.lt_or_ge i xs.length with h' | h'
          · omega
          · rw [List.getElem?_eq_none h'] at hx; cases hx
        have : xs[i]? = some (Classical.choose (hex i hi)) := by simp [xs, hi]
        rw [this] at hx
        obtain rfl := Option.some.inj hx
        exact Classical.choose_spec (hex i hi)
      have hb : b < W.heap.size := by
        obtain ⟨x, es, hc, _⟩ := hex 0 h0
        rw [WideShapes.add_plain] at hc
        exact (cellsAt_of hk0 hc).2.lt
      refine ⟨xs, _, rfl, .inr ⟨b, off, cap, by rw [hxl], by omega, by omega, hm, hb, fun i x hx => ?_⟩⟩
      obtain ⟨es, hc, hrx⟩ := hget i x hx
      rw [WideShapes.add_plain] at hc
      obtain ⟨h3, h4⟩ := cellsAt_of hk0 hc
      exact ⟨es, h3, h4, hrx⟩
theorem opens_arg {α : Type} {r : Rdr α} {t : TypeId} {v : Value} {d : DataW H} {p : List MemPlace} (h : Opens enc P W sp hd t r) (hd' : DataW.Trod enc P W 0 sp hd t v d p) : ∃ x, r W (· < W.heap.size) v.cells.toList x := by
  obtain ⟨fuel, hf⟩ := hd'
  exact h _ _ _ hf
end
end
section
open Go.ChangeShapes Go.WideShapes Go.RowKit
theorem agg_of {cs : List Value} {v : Value} {P : Program} {W : World} {r : Reach} {b : Nat} {t : TypeId} {fs : Array Field} (ht : P.underlying t = some (.struct fs)) (hv : Value.okWide P W r b t v) (h : v.cells.toList = cs) : v = .agg cs.toArray := by
  obtain ⟨cs', rfl, _⟩ := okWide_struct ht hv
  rw [← h]
  simp [Value.cells]
theorem one_of {v x : Value} (h : v.cells.toList = [x]) (hv : ∀ cs, v ≠ .agg cs) : v = x := by
  cases v <;> simp [Value.cells] at h <;> first | exact h | exact absurd rfl (hv _)
end
section
open Go.ChangeShapes Go.WideShapes Go.ChangeAt Go.RowKit
section
variable {H : Type} {enc : TypeId × Value → H} {P : Program}
theorem trodAll_stays (hl : laidOutB P = true) {W W' : World} (hb : Below W.heap.size W W') : ∀ {ts : List TypeId} {vs : List Value} {ds : List (DataW H)} {ps : List MemPlace},
    (∀ t ∈ ts, P.readableRec t = true ∧ t < P.types.size) → DataW.TrodAll enc P W 0 (fun _ => true) true ts vs ds ps → (∀ x ∈ ps, x.block < W.heap.size) →
    DataW.TrodAll enc P W' 0 (fun b => decide (b < W.heap.size)) true ts vs ds ps
  | [], [], [], _, _, h, _ => h
  | t :: ts, v :: vs, d :: ds, ps, hr, ⟨p, q, h1, h2, e⟩, hs =>
    ⟨p, q, Below.trod hl (hr t (List.mem_cons.2 (.inl rfl))).1 (hr t (List.mem_cons.2 (.inl rfl))).2 h1 hb (fun x hx => hs x (by rw [e]; exact List.mem_append_left _ hx)),
      trodAll_stays hl hb (fun t ht => hr t (List.mem_cons.2 (.inr ht))) h2 (fun x hx => hs x (by rw [e]; exact List.mem_append_right _ hx)), e⟩
  | [], [], _ :: _, _, _, h, _ => h.elim
  | [], _ :: _, _, _, _, h, _ => h.elim
  | _ :: _, [], _, _, _, h, _ => h.elim
  | _ :: _, _ :: _, [], _, _, h, _ => h.elim

theorem trodAll_length {W : World} {base : Nat} {sp : Nat → Bool} {hd : Bool} : ∀ {ts : List TypeId} {vs : List Value} {ds : List (DataW H)} {ps : List MemPlace},
    DataW.TrodAll enc P W base sp hd ts vs ds ps → ds.length = ts.length
  | [], [], [], _, _ => rfl
  | _ :: _, _ :: _, _ :: _, _, ⟨_, _, _, h2, _⟩ => by simp [trodAll_length h2]
  | [], [], _ :: _, _, h => h.elim
  | [], _ :: _, _, _, h => h.elim
  | _ :: _, [], _, _, h => h.elim
  | _ :: _, _ :: _, [], _, h => h.elim

theorem law_close {f : Func} {s : ChangeSpec} {k : FuncId} {tb : TypeId} {W : World} {args : Array Value} {ds gs : List (DataW H)} {before : List MemPlace}
    (hl : laidOutB P = true) (hts : (f.params.toList.all fun t => P.readableRec t && decide (t < P.types.size)) = true) (hrt : f.resultTypes = #[tb]) (htb : P.underlying tb = some .bool)
    (hv : s.vars = [])
    (hW : DataW.Whole enc P f.params.toList s.vars false W args.toList ds gs before)
    (hfn : ∀ ds' : List (DataW H), ds'.length = f.params.toList.length → (s.fn H (ds' ++ [])).results = [.lit (.bool true)] ∧ (s.fn H (ds' ++ [])).args = ds' ∧ (s.fn H (ds' ++ [])).vars = [])
    (hcall : ∀ p, DataW.TrodAll enc P W 0 (fun _ => true) true f.params.toList args.toList ds p → (∀ x ∈ p, x.block < W.heap.size) →
      Calls P k args W fun e W' => e = .returned (.bool true) ∧ Below W.heap.size W W') :
    Calls P k args W fun e W' => ∃ v, e = .returned v ∧ s.post enc P f false true false false W args v W' := by
  have hW' := hW
  obtain ⟨p, q, hA, hV, rfl, _, _⟩ := hW
  rw [hv] at hV
  obtain ⟨rfl, rfl⟩ := trodVars_none hV
  have hlt : ∀ x ∈ p, x.block < W.heap.size := fun x hx => hW'.lt x (by simp [hx])
  obtain ⟨er, ea, ev⟩ := hfn ds (trodAll_length hA)
  refine (hcall p hA hlt).mono fun e W' ⟨he, hb⟩ => ⟨_, he, ?_⟩
  refine ⟨ds, [], p ++ [], [], p, [], hW', ?_, ?_, ?_, hb.frame _, fun h => by cases h⟩
  · rw [er, hrt]; exact trodAll_mk1 (shut_bool htb true)
  · rw [ea]
    refine trodAll_stays hl hb (fun t ht => ?_) hA hlt
    have := List.all_eq_true.1 hts t ht
    simpa using this
  · rw [ev, hv]; rfl
end
end
section
open Go.ChangeShapes Go.WideShapes Go.RowKit
def Enc {α : Type} (r : Rdr α) (f : α → List D) : Prop := ∀ (W : World) (S : Nat → Prop) (cs : List Value) (x : α), r W S cs x → F2 (RD W S) cs (f x)
theorem encL {α : Type} (κ : Ky) {r : Rdr α} {f : α → List D} (h : Enc r f) : Enc (rL κ.k r) (fun xs => [.rd κ (xs.map f)]) := fun W S cs xs ⟨v, e, hv⟩ => by
  subst e
  refine .cons ?_ .nil
  rcases hv with ⟨rfl, a, cap, rfl⟩ | ⟨b, off, cap, rfl, h0, h1, h2, hS, hx⟩
  · exact .nil
  · have hel : ∀ (i : Nat) (x : α), xs[i]? = some x → ∃ es : List Value, es.length = κ.k ∧ CellsAt W b (off + i * κ.k) es ∧ F2 (RD W S) es (f x) := fun i x hi => by
      obtain ⟨es, q1, q2, q3⟩ := hx i x hi
      exact ⟨es, q1, q2, h W S es x q3⟩
    have hget : ∀ (i : Nat) (es : List D), (xs.map f)[i]? = some es → ∃ x, xs[i]? = some x ∧ es = f x := fun i es hi => by
      rw [List.getElem?_map, Option.map_eq_some_iff] at hi
      obtain ⟨x, q1, q2⟩ := hi
      exact ⟨x, q1, q2.symm⟩
    have := RD.rd (W := W) (R := S) (κ := κ) (xs := xs.map f) (b := b) (off := off) (cap := cap) (fun i j => (W.cell? ⟨b, off + i * κ.k + j, none⟩).getD undef) (by simpa using h0) (by simpa using h1) h2 hS
      (fun i es hi => by
        obtain ⟨x, q1, rfl⟩ := hget i es hi
        obtain ⟨us, q2, _, q4⟩ := hel i x q1
        rw [← q4.len, q2])
      (fun i es j hi hj => by
        obtain ⟨x, q1, rfl⟩ := hget i es hi
        obtain ⟨us, q2, q3, q4⟩ := hel i x q1
        rw [q3.cell (List.getElem?_eq_getElem (by omega))]
        rfl)
      (fun i es j d hi hd => by
        obtain ⟨x, q1, rfl⟩ := hget i es hi
        obtain ⟨us, q2, q3, q4⟩ := hel i x q1
        obtain ⟨u, hu, hr⟩ := q4.get hd
        rw [q3.cell hu]
        exact hr)
    simpa using this
theorem RVD.one {W : World} {S : Nat → Prop} {v : Value} {d : D} (h : F2 (RD W S) v.cells.toList [d]) (hv : ∀ cs, v ≠ .agg cs) : RVD W S v (.c d) := by
  generalize hc : v.cells.toList = cs at h
  cases h with
  | cons h1 h2 =>
    cases h2
    have := one_of hc hv
    exact this ▸ h1
theorem RVD.agg {W : World} {S : Nat → Prop} {v : Value} {ds : List D} {P : Program} {r : Reach} {b t : Nat} {fs : Array Field} (ht : P.underlying t = some (.struct fs)) (hv : Value.okWide P W r b t v) (h : F2 (RD W S) v.cells.toList ds) : RVD W S v (.agg ds) :=
  ⟨v.cells.toList, agg_of ht hv rfl, h⟩
theorem RVD.cast {W : World} {S : Nat → Prop} {v : Value} {d d' : VD} (h : RVD W S v d) (e : d = d') : RVD W S v d' := e ▸ h
theorem law_of_spec {P : Program} {k : FuncId} {args : List VD} (h : Spec P k args (oB true)) {W : World} {vs : Array Value} (hT : TabW W (· < W.heap.size)) (hF : F2 (RVD W (· < W.heap.size)) vs.toList args) : Calls P k vs W fun e W' => e = .returned (.bool true) ∧ Below W.heap.size W W' := by
  have hF' : ∀ {vs : List Value} {args : List VD}, F2 (RVD W (· < W.heap.size)) vs args → F2 (RV1 W (· < W.heap.size) (fun _ => undef) (domO (frO []))) vs (args.map VD.v1) := fun h => by
    induction h with
    | nil => exact .nil
    | cons h1 _ ih =>
      refine .cons ?_ ih
      rename_i v x _ _ _
      cases x with
      | c y => exact h1
      | agg ys => obtain ⟨us, e, h2⟩ := h1; exact ⟨us, e, F2.map_right (f := B.d) (fun _ _ h => h) h2⟩
  refine (h.2 W (· < W.heap.size) (fun _ => undef) (fun _ => []) vs.toList (fun _ h => h) (hF' hF) ⟨fun o x h => (by cases h), fun o x h => (by cases h), fun o p x y g h => (by cases h), hT⟩).mono fun e W' => ?_
  rintro ⟨v, rfl, R', ι', φ', hb, _, _, _, hra, _⟩
  have hra : RD W' R' v (.pv (.bool true)) := hra
  cases hra
  exact ⟨rfl, hb.below fun g ⟨o, x, h, _⟩ => by cases h⟩
end
section
open Go.RowKit
theorem T.ty30 : tyInfo Tryz.prog 30 = some (true, 3) := by kernel_rfl
theorem T.ty35 : tyInfo Tryz.prog 35 = some (true, 3) := by kernel_rfl
theorem T.mixed : Tryz.prog.follows .mixedOrders = true := by kernel_rfl
end
section
open Go.RowKit
set_option maxRecDepth 100000 in
def S.s57 : SC := (.seq (.reg [⟨(.some 4), .none, .false, (.mv (.const (Go.Value.bool false)))⟩]) (.seq (.reg [⟨(.some 5), .none, .false, (.mv (.tmp 0))⟩, ⟨(.some 6), .none, .false, (.mv (.tmp 1))⟩, ⟨(.some 7), .none, .false, (.call (.func 88) [(.tmp 5), (.tmp 6)])⟩, ⟨(.some 8), .none, .false, (.bin .geq (.tmp 7) (.const (Go.Value.int Go.IntKind.i64 0)))⟩, ⟨(.some 4), .none, .false, (.mv (.tmp 8))⟩]) .ret))
set_option maxRecDepth 100000 in
theorem S.ok57 : stripF Tryz.prog Tryz.f57 = some S.s57 := by kernel_rfl
set_option maxRecDepth 100000 in
def S.s88 : SC := (.seq (.reg [⟨(.some 4), .none, .false, (.mv (.const (Go.Value.int Go.IntKind.i64 0)))⟩]) (.seq (.seq (.reg [⟨(.some 6), .none, .false, (.mv (.tmp 0))⟩, ⟨(.some 7), .none, .false, (.len (.tmp 6))⟩, ⟨(.some 8), .none, .false, (.mv (.const (Go.Value.int Go.IntKind.i64 0)))⟩]) (.block 0 (.loop (.seq (.reg [⟨(.some 9), .none, .false, (.bin .lss (.tmp 8) (.tmp 7))⟩]) (.seq (.cond (.tmp 9) .skip (.exit 0)) (.seq (.block 1 (.seq (.reg [⟨(.some 10), .none, .false, (.mv (.tmp 8))⟩, ⟨(.some 5), .none, .false, (.mv (.tmp 10))⟩]) (.seq (.reg [⟨(.some 11), .none, .false, (.mv (.tmp 1))⟩, ⟨(.some 12), .none, .false, (.mv (.tmp 0))⟩, ⟨(.some 13), .none, .false, (.mv (.tmp 5))⟩, ⟨(.some 14), .none, .false, (.ix (.mk 2 1) (.tmp 12) (.tmp 13))⟩, ⟨(.some 15), .none, .false, (.ld .false 1 (.tmp 14))⟩, ⟨(.some 16), .none, .false, (.call (.tmp 11) [(.tmp 15)])⟩]) (.cond (.tmp 16) (.seq (.reg [⟨(.some 17), .none, .false, (.mv (.tmp 5))⟩, ⟨(.some 4), .none, .false, (.mv (.tmp 17))⟩]) .ret) .skip)))) (.reg [⟨(.some 18), .none, .false, (.bin .add (.tmp 8) (.const (Go.Value.int Go.IntKind.i64 1)))⟩, ⟨(.some 8), .none, .false, (.mv (.tmp 18))⟩]))))))) (.seq (.reg [⟨(.some 4), .none, .false, (.mv (.const (Go.Value.int Go.IntKind.i64 (-1))))⟩]) .ret)))
set_option maxRecDepth 100000 in
theorem S.ok88 : stripF Tryz.prog Tryz.f88 = some S.s88 := by kernel_rfl
abbrev kI : Ky := ⟨2, 1⟩
abbrev kN : Ky := ⟨3, 1⟩
def enI (n : Int) : List D := [iD n]
abbrev ints (l : List Int) : List (List D) := l.map enI
def idxOf {α : Type} (p : α → Bool) (l : List α) : Int := match l.findIdx? p with | some i => (i : Int) | none => -1
theorem idxOf_some {α : Type} {p : α → Bool} {l : List α} {i : Nat} {a : α} (h : ∀ b ∈ l.take i, p b = false) (hi : l[i]? = some a) (ha : p a = true) : idxOf p l = i := by
  unfold idxOf
  have : l.findIdx? p = some i := by
    rw [List.findIdx?_eq_some_iff_getElem]
    obtain ⟨hlt, he⟩ := List.getElem?_eq_some_iff.1 hi
    refine ⟨hlt, by rw [he]; exact ha, fun j hj => ?_⟩
    have := h (l[j]'(by omega)) (List.mem_take_iff_getElem.2 ⟨j, by omega, rfl⟩)
    simp [this]
  rw [this]
theorem idxOf_none {α : Type} {p : α → Bool} {l : List α} (h : ∀ b ∈ l, p b = false) : idxOf p l = -1 := by
  unfold idxOf
  have : l.findIdx? p = none := by rw [List.findIdx?_eq_none_iff]; simpa using h
  rw [this]
theorem idxOf_any {α : Type} {p : α → Bool} {l : List α} : decide (0 ≤ idxOf p l) = l.any p := by
  unfold idxOf
  cases h : l.findIdx? p with
  | none =>
    rw [List.findIdx?_eq_none_iff] at h
    simp
    exact h
  | some i =>
    rw [List.findIdx?_eq_some_iff_getElem] at h
    obtain ⟨h1, h2, _⟩ := h
    simp
    exact ⟨_, List.getElem_mem h1, h2⟩
theorem take_snoc {α : Type} {l : List α} {i : Nat} {a : α} (h : l[i]? = some a) : l.take (i + 1) = l.take i ++ [a] := by
  rw [List.take_add_one, h]; rfl
theorem lib_indexI {l : List Int} {g : FuncId} {caps : List D} {p : Int → Bool} (h : ∀ a ∈ l, Spec Tryz.prog g ([vI a] ++ caps.map .c) (oB (p a))) : Spec Tryz.prog 88 [vL kI (ints l), .c (.fn g caps)] (oI (idxOf p l)) := by
  refine Spec.walk T.mixed Tryz.func88 S.ok88 (by simp [Tryz.f88]) fun hk => ?_
  have hlen := (K.c hk 0 rfl).lenM
  unfold S.s88
  repeat' (first|refine R.mv rfl ?_|refine R.reg ?_|refine R.nil ?_|refine R.seq ?_|refine R.nseq ?_|refine R.blk ?_|refine R.lenM rfl ?_)
  refine R.loop (G := Nat) (fun i => [(0, rdA kI (ints l)), (1, .v (.c (.d (.fn g caps)))), (7, pvA (.int .i64 l.length)), (8, pvA (.int .i64 i))]) (fun _ => []) (fun i => i ≤ l.length ∧ ∀ b ∈ l.take i, p b = false) (fun i => l.length - i) 0 ⟨by omega, by simp⟩ (Weak.frame _ _ ⟨rfl, rfl, rfl, rfl, trivial⟩ trivial rfl rfl) fun i hi => ?_
  repeat' (first|refine R.mv rfl ?_|refine R.reg ?_|refine R.nil ?_|refine R.seq ?_|refine R.nseq ?_|refine R.skip ?_|refine R.blk ?_|refine R.exit rfl ?_|refine R.ld rfl rfl rfl ?_|refine R.lss rfl rfl ?_|refine R.ixN rfl rfl rfl (by omega) (fun a ha => ?_)|refine R.cond rfl (fun hc => ?_) (fun hc => ?_))
  · refine R.call (bor := false) rfl rfl (h a (List.mem_of_getElem? ha)) (by simp [VD.v1]) rfl rfl ?_
    repeat' (first|refine R.mv rfl ?_|refine R.reg ?_|refine R.nil ?_|refine R.seq ?_|refine R.nseq ?_|refine R.nblk ?_|refine R.skip ?_|refine R.add rfl rfl (by omega) ?_|refine R.condB rfl (fun hc => ?_) (fun hc => ?_))
    · refine R.ret ⟨.inr rfl, R.outI rfl rfl ?_⟩
      exact (idxOf_some hi.2 ha (by assumption)).symm
    · refine R.nloop (R.again (i + 1) ⟨by omega, ?_⟩ (by omega) ⟨rfl, rfl, rfl, rfl, trivial⟩ trivial rfl rfl)
      rw [take_snoc ha]
      intro b hb
      rcases List.mem_append.1 hb with hb | hb
      · exact hi.2 b hb
      · simp at hb; subst hb; assumption
  · refine R.ret ⟨.inr rfl, R.outI rfl rfl ?_⟩
    have : i = l.length := by omega
    subst this
    exact (idxOf_none (by simpa using hi.2)).symm
theorem lib_anyI {l : List Int} {g : FuncId} {caps : List D} {p : Int → Bool} (h : ∀ a ∈ l, Spec Tryz.prog g ([vI a] ++ caps.map .c) (oB (p a))) : Spec Tryz.prog 57 [vL kI (ints l), .c (.fn g caps)] (oB (l.any p)) := by
  refine Spec.walk T.mixed Tryz.func57 S.ok57 (by simp [Tryz.f57]) fun hk => ?_
  unfold S.s57
  repeat' (first|refine R.mv rfl ?_|refine R.reg ?_|refine R.nil ?_|refine R.seq ?_|refine R.nseq ?_)
  refine R.call (bor := false) rfl rfl (lib_indexI h) rfl rfl rfl ?_
  repeat' (first|refine R.mv rfl ?_|refine R.nil ?_|refine R.nseq ?_|refine R.geq rfl rfl ?_)
  exact R.ret ⟨.inr rfl, R.outB rfl rfl idxOf_any⟩
end
section
open Go.RowKit
section
variable {P : Program} {Q : Exit → St → Prop} {ks : List Fr} {e : Nat → AV} {o : Nat → Option Ob} {d : Nat} {fr : Bool} {x y z : Operand} {rest : List SR}
theorem R.ixK {α : Type} {f : α → List D} {l : List α} {κ κ' : Ky} {k' : IntKind} {i : Nat} (a : α) (ha : l[i]? = some a) (h : ev e x = rdA κ' (l.map f)) (hk : κ'.k = κ.k) (h1 : ev e y = pvA (.int k' (i : Int))) (k : WL P rest ks Q ⟨upd e d (.v (.c (.d (.rp (f a))))), o⟩) : WL P (⟨some d, none, fr, .ix κ x y⟩ :: rest) ks Q ⟨e, o⟩ :=
  R.ixN h hk h1 (List.getElem?_eq_some_iff.1 ha).1 fun b hb => by rw [ha] at hb; cases hb; exact k
theorem R.ixOK {α : Type} {f : α → List D} {l : List α} {κ : Ky} {p : Nat} {hs : List Ho} {k' : IntKind} {i : Nat} (a : α) (ha : l[i]? = some a) (h : ev e x = .v (.c (.own p))) (ho : o p = some (.arr κ (l.map f) hs)) (h1 : ev e y = pvA (.int k' (i : Int))) (k : WL P rest ks Q ⟨upd e d (.v (.c (.ep p κ.k i 0))), o⟩) : WL P (⟨some d, none, fr, .ix κ x y⟩ :: rest) ks Q ⟨e, o⟩ :=
  R.ixON h ho h1 (List.getElem?_eq_some_iff.1 ha).1 fun _ _ => k
def openId (d : Nat) : Nat := 960000 + d
theorem R.ldOpen {α β : Type} {f : α → List D} {g : β → List D} {l : List α} {l' : List β} {p i j : Nat} {κ κ' : Ky} {a : α} {s' : Nat} (h : ev e x = .v (.c (.ep p κ.k i j))) (ho : o p = some (.arr κ (l.map f) [])) (hi : l[i]? = some a) (hj : (f a)[j]? = some (.rd κ' (l'.map g))) (hjk : j < κ.k) (hq : freeO o (openId d))
    (k : WL P rest ks Q ⟨upd e d (.v (.c (.own (openId d)))), upd (upd o p (some (.arr κ (l.map f) [⟨i, j, some (openId d)⟩]))) (openId d) (some (.arr κ' (l'.map g) []))⟩) : WL P (⟨some d, none, false, .ld false s' x⟩ :: rest) ks Q ⟨e, o⟩ := by
  have hpq : p ≠ openId d := fun e => by have := hq.none.1; rw [← e, ho] at this; cases this
  have hfa : (l.map f)[i]? = some (f a) := by rw [List.getElem?_map, hi]; rfl
  refine R.weak (Weak.open (st := ⟨e, o⟩) p i j (openId d) ho hfa hj (fun _ h => by cases h) hq) (R.ld h (cs := ((elemC κ.k i (f a) [⟨i, j, some (openId d)⟩]).drop j).map clB) (c := .own (openId d)) ?_ ?_ k)
  · simp only [cellsAt, upd_ne _ _ hpq, upd_same, if_true, hfa, Option.map_some]
  · have hlen : j < ((f a).map Cl.d).length := by simpa using (List.getElem?_eq_some_iff.1 hj).1
    simp only [elemC, true_and, hjk, if_true, List.map_drop, List.getElem?_drop, Nat.add_zero, List.getElem?_map]
    rw [List.getElem?_set_self hlen]
    rfl
theorem R.callN1 {bor : Bool} {g : FuncId} {f : Operand} {xs : List Operand} {caps : List D} {args : List V1} {ds : List VD} {κ : Ky} {ys : List (List D)} (h1 : ev e f = .v (.c (.d (.fn g caps)))) (h2 : argsC (hobOf bor [] o) [] e xs = some args) (hc : Spec P g ds (oN κ ys)) (h3 : (args ++ caps.map fun d => .c (.d d)) = ds.map VD.v1)
    (h5 : freeO o (callId d)) (k : WL P rest ks Q ⟨upd e d (.v (.c (.own (callId d)))), upd o (callId d) (some (.arr κ ys []))⟩) : WL P (⟨some d, none, false, .call f xs⟩ :: rest) ks Q ⟨e, o⟩ :=
  R.callN (bor := bor) (dst := some d) h1 h2 hc h3 (by
    unfold freeO at h5
    simpa [outsOk, look2, RT.outs, R1.outs, RC.out] using h5) (by cases bor <;> rfl) rfl rfl k
def pairV1 : V1 → V1 → List (Nat × Nat)
  | .c b, .c c => pairB b c
  | .agg bs, .agg cs => pairBs bs cs
  | _, _ => []
def pairY : List V1 → List V1 → List (Nat × Nat)
  | y :: ys, x :: xs => pairV1 y x ++ pairY ys xs
  | _, _ => []
def avL : AV → List V1
  | .v y => [y]
  | .tup l => l
def pinsOf (ρ : List (Nat × Nat)) : List (Nat × Ob) → List (Nat × Nat)
  | [] => []
  | (j, _) :: l => if Nat.ble pinN j && (look2 ρ j).isNone then (j, j) :: pinsOf ρ l else pinsOf ρ l
def ρOut (ys : List V1) (r : AV) (outs : List (Nat × Ob)) : List (Nat × Nat) := pairY ys (avL r) ++ pinsOf (pairY ys (avL r)) outs
def shp (r : AV) (ys' : List V1) : Prop := match r with
  | .v y => ys' = [y]
  | .tup l => l.length ≠ 1 ∧ ys' = l
theorem R.outR {fn : Func} {rs : List ResultVar} {r : AV} {outs : List (Nat × Ob)} {st : St} {ys ys' : List V1} (hrs : fn.results.toList = rs) (h1 : F2 (resV P st) rs ys) (h2 : vAll (cV1 (fun _ => none) (ρOut ys r outs)) ys = some ys') (h3 : insC st.objs (fun _ => none) (ρOut ys r outs) (ρOut ys r outs) = some outs) (h4 : okρ (ρOut ys r outs) = true) (h5 : shp r ys') : RetOk P fn.results.toList r outs st :=
  R.out hrs h1 _ h2 h3 h4 (by cases r <;> exact h5)
end
end
section
open Go.RowKit
section
variable {P : Program} {Q : Exit → St → Prop} {ks : List Fr} {e : Nat → AV} {o : Nat → Option Ob} {d : Nat} {fr : Bool} {x y z : Operand} {rest : List SR}
theorem R.rem {m n : Int} (h1 : ev e x = pvA (.int .i64 m)) (h2 : ev e y = pvA (.int .i64 n)) (h0 : 0 ≤ m ∧ 0 < n) (k : WL P rest ks Q ⟨upd e d (pvA (.int .i64 (m % n))), o⟩) : WL P (⟨some d, none, fr, .bin .rem x y⟩ :: rest) ks Q ⟨e, o⟩ :=
  R.bin h1 h2 (by
    simp only [binI, numV, if_true]
    rw [if_neg (by omega), Int.tmod_eq_emod_of_nonneg h0.1]) k
theorem wrapU {n : Int} (h : 0 ≤ n ∧ n ≤ 18446744073709551615) : IntKind.wrap .u64 n = n := by
  have h2 : n % 18446744073709551616 = n := Int.emod_eq_of_lt h.1 (by omega)
  simp [IntKind.wrap, IntKind.bits, IntKind.signed, h2]
theorem R.cvU {k1 : IntKind} {m : Int} (h : ev e x = pvA (.int k1 m)) (hr : 0 ≤ m ∧ m ≤ 18446744073709551615) (k : WL P rest ks Q ⟨upd e d (pvA (.int .u64 m)), o⟩) : WL P (⟨some d, none, fr, .cv .u64 x⟩ :: rest) ks Q ⟨e, o⟩ := R.cv h (by rw [wrapU hr]; exact k)
theorem R.shrU {k' : IntKind} {m n : Int} (h1 : ev e x = pvA (.int .u64 m)) (h2 : ev e y = pvA (.int k' n)) (h0 : 0 ≤ n ∧ n ≤ 63) (k : WL P rest ks Q ⟨upd e d (pvA (.int .u64 (m / 2 ^ n.toNat))), o⟩) : WL P (⟨some d, none, fr, .bin .shr x y⟩ :: rest) ks Q ⟨e, o⟩ :=
  R.bin h1 h2 (by
    simp only [binI, shV]
    rw [if_neg (by omega), show Min.min n.toNat (IntKind.u64.bits) = n.toNat from by simp [IntKind.bits]; omega, Int.fdiv_eq_ediv_of_nonneg _ (Int.le_of_lt (Int.pow_pos (by decide)))]) k
theorem R.shrU1 {k' : IntKind} {m : Int} (h1 : ev e x = pvA (.int .u64 m)) (h2 : ev e y = pvA (.int k' 1)) (k : WL P rest ks Q ⟨upd e d (pvA (.int .u64 (m / 2))), o⟩) : WL P (⟨some d, none, fr, .bin .shr x y⟩ :: rest) ks Q ⟨e, o⟩ := R.shrU h1 h2 ⟨by omega, by omega⟩ k
end
end
end Go.Proofs.YtehkaajakapkmaaGreat
