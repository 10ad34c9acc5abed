/- Texts of one proof, one behind the other. -/
import Derived.WalkKit
import Derived.Below
import Derived.Maps.AppendAt
import Derived.Laws.CopyRow
import Derived.Deep.Draws
import Derived.KernelRfl
import Derived.WideShapes4
import Derived.IntWalk
import Derived.BigCall
namespace Go.Proofs.YtehkaajakapkmaaGreat
theorem lbT {a b : Nat} (h : Nat.ble a b = true) : a ≤ b := Nat.le_of_ble_eq_true h
section
open Go.RowKit
inductive F2 {α β : Type} (r : α → β → Prop) : List α → List β → Prop
  | nil : F2 r [] []
  | cons {a : α} {b : β} {as : List α} {bs : List β} : r a b → F2 r as bs → F2 r (a :: as) (b :: bs)
section
variable {α β : Type} {r r' : α → β → Prop}
theorem F2.mono (h : ∀ a b, r a b → r' a b) : ∀ {as : List α} {bs : List β}, F2 r as bs → F2 r' as bs
  | _, _, .nil => .nil
  | _, _, .cons h1 h2 => .cons (h _ _ h1) (h2.mono h)
theorem F2.len : ∀ {as : List α} {bs : List β}, F2 r as bs → as.length = bs.length
  | _, _, .nil => rfl
  | _, _, .cons _ h2 => by simp [h2.len]
theorem F2.get : ∀ {as : List α} {bs : List β} {i : Nat} {b : β}, F2 r as bs → bs[i]? = some b → ∃ a, as[i]? = some a ∧ r a b
  | _, _, i, _, .nil, h => by simp at h
  | _, _, 0, _, .cons h1 _, h => by simp at h; subst h; exact ⟨_, rfl, h1⟩
  | _, _, i + 1, _, .cons _ h2, h => by simpa using h2.get (i := i) (by simpa using h)
theorem F2.of_get : ∀ {as : List α} {bs : List β}, as.length = bs.length → (∀ (i : Nat) (a : α) (b : β), as[i]? = some a → bs[i]? = some b → r a b) → F2 r as bs
  | [], [], _, _ => .nil
  | a :: as, b :: bs, hl, h => .cons (h 0 a b rfl rfl) (F2.of_get (by simpa using hl) fun i x y hx hy => h (i + 1) x y (by simpa using hx) (by simpa using hy))
  | [], _ :: _, hl, _ => by simp at hl
  | _ :: _, [], hl, _ => by simp at hl
theorem F2.set : ∀ {as : List α} {bs : List β} {a : α} {b : β} (i : Nat), F2 r as bs → r a b → F2 r (as.set i a) (bs.set i b)
  | _, _, _, _, _, .nil, _ => .nil
  | _, _, _, _, 0, .cons _ h2, h => .cons h h2
  | _, _, _, _, i + 1, .cons h1 h2, h => .cons h1 (h2.set i h)
theorem F2.append : ∀ {as as' : List α} {bs bs' : List β}, F2 r as bs → F2 r as' bs' → F2 r (as ++ as') (bs ++ bs')
  | _, _, _, _, .nil, h => h
  | _, _, _, _, .cons h1 h2, h => .cons h1 (h2.append h)
theorem F2.drop : ∀ {as : List α} {bs : List β} (n : Nat), F2 r as bs → F2 r (as.drop n) (bs.drop n)
  | _, _, 0, h => h
  | _, _, _ + 1, .nil => .nil
  | _, _, n + 1, .cons _ h2 => h2.drop n
theorem F2.take : ∀ {as : List α} {bs : List β} (n : Nat), F2 r as bs → F2 r (as.take n) (bs.take n)
  | _, _, 0, _ => .nil
  | _, _, _ + 1, .nil => .nil
  | _, _, n + 1, .cons h1 h2 => .cons h1 (h2.take n)
end
structure Ky where
  e : TypeId
  k : Nat
inductive D where
  | pv (v : Value)
  | rd (κ : Ky) (xs : List (List D))
  | rp (cs : List D)
  | fn (f : FuncId) (caps : List D)
  | mp (es : List (Value × Value))
def okI : Value → Prop
  | .int k n => (Lit.int k n).wf = true
  | .string s => s.size ≤ maxLen
  | _ => True
inductive RD (W : World) (R : Nat → Prop) : Value → D → Prop
  | pv {v : Value} (h : v.oneCell' = true) (hi : okI v) : RD W R v (.pv v)
  | nil {a : Option Addr} {cap : Nat} {κ : Ky} : RD W R (.slice a 0 cap) (.rd κ [])
  | rd {κ : Ky} {xs : List (List D)} {b off cap : Nat} (c : Nat → Nat → Value) (h0 : 0 < xs.length) (h1 : xs.length ≤ cap) (h2 : cap ≤ maxLen) (hR : R b) (hk : ∀ (i : Nat) (es : List D), xs[i]? = some es → es.length = κ.k)
      (hc : ∀ (i : Nat) (es : List D) (j : Nat), xs[i]? = some es → j < κ.k → W.cell? ⟨b, off + i * κ.k + j, none⟩ = some (c i j))
      (hr : ∀ (i : Nat) (es : List D) (j : Nat) (d : D), xs[i]? = some es → es[j]? = some d → RD W R (c i j) d) : RD W R (.slice (some ⟨b, off, none⟩) xs.length cap) (.rd κ xs)
  | rp {cs : List D} {b off : Nat} (c : Nat → Value) (hR : R b) (hc : ∀ j : Nat, j < cs.length → W.cell? ⟨b, off + j, none⟩ = some (c j)) (hr : ∀ (j : Nat) (d : D), cs[j]? = some d → RD W R (c j) d) : RD W R (.pointer (some ⟨b, off, none⟩)) (.rp cs)
  | fn {f : FuncId} {caps : List D} {vs : List Value} (hl : vs.length = caps.length) (hr : ∀ (j : Nat) (v : Value) (d : D), vs[j]? = some v → caps[j]? = some d → RD W R v d) : RD W R (.func (.func f) #[] vs.toArray) (.fn f caps)
  | mp {g clock : Nat} {ms : Array MapEntry} {es : List (Value × Value)} (hR : R g) (h : W.heap[g]? = some (.map ms clock)) (he : ms.toList.map (fun e => (e.key, e.val)) = es) : RD W R (.map (some g)) (.mp es)
theorem RD.one {W : World} {R : Nat → Prop} {v : Value} {d : D} (h : RD W R v d) : v.oneCell' = true := by
  cases h with
  | pv h _ => exact h
  | _ => rfl
theorem cell_of_block {W W' : World} {b : Nat} (e : W'.heap[b]? = W.heap[b]?) (o : Nat) : W'.cell? ⟨b, o, none⟩ = W.cell? ⟨b, o, none⟩ := by simp [World.cell?, e]
theorem RD.keep {W W' : World} {R R' : Nat → Prop} (hs : ∀ b, R b → R' b) (he : ∀ b, R b → W'.heap[b]? = W.heap[b]?) {v : Value} {d : D} (h : RD W R v d) : RD W' R' v d := by
  induction h with
  | pv h hi => exact .pv h hi
  | nil => exact .nil
  | rd c h0 h1 h2 hR hk hc _ ih => exact .rd c h0 h1 h2 (hs _ hR) hk (fun i es j hi hj => (cell_of_block (he _ hR) _).trans (hc i es j hi hj)) ih
  | rp c hR hc _ ih => exact .rp c (hs _ hR) (fun j hj => (cell_of_block (he _ hR) _).trans (hc j hj)) ih
  | fn hl _ ih => exact .fn hl ih
  | mp hR h he2 => exact .mp (hs _ hR) ((he _ hR).trans h) he2
def pureD : D → Bool
  | .pv _ => true
  | _ => false
theorem pure_RD {w w' : World} {R R' : Nat → Prop} {v : Value} {d : D} (h : RD w R v d) (hd : pureD d = true) : RD w' R' v d := by
  cases h with
  | pv q1 q2 => exact .pv q1 q2
  | _ => cases hd
inductive ET (W : World) : List Value → List D → List Nat → Prop
  | nil : ET W [] [] []
  | pv {v : Value} {vs : List Value} {ds : List D} {S : List Nat} (h : v.oneCell' = true) (hi : okI v) (h2 : ET W vs ds S) : ET W (v :: vs) (.pv v :: ds) S
  | rd {v : Value} {κ : Ky} {xs : List (List D)} {us vs : List Value} {ds : List D} {S1 S2 : List Nat} (hk : ∀ es ∈ xs, es.length = κ.k) (ho : W.ownsRow 0 κ.e κ.k v xs.length us) (h1 : ET W us xs.flatten S1) (h2 : ET W vs ds S2) :
      ET W (v :: vs) (.rd κ xs :: ds) (v.ownBlock.toList ++ (S1 ++ S2))
theorem ET.len {W : World} {vs : List Value} {ds : List D} {S : List Nat} (h : ET W vs ds S) : vs.length = ds.length := by
  induction h with
  | nil => rfl
  | pv _ _ _ ih => simp [ih]
  | rd _ _ _ _ _ ih => simp [ih]
theorem ownsRow_one {W : World} {B e k n : Nat} {v : Value} {us : List Value} (h : W.ownsRow B e k v n us) : v.oneCell' = true := by
  rcases h.2 with ⟨rfl, _⟩ | ⟨g, cap, cur, rfl, _⟩ <;> rfl
theorem ET.one {W : World} {vs : List Value} {ds : List D} {S : List Nat} (h : ET W vs ds S) : ∀ v ∈ vs, v.oneCell' = true := by
  induction h with
  | nil => intro v hv; cases hv
  | pv h _ _ ih =>
    intro u hu
    rcases List.mem_cons.1 hu with rfl | hu
    · exact h
    · exact ih u hu
  | rd _ ho _ _ _ ih =>
    intro u hu
    rcases List.mem_cons.1 hu with rfl | hu
    · exact ownsRow_one ho
    · exact ih u hu
theorem ownsRow_keep {W W' : World} {B e k n : Nat} {v : Value} {us : List Value} (h : W.ownsRow B e k v n us) (he : ∀ g, v.ownBlock = some g → W'.heap[g]? = W.heap[g]?) : W'.ownsRow B e k v n us := by
  refine ⟨h.1, ?_⟩
  rcases h.2 with h2 | ⟨g, cap, cur, hv, hb, hh, r⟩
  · exact .inl h2
  · exact .inr ⟨g, cap, cur, hv, hb, (he g (by rw [hv]; rfl)).trans hh, r⟩
theorem ET.keep {W W' : World} {vs : List Value} {ds : List D} {S : List Nat} (h : ET W vs ds S) : (∀ b ∈ S, W'.heap[b]? = W.heap[b]?) → ET W' vs ds S := by
  induction h with
  | nil => intro _; exact .nil
  | pv h hi _ ih => intro he; exact .pv h hi (ih he)
  | rd hk ho _ _ ih1 ih2 =>
    intro he
    exact .rd hk (ownsRow_keep ho fun g hg => he g (by simp [hg])) (ih1 fun b hb => he b (by simp [hb])) (ih2 fun b hb => he b (by simp [hb]))
theorem ET.lt {W : World} {vs : List Value} {ds : List D} {S : List Nat} (h : ET W vs ds S) : ∀ b ∈ S, b < W.heap.size := by
  induction h with
  | nil => intro b hb; cases hb
  | pv _ _ _ ih => exact ih
  | rd _ ho _ _ ih1 ih2 =>
    intro b hb
    simp only [List.mem_append] at hb
    rcases hb with hb | hb | hb
    · exact (ho.lt b (by simpa using hb)).2
    · exact ih1 b hb
    · exact ih2 b hb
theorem ET.append {W : World} {vs : List Value} {ds : List D} {S : List Nat} (h : ET W vs ds S) : ∀ {vs' : List Value} {ds' : List D} {S' : List Nat}, ET W vs' ds' S' → ET W (vs ++ vs') (ds ++ ds') (S ++ S') := by
  induction h with
  | nil => intro _ _ _ h; exact h
  | pv h hi _ ih => intro _ _ _ h'; exact .pv h hi (ih h')
  | rd hk ho h1 _ _ ih =>
    intro _ _ _ h'
    rw [List.append_assoc, List.append_assoc]
    exact .rd hk ho h1 (ih h')
theorem ET.of_pure {W : World} {R : Nat → Prop} : ∀ {vs : List Value} {ds : List D}, F2 (RD W R) vs ds → (∀ d ∈ ds, pureD d = true) → ET W vs ds []
  | _, _, .nil, _ => .nil
  | _, _, .cons (b := d) h1 h2, h => by
    have := h d (by simp)
    cases h1 with
    | pv q1 q2 => exact .pv q1 q2 (ET.of_pure h2 fun d hd => h d (by simp [hd]))
    | _ => cases this
inductive Cl where
  | d (x : D)
  | h (l : Option Nat)
inductive B where
  | d (x : D)
  | ptr (o off : Nat)
  | own (o : Nat)
  | ep (o k i off : Nat)
  | rel (o : Nat) (q : Value → Value)
  | dead
def RB (W : World) (R : Nat → Prop) (ι : Nat → Value) (dom : Nat → Prop) (v : Value) : B → Prop
  | .d x => RD W R v x
  | .ptr o off => dom o ∧ ∃ g, ι o = .pointer (some ⟨g, 0, none⟩) ∧ v = .pointer (some ⟨g, off, none⟩)
  | .own o => dom o ∧ v = ι o
  | .ep o k i off => dom o ∧ ∃ g n cap, ι o = .slice (some ⟨g, 0, none⟩) n cap ∧ v = .pointer (some ⟨g, i * k + off, none⟩)
  | .rel o q => dom o ∧ v = q (ι o)
  | .dead => True
inductive EH (W : World) (ι : Nat → Value) (dom : Nat → Prop) : List Value → List Cl → List Nat → Prop
  | nil : EH W ι dom [] [] []
  | d {v : Value} {x : D} {vs : List Value} {cs : List Cl} {S1 S2 : List Nat} (h1 : ET W [v] [x] S1) (h2 : EH W ι dom vs cs S2) : EH W ι dom (v :: vs) (.d x :: cs) (S1 ++ S2)
  | h {v : Value} {l : Option Nat} {vs : List Value} {cs : List Cl} {S : List Nat} (h1 : v.oneCell' = true) (hl : ∀ o, l = some o → dom o ∧ v = ι o) (h2 : EH W ι dom vs cs S) : EH W ι dom (v :: vs) (.h l :: cs) S
inductive V1 where
  | c (x : B)
  | agg (xs : List B)
inductive AV where
  | v (x : V1)
  | tup (xs : List V1)
def RV1 (W : World) (R : Nat → Prop) (ι : Nat → Value) (dom : Nat → Prop) (v : Value) : V1 → Prop
  | .c x => RB W R ι dom v x
  | .agg xs => ∃ vs : List Value, v = .agg vs.toArray ∧ F2 (RB W R ι dom) vs xs
def RA (W : World) (R : Nat → Prop) (ι : Nat → Value) (dom : Nat → Prop) (v : Value) : AV → Prop
  | .v x => RV1 W R ι dom v x
  | .tup xs => ∃ vs : List Value, v = .tuple vs.toArray ∧ F2 (RV1 W R ι dom) vs xs
structure Ho where
  i : Nat
  j : Nat
  l : Option Nat
inductive Ob where
  | box (T : TypeId) (cs : List B)
  | arr (κ : Ky) (xs : List (List D)) (hs : List Ho)
  | mp (es : List (Value × Value))
  | val (l : List (Value × D))
def punch (k : Nat) (cs : List Cl) : List Ho → List Cl
  | [] => cs
  | h :: hs => if h.j < k then (punch k cs hs).set (h.i * k + h.j) (.h h.l) else punch k cs hs
def cellsH (k : Nat) (xs : List (List D)) (hs : List Ho) : List Cl := punch k (xs.flatten.map .d) hs
structure St where
  env : Nat → AV
  objs : Nat → Option Ob
def domO (objs : Nat → Option Ob) (o : Nat) : Prop := ∃ x, objs o = some x
abbrev St.dom (st : St) (o : Nat) : Prop := domO st.objs o
def upd {α : Type} (f : Nat → α) (d : Nat) (v : α) : Nat → α := fun x => if x = d then v else f x
theorem upd_same {α : Type} (f : Nat → α) (d : Nat) (v : α) : upd f d v d = v := by simp [upd]
theorem upd_ne {α : Type} (f : Nat → α) {d x : Nat} (v : α) (h : x ≠ d) : upd f d v x = f x := by simp [upd, h]
def RArr (W : World) (ι : Nat → Value) (dom : Nat → Prop) (v : Value) (κ : Ky) (xs : List (List D)) (hs : List Ho) (S : List Nat) : Prop :=
  (∀ es ∈ xs, es.length = κ.k) ∧ ∃ vs S1, W.ownsRow 0 κ.e κ.k v xs.length vs ∧ EH W ι dom vs (cellsH κ.k xs hs) S1 ∧ S = v.ownBlock.toList ++ S1 ∧ S.Nodup
def RMap (W : World) (v : Value) (es : List (Value × Value)) (S : List Nat) : Prop :=
  ∃ g clock ms, v = .map (some g) ∧ S = [g] ∧ W.heap[g]? = some (.map ms clock) ∧ ms.toList.map (fun e => (e.key, e.val)) = es
def RO (W : World) (R : Nat → Prop) (ι : Nat → Value) (dom : Nat → Prop) (v : Value) (S : List Nat) : Ob → Prop
  | .box T cs => ∃ g vs, v = .pointer (some ⟨g, 0, none⟩) ∧ S = [g] ∧ W.heap[g]? = some (.cells vs.toArray T (0, 0)) ∧ F2 (RB W R ι dom) vs cs
  | .arr κ xs hs => RArr W ι dom v κ xs hs S
  | .mp es => RMap W v es S
  | .val l => v.oneCell' = true ∧ S = [] ∧ ∀ p ∈ l, RD W R p.1 p.2
structure BelowM (M : Nat → Prop) (w w' : World) : Prop where
  os : w'.os = w.os
  tape : w'.tape = w.tape
  output : w'.output = w.output
  size : w.heap.size ≤ w'.heap.size
  block : ∀ k, k < w.heap.size → ¬ M k → w'.heap[k]? = w.heap[k]?
theorem BelowM.refl (M : Nat → Prop) (w : World) : BelowM M w w := ⟨rfl, rfl, rfl, Nat.le_refl _, fun _ _ _ => rfl⟩
theorem BelowM.then {M : Nat → Prop} {a b c : World} (h : BelowM M a b) (k : Below b.heap.size b c) : BelowM M a c :=
  ⟨k.os.trans h.os, k.tape.trans h.tape, k.output.trans h.output, Nat.le_trans h.size k.size, fun i hi hm => (k.block i (Nat.lt_of_lt_of_le hi h.size)).trans (h.block i hi hm)⟩
theorem BelowM.trans {M M' : Nat → Prop} {a b c : World} (h : BelowM M a b) (k : BelowM M' b c) (hM : ∀ g, M' g → M g ∨ a.heap.size ≤ g) : BelowM M a c :=
  ⟨k.os.trans h.os, k.tape.trans h.tape, k.output.trans h.output, Nat.le_trans h.size k.size, fun i hi hm => (k.block i (Nat.lt_of_lt_of_le hi h.size) fun hm' => (hM i hm').elim hm fun hle => by omega).trans (h.block i hi hm)⟩
theorem BelowM.of_below {M : Nat → Prop} {w w' : World} (h : Below w.heap.size w w') : BelowM M w w' := ⟨h.os, h.tape, h.output, h.size, fun k hk _ => h.block k hk⟩
theorem BelowM.below {M : Nat → Prop} {w w' : World} (h : BelowM M w w') (hM : ∀ g, ¬ M g) : Below w.heap.size w w' := ⟨h.os, h.tape, h.output, h.size, fun k hk => h.block k hk (hM k)⟩
abbrev pinN : Nat := 1000000
def tabG : List (Nat × Nat) := []
def tabCells : Array Value := #[.int .u64 1, .int .u64 10, .int .u64 100, .int .u64 1000, .int .u64 10000, .int .u64 100000, .int .u64 1000000, .int .u64 10000000, .int .u64 100000000, .int .u64 1000000000, .int .u64 10000000000, .int .u64 100000000000, .int .u64 1000000000000, .int .u64 10000000000000, .int .u64 100000000000000, .int .u64 1000000000000000, .int .u64 10000000000000000, .int .u64 100000000000000000, .int .u64 1000000000000000000, .int .u64 10000000000000000000]
def tabP : Nat → Array Value → Prop
  | 0, cs => cs = tabCells
  | 1, cs => ∃ m : Int, cs = #[.int .i64 m]
  | _, _ => True
def tabAt (w : World) (g k : Nat) : Prop := ∃ cs T p, w.heap[g]? = some (.cells cs T p) ∧ tabP k cs
theorem tabAt.lt {w : World} {g k : Nat} (h : tabAt w g k) : g < w.heap.size := by
  obtain ⟨cs, T, p, h, _⟩ := h
  rcases Nat.lt_or_ge g w.heap.size with hl | hl
  · exact hl
  · rw [Array.getElem?_eq_none hl] at h; cases h
theorem tabAt.keep {w w' : World} {g k : Nat} (h : tabAt w g k) (e : w'.heap[g]? = w.heap[g]?) : tabAt w' g k := by
  unfold tabAt at *
  rw [e]; exact h
def TabW (w : World) (R : Nat → Prop) : Prop := ∀ x ∈ tabG, R x.1 ∧ tabAt w x.1 x.2
theorem TabW.keep {w w' : World} {R R' : Nat → Prop} (h : TabW w R) (hs : ∀ b, R b → R' b) (he : ∀ b, R b → w'.heap[b]? = w.heap[b]?) : TabW w' R' := fun x hx => ⟨hs _ (h x hx).1, (h x hx).2.keep (he _ (h x hx).1)⟩
structure Fx where
  w : World
  M : Nat → Prop
  ι : Nat → Value
  R : Nat → Prop
  n : Nat
  tab : TabW w R
  tabM : ∀ g, M g → ¬ R g
structure Sat (F : Fx) (R : Nat → Prop) (ι : Nat → Value) (φ : Nat → List Nat) (st : St) (a : Act) (w : World) : Prop where
  below : BelowM F.M F.w w
  rlt : ∀ b, R b → b < w.heap.size
  rsub : ∀ b, F.R b → R b
  rnew : ∀ b, R b → F.R b ∨ F.M b ∨ F.w.heap.size ≤ b
  size : a.tmps.size = F.n
  defers : a.defers = []
  env : ∀ d, RA w R ι st.dom (a.tmps.getD d undef) (st.env d)
  objs : ∀ o x, st.objs o = some x → RO w R ι st.dom (ι o) (φ o) x
  mine : ∀ o x, st.objs o = some x → ∀ g ∈ φ o, (F.M g ∨ F.w.heap.size ≤ g) ∧ ¬ R g ∧ g < w.heap.size
  apart : ∀ o p x y g, st.objs o = some x → st.objs p = some y → g ∈ φ o → g ∈ φ p → o = p
  pin : ∀ o, pinN ≤ o → ι o = F.ι o
theorem Sat.tab {F : Fx} {R : Nat → Prop} {ι : Nat → Value} {φ : Nat → List Nat} {st : St} {a : Act} {w : World} (h : Sat F R ι φ st a w) : TabW w R := fun x hx => by
  obtain ⟨h1, h2⟩ := F.tab x hx
  exact ⟨h.rsub _ h1, h2.keep (h.below.block _ h2.lt fun hm => F.tabM _ hm h1)⟩
section
variable {w w' : World} {R R' : Nat → Prop} {ι ι' : Nat → Value} {dom dom' : Nat → Prop} {st : St} {a : Act} {F : Fx} {φ : Nat → List Nat}
theorem RB.keep (hs : ∀ b, R b → R' b) (he : ∀ b, R b → w'.heap[b]? = w.heap[b]?) (hd : ∀ o, dom o → dom' o) (hι : ∀ o, dom o → ι' o = ι o) {v : Value} : ∀ {b : B}, RB w R ι dom v b → RB w' R' ι' dom' v b
  | .d _, h => RD.keep hs he h
  | .ptr o off, ⟨h1, g, h2, h3⟩ => ⟨hd o h1, g, (hι o h1).trans h2, h3⟩
  | .own o, ⟨h1, h2⟩ => ⟨hd o h1, by rw [hι o h1]; exact h2⟩
  | .ep o k i off, ⟨h1, g, n, cap, h2, h3⟩ => ⟨hd o h1, g, n, cap, (hι o h1).trans h2, h3⟩
  | .rel o q, ⟨h1, h2⟩ => ⟨hd o h1, by rw [hι o h1]; exact h2⟩
  | .dead, _ => trivial
theorem RV1.keep (hs : ∀ b, R b → R' b) (he : ∀ b, R b → w'.heap[b]? = w.heap[b]?) (hd : ∀ o, dom o → dom' o) (hι : ∀ o, dom o → ι' o = ι o) {v : Value} : ∀ {x : V1}, RV1 w R ι dom v x → RV1 w' R' ι' dom' v x
  | .c _, h => RB.keep hs he hd hι h
  | .agg _, ⟨vs, h1, h2⟩ => ⟨vs, h1, h2.mono fun _ _ h => RB.keep hs he hd hι h⟩
theorem RA.keep (hs : ∀ b, R b → R' b) (he : ∀ b, R b → w'.heap[b]? = w.heap[b]?) (hd : ∀ o, dom o → dom' o) (hι : ∀ o, dom o → ι' o = ι o) {v : Value} : ∀ {x : AV}, RA w R ι dom v x → RA w' R' ι' dom' v x
  | .v _, h => RV1.keep hs he hd hι h
  | .tup _, ⟨vs, h1, h2⟩ => ⟨vs, h1, h2.mono fun _ _ h => RV1.keep hs he hd hι h⟩
theorem EH.keep {vs : List Value} {cs : List Cl} {S : List Nat} (h : EH w ι dom vs cs S) (hd : ∀ o, dom o → dom' o) (hι : ∀ o, dom o → ι' o = ι o) : (∀ b ∈ S, w'.heap[b]? = w.heap[b]?) → EH w' ι' dom' vs cs S := by
  induction h with
  | nil => intro _; exact .nil
  | d h1 _ ih => intro he; exact .d (h1.keep fun b hb => he b (by simp [hb])) (ih fun b hb => he b (by simp [hb]))
  | h h1 hl _ ih => intro he; exact .h h1 (fun o ho => ⟨hd o (hl o ho).1, by rw [hι o (hl o ho).1]; exact (hl o ho).2⟩) (ih he)
theorem EH.len {vs : List Value} {cs : List Cl} {S : List Nat} (h : EH w ι dom vs cs S) : vs.length = cs.length := by
  induction h with
  | nil => rfl
  | d _ _ ih => simp [ih]
  | h _ _ _ ih => simp [ih]
theorem EH.lt {vs : List Value} {cs : List Cl} {S : List Nat} (h : EH w ι dom vs cs S) : ∀ b ∈ S, b < w.heap.size := by
  induction h with
  | nil => intro b hb; cases hb
  | d h1 _ ih =>
    intro b hb
    rcases List.mem_append.1 hb with hb | hb
    · exact h1.lt b hb
    · exact ih b hb
  | h _ _ _ ih => exact ih
theorem EH.one {vs : List Value} {cs : List Cl} {S : List Nat} (h : EH w ι dom vs cs S) : ∀ v ∈ vs, v.oneCell' = true := by
  induction h with
  | nil => intro v hv; cases hv
  | d h1 _ ih =>
    intro u hu
    rcases List.mem_cons.1 hu with rfl | hu
    · exact h1.one u (by simp)
    · exact ih u hu
  | h h1 _ _ ih =>
    intro u hu
    rcases List.mem_cons.1 hu with rfl | hu
    · exact h1
    · exact ih u hu
theorem EH.of_ET {vs : List Value} {ds : List D} {S : List Nat} (h : ET w vs ds S) : EH w ι dom vs (ds.map .d) S := by
  induction h with
  | nil => exact .nil
  | pv h hi _ ih => exact EH.d (S1 := []) (.pv h hi .nil) ih
  | rd hk ho h1 _ _ ih =>
    rw [← List.append_assoc]
    have := ET.rd hk ho h1 .nil
    rw [List.append_nil] at this
    exact .d this ih
theorem EH.to_ET : ∀ {vs : List Value} {ds : List D} {S : List Nat}, EH w ι dom vs (ds.map .d) S → ET w vs ds S
  | _, [], _, hh => by cases hh; exact .nil
  | _, x :: ds, _, hh => by
    cases hh with
    | d h1 h2 => exact h1.append (EH.to_ET h2)
theorem RArr.keep {κ : Ky} {xs : List (List D)} {hs : List Ho} {v : Value} {S : List Nat} (h : RArr w ι dom v κ xs hs S) (hd : ∀ o, dom o → dom' o) (hι : ∀ o, dom o → ι' o = ι o) (he : ∀ b ∈ S, w'.heap[b]? = w.heap[b]?) : RArr w' ι' dom' v κ xs hs S := by
  obtain ⟨h1, vs, S1, h2, h3, rfl, h4⟩ := h
  exact ⟨h1, vs, S1, ownsRow_keep h2 fun g hg => he g (by simp [hg]), h3.keep hd hι fun b hb => he b (by simp [hb]), rfl, h4⟩
theorem RO.keep (hs : ∀ b, R b → R' b) (he : ∀ b, R b → w'.heap[b]? = w.heap[b]?) (hd : ∀ o, dom o → dom' o) (hι : ∀ o, dom o → ι' o = ι o) {v : Value} {S : List Nat} : ∀ {x : Ob}, (∀ g ∈ S, w'.heap[g]? = w.heap[g]?) → RO w R ι dom v S x → RO w' R' ι' dom' v S x
  | .box _ _, hg, ⟨g, vs, h1, h2, h4, h5⟩ => ⟨g, vs, h1, h2, (hg g (by rw [h2]; simp)).trans h4, h5.mono fun _ _ h => RB.keep hs he hd hι h⟩
  | .arr _ _ _, hg, h => RArr.keep h hd hι hg
  | .mp _, hg, ⟨g, c, ms, h1, h2, h3, h4⟩ => ⟨g, c, ms, h1, h2, (hg g (by rw [h2]; simp)).trans h3, h4⟩
  | .val _, _, ⟨h1, h2, h3⟩ => ⟨h1, h2, fun p hp => RD.keep hs he (h3 p hp)⟩
def blk : Value → Option Nat
  | .pointer (some a) => some a.block
  | .slice (some a) _ _ => some a.block
  | _ => none
theorem RO.blk_mem {v : Value} {g : Nat} {S : List Nat} {T : TypeId} {cs : List B} (hb : blk v = some g) : RO w R ι dom v S (.box T cs) → g ∈ S
  | ⟨g', vs, h1, h2, _, _⟩ => by
    rw [h1] at hb
    obtain rfl : g' = g := by simpa [blk] using hb
    rw [h2]; simp
theorem Sat.put (h : Sat F R ι φ st a w) {d : Nat} {v : Value} {x : AV} (hd : d < F.n) (hx : RA w R ι st.dom v x) : Sat F R ι φ ⟨upd st.env d x, st.objs⟩ (a.put (some d) v) w := by
  refine ⟨h.below, h.rlt, h.rsub, h.rnew, by simp [Act.put, h.size], by simpa [Act.put] using h.defers, fun e => ?_, h.objs, h.mine, h.apart, h.pin⟩
  have hs := h.size
  by_cases he : e = d
  · subst he
    simp only [upd_same, Act.put, Array.getD_eq_getD_getElem?]
    rw [Array.getElem?_setIfInBounds_self_of_lt (by omega)]
    exact hx
  · simp only [upd_ne _ _ he, Act.put, Array.getD_eq_getD_getElem?]
    rw [Array.getElem?_setIfInBounds_ne (by omega)]
    have := h.env e
    simp only [Array.getD_eq_getD_getElem?] at this
    exact this
theorem Sat.world (h : Sat F R ι φ st a w) (hb : Below w.heap.size w w') (hs : ∀ b, R b → R' b) (hl : ∀ b, R' b → b < w'.heap.size) (hn : ∀ b, R' b → b < w.heap.size → R b) : Sat F R' ι φ st a w' := by
  have he : ∀ b, R b → w'.heap[b]? = w.heap[b]? := fun b hb' => hb.block b (h.rlt b hb')
  refine ⟨h.below.then hb, hl, fun b hb => hs b (h.rsub b hb), fun b hb' => ?_, h.size, h.defers, fun d => RA.keep hs he (fun _ h => h) (fun _ _ => rfl) (h.env d),
    fun o x ho => RO.keep hs he (fun _ h => h) (fun _ _ => rfl) (fun g hg => hb.block g (h.mine o x ho g hg).2.2) (h.objs o x ho),
    fun o x ho g hg => ⟨(h.mine o x ho g hg).1, fun hr => (h.mine o x ho g hg).2.1 (hn g hr (h.mine o x ho g hg).2.2), Nat.lt_of_lt_of_le (h.mine o x ho g hg).2.2 hb.size⟩, h.apart, h.pin⟩
  rcases Nat.lt_or_ge b w.heap.size with hlt | hge
  · exact h.rnew b (hn b hb' hlt)
  · exact .inr (.inr (Nat.le_trans h.below.size hge))
theorem Sat.below' (h : Sat F R ι φ st a w) (hb : Below w.heap.size w w') : Sat F R ι φ st a w' :=
  h.world hb (fun _ h => h) (fun b hr => Nat.lt_of_lt_of_le (h.rlt b hr) hb.size) (fun _ h _ => h)
theorem Sat.new (h : Sat F R ι φ st a w) {d : Nat} {u : Value} {S : List Nat} {x : Ob} (hd : st.objs d = none) (hp : d < pinN) (hb : Below w.heap.size w w') (hx : RO w' R (upd ι d u) (domO (upd st.objs d (some x))) u S x)
    (hu : ∀ g ∈ S, w.heap.size ≤ g ∧ g < w'.heap.size) : Sat F R (upd ι d u) (upd φ d S) ⟨st.env, upd st.objs d (some x)⟩ a w' := by
  have h' := h.below' hb
  have hne : ∀ o, st.dom o → o ≠ d := fun o ⟨y, hy⟩ e => by subst e; rw [hd] at hy; cases hy
  have hdm : ∀ o, st.dom o → (⟨st.env, upd st.objs d (some x)⟩ : St).dom o := fun o ⟨y, hy⟩ => ⟨y, by simp only [upd_ne _ _ (hne o ⟨y, hy⟩)]; exact hy⟩
  have hι : ∀ o, st.dom o → upd ι d u o = ι o := fun o ho => upd_ne _ _ (hne o ho)
  refine ⟨h'.below, h'.rlt, h'.rsub, h'.rnew, h'.size, h'.defers, fun e => RA.keep (fun _ h => h) (fun _ _ => rfl) hdm hι (h'.env e), fun o y hy => ?_, fun o y hy g hg => ?_, fun o p y z g hy hz h1 h2 => ?_, fun o ho => ?_⟩
  · by_cases ho : o = d
    · subst ho
      simp only [upd_same, Option.some.injEq] at hy ⊢
      subst hy
      exact hx
    · simp only [upd_ne _ _ ho] at hy ⊢
      exact RO.keep (fun _ h => h) (fun _ _ => rfl) hdm hι (fun _ _ => rfl) (h'.objs o y hy)
  · by_cases ho : o = d
    · subst ho
      simp only [upd_same] at hg
      have := hu g hg
      refine ⟨.inr (Nat.le_trans h.below.size this.1), fun hr => ?_, this.2⟩
      have := h.rlt g hr
      omega
    · simp only [upd_ne _ _ ho] at hy hg
      exact h'.mine o y hy g hg
  · by_cases ho : o = d
    · by_cases hp : p = d
      · rw [ho, hp]
      · subst ho
        simp only [upd_same, upd_ne _ _ hp] at hz h1 h2
        have := (h.mine p z hz g h2).2.2
        have := (hu g h1).1
        omega
    · by_cases hp : p = d
      · subst hp
        simp only [upd_same, upd_ne _ _ ho] at hy h1 h2
        have := (h.mine o y hy g h1).2.2
        have := (hu g h2).1
        omega
      · simp only [upd_ne _ _ ho, upd_ne _ _ hp] at hy hz h1 h2
        exact h.apart o p y z g hy hz h1 h2
  · rw [upd_ne _ _ (by omega)]
    exact h.pin o ho
theorem Sat.write (h : Sat F R ι φ st a w) {o : Nat} {S : List Nat} {x x' : Ob} (ho : st.objs o = some x) (hb : BelowM F.M F.w w') (hsz : w.heap.size ≤ w'.heap.size)
    (hne : ∀ b, b < w.heap.size → b ∉ φ o → w'.heap[b]? = w.heap[b]?) (hx : RO w' R ι st.dom (ι o) S x') (hS : ∀ g ∈ S, g ∈ φ o) : Sat F R ι (upd φ o S) ⟨st.env, upd st.objs o (some x')⟩ a w' := by
  have hR : ∀ b, R b → w'.heap[b]? = w.heap[b]? := fun b hr => hne b (h.rlt b hr) fun e => (h.mine o x ho b e).2.1 hr
  have hdm : ∀ p, st.dom p → (⟨st.env, upd st.objs o (some x')⟩ : St).dom p := fun p ⟨y, hy⟩ => by
    by_cases hp : p = o
    · subst hp; exact ⟨x', by simp [upd_same]⟩
    · exact ⟨y, by simp only [upd_ne _ _ hp]; exact hy⟩
  have get : ∀ q z, (upd st.objs o (some x')) q = some z → ∃ z', st.objs q = some z' := fun q z hz => by
    by_cases hq : q = o
    · subst hq; exact ⟨x, ho⟩
    · simp only [upd_ne _ _ hq] at hz; exact ⟨z, hz⟩
  have hφ : ∀ q g, g ∈ upd φ o S q → g ∈ φ q := fun q g hg => by
    by_cases hq : q = o
    · subst hq; rw [upd_same] at hg; exact hS g hg
    · rwa [upd_ne _ _ hq] at hg
  refine ⟨hb, fun b hr => Nat.lt_of_lt_of_le (h.rlt b hr) hsz, h.rsub, h.rnew, h.size, h.defers, fun e => RA.keep (fun _ h => h) hR hdm (fun _ _ => rfl) (h.env e), fun p y hy => ?_, fun p y hy g hg => ?_, fun p q y z g hy hz h1 h2 => ?_, h.pin⟩
  · by_cases hp : p = o
    · subst hp
      simp only [upd_same, Option.some.injEq] at hy ⊢
      subst hy
      exact RO.keep (fun _ h => h) (fun _ _ => rfl) hdm (fun _ _ => rfl) (fun g hg => rfl) hx
    · simp only [upd_ne _ _ hp] at hy ⊢
      refine RO.keep (fun _ h => h) hR hdm (fun _ _ => rfl) (fun g hg => ?_) (h.objs p y hy)
      exact hne g (h.mine p y hy g hg).2.2 fun e => hp (h.apart p o y x g hy ho hg e)
  · obtain ⟨y', hy'⟩ := get p y hy
    have := h.mine p y' hy' g (hφ p g hg)
    exact ⟨this.1, this.2.1, Nat.lt_of_lt_of_le this.2.2 hsz⟩
  · obtain ⟨y', hy'⟩ := get p y hy
    obtain ⟨z', hz'⟩ := get q z hz
    exact h.apart p q y' z' g hy' hz' (hφ p g h1) (hφ q g h2)
end
end
section
open Go.RowKit
abbrev pvA (v : Value) : AV := .v (.c (.d (.pv v)))
abbrev rdA (κ : Ky) (xs : List (List D)) : AV := .v (.c (.d (.rd κ xs)))
def constA : Value → AV
  | .agg cs => if cs.toList.all (fun v => v.oneCell' && (match v with | .int k n => (Lit.int k n).wf | .string s => decide (s.size ≤ maxLen) | _ => true)) then .v (.agg (cs.toList.map fun v => .d (.pv v))) else .v (.c .dead)
  | .tuple _ => .v (.c .dead)
  | .int k n => if (Lit.int k n).wf then pvA (.int k n) else .v (.c .dead)
  | .string s => if s.size ≤ maxLen then pvA (.string s) else .v (.c .dead)
  | v => pvA v
def ev (env : Nat → AV) : Operand → AV
  | .tmp t => env t
  | .const v => constA v
  | .func f => .v (.c (.d (.fn f [])))
  | .global _ => .v (.c .dead)
section
variable {w : World} {R : Nat → Prop} {ι : Nat → Value} {dom : Nat → Prop}
theorem constA_ok (v : Value) : RA w R ι dom v (constA v) := by
  unfold constA
  split
  · rename_i cs
    split
    · rename_i h
      refine ⟨cs.toList, by simp, F2.of_get (by simp) fun i a b ha hb => ?_⟩
      rw [List.getElem?_map, ha] at hb
      obtain rfl := Option.some.inj hb
      have := List.all_eq_true.1 h a (List.mem_of_getElem? ha)
      simp only [Bool.and_eq_true] at this
      refine .pv this.1 ?_
      have h2 := this.2
      unfold okI
      split at h2 <;> simp_all
    · trivial
  · trivial
  · split
    · rename_i h; exact RD.pv rfl h
    · trivial
  · split
    · rename_i h; exact RD.pv rfl h
    · trivial
  · rename_i h1 h2 h3 h4
    refine RD.pv ?_ ?_
    · cases v <;> first | rfl | (exfalso; exact h1 _ rfl) | (exfalso; exact h2 _ rfl)
    · cases v <;> first | trivial | (exfalso; exact h3 _ _ rfl) | (exfalso; exact h4 _ rfl)
theorem ev_ok {env : Nat → AV} {a : Act} (h : ∀ d, RA w R ι dom (a.tmps.getD d undef) (env d)) (x : Operand) : RA w R ι dom (a.eval x) (ev env x) := by
  cases x with
  | tmp t => exact h t
  | const v => exact constA_ok v
  | func f => exact RD.fn (vs := []) rfl (by simp)
  | global g => trivial
end
def tyInfo (P : Program) (T : TypeId) : Option (Bool × Nat) :=
  match P.underlying T, P.info? T with
  | some (.struct _), some i | some (.array _ _), some i => some (true, i.size)
  | some _, some i => some (false, i.size)
  | _, _ => none
def fieldOff (P : Program) (T : TypeId) (f : Nat) : Option Nat :=
  match P.underlying T with
  | some (.struct fs) => match fs[f]? with
    | some fd => if P.cellsOf fd.type = 0 then none else some fd.offset
    | none => none
  | _ => none
def sliceTy (P : Program) (T : TypeId) : Option Ky :=
  match P.underlying T with
  | some (.slice e) => (P.info? e).map fun i => ⟨e, i.size⟩
  | _ => none
section
variable {P : Program} {T : TypeId} {w : World}
theorem run_tyInfo {ag : Bool} {s : Nat} (h : tyInfo P T = some (ag, s)) : (isAgg T).run P w = .ok ag w ∧ (sizeOf T).run P w = .ok s w := by
  unfold tyInfo at h
  split at h
  · rename_i fs i h1 h2
    cases h
    exact ⟨by simp [isAgg, run_underlying h1], by simp [sizeOf, typeInfo, h2]⟩
  · rename_i n e i h1 h2
    cases h
    exact ⟨by simp [isAgg, run_underlying h1], by simp [sizeOf, typeInfo, h2]⟩
  · rename_i d i hn1 hn2 h1 h2
    cases h
    refine ⟨?_, by simp [sizeOf, typeInfo, h2]⟩
    simp only [isAgg, Sem.run_bind, run_underlying h1, Result.andThen_ok]
    rfl
  · cases h
theorem run_fieldOff {f o g off : Nat} (h : fieldOff P T f = some o) : (Instr.fieldAt T (.pointer (some ⟨g, off, none⟩)) f).run P w = .ok (.pointer (some ⟨g, off + o, none⟩)) w := by
  unfold fieldOff at h
  split at h
  · rename_i fs h1
    split at h
    · rename_i fd h2
      split at h
      · cases h
      · rename_i h3
        cases h
        have hi : ∃ i, P.info? fd.type = some i ∧ i.size ≠ 0 := by
          unfold Program.cellsOf at h3
          cases hp : P.info? fd.type with
          | none => simp [hp] at h3
          | some i => exact ⟨i, rfl, by simpa [hp] using h3⟩
        obtain ⟨i, hi, hz⟩ := hi
        simp [Instr.fieldAt, run_underlying h1, h2, Instr.sureAddr, fieldPlace, sizeOf, typeInfo, hi, hz, Addr.add_lit]
    · cases h
  · cases h
theorem run_sliceTy {κ : Ky} (h : sliceTy P T = some κ) : P.underlying T = some (.slice κ.e) ∧ (P.info? κ.e).map (·.size) = some κ.k := by
  unfold sliceTy at h
  split at h
  · rename_i e' h1
    cases hi : P.info? e' with
    | none => simp [hi] at h
    | some i => simp only [hi, Option.map_some, Option.some.injEq] at h; subst h; exact ⟨h1, by simp [hi]⟩
  · cases h
end
def strV (op : BinOp) (x y : ByteArray) : Option Value :=
  match op with
  | .add => if x.size + y.size ≤ maxLen then some (.string (x ++ y)) else none
  | .eql => some (.bool (x.toList == y.toList))
  | .neq => some (.bool !(x.toList == y.toList))
  | .lss => some (.bool (Op.bytesLess x.toList y.toList))
  | _ => none
def cmpV (op : BinOp) (x y : Int) : Option Value :=
  match op with
  | .eql => some (.bool (x == y))
  | .neq => some (.bool (x != y))
  | .lss => some (.bool (decide (x < y)))
  | .leq => some (.bool (decide (x ≤ y)))
  | .gtr => some (.bool (decide (x > y)))
  | .geq => some (.bool (decide (x ≥ y)))
  | _ => none
def numV (op : BinOp) (k : IntKind) (x y : Int) : Option Value :=
  match op with
  | .add => some (.int k (k.wrap (x + y)))
  | .sub => some (.int k (k.wrap (x - y)))
  | .mul => some (.int k (k.wrap (x * y)))
  | .quo => if y = 0 then none else some (.int k (k.wrap (x.tdiv y)))
  | .rem => if y = 0 then none else some (.int k (x.tmod y))
  | .and => some (.int k (k.wrap (BitVec.ofInt k.bits x &&& BitVec.ofInt k.bits y).toNat))
  | .or => some (.int k (k.wrap (BitVec.ofInt k.bits x ||| BitVec.ofInt k.bits y).toNat))
  | .xor => some (.int k (k.wrap (BitVec.ofInt k.bits x ^^^ BitVec.ofInt k.bits y).toNat))
  | .andNot => some (.int k (k.wrap (BitVec.ofInt k.bits x &&& ~~~ BitVec.ofInt k.bits y).toNat))
  | .shl => none
  | .shr => none
  | op => cmpV op x y
def shV (op : BinOp) (k : IntKind) (x y : Int) : Option Value :=
  if y < 0 then none else
  match op with
  | .shl => some (.int k (k.wrap (x * 2 ^ min y.toNat k.bits)))
  | .shr => some (.int k (x.fdiv (2 ^ min y.toNat k.bits)))
  | _ => none
def boolV (P : Program) (T : TypeId) (op : BinOp) (x y : Bool) : Option Value :=
  match P.underlying T with
  | some .bool => match op with
    | .eql => some (.bool (x == y))
    | .neq => some (.bool !(x == y))
    | _ => none
  | _ => none
def binV (P : Program) (T : TypeId) (op : BinOp) (a b : Value) : Option Value :=
  match a, b with
  | .int k x, .int k' y => match op with
    | .shl => shV .shl k x y
    | .shr => shV .shr k x y
    | op => if k = k' then numV op k x y else none
  | .bool x, .bool y => boolV P T op x y
  | .string x, .string y => strV op x y
  | _, _ => none
section
variable {P : Program} {T : TypeId} {w : World}
theorem run_numV {op : BinOp} {k : IntKind} {x y : Int} {r : Value} (h1 : op ≠ .shl) (h2 : op ≠ .shr) (h : numV op k x y = some r) : (binOp op T (.int k x) (.int k y)).run P w = .ok r w := by
  cases op <;> simp only [numV, cmpV, reduceCtorEq] at h <;> first
    | exact absurd rfl h1
    | exact absurd rfl h2
    | (cases h; simp [binOp, Op.intArith, Op.intBits, Op.intCmp]; done)
    | (split at h <;> first | (cases h; done) | (rename_i hy; cases h; simp [binOp, Op.intDiv, hy]))
theorem run_guard_int {op : BinOp} {x y : Operand} {k k' : IntKind} {u v : Int} : (eqGuard op T x y (.int k u) (.int k' v)).run P w = .ok () w := by cases op <;> rfl
theorem run_guard_bool {op : BinOp} {x y : Operand} {u v : Bool} : (eqGuard op T x y (.bool u) (.bool v)).run P w = .ok () w := by cases op <;> rfl
theorem run_guard_str {op : BinOp} {x y : Operand} {u v : ByteArray} : (eqGuard op T x y (.string u) (.string v)).run P w = .ok () w := by cases op <;> rfl
theorem run_eq_bool {u v : Bool} (ht : P.underlying T = some .bool) : (Op.equal T (.bool u) (.bool v)).run P w = .ok (u == v) w := by
  unfold Op.equal
  show (Op.equalIn (9999 + 1) T _ _).run P w = _
  rw [Op.equalIn]
  simp only [Sem.run_bind, run_underlying ht, Result.andThen_ok]
  rfl
theorem run_binV {op : BinOp} {x y : Operand} {a b r : Value} (h : binV P T op a b = some r) : (do eqGuard op T x y a b; binOp op T a b : Sem Value).run P w = .ok r w := by
  unfold binV at h
  split at h
  · rename_i k u k' v
    rw [Sem.run_bind, run_guard_int]
    simp only [Result.andThen_ok]
    split at h
    · simp only [shV] at h
      split at h
      · cases h
      · rename_i hy; cases h; simp [binOp, Op.shift, hy]
    · simp only [shV] at h
      split at h
      · cases h
      · rename_i hy; cases h; simp [binOp, Op.shift, hy]
    · rename_i n1 n2
      split at h
      · rename_i hk; subst hk; exact run_numV n1 n2 h
      · cases h
  · rename_i u v
    rw [Sem.run_bind, run_guard_bool]
    simp only [Result.andThen_ok]
    unfold boolV at h
    split at h
    · rename_i ht
      split at h <;> first
        | (cases h; done)
        | (cases h; show (do pure (.bool (← Op.equal T _ _)) : Sem Value).run P w = _; rw [Sem.run_bind, run_eq_bool ht]; rfl)
        | (cases h; show (do pure (.bool (!(← Op.equal T _ _))) : Sem Value).run P w = _; rw [Sem.run_bind, run_eq_bool ht]; rfl)
    · cases h
  · rename_i u v
    rw [Sem.run_bind, run_guard_str]
    simp only [Result.andThen_ok]
    unfold strV at h
    split at h <;> first
      | (cases h; done)
      | (cases h; simp [binOp, Op.stringOp]; done)
      | (split at h
         · rename_i hs; cases h
           unfold maxLen at hs
           simp only [binOp, Op.stringOp]
           rw [if_neg (by simp [IntKind.max, IntKind.signed, IntKind.bits]; omega)]
           rfl
         · cases h)
  · cases h
theorem wf_iff (k : IntKind) (n : Int) : (Lit.int k n).wf = true ↔ k.min ≤ n ∧ n ≤ k.max := Lit.wf_int_iff k n
theorem wf_rem {k : IntKind} {x y : Int} (hx : (Lit.int k x).wf = true) : (Lit.int k (x.tmod y)).wf = true := by
  rw [wf_iff] at *
  have h0 : k.min ≤ 0 ∧ 0 ≤ k.max := by cases k <;> simp [IntKind.min, IntKind.max, IntKind.signed, IntKind.bits]
  rcases Int.le_total 0 x with h | h
  · have h1 := Int.tmod_nonneg y h
    have h2 : x.tmod y ≤ x := by
      obtain ⟨n, rfl⟩ := Int.eq_ofNat_of_zero_le h
      rw [← Int.natAbs_of_nonneg h1, Int.natAbs_tmod]
      have := Nat.mod_le ((n : Int).natAbs) y.natAbs
      simp at this ⊢
      omega
    omega
  · have h1 : x.tmod y ≤ 0 := by
      have := Int.tmod_nonneg y (a := -x) (by omega)
      rw [Int.neg_tmod] at this
      omega
    have h2 : x ≤ x.tmod y := by
      have e : ((x.tmod y).natAbs : Int) ≤ x.natAbs := by
        rw [Int.natAbs_tmod]
        have := Nat.mod_le x.natAbs y.natAbs
        omega
      omega
    omega
theorem wf_shr {k : IntKind} {x : Int} {n : Nat} (hx : (Lit.int k x).wf = true) : (Lit.int k (x.fdiv (2 ^ n))).wf = true := by
  rw [wf_iff] at *
  have h0 : k.min ≤ 0 ∧ 0 ≤ k.max := by cases k <;> simp [IntKind.min, IntKind.max, IntKind.signed, IntKind.bits]
  have hp : (0 : Int) < 2 ^ n := Int.pow_pos (by omega)
  rw [Int.fdiv_eq_ediv_of_nonneg _ (by omega)]
  rcases Int.le_total 0 x with h | h
  · have h1 := Int.ediv_nonneg h (Int.le_of_lt hp)
    have h2 := Int.ediv_le_self (2 ^ n) h
    omega
  · have h1 : x / 2 ^ n ≤ 0 := by
      have := Int.ediv_nonneg_iff_of_pos hp (a := x)
      rcases Int.lt_or_le 0 (x / 2 ^ n) with h' | h'
      · have := this.1 (by omega)
        have hx0 : x = 0 := by omega
        subst hx0; simp
      · exact h'
    have h2 : x ≤ x / 2 ^ n := by
      rw [Int.le_ediv_iff_mul_le hp]
      have : 1 ≤ (2 : Int) ^ n := hp
      have := Int.mul_le_mul_of_nonpos_left (a := x) h this
      omega
    omega
theorem okI_binV {op : BinOp} {a b r : Value} (ha : okI a) (h : binV P T op a b = some r) : r.oneCell' = true ∧ okI r := by
  unfold binV at h
  split at h
  · rename_i k u k' v
    have hu : (Lit.int k u).wf = true := ha
    split at h
    · simp only [shV] at h
      split at h
      · cases h
      · cases h; exact ⟨rfl, WideShapes.wf_wrap _ _⟩
    · simp only [shV] at h
      split at h
      · cases h
      · cases h; exact ⟨rfl, wf_shr hu⟩
    · split at h
      · rename_i hk; subst hk
        unfold numV at h
        split at h <;> first
          | (cases h; exact ⟨rfl, WideShapes.wf_wrap _ _⟩)
          | (cases h; done)
          | (split at h <;> first | (cases h; done) | (cases h; first | exact ⟨rfl, WideShapes.wf_wrap _ _⟩ | exact ⟨rfl, wf_rem hu⟩))
          | (unfold cmpV at h; split at h <;> cases h <;> exact ⟨rfl, trivial⟩)
      · cases h
  · unfold boolV at h
    split at h
    · split at h <;> cases h <;> exact ⟨rfl, trivial⟩
    · cases h
  · unfold strV at h
    split at h <;> first
      | (cases h; exact ⟨rfl, trivial⟩)
      | (cases h; done)
      | (split at h
         · rename_i hs; cases h; exact ⟨rfl, by simpa [okI] using hs⟩
         · cases h)
  · cases h
end
end
end Go.Proofs.YtehkaajakapkmaaGreat
