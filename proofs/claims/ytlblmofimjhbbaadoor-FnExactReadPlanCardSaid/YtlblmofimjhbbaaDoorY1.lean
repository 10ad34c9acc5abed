/- Values as they are known: what a slot, a variable or a slice of a call holds, told without its place in memory. No program is named here. -/
import Derived.WalkKit
import Derived.Below
import Derived.Maps.AppendAt
import Derived.Laws.CopyRow
import Derived.Deep.Draws
import Derived.KernelRfl
import Derived.WideShapes4
import Derived.IntWalk
namespace Go.Proofs.YtlblmofimjhbbaaDoor
open Go.RowKit
/-- Two lists, place by place. -/
inductive F2 {α β : Type} (r : α → β → Prop) : List α → List β → Prop
  | nil : F2 r [] []
  | cons {a : α} {b : β} {as : List α} {bs : List β} : r a b → F2 r as bs → F2 r (a :: as) (b :: bs)
section
variable {α β : Type} {r r' : α → β → Prop}
theorem F2.mono (h : ∀ a b, r a b → r' a b) : ∀ {as : List α} {bs : List β}, F2 r as bs → F2 r' as bs
  | _, _, .nil => .nil
  | _, _, .cons h1 h2 => .cons (h _ _ h1) (h2.mono h)
theorem F2.len : ∀ {as : List α} {bs : List β}, F2 r as bs → as.length = bs.length
  | _, _, .nil => rfl
  | _, _, .cons _ h2 => by simp [h2.len]
theorem F2.get : ∀ {as : List α} {bs : List β} {i : Nat} {b : β}, F2 r as bs → bs[i]? = some b → ∃ a, as[i]? = some a ∧ r a b
  | _, _, i, _, .nil, h => by simp at h
  | _, _, 0, _, .cons h1 _, h => by simp at h; subst h; exact ⟨_, rfl, h1⟩
  | _, _, i + 1, _, .cons _ h2, h => by simpa using h2.get (i := i) (by simpa using h)
theorem F2.get_left : ∀ {as : List α} {bs : List β} {i : Nat} {a : α}, F2 r as bs → as[i]? = some a → ∃ b, bs[i]? = some b ∧ r a b
  | _, _, i, _, .nil, h => by simp at h
  | _, _, 0, _, .cons h1 _, h => by simp at h; subst h; exact ⟨_, rfl, h1⟩
  | _, _, i + 1, _, .cons _ h2, h => by simpa using h2.get_left (i := i) (by simpa using h)
theorem F2.of_get : ∀ {as : List α} {bs : List β}, as.length = bs.length → (∀ (i : Nat) (a : α) (b : β), as[i]? = some a → bs[i]? = some b → r a b) → F2 r as bs
  | [], [], _, _ => .nil
  | a :: as, b :: bs, hl, h => .cons (h 0 a b rfl rfl) (F2.of_get (by simpa using hl) fun i x y hx hy => h (i + 1) x y (by simpa using hx) (by simpa using hy))
  | [], _ :: _, hl, _ => by simp at hl
  | _ :: _, [], hl, _ => by simp at hl
theorem F2.set : ∀ {as : List α} {bs : List β} {a : α} {b : β} (i : Nat), F2 r as bs → r a b → F2 r (as.set i a) (bs.set i b)
  | _, _, _, _, _, .nil, _ => .nil
  | _, _, _, _, 0, .cons _ h2, h => .cons h h2
  | _, _, _, _, i + 1, .cons h1 h2, h => .cons h1 (h2.set i h)
theorem F2.append : ∀ {as as' : List α} {bs bs' : List β}, F2 r as bs → F2 r as' bs' → F2 r (as ++ as') (bs ++ bs')
  | _, _, _, _, .nil, h => h
  | _, _, _, _, .cons h1 h2, h => .cons h1 (h2.append h)
theorem F2.drop : ∀ {as : List α} {bs : List β} (n : Nat), F2 r as bs → F2 r (as.drop n) (bs.drop n)
  | _, _, 0, h => h
  | _, _, _ + 1, .nil => .nil
  | _, _, n + 1, .cons _ h2 => h2.drop n
theorem F2.take : ∀ {as : List α} {bs : List β} (n : Nat), F2 r as bs → F2 r (as.take n) (bs.take n)
  | _, _, 0, _ => .nil
  | _, _, _ + 1, .nil => .nil
  | _, _, n + 1, .cons h1 h2 => .cons h1 (h2.take n)
theorem F2.mem_left : ∀ {as : List α} {bs : List β} {a : α}, F2 r as bs → a ∈ as → ∃ b, r a b
  | _, _, _, .cons h1 h2, h => by
    rcases List.mem_cons.1 h with rfl | h
    · exact ⟨_, h1⟩
    · exact h2.mem_left h
end
/-- A kind of slice: its element type, the cells of an element. -/
structure Ky where
  e : TypeId
  k : Nat
/-- What a cell holds that nobody turns; or, within an array of the call's own, what the cell alone owns. -/
inductive D where
  | pv (v : Value)
  | rd (κ : Ky) (xs : List (List D))
  | rp (cs : List D)
  | fn (f : FuncId) (caps : List D)
  | mp (es : List (Value × Value))
/-- A number within its kind, a string that memory bears. -/
def okI : Value → Prop
  | .int k n => (Lit.int k n).wf = true
  | .string s => s.size ≤ maxLen
  | _ => True
/-- The value is that datum, all its memory within the blocks R. -/
inductive RD (W : World) (R : Nat → Prop) : Value → D → Prop
  | pv {v : Value} (h : v.oneCell' = true) (hi : okI v) : RD W R v (.pv v)
  | nil {a : Option Addr} {cap : Nat} {κ : Ky} : RD W R (.slice a 0 cap) (.rd κ [])
  | rd {κ : Ky} {xs : List (List D)} {b off cap : Nat} (c : Nat → Nat → Value) (h0 : 0 < xs.length) (h1 : xs.length ≤ cap) (h2 : cap ≤ maxLen) (hR : R b) (hk : ∀ (i : Nat) (es : List D), xs[i]? = some es → es.length = κ.k)
      (hc : ∀ (i : Nat) (es : List D) (j : Nat), xs[i]? = some es → j < κ.k → W.cell? ⟨b, off + i * κ.k + j, none⟩ = some (c i j))
      (hr : ∀ (i : Nat) (es : List D) (j : Nat) (d : D), xs[i]? = some es → es[j]? = some d → RD W R (c i j) d) : RD W R (.slice (some ⟨b, off, none⟩) xs.length cap) (.rd κ xs)
  | rp {cs : List D} {b off : Nat} (c : Nat → Value) (hR : R b) (hc : ∀ j : Nat, j < cs.length → W.cell? ⟨b, off + j, none⟩ = some (c j)) (hr : ∀ (j : Nat) (d : D), cs[j]? = some d → RD W R (c j) d) : RD W R (.pointer (some ⟨b, off, none⟩)) (.rp cs)
  | fn {f : FuncId} {caps : List D} {vs : List Value} (hl : vs.length = caps.length) (hr : ∀ (j : Nat) (v : Value) (d : D), vs[j]? = some v → caps[j]? = some d → RD W R v d) : RD W R (.func (.func f) #[] vs.toArray) (.fn f caps)
  | mp {g clock : Nat} {ms : Array MapEntry} {es : List (Value × Value)} (hR : R g) (h : W.heap[g]? = some (.map ms clock)) (he : ms.toList.map (fun e => (e.key, e.val)) = es) : RD W R (.map (some g)) (.mp es)
theorem RD.one {W : World} {R : Nat → Prop} {v : Value} {d : D} (h : RD W R v d) : v.oneCell' = true := by
  cases h with
  | pv h _ => exact h
  | _ => rfl
theorem cell_of_block {W W' : World} {b : Nat} (e : W'.heap[b]? = W.heap[b]?) (o : Nat) : W'.cell? ⟨b, o, none⟩ = W.cell? ⟨b, o, none⟩ := by simp [World.cell?, e]
theorem RD.keep {W W' : World} {R R' : Nat → Prop} (hs : ∀ b, R b → R' b) (he : ∀ b, R b → W'.heap[b]? = W.heap[b]?) {v : Value} {d : D} (h : RD W R v d) : RD W' R' v d := by
  induction h with
  | pv h hi => exact .pv h hi
  | nil => exact .nil
  | rd c h0 h1 h2 hR hk hc _ ih => exact .rd c h0 h1 h2 (hs _ hR) hk (fun i es j hi hj => (cell_of_block (he _ hR) _).trans (hc i es j hi hj)) ih
  | rp c hR hc _ ih => exact .rp c (hs _ hR) (fun j hj => (cell_of_block (he _ hR) _).trans (hc j hj)) ih
  | fn hl _ ih => exact .fn hl ih
  | mp hR h he2 => exact .mp (hs _ hR) ((he _ hR).trans h) he2
def pureD : D → Bool
  | .pv _ => true
  | _ => false
theorem pure_RD {w w' : World} {R R' : Nat → Prop} {v : Value} {d : D} (h : RD w R v d) (hd : pureD d = true) : RD w' R' v d := by
  cases h with
  | pv q1 q2 => exact .pv q1 q2
  | _ => cases hd
/-- Cells that own what they hold: the third list tells the blocks. -/
inductive ET (W : World) : List Value → List D → List Nat → Prop
  | nil : ET W [] [] []
  | pv {v : Value} {vs : List Value} {ds : List D} {S : List Nat} (h : v.oneCell' = true) (hi : okI v) (h2 : ET W vs ds S) : ET W (v :: vs) (.pv v :: ds) S
  | rd {v : Value} {κ : Ky} {xs : List (List D)} {us vs : List Value} {ds : List D} {S1 S2 : List Nat} (hk : ∀ es ∈ xs, es.length = κ.k) (ho : W.ownsRow 0 κ.e κ.k v xs.length us) (h1 : ET W us xs.flatten S1) (h2 : ET W vs ds S2) :
      ET W (v :: vs) (.rd κ xs :: ds) (v.ownBlock.toList ++ (S1 ++ S2))
theorem ET.len {W : World} {vs : List Value} {ds : List D} {S : List Nat} (h : ET W vs ds S) : vs.length = ds.length := by
  induction h with
  | nil => rfl
  | pv _ _ _ ih => simp [ih]
  | rd _ _ _ _ _ ih => simp [ih]
theorem ownsRow_one {W : World} {B e k n : Nat} {v : Value} {us : List Value} (h : W.ownsRow B e k v n us) : v.oneCell' = true := by
  rcases h.2 with ⟨rfl, _⟩ | ⟨g, cap, cur, rfl, _⟩ <;> rfl
theorem ET.one {W : World} {vs : List Value} {ds : List D} {S : List Nat} (h : ET W vs ds S) : ∀ v ∈ vs, v.oneCell' = true := by
  induction h with
  | nil => intro v hv; cases hv
  | pv h _ _ ih =>
    intro u hu
    rcases List.mem_cons.1 hu with rfl | hu
    · exact h
    · exact ih u hu
  | rd _ ho _ _ _ ih =>
    intro u hu
    rcases List.mem_cons.1 hu with rfl | hu
    · exact ownsRow_one ho
    · exact ih u hu
theorem ownsRow_keep {W W' : World} {B e k n : Nat} {v : Value} {us : List Value} (h : W.ownsRow B e k v n us) (he : ∀ g, v.ownBlock = some g → W'.heap[g]? = W.heap[g]?) : W'.ownsRow B e k v n us := by
  refine ⟨h.1, ?_⟩
  rcases h.2 with h2 | ⟨g, cap, cur, hv, hb, hh, r⟩
  · exact .inl h2
  · exact .inr ⟨g, cap, cur, hv, hb, (he g (by rw [hv]; rfl)).trans hh, r⟩
theorem ET.keep {W W' : World} {vs : List Value} {ds : List D} {S : List Nat} (h : ET W vs ds S) : (∀ b ∈ S, W'.heap[b]? = W.heap[b]?) → ET W' vs ds S := by
  induction h with
  | nil => intro _; exact .nil
  | pv h hi _ ih => intro he; exact .pv h hi (ih he)
  | rd hk ho _ _ ih1 ih2 =>
    intro he
    exact .rd hk (ownsRow_keep ho fun g hg => he g (by simp [hg])) (ih1 fun b hb => he b (by simp [hb])) (ih2 fun b hb => he b (by simp [hb]))
theorem ET.lt {W : World} {vs : List Value} {ds : List D} {S : List Nat} (h : ET W vs ds S) : ∀ b ∈ S, b < W.heap.size := by
  induction h with
  | nil => intro b hb; cases hb
  | pv _ _ _ ih => exact ih
  | rd _ ho _ _ ih1 ih2 =>
    intro b hb
    simp only [List.mem_append] at hb
    rcases hb with hb | hb | hb
    · exact (ho.lt b (by simpa using hb)).2
    · exact ih1 b hb
    · exact ih2 b hb
theorem ET.append {W : World} {vs : List Value} {ds : List D} {S : List Nat} (h : ET W vs ds S) : ∀ {vs' : List Value} {ds' : List D} {S' : List Nat}, ET W vs' ds' S' → ET W (vs ++ vs') (ds ++ ds') (S ++ S') := by
  induction h with
  | nil => intro _ _ _ h; exact h
  | pv h hi _ ih => intro _ _ _ h'; exact .pv h hi (ih h')
  | rd hk ho h1 _ _ ih =>
    intro _ _ _ h'
    rw [List.append_assoc, List.append_assoc]
    exact .rd hk ho h1 (ih h')
/-- Plain cells own nothing. -/
theorem ET.of_pure {W : World} {R : Nat → Prop} : ∀ {vs : List Value} {ds : List D}, F2 (RD W R) vs ds → (∀ d ∈ ds, pureD d = true) → ET W vs ds []
  | _, _, .nil, _ => .nil
  | _, _, .cons (b := d) h1 h2, h => by
    have := h d (by simp)
    cases h1 with
    | pv q1 q2 => exact .pv q1 q2 (ET.of_pure h2 fun d hd => h d (by simp [hd]))
    | _ => cases this
/-- A cell of an array of the call's own: what it owns, or a hole: what is there is the slice that an object of the call is, or it is not told. -/
inductive Cl where
  | d (x : D)
  | h (l : Option Nat)
/-- What a cell of the call holds: such a datum; a pointer into a variable of the call; the slice that an array of the call is; a pointer to one of its elements; or something that is not known. -/
inductive B where
  | d (x : D)
  | ptr (o off : Nat)
  | own (o : Nat)
  | ep (o k i off : Nat)
  | rel (o : Nat) (q : Value → Value)
  | dead
def RB (W : World) (R : Nat → Prop) (ι : Nat → Value) (dom : Nat → Prop) (v : Value) : B → Prop
  | .d x => RD W R v x
  | .ptr o off => dom o ∧ ∃ g, ι o = .pointer (some ⟨g, 0, none⟩) ∧ v = .pointer (some ⟨g, off, none⟩)
  | .own o => dom o ∧ v = ι o
  | .ep o k i off => dom o ∧ ∃ g n cap, ι o = .slice (some ⟨g, 0, none⟩) n cap ∧ v = .pointer (some ⟨g, i * k + off, none⟩)
  | .rel o q => dom o ∧ v = q (ι o)
  | .dead => True
inductive EH (W : World) (ι : Nat → Value) (dom : Nat → Prop) : List Value → List Cl → List Nat → Prop
  | nil : EH W ι dom [] [] []
  | d {v : Value} {x : D} {vs : List Value} {cs : List Cl} {S1 S2 : List Nat} (h1 : ET W [v] [x] S1) (h2 : EH W ι dom vs cs S2) : EH W ι dom (v :: vs) (.d x :: cs) (S1 ++ S2)
  | h {v : Value} {l : Option Nat} {vs : List Value} {cs : List Cl} {S : List Nat} (h1 : v.oneCell' = true) (hl : ∀ o, l = some o → dom o ∧ v = ι o) (h2 : EH W ι dom vs cs S) : EH W ι dom (v :: vs) (.h l :: cs) S
inductive V1 where
  | c (x : B)
  | agg (xs : List B)
inductive AV where
  | v (x : V1)
  | tup (xs : List V1)
def RV1 (W : World) (R : Nat → Prop) (ι : Nat → Value) (dom : Nat → Prop) (v : Value) : V1 → Prop
  | .c x => RB W R ι dom v x
  | .agg xs => ∃ vs : List Value, v = .agg vs.toArray ∧ F2 (RB W R ι dom) vs xs
def RA (W : World) (R : Nat → Prop) (ι : Nat → Value) (dom : Nat → Prop) (v : Value) : AV → Prop
  | .v x => RV1 W R ι dom v x
  | .tup xs => ∃ vs : List Value, v = .tuple vs.toArray ∧ F2 (RV1 W R ι dom) vs xs
/-- A hole: element, cell, the object that lies there. -/
structure Ho where
  i : Nat
  j : Nat
  l : Option Nat
/-- What an object of the call is: a variable (its cells), an array (its elements, k cells each, and its holes). -/
inductive Ob where
  | box (T : TypeId) (cs : List B)
  | arr (κ : Ky) (xs : List (List D)) (hs : List Ho)
  | mp (es : List (Value × Value))
  | val (l : List (Value × D))
def punch (k : Nat) (cs : List Cl) : List Ho → List Cl
  | [] => cs
  | h :: hs => if h.j < k then (punch k cs hs).set (h.i * k + h.j) (.h h.l) else punch k cs hs
/-- The cells of an array. -/
def cellsH (k : Nat) (xs : List (List D)) (hs : List Ho) : List Cl := punch k (xs.flatten.map .d) hs
structure St where
  env : Nat → AV
  objs : Nat → Option Ob
def domO (objs : Nat → Option Ob) (o : Nat) : Prop := ∃ x, objs o = some x
abbrev St.dom (st : St) (o : Nat) : Prop := domO st.objs o
def upd {α : Type} (f : Nat → α) (d : Nat) (v : α) : Nat → α := fun x => if x = d then v else f x
theorem upd_same {α : Type} (f : Nat → α) (d : Nat) (v : α) : upd f d v d = v := by simp [upd]
theorem upd_ne {α : Type} (f : Nat → α) {d x : Nat} (v : α) (h : x ≠ d) : upd f d v x = f x := by simp [upd, h]
/-- The slice v is an array of the call's own: it holds these cells; the list tells its blocks. -/
def RArr (W : World) (ι : Nat → Value) (dom : Nat → Prop) (v : Value) (κ : Ky) (xs : List (List D)) (hs : List Ho) (S : List Nat) : Prop :=
  (∀ es ∈ xs, es.length = κ.k) ∧ ∃ vs S1, W.ownsRow 0 κ.e κ.k v xs.length vs ∧ EH W ι dom vs (cellsH κ.k xs hs) S1 ∧ S = v.ownBlock.toList ++ S1 ∧ S.Nodup
/-- The value v is a map of the call's own: these keys, these values, in the order of their coming. -/
def RMap (W : World) (v : Value) (es : List (Value × Value)) (S : List Nat) : Prop :=
  ∃ g clock ms, v = .map (some g) ∧ S = [g] ∧ W.heap[g]? = some (.map ms clock) ∧ ms.toList.map (fun e => (e.key, e.val)) = es
def RO (W : World) (R : Nat → Prop) (ι : Nat → Value) (dom : Nat → Prop) (v : Value) (S : List Nat) : Ob → Prop
  | .box T cs => ∃ g vs, v = .pointer (some ⟨g, 0, none⟩) ∧ S = [g] ∧ W.heap[g]? = some (.cells vs.toArray T (0, 0)) ∧ F2 (RB W R ι dom) vs cs
  | .arr κ xs hs => RArr W ι dom v κ xs hs S
  | .mp es => RMap W v es S
  | .val l => v.oneCell' = true ∧ S = [] ∧ ∀ p ∈ l, RD W R p.1 p.2
/-- Of the world nothing has turned that was there, but for the blocks M. -/
structure BelowM (M : Nat → Prop) (w w' : World) : Prop where
  os : w'.os = w.os
  tape : w'.tape = w.tape
  output : w'.output = w.output
  size : w.heap.size ≤ w'.heap.size
  block : ∀ k, k < w.heap.size → ¬ M k → w'.heap[k]? = w.heap[k]?
theorem BelowM.refl (M : Nat → Prop) (w : World) : BelowM M w w := ⟨rfl, rfl, rfl, Nat.le_refl _, fun _ _ _ => rfl⟩
theorem BelowM.then {M : Nat → Prop} {a b c : World} (h : BelowM M a b) (k : Below b.heap.size b c) : BelowM M a c :=
  ⟨k.os.trans h.os, k.tape.trans h.tape, k.output.trans h.output, Nat.le_trans h.size k.size, fun i hi hm => (k.block i (Nat.lt_of_lt_of_le hi h.size)).trans (h.block i hi hm)⟩
theorem BelowM.trans {M M' : Nat → Prop} {a b c : World} (h : BelowM M a b) (k : BelowM M' b c) (hM : ∀ g, M' g → M g ∨ a.heap.size ≤ g) : BelowM M a c :=
  ⟨k.os.trans h.os, k.tape.trans h.tape, k.output.trans h.output, Nat.le_trans h.size k.size, fun i hi hm => (k.block i (Nat.lt_of_lt_of_le hi h.size) fun hm' => (hM i hm').elim hm fun hle => by omega).trans (h.block i hi hm)⟩
theorem BelowM.of_below {M : Nat → Prop} {w w' : World} (h : Below w.heap.size w w') : BelowM M w w' := ⟨h.os, h.tape, h.output, h.size, fun k hk _ => h.block k hk⟩
theorem BelowM.below {M : Nat → Prop} {w w' : World} (h : BelowM M w w') (hM : ∀ g, ¬ M g) : Below w.heap.size w w' := ⟨h.os, h.tape, h.output, h.size, fun k hk => h.block k hk (hM k)⟩
/-- From here on an object stays where it lies. -/
abbrev pinN : Nat := 1000000
/-- Package-level variables of the library that this text's programs read (block, kind): 0: a table that the program's text lays; 1: a number, whatever it is; 2: an error or nil. -/
def tabG : List (Nat × Nat) := [(0, 0), (1, 1), (6, 2), (7, 2)]
def tabCells : Array Value := #[.int .u64 1, .int .u64 10, .int .u64 100, .int .u64 1000, .int .u64 10000, .int .u64 100000, .int .u64 1000000, .int .u64 10000000, .int .u64 100000000, .int .u64 1000000000, .int .u64 10000000000, .int .u64 100000000000, .int .u64 1000000000000, .int .u64 10000000000000, .int .u64 100000000000000, .int .u64 1000000000000000, .int .u64 10000000000000000, .int .u64 100000000000000000, .int .u64 1000000000000000000, .int .u64 10000000000000000000]
def tabP : Nat → Array Value → Prop
  | 0, cs => cs = tabCells
  | 1, cs => ∃ m : Int, cs = #[.int .i64 m]
  | 2, cs => ∃ ev, cs = #[ev] ∧ (ev = .nilIface ∨ ∃ te pe, ev = .iface te pe)
  | _, _ => True
def tabAt (w : World) (g k : Nat) : Prop := ∃ cs T p, w.heap[g]? = some (.cells cs T p) ∧ tabP k cs
theorem tabAt.lt {w : World} {g k : Nat} (h : tabAt w g k) : g < w.heap.size := by
  obtain ⟨cs, T, p, h, _⟩ := h
  rcases Nat.lt_or_ge g w.heap.size with hl | hl
  · exact hl
  · rw [Array.getElem?_eq_none hl] at h; cases h
theorem tabAt.keep {w w' : World} {g k : Nat} (h : tabAt w g k) (e : w'.heap[g]? = w.heap[g]?) : tabAt w' g k := by
  unfold tabAt at *
  rw [e]; exact h
/-- They are there, and nobody turns them. -/
def TabW (w : World) (R : Nat → Prop) : Prop := ∀ x ∈ tabG, R x.1 ∧ tabAt w x.1 x.2
theorem TabW.keep {w w' : World} {R R' : Nat → Prop} (h : TabW w R) (hs : ∀ b, R b → R' b) (he : ∀ b, R b → w'.heap[b]? = w.heap[b]?) : TabW w' R' := fun x hx => ⟨hs _ (h x hx).1, (h x hx).2.keep (he _ (h x hx).1)⟩
/-- What the call began with: the world, the blocks it may turn, where the objects lay, what may be read; its slots. -/
structure Fx where
  w : World
  M : Nat → Prop
  ι : Nat → Value
  R : Nat → Prop
  n : Nat
  tab : TabW w R
  tabM : ∀ g, M g → ¬ R g
  ds : List Deferred
structure Sat (F : Fx) (R : Nat → Prop) (ι : Nat → Value) (φ : Nat → List Nat) (st : St) (a : Act) (w : World) : Prop where
  below : BelowM F.M F.w w
  rlt : ∀ b, R b → b < w.heap.size
  rsub : ∀ b, F.R b → R b
  rnew : ∀ b, R b → F.R b ∨ F.M b ∨ F.w.heap.size ≤ b
  size : a.tmps.size = F.n
  defers : a.defers = F.ds
  env : ∀ d, RA w R ι st.dom (a.tmps.getD d undef) (st.env d)
  objs : ∀ o x, st.objs o = some x → RO w R ι st.dom (ι o) (φ o) x
  mine : ∀ o x, st.objs o = some x → ∀ g ∈ φ o, (F.M g ∨ F.w.heap.size ≤ g) ∧ ¬ R g ∧ g < w.heap.size
  apart : ∀ o p x y g, st.objs o = some x → st.objs p = some y → g ∈ φ o → g ∈ φ p → o = p
  pin : ∀ o, pinN ≤ o → ι o = F.ι o
theorem Sat.tab {F : Fx} {R : Nat → Prop} {ι : Nat → Value} {φ : Nat → List Nat} {st : St} {a : Act} {w : World} (h : Sat F R ι φ st a w) : TabW w R := fun x hx => by
  obtain ⟨h1, h2⟩ := F.tab x hx
  exact ⟨h.rsub _ h1, h2.keep (h.below.block _ h2.lt fun hm => F.tabM _ hm h1)⟩
section
variable {w w' : World} {R R' : Nat → Prop} {ι ι' : Nat → Value} {dom dom' : Nat → Prop} {st : St} {a : Act} {F : Fx} {φ : Nat → List Nat}
theorem RB.keep (hs : ∀ b, R b → R' b) (he : ∀ b, R b → w'.heap[b]? = w.heap[b]?) (hd : ∀ o, dom o → dom' o) (hι : ∀ o, dom o → ι' o = ι o) {v : Value} : ∀ {b : B}, RB w R ι dom v b → RB w' R' ι' dom' v b
  | .d _, h => RD.keep hs he h
  | .ptr o off, ⟨h1, g, h2, h3⟩ => ⟨hd o h1, g, (hι o h1).trans h2, h3⟩
  | .own o, ⟨h1, h2⟩ => ⟨hd o h1, by rw [hι o h1]; exact h2⟩
  | .ep o k i off, ⟨h1, g, n, cap, h2, h3⟩ => ⟨hd o h1, g, n, cap, (hι o h1).trans h2, h3⟩
  | .rel o q, ⟨h1, h2⟩ => ⟨hd o h1, by rw [hι o h1]; exact h2⟩
  | .dead, _ => trivial
theorem RV1.keep (hs : ∀ b, R b → R' b) (he : ∀ b, R b → w'.heap[b]? = w.heap[b]?) (hd : ∀ o, dom o → dom' o) (hι : ∀ o, dom o → ι' o = ι o) {v : Value} : ∀ {x : V1}, RV1 w R ι dom v x → RV1 w' R' ι' dom' v x
  | .c _, h => RB.keep hs he hd hι h
  | .agg _, ⟨vs, h1, h2⟩ => ⟨vs, h1, h2.mono fun _ _ h => RB.keep hs he hd hι h⟩
theorem RA.keep (hs : ∀ b, R b → R' b) (he : ∀ b, R b → w'.heap[b]? = w.heap[b]?) (hd : ∀ o, dom o → dom' o) (hι : ∀ o, dom o → ι' o = ι o) {v : Value} : ∀ {x : AV}, RA w R ι dom v x → RA w' R' ι' dom' v x
  | .v _, h => RV1.keep hs he hd hι h
  | .tup _, ⟨vs, h1, h2⟩ => ⟨vs, h1, h2.mono fun _ _ h => RV1.keep hs he hd hι h⟩
theorem EH.keep {vs : List Value} {cs : List Cl} {S : List Nat} (h : EH w ι dom vs cs S) (hd : ∀ o, dom o → dom' o) (hι : ∀ o, dom o → ι' o = ι o) : (∀ b ∈ S, w'.heap[b]? = w.heap[b]?) → EH w' ι' dom' vs cs S := by
  induction h with
  | nil => intro _; exact .nil
  | d h1 _ ih => intro he; exact .d (h1.keep fun b hb => he b (by simp [hb])) (ih fun b hb => he b (by simp [hb]))
  | h h1 hl _ ih => intro he; exact .h h1 (fun o ho => ⟨hd o (hl o ho).1, by rw [hι o (hl o ho).1]; exact (hl o ho).2⟩) (ih he)
theorem EH.len {vs : List Value} {cs : List Cl} {S : List Nat} (h : EH w ι dom vs cs S) : vs.length = cs.length := by
  induction h with
  | nil => rfl
  | d _ _ ih => simp [ih]
  | h _ _ _ ih => simp [ih]
theorem EH.lt {vs : List Value} {cs : List Cl} {S : List Nat} (h : EH w ι dom vs cs S) : ∀ b ∈ S, b < w.heap.size := by
  induction h with
  | nil => intro b hb; cases hb
  | d h1 _ ih =>
    intro b hb
    rcases List.mem_append.1 hb with hb | hb
    · exact h1.lt b hb
    · exact ih b hb
  | h _ _ _ ih => exact ih
theorem EH.one {vs : List Value} {cs : List Cl} {S : List Nat} (h : EH w ι dom vs cs S) : ∀ v ∈ vs, v.oneCell' = true := by
  induction h with
  | nil => intro v hv; cases hv
  | d h1 _ ih =>
    intro u hu
    rcases List.mem_cons.1 hu with rfl | hu
    · exact h1.one u (by simp)
    · exact ih u hu
  | h h1 _ _ ih =>
    intro u hu
    rcases List.mem_cons.1 hu with rfl | hu
    · exact h1
    · exact ih u hu
/-- Without holes: a list of owning cells. -/
theorem EH.of_ET {vs : List Value} {ds : List D} {S : List Nat} (h : ET w vs ds S) : EH w ι dom vs (ds.map .d) S := by
  induction h with
  | nil => exact .nil
  | pv h hi _ ih => exact EH.d (S1 := []) (.pv h hi .nil) ih
  | rd hk ho h1 _ _ ih =>
    rw [← List.append_assoc]
    have := ET.rd hk ho h1 .nil
    rw [List.append_nil] at this
    exact .d this ih
theorem EH.to_ET : ∀ {vs : List Value} {ds : List D} {S : List Nat}, EH w ι dom vs (ds.map .d) S → ET w vs ds S
  | _, [], _, hh => by cases hh; exact .nil
  | _, x :: ds, _, hh => by
    cases hh with
    | d h1 h2 => exact h1.append (EH.to_ET h2)
theorem RArr.keep {κ : Ky} {xs : List (List D)} {hs : List Ho} {v : Value} {S : List Nat} (h : RArr w ι dom v κ xs hs S) (hd : ∀ o, dom o → dom' o) (hι : ∀ o, dom o → ι' o = ι o) (he : ∀ b ∈ S, w'.heap[b]? = w.heap[b]?) : RArr w' ι' dom' v κ xs hs S := by
  obtain ⟨h1, vs, S1, h2, h3, rfl, h4⟩ := h
  exact ⟨h1, vs, S1, ownsRow_keep h2 fun g hg => he g (by simp [hg]), h3.keep hd hι fun b hb => he b (by simp [hb]), rfl, h4⟩
/-- An object stays what it is when its blocks do. -/
theorem RO.keep (hs : ∀ b, R b → R' b) (he : ∀ b, R b → w'.heap[b]? = w.heap[b]?) (hd : ∀ o, dom o → dom' o) (hι : ∀ o, dom o → ι' o = ι o) {v : Value} {S : List Nat} : ∀ {x : Ob}, (∀ g ∈ S, w'.heap[g]? = w.heap[g]?) → RO w R ι dom v S x → RO w' R' ι' dom' v S x
  | .box _ _, hg, ⟨g, vs, h1, h2, h4, h5⟩ => ⟨g, vs, h1, h2, (hg g (by rw [h2]; simp)).trans h4, h5.mono fun _ _ h => RB.keep hs he hd hι h⟩
  | .arr _ _ _, hg, h => RArr.keep h hd hι hg
  | .mp _, hg, ⟨g, c, ms, h1, h2, h3, h4⟩ => ⟨g, c, ms, h1, h2, (hg g (by rw [h2]; simp)).trans h3, h4⟩
  | .val _, _, ⟨h1, h2, h3⟩ => ⟨h1, h2, fun p hp => RD.keep hs he (h3 p hp)⟩
/-- The block of an object. -/
def blk : Value → Option Nat
  | .pointer (some a) => some a.block
  | .slice (some a) _ _ => some a.block
  | _ => none
theorem ownBlock_blk {v : Value} {g : Nat} (h : v.ownBlock = some g) : blk v = some g := by
  cases v with
  | slice a l c => cases a <;> simp_all [Value.ownBlock, blk]
  | _ => simp [Value.ownBlock] at h
theorem RO.blk_mem {v : Value} {g : Nat} {S : List Nat} {T : TypeId} {cs : List B} (hb : blk v = some g) : RO w R ι dom v S (.box T cs) → g ∈ S
  | ⟨g', vs, h1, h2, _, _⟩ => by
    rw [h1] at hb
    obtain rfl : g' = g := by simpa [blk] using hb
    rw [h2]; simp
/-- A slot is written. -/
theorem Sat.put (h : Sat F R ι φ st a w) {d : Nat} {v : Value} {x : AV} (hd : d < F.n) (hx : RA w R ι st.dom v x) : Sat F R ι φ ⟨upd st.env d x, st.objs⟩ (a.put (some d) v) w := by
  refine ⟨h.below, h.rlt, h.rsub, h.rnew, by simp [Act.put, h.size], by simpa [Act.put] using h.defers, fun e => ?_, h.objs, h.mine, h.apart, h.pin⟩
  have hs := h.size
  by_cases he : e = d
  · subst he
    simp only [upd_same, Act.put, Array.getD_eq_getD_getElem?]
    rw [Array.getElem?_setIfInBounds_self_of_lt (by omega)]
    exact hx
  · simp only [upd_ne _ _ he, Act.put, Array.getD_eq_getD_getElem?]
    rw [Array.getElem?_setIfInBounds_ne (by omega)]
    have := h.env e
    simp only [Array.getD_eq_getD_getElem?] at this
    exact this
/-- The world turns, but not where anything known lies; more may be taken for known. -/
theorem Sat.world (h : Sat F R ι φ st a w) (hb : Below w.heap.size w w') (hs : ∀ b, R b → R' b) (hl : ∀ b, R' b → b < w'.heap.size) (hn : ∀ b, R' b → b < w.heap.size → R b) : Sat F R' ι φ st a w' := by
  have he : ∀ b, R b → w'.heap[b]? = w.heap[b]? := fun b hb' => hb.block b (h.rlt b hb')
  refine ⟨h.below.then hb, hl, fun b hb => hs b (h.rsub b hb), fun b hb' => ?_, h.size, h.defers, fun d => RA.keep hs he (fun _ h => h) (fun _ _ => rfl) (h.env d),
    fun o x ho => RO.keep hs he (fun _ h => h) (fun _ _ => rfl) (fun g hg => hb.block g (h.mine o x ho g hg).2.2) (h.objs o x ho),
    fun o x ho g hg => ⟨(h.mine o x ho g hg).1, fun hr => (h.mine o x ho g hg).2.1 (hn g hr (h.mine o x ho g hg).2.2), Nat.lt_of_lt_of_le (h.mine o x ho g hg).2.2 hb.size⟩, h.apart, h.pin⟩
  rcases Nat.lt_or_ge b w.heap.size with hlt | hge
  · exact h.rnew b (hn b hb' hlt)
  · exact .inr (.inr (Nat.le_trans h.below.size hge))
theorem Sat.below' (h : Sat F R ι φ st a w) (hb : Below w.heap.size w w') : Sat F R ι φ st a w' :=
  h.world hb (fun _ h => h) (fun b hr => Nat.lt_of_lt_of_le (h.rlt b hr) hb.size) (fun _ h _ => h)
/-- A new object d. -/
theorem Sat.new (h : Sat F R ι φ st a w) {d : Nat} {u : Value} {S : List Nat} {x : Ob} (hd : st.objs d = none) (hp : d < pinN) (hb : Below w.heap.size w w') (hx : RO w' R (upd ι d u) (domO (upd st.objs d (some x))) u S x)
    (hu : ∀ g ∈ S, w.heap.size ≤ g ∧ g < w'.heap.size) : Sat F R (upd ι d u) (upd φ d S) ⟨st.env, upd st.objs d (some x)⟩ a w' := by
  have h' := h.below' hb
  have hne : ∀ o, st.dom o → o ≠ d := fun o ⟨y, hy⟩ e => by subst e; rw [hd] at hy; cases hy
  have hdm : ∀ o, st.dom o → (⟨st.env, upd st.objs d (some x)⟩ : St).dom o := fun o ⟨y, hy⟩ => ⟨y, by simp only [upd_ne _ _ (hne o ⟨y, hy⟩)]; exact hy⟩
  have hι : ∀ o, st.dom o → upd ι d u o = ι o := fun o ho => upd_ne _ _ (hne o ho)
  refine ⟨h'.below, h'.rlt, h'.rsub, h'.rnew, h'.size, h'.defers, fun e => RA.keep (fun _ h => h) (fun _ _ => rfl) hdm hι (h'.env e), fun o y hy => ?_, fun o y hy g hg => ?_, fun o p y z g hy hz h1 h2 => ?_, fun o ho => ?_⟩
  · by_cases ho : o = d
    · subst ho
      simp only [upd_same, Option.some.injEq] at hy ⊢
      subst hy
      exact hx
    · simp only [upd_ne _ _ ho] at hy ⊢
      exact RO.keep (fun _ h => h) (fun _ _ => rfl) hdm hι (fun _ _ => rfl) (h'.objs o y hy)
  · by_cases ho : o = d
    · subst ho
      simp only [upd_same] at hg
      have := hu g hg
      refine ⟨.inr (Nat.le_trans h.below.size this.1), fun hr => ?_, this.2⟩
      have := h.rlt g hr
      omega
    · simp only [upd_ne _ _ ho] at hy hg
      exact h'.mine o y hy g hg
  · by_cases ho : o = d
    · by_cases hp : p = d
      · rw [ho, hp]
      · subst ho
        simp only [upd_same, upd_ne _ _ hp] at hz h1 h2
        have := (h.mine p z hz g h2).2.2
        have := (hu g h1).1
        omega
    · by_cases hp : p = d
      · subst hp
        simp only [upd_same, upd_ne _ _ ho] at hy h1 h2
        have := (h.mine o y hy g h1).2.2
        have := (hu g h2).1
        omega
      · simp only [upd_ne _ _ ho, upd_ne _ _ hp] at hy hz h1 h2
        exact h.apart o p y z g hy hz h1 h2
  · rw [upd_ne _ _ (by omega)]
    exact h.pin o ho
/-- An object is written: it is another one now, at the same place; it may have got blocks that no object has. -/
theorem Sat.write (h : Sat F R ι φ st a w) {o : Nat} {S : List Nat} {x x' : Ob} (ho : st.objs o = some x) (hb : BelowM F.M F.w w') (hsz : w.heap.size ≤ w'.heap.size)
    (hne : ∀ b, b < w.heap.size → b ∉ φ o → w'.heap[b]? = w.heap[b]?) (hx : RO w' R ι st.dom (ι o) S x') (hS : ∀ g ∈ S, g ∈ φ o) : Sat F R ι (upd φ o S) ⟨st.env, upd st.objs o (some x')⟩ a w' := by
  have hR : ∀ b, R b → w'.heap[b]? = w.heap[b]? := fun b hr => hne b (h.rlt b hr) fun e => (h.mine o x ho b e).2.1 hr
  have hdm : ∀ p, st.dom p → (⟨st.env, upd st.objs o (some x')⟩ : St).dom p := fun p ⟨y, hy⟩ => by
    by_cases hp : p = o
    · subst hp; exact ⟨x', by simp [upd_same]⟩
    · exact ⟨y, by simp only [upd_ne _ _ hp]; exact hy⟩
  have get : ∀ q z, (upd st.objs o (some x')) q = some z → ∃ z', st.objs q = some z' := fun q z hz => by
    by_cases hq : q = o
    · subst hq; exact ⟨x, ho⟩
    · simp only [upd_ne _ _ hq] at hz; exact ⟨z, hz⟩
  have hφ : ∀ q g, g ∈ upd φ o S q → g ∈ φ q := fun q g hg => by
    by_cases hq : q = o
    · subst hq; rw [upd_same] at hg; exact hS g hg
    · rwa [upd_ne _ _ hq] at hg
  refine ⟨hb, fun b hr => Nat.lt_of_lt_of_le (h.rlt b hr) hsz, h.rsub, h.rnew, h.size, h.defers, fun e => RA.keep (fun _ h => h) hR hdm (fun _ _ => rfl) (h.env e), fun p y hy => ?_, fun p y hy g hg => ?_, fun p q y z g hy hz h1 h2 => ?_, h.pin⟩
  · by_cases hp : p = o
    · subst hp
      simp only [upd_same, Option.some.injEq] at hy ⊢
      subst hy
      exact RO.keep (fun _ h => h) (fun _ _ => rfl) hdm (fun _ _ => rfl) (fun g hg => rfl) hx
    · simp only [upd_ne _ _ hp] at hy ⊢
      refine RO.keep (fun _ h => h) hR hdm (fun _ _ => rfl) (fun g hg => ?_) (h.objs p y hy)
      exact hne g (h.mine p y hy g hg).2.2 fun e => hp (h.apart p o y x g hy ho hg e)
  · obtain ⟨y', hy'⟩ := get p y hy
    have := h.mine p y' hy' g (hφ p g hg)
    exact ⟨this.1, this.2.1, Nat.lt_of_lt_of_le this.2.2 hsz⟩
  · obtain ⟨y', hy'⟩ := get p y hy
    obtain ⟨z', hz'⟩ := get q z hz
    exact h.apart p q y' z' g hy' hz' (hφ p g h1) (hφ q g h2)
end
end Go.Proofs.YtlblmofimjhbbaaDoor
