/- Values as they are known: what a slot, a variable or a slice of a call holds, told without its place in memory. No program is named here. -/
import Derived.WalkKit
import Derived.Below
import Derived.Maps.AppendAt
import Derived.Laws.CopyRow
import Derived.Deep.Draws
import Derived.KernelRfl
import Derived.WideShapes4
import Derived.IntWalk
namespace Go.Proofs.Ythgdccokpgaicaa
open Go.RowKit
/-- Two lists, place by place. -/
inductive F2 {α β : Type} (r : α → β → Prop) : List α → List β → Prop
  | nil : F2 r [] []
  | cons {a : α} {b : β} {as : List α} {bs : List β} : r a b → F2 r as bs → F2 r (a :: as) (b :: bs)
section
variable {α β : Type} {r r' : α → β → Prop}
theorem F2.mono (h : ∀ a b, r a b → r' a b) : ∀ {as : List α} {bs : List β}, F2 r as bs → F2 r' as bs
  | _, _, .nil => .nil
  | _, _, .cons h1 h2 => .cons (h _ _ h1) (h2.mono h)
theorem F2.len : ∀ {as : List α} {bs : List β}, F2 r as bs → as.length = bs.length
  | _, _, .nil => rfl
  | _, _, .cons _ h2 => by simp [h2.len]
theorem F2.get : ∀ {as : List α} {bs : List β} {i : Nat} {b : β}, F2 r as bs → bs[i]? = some b → ∃ a, as[i]? = some a ∧ r a b
  | _, _, i, _, .nil, h => by simp at h
  | _, _, 0, _, .cons h1 _, h => by simp at h; subst h; exact ⟨_, rfl, h1⟩
  | _, _, i + 1, _, .cons _ h2, h => by simpa using h2.get (i := i) (by simpa using h)
theorem F2.get_left : ∀ {as : List α} {bs : List β} {i : Nat} {a : α}, F2 r as bs → as[i]? = some a → ∃ b, bs[i]? = some b ∧ r a b
  | _, _, i, _, .nil, h => by simp at h
  | _, _, 0, _, .cons h1 _, h => by simp at h; subst h; exact ⟨_, rfl, h1⟩
  | _, _, i + 1, _, .cons _ h2, h => by simpa using h2.get_left (i := i) (by simpa using h)
theorem F2.of_get : ∀ {as : List α} {bs : List β}, as.length = bs.length → (∀ (i : Nat) (a : α) (b : β), as[i]? = some a → bs[i]? = some b → r a b) → F2 r as bs
  | [], [], _, _ => .nil
  | a :: as, b :: bs, hl, h => .cons (h 0 a b rfl rfl) (F2.of_get (by simpa using hl) fun i x y hx hy => h (i + 1) x y (by simpa using hx) (by simpa using hy))
  | [], _ :: _, hl, _ => by simp at hl
  | _ :: _, [], hl, _ => by simp at hl
theorem F2.set : ∀ {as : List α} {bs : List β} {a : α} {b : β} (i : Nat), F2 r as bs → r a b → F2 r (as.set i a) (bs.set i b)
  | _, _, _, _, _, .nil, _ => .nil
  | _, _, _, _, 0, .cons _ h2, h => .cons h h2
  | _, _, _, _, i + 1, .cons h1 h2, h => .cons h1 (h2.set i h)
theorem F2.append : ∀ {as as' : List α} {bs bs' : List β}, F2 r as bs → F2 r as' bs' → F2 r (as ++ as') (bs ++ bs')
  | _, _, _, _, .nil, h => h
  | _, _, _, _, .cons h1 h2, h => .cons h1 (h2.append h)
theorem F2.drop : ∀ {as : List α} {bs : List β} (n : Nat), F2 r as bs → F2 r (as.drop n) (bs.drop n)
  | _, _, 0, h => h
  | _, _, _ + 1, .nil => .nil
  | _, _, n + 1, .cons _ h2 => h2.drop n
theorem F2.take : ∀ {as : List α} {bs : List β} (n : Nat), F2 r as bs → F2 r (as.take n) (bs.take n)
  | _, _, 0, _ => .nil
  | _, _, _ + 1, .nil => .nil
  | _, _, n + 1, .cons h1 h2 => .cons h1 (h2.take n)
theorem F2.mem_left : ∀ {as : List α} {bs : List β} {a : α}, F2 r as bs → a ∈ as → ∃ b, r a b
  | _, _, _, .cons h1 h2, h => by
    rcases List.mem_cons.1 h with rfl | h
    · exact ⟨_, h1⟩
    · exact h2.mem_left h
end
/-- What a cell holds that nobody turns. -/
inductive D where
  | pv (v : Value)
  | rd (k : Nat) (xs : List (List D))
  | rp (cs : List D)
  | fn (f : FuncId) (caps : List D)
/-- A number within its kind, a string that memory bears. -/
def okI : Value → Prop
  | .int k n => (Lit.int k n).wf = true
  | .string s => s.size ≤ maxLen
  | _ => True
/-- The value is that datum, all its memory within the blocks R. -/
inductive RD (W : World) (R : Nat → Prop) : Value → D → Prop
  | pv {v : Value} (h : v.oneCell' = true) (hi : okI v) : RD W R v (.pv v)
  | nil {a : Option Addr} {cap k : Nat} : RD W R (.slice a 0 cap) (.rd k [])
  | rd {k : Nat} {xs : List (List D)} {b off cap : Nat} (c : Nat → Nat → Value) (h0 : 0 < xs.length) (h1 : xs.length ≤ cap) (h2 : cap ≤ maxLen) (hR : R b) (hk : ∀ (i : Nat) (es : List D), xs[i]? = some es → es.length = k)
      (hc : ∀ (i : Nat) (es : List D) (j : Nat), xs[i]? = some es → j < k → W.cell? ⟨b, off + i * k + j, none⟩ = some (c i j))
      (hr : ∀ (i : Nat) (es : List D) (j : Nat) (d : D), xs[i]? = some es → es[j]? = some d → RD W R (c i j) d) : RD W R (.slice (some ⟨b, off, none⟩) xs.length cap) (.rd k xs)
  | rp {cs : List D} {b off : Nat} (c : Nat → Value) (hR : R b) (hc : ∀ j : Nat, j < cs.length → W.cell? ⟨b, off + j, none⟩ = some (c j)) (hr : ∀ (j : Nat) (d : D), cs[j]? = some d → RD W R (c j) d) : RD W R (.pointer (some ⟨b, off, none⟩)) (.rp cs)
  | fn {f : FuncId} {caps : List D} {vs : List Value} (hl : vs.length = caps.length) (hr : ∀ (j : Nat) (v : Value) (d : D), vs[j]? = some v → caps[j]? = some d → RD W R v d) : RD W R (.func (.func f) #[] vs.toArray) (.fn f caps)
theorem RD.one {W : World} {R : Nat → Prop} {v : Value} {d : D} (h : RD W R v d) : v.oneCell' = true := by
  cases h with
  | pv h _ => exact h
  | _ => rfl
theorem cell_of_block {W W' : World} {b : Nat} (e : W'.heap[b]? = W.heap[b]?) (o : Nat) : W'.cell? ⟨b, o, none⟩ = W.cell? ⟨b, o, none⟩ := by simp [World.cell?, e]
theorem RD.keep {W W' : World} {R R' : Nat → Prop} (hs : ∀ b, R b → R' b) (he : ∀ b, R b → W'.heap[b]? = W.heap[b]?) {v : Value} {d : D} (h : RD W R v d) : RD W' R' v d := by
  induction h with
  | pv h hi => exact .pv h hi
  | nil => exact .nil
  | rd c h0 h1 h2 hR hk hc _ ih => exact .rd c h0 h1 h2 (hs _ hR) hk (fun i es j hi hj => (cell_of_block (he _ hR) _).trans (hc i es j hi hj)) ih
  | rp c hR hc _ ih => exact .rp c (hs _ hR) (fun j hj => (cell_of_block (he _ hR) _).trans (hc j hj)) ih
  | fn hl _ ih => exact .fn hl ih
/-- What a cell of the call holds: such a datum; a pointer into a variable of the call; the slice that an array of the call is; a pointer to one of its elements; or something that is not known. -/
inductive B where
  | d (x : D)
  | ptr (o off : Nat)
  | own (o : Nat)
  | ep (o k i off : Nat)
  | dead
def RB (W : World) (R : Nat → Prop) (ι : Nat → Value) (dom : Nat → Prop) (v : Value) : B → Prop
  | .d x => RD W R v x
  | .ptr o off => dom o ∧ ∃ g, ι o = .pointer (some ⟨g, 0, none⟩) ∧ v = .pointer (some ⟨g, off, none⟩)
  | .own o => dom o ∧ v = ι o
  | .ep o k i off => dom o ∧ ∃ g n cap, ι o = .slice (some ⟨g, 0, none⟩) n cap ∧ v = .pointer (some ⟨g, i * k + off, none⟩)
  | .dead => True
inductive V1 where
  | c (x : B)
  | agg (xs : List B)
inductive AV where
  | v (x : V1)
  | tup (xs : List V1)
def RV1 (W : World) (R : Nat → Prop) (ι : Nat → Value) (dom : Nat → Prop) (v : Value) : V1 → Prop
  | .c x => RB W R ι dom v x
  | .agg xs => ∃ vs : List Value, v = .agg vs.toArray ∧ F2 (RB W R ι dom) vs xs
def RA (W : World) (R : Nat → Prop) (ι : Nat → Value) (dom : Nat → Prop) (v : Value) : AV → Prop
  | .v x => RV1 W R ι dom v x
  | .tup xs => ∃ vs : List Value, v = .tuple vs.toArray ∧ F2 (RV1 W R ι dom) vs xs
/-- What an object of the call is: a variable (its cells), an array (its elements, k cells each). -/
inductive Ob where
  | box (T : TypeId) (cs : List B)
  | arr (e : TypeId) (k : Nat) (xs : List (List D))
structure St where
  env : Nat → AV
  objs : Nat → Option Ob
def St.dom (st : St) (o : Nat) : Prop := ∃ x, st.objs o = some x
def upd {α : Type} (f : Nat → α) (d : Nat) (v : α) : Nat → α := fun x => if x = d then v else f x
theorem upd_same {α : Type} (f : Nat → α) (d : Nat) (v : α) : upd f d v d = v := by simp [upd]
theorem upd_ne {α : Type} (f : Nat → α) {d x : Nat} (v : α) (h : x ≠ d) : upd f d v x = f x := by simp [upd, h]
/-- The slice v is an array of the call's own: it holds these elements; what lies behind them is not told. -/
def RArr (N0 : Nat) (W : World) (R : Nat → Prop) (v : Value) (e : TypeId) (k : Nat) (xs : List (List D)) : Prop :=
  (∀ es ∈ xs, es.length = k) ∧ ∃ vs, W.ownsRow N0 e k v xs.length vs ∧ F2 (RD W R) vs xs.flatten ∧ (∀ g, v.ownBlock = some g → ¬ R g)
def RO (N0 : Nat) (W : World) (R : Nat → Prop) (ι : Nat → Value) (dom : Nat → Prop) (v : Value) : Ob → Prop
  | .box T cs => ∃ g vs, v = .pointer (some ⟨g, 0, none⟩) ∧ N0 ≤ g ∧ ¬ R g ∧ W.heap[g]? = some (.cells vs.toArray T (0, 0)) ∧ F2 (RB W R ι dom) vs cs
  | .arr e k xs => RArr N0 W R v e k xs
/-- The block of an object. -/
def blk : Value → Option Nat
  | .pointer (some a) => some a.block
  | .slice (some a) _ _ => some a.block
  | _ => none
structure Sat (w0 : World) (n : Nat) (R : Nat → Prop) (ι : Nat → Value) (st : St) (a : Act) (w : World) : Prop where
  below : Below w0.heap.size w0 w
  rlt : ∀ b, R b → b < w.heap.size
  size : a.tmps.size = n
  defers : a.defers = []
  env : ∀ d, RA w R ι st.dom (a.tmps.getD d undef) (st.env d)
  objs : ∀ o x, st.objs o = some x → RO w0.heap.size w R ι st.dom (ι o) x
  apart : ∀ o p x y g, st.objs o = some x → st.objs p = some y → blk (ι o) = some g → blk (ι p) = some g → o = p
section
variable {w0 w w' : World} {n : Nat} {R R' : Nat → Prop} {ι ι' : Nat → Value} {dom dom' : Nat → Prop} {st : St} {a : Act}
theorem RB.keep (hs : ∀ b, R b → R' b) (he : ∀ b, R b → w'.heap[b]? = w.heap[b]?) (hd : ∀ o, dom o → dom' o) (hι : ∀ o, dom o → ι' o = ι o) {v : Value} : ∀ {b : B}, RB w R ι dom v b → RB w' R' ι' dom' v b
  | .d _, h => RD.keep hs he h
  | .ptr o off, ⟨h1, g, h2, h3⟩ => ⟨hd o h1, g, (hι o h1).trans h2, h3⟩
  | .own o, ⟨h1, h2⟩ => ⟨hd o h1, by rw [hι o h1]; exact h2⟩
  | .ep o k i off, ⟨h1, g, n, cap, h2, h3⟩ => ⟨hd o h1, g, n, cap, (hι o h1).trans h2, h3⟩
  | .dead, _ => trivial
theorem RV1.keep (hs : ∀ b, R b → R' b) (he : ∀ b, R b → w'.heap[b]? = w.heap[b]?) (hd : ∀ o, dom o → dom' o) (hι : ∀ o, dom o → ι' o = ι o) {v : Value} : ∀ {x : V1}, RV1 w R ι dom v x → RV1 w' R' ι' dom' v x
  | .c _, h => RB.keep hs he hd hι h
  | .agg _, ⟨vs, h1, h2⟩ => ⟨vs, h1, h2.mono fun _ _ h => RB.keep hs he hd hι h⟩
theorem RA.keep (hs : ∀ b, R b → R' b) (he : ∀ b, R b → w'.heap[b]? = w.heap[b]?) (hd : ∀ o, dom o → dom' o) (hι : ∀ o, dom o → ι' o = ι o) {v : Value} : ∀ {x : AV}, RA w R ι dom v x → RA w' R' ι' dom' v x
  | .v _, h => RV1.keep hs he hd hι h
  | .tup _, ⟨vs, h1, h2⟩ => ⟨vs, h1, h2.mono fun _ _ h => RV1.keep hs he hd hι h⟩
theorem RArr.keep {N0 : Nat} (hs : ∀ b, R b → R' b) (he : ∀ b, R b → w'.heap[b]? = w.heap[b]?) {v : Value} {e : TypeId} {k : Nat} {xs : List (List D)} (hg : ∀ g, v.ownBlock = some g → w'.heap[g]? = w.heap[g]? ∧ ¬ R' g) (h : RArr N0 w R v e k xs) : RArr N0 w' R' v e k xs := by
  obtain ⟨h1, vs, h2, h3, h4⟩ := h
  refine ⟨h1, vs, ⟨h2.1, ?_⟩, h3.mono fun _ _ h => RD.keep hs he h, fun g h => (hg g h).2⟩
  rcases h2.2 with h | ⟨g, cap, cur, hv, hb, hh, r⟩
  · exact .inl h
  · exact .inr ⟨g, cap, cur, hv, hb, ((hg g (by rw [hv]; rfl)).1).trans hh, r⟩
theorem ownBlock_blk {v : Value} {g : Nat} (h : v.ownBlock = some g) : blk v = some g := by
  cases v with
  | slice a l c => cases a <;> simp_all [Value.ownBlock, blk]
  | _ => simp [Value.ownBlock] at h
/-- An object stays what it is when its block does. -/
theorem RO.keep {N0 : Nat} (hs : ∀ b, R b → R' b) (he : ∀ b, R b → w'.heap[b]? = w.heap[b]?) (hd : ∀ o, dom o → dom' o) (hι : ∀ o, dom o → ι' o = ι o) {v : Value} : ∀ {x : Ob}, (∀ g, blk v = some g → w'.heap[g]? = w.heap[g]? ∧ ¬ R' g) → RO N0 w R ι dom v x → RO N0 w' R' ι' dom' v x
  | .box _ _, hg, ⟨g, vs, h1, h2, _, h4, h5⟩ => ⟨g, vs, h1, h2, (hg g (by rw [h1]; rfl)).2, ((hg g (by rw [h1]; rfl)).1).trans h4, h5.mono fun _ _ h => RB.keep hs he hd hι h⟩
  | .arr _ _ _, hg, h => RArr.keep hs he (fun g hb => hg g (ownBlock_blk hb)) h
theorem RO.blk_lt {N0 : Nat} {v : Value} {g : Nat} (hb : blk v = some g) : ∀ {x : Ob}, RO N0 w R ι dom v x → N0 ≤ g ∧ g < w.heap.size ∧ ¬ R g
  | .box _ _, ⟨g', vs, h1, h2, h3, h4, _⟩ => by
    rw [h1] at hb
    obtain rfl : g' = g := by simpa [blk] using hb
    refine ⟨h2, ?_, h3⟩
    rcases Nat.lt_or_ge g' w.heap.size with h | h
    · exact h
    · rw [Array.getElem?_eq_none h] at h4; cases h4
  | .arr _ _ _, ⟨_, vs, h2, _, h4⟩ => by
    have : v.ownBlock = some g := by
      rcases h2.2 with ⟨rfl, _⟩ | ⟨g', cap, cur, rfl, _⟩
      · simp [blk] at hb
      · simpa [blk, Value.ownBlock] using hb
    exact ⟨(h2.lt g this).1, (h2.lt g this).2, h4 g this⟩
end
section
variable {w0 w w' : World} {n : Nat} {R R' : Nat → Prop} {ι ι' : Nat → Value} {st : St} {a : Act}
/-- A slot is written. -/
theorem Sat.put (h : Sat w0 n R ι st a w) {d : Nat} {v : Value} {x : AV} (hd : d < n) (hx : RA w R ι st.dom v x) : Sat w0 n R ι ⟨upd st.env d x, st.objs⟩ (a.put (some d) v) w := by
  refine ⟨h.below, h.rlt, by simp [Act.put, h.size], by simpa [Act.put] using h.defers, fun e => ?_, h.objs, h.apart⟩
  have hs := h.size
  by_cases he : e = d
  · subst he
    simp only [upd_same, Act.put, Array.getD_eq_getD_getElem?]
    rw [Array.getElem?_setIfInBounds_self_of_lt (by omega)]
    exact hx
  · simp only [upd_ne _ _ he, Act.put, Array.getD_eq_getD_getElem?]
    rw [Array.getElem?_setIfInBounds_ne (by omega)]
    have := h.env e
    simp only [Array.getD_eq_getD_getElem?] at this
    exact this
/-- The world turns, but not where anything known lies; more may be taken for known. -/
theorem Sat.world (h : Sat w0 n R ι st a w) (hb : Below w.heap.size w w') (hs : ∀ b, R b → R' b) (hl : ∀ b, R' b → b < w'.heap.size) (hn : ∀ b, R' b → b < w.heap.size → R b) : Sat w0 n R' ι st a w' := by
  have he : ∀ b, R b → w'.heap[b]? = w.heap[b]? := fun b hb' => hb.block b (h.rlt b hb')
  have hg : ∀ o x, st.objs o = some x → ∀ g, blk (ι o) = some g → w'.heap[g]? = w.heap[g]? ∧ ¬ R' g := fun o x ho g hg => by
    have := RO.blk_lt hg (h.objs o x ho)
    exact ⟨hb.block g this.2.1, fun hr => this.2.2 (hn g hr this.2.1)⟩
  exact ⟨h.below.trans (hb.mono h.below.size), hl, h.size, h.defers, fun d => RA.keep hs he (fun _ h => h) (fun _ _ => rfl) (h.env d),
    fun o x ho => RO.keep hs he (fun _ h => h) (fun _ _ => rfl) (hg o x ho) (h.objs o x ho), h.apart⟩
theorem Sat.below' (h : Sat w0 n R ι st a w) (hb : Below w.heap.size w w') : Sat w0 n R ι st a w' :=
  h.world hb (fun _ h => h) (fun b hr => Nat.lt_of_lt_of_le (h.rlt b hr) hb.size) (fun _ h _ => h)
/-- A new object d. -/
theorem Sat.new (h : Sat w0 n R ι st a w) {d : Nat} {u : Value} {x : Ob} (hd : st.objs d = none) (hb : Below w.heap.size w w') (hx : RO w0.heap.size w' R (upd ι d u) (St.dom ⟨st.env, upd st.objs d (some x)⟩) u x)
    (hu : ∀ g, blk u = some g → w.heap.size ≤ g) : Sat w0 n R (upd ι d u) ⟨st.env, upd st.objs d (some x)⟩ a w' := by
  have h' := h.below' hb
  have hne : ∀ o, st.dom o → o ≠ d := fun o ⟨y, hy⟩ e => by subst e; rw [hd] at hy; cases hy
  have hdm : ∀ o, st.dom o → (⟨st.env, upd st.objs d (some x)⟩ : St).dom o := fun o ⟨y, hy⟩ => ⟨y, by simp only [upd_ne _ _ (hne o ⟨y, hy⟩)]; exact hy⟩
  have hι : ∀ o, st.dom o → upd ι d u o = ι o := fun o ho => upd_ne _ _ (hne o ho)
  refine ⟨h'.below, h'.rlt, h'.size, h'.defers, fun e => RA.keep (fun _ h => h) (fun _ _ => rfl) hdm hι (h'.env e), fun o y hy => ?_, fun o p y z g hy hz h1 h2 => ?_⟩
  · by_cases ho : o = d
    · subst ho
      simp only [upd_same, Option.some.injEq] at hy ⊢
      subst hy
      exact hx
    · simp only [upd_ne _ _ ho] at hy ⊢
      exact RO.keep (fun _ h => h) (fun _ _ => rfl) hdm hι (fun g hg => ⟨rfl, (RO.blk_lt hg (h'.objs o y hy)).2.2⟩) (h'.objs o y hy)
  · by_cases ho : o = d
    · by_cases hp : p = d
      · rw [ho, hp]
      · subst ho
        simp only [upd_same, upd_ne _ _ hp] at hz h1 h2
        have := (RO.blk_lt h2 (h.objs p z hz)).2.1
        have := hu g h1
        omega
    · by_cases hp : p = d
      · subst hp
        simp only [upd_same, upd_ne _ _ ho] at hy h1 h2
        have := (RO.blk_lt h1 (h.objs o y hy)).2.1
        have := hu g h2
        omega
      · simp only [upd_ne _ _ ho, upd_ne _ _ hp] at hy hz h1 h2
        exact h.apart o p y z g hy hz h1 h2
/-- An object is written: it is another one now, at the same place. -/
theorem Sat.write (h : Sat w0 n R ι st a w) {o : Nat} {x x' : Ob} (ho : st.objs o = some x) (hb : Below w0.heap.size w0 w') (hsz : w.heap.size ≤ w'.heap.size)
    (hne : ∀ b, b < w.heap.size → blk (ι o) ≠ some b → w'.heap[b]? = w.heap[b]?) (hx : RO w0.heap.size w' R ι st.dom (ι o) x') : Sat w0 n R ι ⟨st.env, upd st.objs o (some x')⟩ a w' := by
  have hR : ∀ b, R b → w'.heap[b]? = w.heap[b]? := fun b hr => hne b (h.rlt b hr) fun e => (RO.blk_lt e (h.objs o x ho)).2.2 hr
  have hdm : ∀ p, st.dom p → (⟨st.env, upd st.objs o (some x')⟩ : St).dom p := fun p ⟨y, hy⟩ => by
    by_cases hp : p = o
    · subst hp; exact ⟨x', by simp [upd_same]⟩
    · exact ⟨y, by simp only [upd_ne _ _ hp]; exact hy⟩
  refine ⟨hb, fun b hr => Nat.lt_of_lt_of_le (h.rlt b hr) hsz, h.size, h.defers, fun e => RA.keep (fun _ h => h) hR hdm (fun _ _ => rfl) (h.env e), fun p y hy => ?_, fun p q y z g hy hz h1 h2 => ?_⟩
  · by_cases hp : p = o
    · subst hp
      simp only [upd_same, Option.some.injEq] at hy
      subst hy
      exact RO.keep (fun _ h => h) (fun _ _ => rfl) hdm (fun _ _ => rfl) (fun g hg => ⟨rfl, (RO.blk_lt hg hx).2.2⟩) hx
    · simp only [upd_ne _ _ hp] at hy
      refine RO.keep (fun _ h => h) hR hdm (fun _ _ => rfl) (fun g hg => ?_) (h.objs p y hy)
      have hl := RO.blk_lt hg (h.objs p y hy)
      exact ⟨hne g hl.2.1 fun e => hp (h.apart p o y x g hy ho hg e), hl.2.2⟩
  · have get : ∀ q z, (upd st.objs o (some x')) q = some z → ∃ z', st.objs q = some z' := fun q z hz => by
      by_cases hq : q = o
      · subst hq; exact ⟨x, ho⟩
      · simp only [upd_ne _ _ hq] at hz; exact ⟨z, hz⟩
    obtain ⟨y', hy'⟩ := get p y hy
    obtain ⟨z', hz'⟩ := get q z hz
    exact h.apart p q y' z' g hy' hz' h1 h2
end
end Go.Proofs.Ythgdccokpgaicaa
