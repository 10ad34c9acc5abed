/- What an operation that only reads gives, and what a call gives whose callee is known. No program is named here. -/
import Derived.Test.YthgdccokpgaicaaSx2
namespace Go.Proofs.Ythgdccokpgaicaa
open Go.RowKit
/-- An argument as it is known to the callee. -/
inductive VD where
  | c (x : D)
  | agg (xs : List D)
def RVD (W : World) (R : Nat → Prop) (v : Value) : VD → Prop
  | .c x => RD W R v x
  | .agg xs => ∃ vs : List Value, v = .agg vs.toArray ∧ F2 (RD W R) vs xs
/-- A result: data that nobody turns, or a slice that is the caller's from now on. -/
inductive RC where
  | fz (x : D)
  | nw (e : TypeId) (k : Nat) (xs : List (List D))
inductive R1 where
  | c (x : RC)
  | agg (xs : List RC)
inductive RT where
  | v (x : R1)
  | tup (xs : List R1)
/-- The cells of a result, and the blocks of what is new. -/
inductive RCs (N0 : Nat) (W : World) (R : Nat → Prop) : List Value → List RC → List Nat → Prop
  | nil : RCs N0 W R [] [] []
  | fz {v : Value} {x : D} {vs : List Value} {xs : List RC} {os : List Nat} : RD W R v x → RCs N0 W R vs xs os → RCs N0 W R (v :: vs) (.fz x :: xs) os
  | nw {v : Value} {e k : Nat} {ys : List (List D)} {vs : List Value} {xs : List RC} {os : List Nat} : RArr N0 W R v e k ys → RCs N0 W R vs xs os → RCs N0 W R (v :: vs) (.nw e k ys :: xs) (v.ownBlock.toList ++ os)
def RR1 (N0 : Nat) (W : World) (R : Nat → Prop) (v : Value) (x : R1) (os : List Nat) : Prop :=
  match x with
  | .c x => RCs N0 W R [v] [x] os
  | .agg xs => ∃ vs : List Value, v = .agg vs.toArray ∧ RCs N0 W R vs xs os
inductive RRs (N0 : Nat) (W : World) (R : Nat → Prop) : List Value → List R1 → List Nat → Prop
  | nil : RRs N0 W R [] [] []
  | cons {v : Value} {x : R1} {vs : List Value} {xs : List R1} {os os' : List Nat} : RR1 N0 W R v x os → RRs N0 W R vs xs os' → RRs N0 W R (v :: vs) (x :: xs) (os ++ os')
def RRT (N0 : Nat) (W : World) (R : Nat → Prop) (v : Value) (x : RT) : Prop :=
  ∃ os : List Nat, os.Nodup ∧ match x with
    | .v x => RR1 N0 W R v x os
    | .tup xs => ∃ vs : List Value, v = .tuple vs.toArray ∧ RRs N0 W R vs xs os
/-- WHAT A FUNCTION DOES: called with such arguments it returns that result; nothing that was there has turned, and what it hands back is new. -/
def Spec (P : Program) (f : FuncId) (args : List VD) (r : RT) : Prop :=
  (∀ (vs : Array Value) (w : World), (callFunc f vs).run P w = .ok (.enter f vs) w) ∧
  ∀ (w : World) (R : Nat → Prop) (vs : List Value), (∀ b, R b → b < w.heap.size) → F2 (RVD w R) vs args →
    Calls P f vs.toArray w fun e w' => ∃ v, e = .returned v ∧ Below w.heap.size w w' ∧ ∃ R' : Nat → Prop, (∀ b, R' b → w.heap.size ≤ b ∧ b < w'.heap.size) ∧ RRT w.heap.size w' R' v r
/-- What is new, taken for data that nobody turns. -/
def RC.fr : RC → B
  | .fz x => .d x
  | .nw _ k xs => .d (.rd k xs)
def R1.fr : R1 → V1
  | .c x => .c x.fr
  | .agg xs => .agg (xs.map RC.fr)
def RT.fr : RT → AV
  | .v x => .v x.fr
  | .tup xs => .tup (xs.map R1.fr)
theorem flatten_get {α : Type} {k : Nat} : ∀ {xs : List (List α)} {i j : Nat} {es : List α}, (∀ es ∈ xs, es.length = k) → xs[i]? = some es → j < k → xs.flatten[i * k + j]? = es[j]?
  | [], i, j, es, _, h, _ => by simp at h
  | x :: xs, 0, j, es, hk, h, hj => by
    simp at h; subst h
    have := hk x (by simp)
    rw [List.flatten_cons, List.getElem?_append_left (by omega)]
    simp
  | x :: xs, i + 1, j, es, hk, h, hj => by
    have h1 := hk x (by simp)
    have := flatten_get (xs := xs) (i := i) (j := j) (es := es) (fun y hy => hk y (by simp [hy])) (by simpa using h) hj
    rw [List.flatten_cons, List.getElem?_append_right (by rw [h1, Nat.succ_mul]; omega), h1, show (i + 1) * k + j - k = i * k + j by rw [Nat.succ_mul]; omega]
    exact this
/-- An array of the call's own, taken for data. -/
theorem RArr.rd {N0 : Nat} {W : World} {R R' : Nat → Prop} {v : Value} {e k : Nat} {xs : List (List D)} (h : RArr N0 W R v e k xs) (hs : ∀ b, R b → R' b) (hg : ∀ g, v.ownBlock = some g → R' g) : RD W R' v (.rd k xs) := by
  obtain ⟨h1, vs, h2, h3, _⟩ := h
  rcases Nat.eq_zero_or_pos xs.length with h0 | h0
  · obtain rfl : xs = [] := List.eq_nil_of_length_eq_zero h0
    rcases h2.2 with ⟨rfl, _⟩ | ⟨g, cap, cur, rfl, _⟩
    · exact .nil
    · exact .nil
  · rcases h2.2 with ⟨_, h⟩ | ⟨g, cap, cur, rfl, hb, hh, hnc, hcm, hcs, ht⟩
    · omega
    · have hc : ∀ (i : Nat) (es : List D) (j : Nat), xs[i]? = some es → j < k → ∃ u d, vs[i * k + j]? = some u ∧ es[j]? = some d ∧ RD W R u d := fun i es j hi hj => by
        have hl := h1 es (List.mem_of_getElem? hi)
        have hf := flatten_get h1 hi hj
        have he : es[j]? = some (es[j]'(by omega)) := List.getElem?_eq_getElem (by omega)
        rw [he] at hf
        obtain ⟨u, hu, hr⟩ := h3.get hf
        exact ⟨u, _, hu, he, hr⟩
      have hcell : ∀ j u, vs[j]? = some u → W.cell? ⟨g, j, none⟩ = some u := fun j u hu => by
        have := h2.cells (g := g) rfl j u hu
        simpa [Addr.add_lit] using this
      refine .rd (fun i j => vs.getD (i * k + j) undef) h0 hnc hcm (hg g rfl) (fun i es hi => h1 es (List.mem_of_getElem? hi)) (fun i es j hi hj => ?_) (fun i es j d hi hd => ?_)
      · obtain ⟨u, d, hu, _, _⟩ := hc i es j hi hj
        rw [Nat.zero_add, hcell _ u hu]
        simp [List.getD, hu]
      · have hj : j < k := by
          have := h1 es (List.mem_of_getElem? hi)
          rcases Nat.lt_or_ge j es.length with h | h
          · omega
          · rw [List.getElem?_eq_none h] at hd; cases hd
        obtain ⟨u, d', hu, hd', hr⟩ := hc i es j hi hj
        rw [hd] at hd'; cases hd'
        simp only [List.getD, hu, Option.getD_some]
        exact hr.keep hs (fun _ _ => rfl)
theorem RArr.len {N0 : Nat} {W : World} {R : Nat → Prop} {v : Value} {e k : Nat} {xs : List (List D)} (h : RArr N0 W R v e k xs) : ∃ a cap, v = .slice a xs.length cap ∧ xs.length ≤ maxLen := by
  obtain ⟨_, vs, h2, _⟩ := h
  rcases h2.2 with ⟨rfl, h0⟩ | ⟨g, cap, cur, rfl, hb, hh, hnc, hcm, _⟩
  · exact ⟨none, 0, by rw [h0], by omega⟩
  · exact ⟨_, cap, rfl, by omega⟩
/-- What is handed back, as data: all its blocks are new. -/
theorem RCs.fr {N0 : Nat} {W : World} {R : Nat → Prop} {ι : Nat → Value} {dom : Nat → Prop} {R' : Nat → Prop} (hs : ∀ b, R b → R' b) : ∀ {vs : List Value} {xs : List RC} {os : List Nat}, (∀ b ∈ os, R' b) → RCs N0 W R vs xs os → F2 (RB W R' ι dom) vs (xs.map RC.fr)
  | _, _, _, _, .nil => .nil
  | _, _, _, ho, .fz h1 h2 => .cons (h1.keep hs (fun _ _ => rfl)) (h2.fr hs ho)
  | _, _, _, ho, .nw h1 h2 => .cons (h1.rd hs fun g hg => ho g (by simp [hg])) (h2.fr hs fun b hb => ho b (by simp [hb]))
theorem RR1.fr {N0 : Nat} {W : World} {R : Nat → Prop} {ι : Nat → Value} {dom : Nat → Prop} {R' : Nat → Prop} (hs : ∀ b, R b → R' b) {v : Value} {x : R1} {os : List Nat} (ho : ∀ b ∈ os, R' b) (h : RR1 N0 W R v x os) : RV1 W R' ι dom v x.fr := by
  cases x with
  | c x =>
    have h : F2 (RB W R' ι dom) [v] [x.fr] := RCs.fr (xs := [x]) hs ho h
    cases h with
    | cons h _ => exact h
  | agg xs =>
    obtain ⟨vs, h1, h2⟩ := h
    exact ⟨vs, h1, h2.fr hs ho⟩
theorem RRs.fr {N0 : Nat} {W : World} {R : Nat → Prop} {ι : Nat → Value} {dom : Nat → Prop} {R' : Nat → Prop} (hs : ∀ b, R b → R' b) : ∀ {vs : List Value} {xs : List R1} {os : List Nat}, (∀ b ∈ os, R' b) → RRs N0 W R vs xs os → F2 (RV1 W R' ι dom) vs (xs.map R1.fr)
  | _, _, _, _, .nil => .nil
  | _, _, _, ho, .cons h1 h2 => .cons (h1.fr hs fun b hb => ho b (by simp [hb])) (h2.fr hs fun b hb => ho b (by simp [hb]))
theorem RCs.blks {N0 : Nat} {W : World} {R : Nat → Prop} : ∀ {vs : List Value} {xs : List RC} {os : List Nat}, RCs N0 W R vs xs os → ∀ b ∈ os, N0 ≤ b ∧ b < W.heap.size
  | _, _, _, .nil, b, h => by simp at h
  | _, _, _, .fz _ h2, b, h => h2.blks b h
  | _, _, _, .nw h1 h2, b, h => by
    rcases List.mem_append.1 h with h | h
    · obtain ⟨_, vs, h3, _⟩ := h1
      exact h3.lt b (by simpa using h)
    · exact h2.blks b h
theorem RR1.blks {N0 : Nat} {W : World} {R : Nat → Prop} {v : Value} {x : R1} {os : List Nat} (h : RR1 N0 W R v x os) : ∀ b ∈ os, N0 ≤ b ∧ b < W.heap.size := by
  cases x with
  | c x => exact RCs.blks h
  | agg xs => obtain ⟨vs, _, h⟩ := h; exact RCs.blks h
theorem RRs.blks {N0 : Nat} {W : World} {R : Nat → Prop} : ∀ {vs : List Value} {xs : List R1} {os : List Nat}, RRs N0 W R vs xs os → ∀ b ∈ os, N0 ≤ b ∧ b < W.heap.size
  | _, _, _, .nil, b, h => by simp at h
  | _, _, _, .cons h1 h2, b, h => by
    rcases List.mem_append.1 h with h | h
    · exact h1.blks b h
    · exact h2.blks b h
theorem RRT.fr {N0 : Nat} {W : World} {R : Nat → Prop} {ι : Nat → Value} {dom : Nat → Prop} {v : Value} {x : RT} (h : RRT N0 W R v x) :
    ∃ R' : Nat → Prop, (∀ b, R b → R' b) ∧ (∀ b, R' b → R b ∨ (N0 ≤ b ∧ b < W.heap.size)) ∧ RA W R' ι dom v x.fr := by
  obtain ⟨os, _, h⟩ := h
  refine ⟨fun b => R b ∨ b ∈ os, fun b h => .inl h, ?_, ?_⟩
  · rintro b (hb | hb)
    · exact .inl hb
    · cases x with
      | v x => exact .inr (RR1.blks h b hb)
      | tup xs => obtain ⟨vs, _, h⟩ := h; exact .inr (h.blks b hb)
  · cases x with
    | v x => exact RR1.fr (fun b h => .inl h) (fun b h => .inr h) h
    | tup xs => obtain ⟨vs, h1, h⟩ := h; exact ⟨vs, h1, h.fr (fun b h => .inl h) (fun b h => .inr h)⟩
/-- The cells that lie from a pointer on. -/
def cellsAt (objs : Nat → Option Ob) : B → Option (List B)
  | .ptr o off => match objs o with
    | some (.box _ cs) => some (cs.drop off)
    | _ => none
  | .ep o k i off => match objs o with
    | some (.arr _ k' xs) => if k = k' then (xs[i]?).map fun es => (es.drop off).map B.d else none
    | _ => none
  | .d (.rp cs) => some (cs.map B.d)
  | _ => none
def addOff : B → Nat → Option B
  | .ptr o off, n => some (.ptr o (off + n))
  | .ep o k i off, n => some (.ep o k i (off + n))
  | .d (.rp cs), n => some (.d (.rp (cs.drop n)))
  | _, _ => none
def isPtr : B → Bool
  | .ptr _ _ | .ep _ _ _ _ | .d (.rp _) => true
  | _ => false
def lenOf (objs : Nat → Option Ob) : B → Option Nat
  | .own o => match objs o with
    | some (.arr _ _ xs) => some xs.length
    | _ => none
  | .d (.rd _ xs) => some xs.length
  | .d (.pv (.slice none 0 0)) => some 0
  | _ => none
section
variable {N0 : Nat} {w : World} {R : Nat → Prop} {ι : Nat → Value} {dom : Nat → Prop} {objs : Nat → Option Ob}
theorem RD.rp_cells {v : Value} {cs : List D} (h : RD w R v (.rp cs)) : ∃ b off us, v = .pointer (some ⟨b, off, none⟩) ∧ F2 (RD w R) us cs ∧ ∀ (j : Nat) (u : Value), us[j]? = some u → w.cell? ⟨b, off + j, none⟩ = some u := by
  cases h with
  | rp c hR hc hr =>
    rename_i b off
    refine ⟨b, off, (List.range cs.length).map c, rfl, F2.of_get (by simp) fun i a b' ha hb => ?_, fun j u hu => ?_⟩
    · have hi : i < cs.length := by
        rcases Nat.lt_or_ge i cs.length with h | h
        · exact h
        · rw [List.getElem?_eq_none h] at hb; cases hb
      simp [hi] at ha
      subst ha
      exact hr i b' hb
    · have hi : j < cs.length := by
        rcases Nat.lt_or_ge j cs.length with h | h
        · exact h
        · simp [Nat.not_lt.2 h] at hu
      simp [hi] at hu
      subst hu
      exact hc j hi
theorem cellsAt_ok (ho : ∀ p y, objs p = some y → RO N0 w R ι dom (ι p) y) {v : Value} {b : B} {cs : List B} (hv : RB w R ι dom v b) (h : cellsAt objs b = some cs) :
    ∃ g off us, v = .pointer (some ⟨g, off, none⟩) ∧ F2 (RB w R ι dom) us cs ∧ ∀ (j : Nat) (u : Value), us[j]? = some u → w.cell? ⟨g, off + j, none⟩ = some u := by
  unfold cellsAt at h
  split at h
  · rename_i o off
    split at h
    · rename_i T cs' hob
      cases h
      obtain ⟨_, g, h1, h2⟩ := hv
      obtain ⟨g', vs, h3, _, _, h4, h5⟩ := ho _ _ hob
      rw [h1] at h3
      obtain rfl : g = g' := by simpa using h3
      refine ⟨g, off, vs.drop off, h2, h5.drop off, fun j u hu => ?_⟩
      rw [List.getElem?_drop] at hu
      simp [World.cell?, h4, hu]
    · cases h
  · rename_i o k i off
    split at h
    · rename_i e k' xs hob
      split at h
      · rename_i hk
        subst hk
        cases hx : xs[i]? with
        | none => simp [hx] at h
        | some es =>
          simp only [hx, Option.map_some, Option.some.injEq] at h
          subst h
          obtain ⟨_, g, n, cap, h1, h2⟩ := hv
          obtain ⟨hk, vs, hown, hf, _⟩ := ho _ _ hob
          have hes := hk es (List.mem_of_getElem? hx)
          have hcell : ∀ j u, vs[j]? = some u → w.cell? ⟨g, j, none⟩ = some u := fun j u hu => by
            have := hown.cells (g := g) (by rw [h1]; rfl) j u hu
            simpa [Addr.add_lit] using this
          have hlen : ∀ j, j < k → ∃ u d, vs[i * k + j]? = some u ∧ es[j]? = some d ∧ RD w R u d := fun j hj => by
            have hfl := flatten_get hk hx hj
            have he : es[j]? = some (es[j]'(by omega)) := List.getElem?_eq_getElem (by omega)
            rw [he] at hfl
            obtain ⟨u, hu, hr⟩ := hf.get hfl
            exact ⟨u, _, hu, he, hr⟩
          refine ⟨g, i * k + off, ((vs.drop (i * k)).take k).drop off, h2, ?_, fun j u hu => ?_⟩
          · rw [List.map_drop]
            refine F2.drop off (F2.of_get ?_ fun j a b ha hb => ?_)
            · simp only [List.length_take, List.length_drop, List.length_map]
              rcases Nat.eq_zero_or_pos k with h0 | h0
              · omega
              · obtain ⟨u, _, hu, _, _⟩ := hlen (k - 1) (by omega)
                have : i * k + (k - 1) < vs.length := by
                  rcases Nat.lt_or_ge (i * k + (k - 1)) vs.length with h | h
                  · exact h
                  · rw [List.getElem?_eq_none h] at hu; cases hu
                omega
            · rw [List.getElem?_map] at hb
              cases hd : es[j]? with
              | none => simp [hd] at hb
              | some d =>
                simp only [hd, Option.map_some, Option.some.injEq] at hb
                subst hb
                have hj : j < k := by
                  rcases Nat.lt_or_ge j es.length with h | h
                  · omega
                  · rw [List.getElem?_eq_none h] at hd; cases hd
                obtain ⟨u, d', hu, hd', hr⟩ := hlen j hj
                rw [hd] at hd'; cases hd'
                rw [List.getElem?_take_of_lt hj, List.getElem?_drop, hu] at ha
                cases ha
                exact hr
          · rw [List.getElem?_drop] at hu
            have hj : off + j < k := by
              rcases Nat.lt_or_ge (off + j) k with h | h
              · exact h
              · rw [List.getElem?_eq_none (by simp; omega)] at hu; cases hu
            rw [List.getElem?_take_of_lt hj, List.getElem?_drop] at hu
            have := hcell _ u hu
            rw [Nat.add_assoc]
            exact this
      · cases h
    · cases h
  · rename_i cs'
    cases h
    obtain ⟨b, off, us, h1, h2, h3⟩ := RD.rp_cells hv
    refine ⟨b, off, us, h1, F2.of_get (by simp [h2.len]) fun i a b' ha hb => ?_, h3⟩
    rw [List.getElem?_map] at hb
    cases hd : cs'[i]? with
    | none => simp [hd] at hb
    | some d =>
      simp only [hd, Option.map_some, Option.some.injEq] at hb
      subst hb
      obtain ⟨u, hu, hr⟩ := h2.get hd
      rw [ha] at hu; cases hu
      exact hr
  · cases h
theorem RD.drop {v : Value} {cs : List D} {b off n : Nat} (h : RD w R v (.rp cs)) (hv : v = .pointer (some ⟨b, off, none⟩)) : RD w R (.pointer (some ⟨b, off + n, none⟩)) (.rp (cs.drop n)) := by
  cases h with
  | rp c hR hc hr =>
    simp only [Value.pointer.injEq, Option.some.injEq, Addr.mk.injEq] at hv
    obtain ⟨rfl, rfl, _⟩ := hv
    refine .rp (fun j => c (n + j)) hR (fun j hj => ?_) (fun j d hd => ?_)
    · have := hc (n + j) (by simp at hj; omega)
      rwa [← Nat.add_assoc] at this
    · rw [List.getElem?_drop] at hd
      exact hr _ _ hd
theorem addOff_ok {v : Value} {b b' : B} {n : Nat} (hv : RB w R ι dom v b) (h : addOff b n = some b') : ∃ g off, v = .pointer (some ⟨g, off, none⟩) ∧ RB w R ι dom (.pointer (some ⟨g, off + n, none⟩)) b' := by
  unfold addOff at h
  split at h <;> first | (cases h; done) | cases h
  · obtain ⟨h0, g, h1, h2⟩ := hv
    exact ⟨g, _, h2, h0, g, h1, rfl⟩
  · obtain ⟨h0, g, n', cap, h1, h2⟩ := hv
    exact ⟨g, _, h2, h0, g, n', cap, h1, by rw [Nat.add_assoc]⟩
  · have hv' : RD w R v _ := hv
    obtain ⟨b, off, us, h1, _, _⟩ := RD.rp_cells hv'
    exact ⟨b, off, h1, hv'.drop h1⟩
theorem isPtr_ok {v : Value} {b : B} (hv : RB w R ι dom v b) (h : isPtr b = true) : ∃ a, v = .pointer (some a) := by
  unfold isPtr at h
  split at h
  · obtain ⟨_, g, _, h2⟩ := hv; exact ⟨_, h2⟩
  · obtain ⟨_, g, _, _, _, h2⟩ := hv; exact ⟨_, h2⟩
  · have hv' : RD w R v _ := hv
    obtain ⟨b, off, us, h1, _, _⟩ := RD.rp_cells hv'
    exact ⟨_, h1⟩
  · cases h
theorem lenOf_ok (ho : ∀ p y, objs p = some y → RO N0 w R ι dom (ι p) y) {v : Value} {b : B} {n : Nat} (hv : RB w R ι dom v b) (h : lenOf objs b = some n) : ∃ a cap, v = .slice a n cap ∧ n ≤ maxLen := by
  unfold lenOf at h
  split at h
  · split at h
    · rename_i e k xs hob
      cases h
      obtain ⟨a, cap, h1, h2⟩ := RArr.len (ho _ _ hob)
      exact ⟨a, cap, hv.2.trans h1, h2⟩
    · cases h
  · cases h
    have hv' : RD w R v _ := hv
    cases hv' with
    | nil => exact ⟨_, _, rfl, by simp⟩
    | rd c h0 h1 h2 => exact ⟨_, _, rfl, by omega⟩
  · cases h
    have hv' : RD w R v _ := hv
    cases hv' with
    | pv => exact ⟨_, _, rfl, by simp⟩
  · cases h
end
end Go.Proofs.Ythgdccokpgaicaa
