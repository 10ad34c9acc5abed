/- What an operation that only reads gives, and what a call gives whose callee is known. No program is named here. -/
import Derived.Test.YtlblmofimjhbbaaDoorY2
namespace Go.Proofs.YtlblmofimjhbbaaDoor
open Go.RowKit
def frO : List (Nat × Ob) → Nat → Option Ob
  | [] => fun _ => none
  | (d, v) :: l => upd (frO l) d (some v)
/-- The objects are what is told of them; no two of them share a block. -/
def ObjsOk (w : World) (R : Nat → Prop) (ι : Nat → Value) (φ : Nat → List Nat) (objs : Nat → Option Ob) : Prop :=
  (∀ o x, objs o = some x → RO w R ι (domO objs) (ι o) (φ o) x) ∧ (∀ o x, objs o = some x → ∀ g ∈ φ o, ¬ R g ∧ g < w.heap.size) ∧
  (∀ o p x y g, objs o = some x → objs p = some y → g ∈ φ o → g ∈ φ p → o = p) ∧ TabW w R
/-- A block of one of these objects. -/
def fpO (φ : Nat → List Nat) (objs : Nat → Option Ob) (g : Nat) : Prop := ∃ o x, objs o = some x ∧ g ∈ φ o
/-- What a call leaves: of old memory it has turned the blocks of the objects handed to it, no others. -/
def After (w : World) (R : Nat → Prop) (ι : Nat → Value) (φ : Nat → List Nat) (ins : Nat → Option Ob) (r : AV) (outs : Nat → Option Ob) (v : Value) (w' : World) : Prop :=
  ∃ (R' : Nat → Prop) (ι' : Nat → Value) (φ' : Nat → List Nat), BelowM (fpO φ ins) w w' ∧ (∀ b, R b → R' b) ∧ (∀ b, R' b → b < w'.heap.size) ∧ (∀ b, R' b → b < w.heap.size → R b ∨ fpO φ ins b) ∧
    RA w' R' ι' (domO outs) v r ∧ ObjsOk w' R' ι' φ' outs ∧ (∀ g, fpO φ' outs g → fpO φ ins g ∨ w.heap.size ≤ g) ∧ ∀ o, pinN ≤ o → ι' o = ι o
/-- THE CONTRACT: the arguments, the objects that they lead to and that the callee may turn; the result, the objects behind the call (those from pinN on lie where they lay). -/
def SpecM (P : Program) (f : FuncId) (args : List V1) (ins : List (Nat × Ob)) (r : AV) (outs : List (Nat × Ob)) : Prop :=
  (∀ (vs : Array Value) (w : World), (callFunc f vs).run P w = .ok (.enter f vs) w) ∧
  ∀ (w : World) (R : Nat → Prop) (ι : Nat → Value) (φ : Nat → List Nat) (vs : List Value), (∀ b, R b → b < w.heap.size) → F2 (RV1 w R ι (domO (frO ins))) vs args → ObjsOk w R ι φ (frO ins) →
    Calls P f vs.toArray w fun e w' => ∃ v, e = .returned v ∧ After w R ι φ (frO ins) r (frO outs) v w'
/-- An argument that is data. -/
inductive VD where
  | c (x : D)
  | agg (xs : List D)
def VD.v1 : VD → V1
  | .c x => .c (.d x)
  | .agg xs => .agg (xs.map .d)
def RVD (W : World) (R : Nat → Prop) (v : Value) : VD → Prop
  | .c x => RD W R v x
  | .agg xs => ∃ vs : List Value, v = .agg vs.toArray ∧ F2 (RD W R) vs xs
/-- A result: data that nobody turns, or a slice that is the caller's from now on. -/
inductive RC where
  | fz (x : D)
  | nw (κ : Ky) (xs : List (List D))
  | nm (es : List (Value × Value))
inductive R1 where
  | c (x : RC)
  | agg (xs : List RC)
inductive RT where
  | v (x : R1)
  | tup (xs : List R1)
def RC.av (j : Nat) : RC → B
  | .fz x => .d x
  | .nw _ _ => .own j
  | .nm _ => .own j
def RC.out (j : Nat) : RC → List (Nat × Ob)
  | .fz _ => []
  | .nw κ xs => [(j, .arr κ xs [])]
  | .nm es => [(j, .mp es)]
def avs (j : Nat) : List RC → List B
  | [] => []
  | x :: xs => x.av j :: avs (j + 1) xs
def outL (j : Nat) : List RC → List (Nat × Ob)
  | [] => []
  | x :: xs => x.out j ++ outL (j + 1) xs
def R1.av (j : Nat) : R1 → V1
  | .c x => .c (x.av j)
  | .agg xs => .agg (avs j xs)
def R1.outs (j : Nat) : R1 → List (Nat × Ob)
  | .c x => x.out j
  | .agg xs => outL j xs
def av1s (j : Nat) : List R1 → List V1
  | [] => []
  | x :: xs => x.av j :: av1s (j + 100) xs
def out1s (j : Nat) : List R1 → List (Nat × Ob)
  | [] => []
  | x :: xs => x.outs j ++ out1s (j + 100) xs
def RT.av : RT → AV
  | .v x => .v (x.av 0)
  | .tup xs => .tup (av1s 0 xs)
def RT.outs : RT → List (Nat × Ob)
  | .v x => x.outs 0
  | .tup xs => out1s 0 xs
/-- The contract of a function that turns nothing of its caller's. -/
def Spec (P : Program) (f : FuncId) (args : List VD) (r : RT) : Prop := SpecM P f (args.map VD.v1) [] r.av r.outs
theorem flatten_get {α : Type} {k : Nat} : ∀ {xs : List (List α)} {i j : Nat} {es : List α}, (∀ es ∈ xs, es.length = k) → xs[i]? = some es → j < k → xs.flatten[i * k + j]? = es[j]?
  | [], i, j, es, _, h, _ => by simp at h
  | x :: xs, 0, j, es, hk, h, hj => by
    simp at h; subst h
    have := hk x (by simp)
    rw [List.flatten_cons, List.getElem?_append_left (by omega)]
    simp
  | x :: xs, i + 1, j, es, hk, h, hj => by
    have h1 := hk x (by simp)
    have := flatten_get (xs := xs) (i := i) (j := j) (es := es) (fun y hy => hk y (by simp [hy])) (by simpa using h) hj
    rw [List.flatten_cons, List.getElem?_append_right (by rw [h1, Nat.succ_mul]; omega), h1, show (i + 1) * k + j - k = i * k + j by rw [Nat.succ_mul]; omega]
    exact this
theorem flatten_len {α : Type} {k : Nat} : ∀ {xs : List (List α)}, (∀ es ∈ xs, es.length = k) → xs.flatten.length = xs.length * k
  | [], _ => by simp
  | x :: xs, h => by
    rw [List.flatten_cons, List.length_append, h x (by simp), flatten_len (fun y hy => h y (by simp [hy])), List.length_cons, Nat.succ_mul]
    omega
/-- A slice whose cells are data. -/
theorem rd_of_row {W : World} {R : Nat → Prop} {v : Value} {κ : Ky} {xs : List (List D)} {us : List Value} (h1 : ∀ es ∈ xs, es.length = κ.k) (h2 : W.ownsRow 0 κ.e κ.k v xs.length us) (h3 : F2 (RD W R) us xs.flatten) (hg : ∀ g, v.ownBlock = some g → R g) : RD W R v (.rd κ xs) := by
  rcases Nat.eq_zero_or_pos xs.length with h0 | h0
  · obtain rfl : xs = [] := List.eq_nil_of_length_eq_zero h0
    rcases h2.2 with ⟨rfl, _⟩ | ⟨g, cap, cur, rfl, _⟩
    · exact .nil
    · exact .nil
  · rcases h2.2 with ⟨_, h⟩ | ⟨g, cap, cur, rfl, hb, hh, hnc, hcm, hcs, ht⟩
    · omega
    · have hc : ∀ (i : Nat) (es : List D) (j : Nat), xs[i]? = some es → j < κ.k → ∃ u d, us[i * κ.k + j]? = some u ∧ es[j]? = some d ∧ RD W R u d := fun i es j hi hj => by
        have hl := h1 es (List.mem_of_getElem? hi)
        have hf := flatten_get h1 hi hj
        have he : es[j]? = some (es[j]'(by omega)) := List.getElem?_eq_getElem (by omega)
        rw [he] at hf
        obtain ⟨u, hu, hr⟩ := h3.get hf
        exact ⟨u, _, hu, he, hr⟩
      have hcell : ∀ j u, us[j]? = some u → W.cell? ⟨g, j, none⟩ = some u := fun j u hu => by
        have := h2.cells (g := g) rfl j u hu
        simpa [Addr.add_lit] using this
      refine .rd (fun i j => us.getD (i * κ.k + j) undef) h0 hnc hcm (hg g rfl) (fun i es hi => h1 es (List.mem_of_getElem? hi)) (fun i es j hi hj => ?_) (fun i es j d hi hd => ?_)
      · obtain ⟨u, d, hu, _, _⟩ := hc i es j hi hj
        rw [Nat.zero_add, hcell _ u hu]
        simp [List.getD, hu]
      · have hj : j < κ.k := by
          have := h1 es (List.mem_of_getElem? hi)
          rcases Nat.lt_or_ge j es.length with h | h
          · omega
          · rw [List.getElem?_eq_none h] at hd; cases hd
        obtain ⟨u, d', hu, hd', hr⟩ := hc i es j hi hj
        rw [hd] at hd'; cases hd'
        simp only [List.getD, hu, Option.getD_some]
        exact hr
/-- What a cell owns, taken for data. -/
theorem ET.data {W : World} {R : Nat → Prop} {vs : List Value} {ds : List D} {S : List Nat} (h : ET W vs ds S) : (∀ b ∈ S, R b) → F2 (RD W R) vs ds := by
  induction h with
  | nil => intro _; exact .nil
  | pv h hi _ ih => intro hS; exact .cons (.pv h hi) (ih hS)
  | rd hk ho _ _ ih1 ih2 =>
    intro hS
    exact .cons (rd_of_row hk ho (ih1 fun b hb => hS b (by simp [hb])) fun g hg => hS g (by simp [hg])) (ih2 fun b hb => hS b (by simp [hb]))
section
variable {w : World} {R : Nat → Prop} {ι : Nat → Value} {dom : Nat → Prop} {objs : Nat → Option Ob} {φ : Nat → List Nat}
theorem RArr.toET {v : Value} {κ : Ky} {xs : List (List D)} {S : List Nat} (h : RArr w ι dom v κ xs [] S) : ET w [v] [.rd κ xs] S ∧ S.Nodup := by
  obtain ⟨h1, vs, S1, h2, h3, rfl, h4⟩ := h
  have := ET.rd h1 h2 (EH.to_ET h3) .nil
  rw [List.append_nil] at this
  exact ⟨this, h4⟩
theorem RArr.of_ET {v : Value} {κ : Ky} {xs : List (List D)} {S : List Nat} (h : ET w [v] [.rd κ xs] S) (hn : S.Nodup) : RArr w ι dom v κ xs [] S := by
  cases h with
  | rd hk ho h1 h2 =>
    cases h2
    rw [List.append_nil] at hn ⊢
    exact ⟨hk, _, _, ho, EH.of_ET h1, rfl, hn⟩
theorem RArr.data {R' : Nat → Prop} {v : Value} {κ : Ky} {xs : List (List D)} {S : List Nat} (h : RArr w ι dom v κ xs [] S) (hS : ∀ b ∈ S, R' b) : RD w R' v (.rd κ xs) := by
  have := h.toET.1.data hS
  cases this with
  | cons h _ => exact h
theorem RArr.len {v : Value} {κ : Ky} {xs : List (List D)} {hs : List Ho} {S : List Nat} (h : RArr w ι dom v κ xs hs S) : ∃ a cap, v = .slice a xs.length cap ∧ xs.length ≤ maxLen := by
  obtain ⟨_, vs, S1, h2, _⟩ := h
  rcases h2.2 with ⟨rfl, h0⟩ | ⟨g, cap, cur, rfl, hb, hh, hnc, hcm, _⟩
  · exact ⟨none, 0, by rw [h0], by omega⟩
  · exact ⟨_, cap, rfl, by omega⟩
/-- The cells of one element. -/
def elemC (k i : Nat) (es : List D) : List Ho → List Cl
  | [] => es.map .d
  | h :: hs => if h.i = i ∧ h.j < k then (elemC k i es hs).set h.j (.h h.l) else elemC k i es hs
def clB : Cl → B
  | .d (.pv v) => .d (.pv v)
  | .d _ => .dead
  | .h (some q) => .own q
  | .h none => .dead
theorem elemC_length (k i : Nat) (es : List D) : ∀ hs, (elemC k i es hs).length = es.length
  | [] => by simp [elemC]
  | h :: hs => by
    simp only [elemC]
    split
    · rw [List.length_set]; exact elemC_length k i es hs
    · exact elemC_length k i es hs
theorem punch_length (k : Nat) (cs : List Cl) : ∀ hs, (punch k cs hs).length = cs.length
  | [] => rfl
  | h :: hs => by
    simp only [punch]
    split
    · rw [List.length_set]; exact punch_length k cs hs
    · exact punch_length k cs hs
theorem cellsH_get {k : Nat} {xs : List (List D)} {i j : Nat} {es : List D} (hk : ∀ es ∈ xs, es.length = k) (hi : xs[i]? = some es) (hj : j < k) : ∀ hs, (cellsH k xs hs)[i * k + j]? = (elemC k i es hs)[j]?
  | [] => by
    simp only [cellsH, punch, elemC, List.getElem?_map, flatten_get hk hi hj]
  | h :: hs => by
    have ih := cellsH_get hk hi hj hs
    have hl := hk es (List.mem_of_getElem? hi)
    have hlt := (List.getElem?_eq_some_iff.1 hi).1
    have hfl := flatten_len hk
    have hil : i * k + k ≤ xs.length * k := by rw [← Nat.succ_mul]; exact Nat.mul_le_mul_right _ hlt
    simp only [cellsH, punch, elemC]
    by_cases hjk : h.j < k
    · rw [if_pos hjk]
      by_cases hii : h.i = i
      · rw [if_pos ⟨hii, hjk⟩, hii]
        by_cases hjj : h.j = j
        · rw [hjj, List.getElem?_set_self (by rw [punch_length]; simp only [List.length_map]; omega), List.getElem?_set_self (by rw [elemC_length]; omega)]
        · rw [List.getElem?_set_ne (by omega), List.getElem?_set_ne hjj]
          exact ih
      · rw [if_neg (fun h => hii h.1), List.getElem?_set_ne]
        · exact ih
        · intro he
          rcases Nat.lt_or_gt_of_ne hii with hlt' | hgt
          · have : (h.i + 1) * k ≤ i * k := Nat.mul_le_mul_right _ hlt'
            rw [Nat.succ_mul] at this
            omega
          · have : (i + 1) * k ≤ h.i * k := Nat.mul_le_mul_right _ hgt
            rw [Nat.succ_mul] at this
            omega
    · rw [if_neg hjk, if_neg (fun h => hjk h.2)]
      exact ih
theorem EH.get {vs : List Value} {cs : List Cl} {S : List Nat} (h : EH w ι dom vs cs S) : ∀ {i : Nat} {c : Cl}, cs[i]? = some c → ∃ v, vs[i]? = some v ∧ v.oneCell' = true ∧ RB w R ι dom v (clB c) ∧ (∀ x, c = .d x → ∃ S1, ET w [v] [x] S1 ∧ ∀ b ∈ S1, b ∈ S) := by
  induction h with
  | nil => intro i c h; simp at h
  | d h1 _ ih =>
    intro i c h
    cases i with
    | zero =>
      simp at h; subst h
      refine ⟨_, rfl, h1.one _ (by simp), ?_, fun x hx => ?_⟩
      · cases h1 with
        | pv q1 q2 _ => exact RD.pv q1 q2
        | rd => trivial
      · cases hx; exact ⟨_, h1, fun b hb => by simp [hb]⟩
    | succ i =>
      obtain ⟨v, q1, q2, q3, q4⟩ := ih (i := i) (c := c) (by simpa using h)
      exact ⟨v, by simpa using q1, q2, q3, fun x hx => by obtain ⟨S1, e1, e2⟩ := q4 x hx; exact ⟨S1, e1, fun b hb => by simp [e2 b hb]⟩⟩
  | h h1 hl _ ih =>
    intro i c h
    cases i with
    | zero =>
      simp at h; subst h
      refine ⟨_, rfl, h1, ?_, fun x hx => by cases hx⟩
      rename_i l _ _ _ _
      cases l with
      | none => trivial
      | some q => exact hl q rfl
    | succ i => exact ih (by simpa using h)
/-- The cells that lie from a pointer on. -/
def cellsAt (objs : Nat → Option Ob) : B → Option (List B)
  | .ptr o off => match objs o with
    | some (.box _ cs) => some (cs.drop off)
    | _ => none
  | .ep o k i off => match objs o with
    | some (.arr κ xs hs) => if k = κ.k then (xs[i]?).map fun es => ((elemC κ.k i es hs).drop off).map clB else none
    | _ => none
  | .d (.rp cs) => some (cs.map B.d)
  | _ => none
def addOff : B → Nat → Option B
  | .ptr o off, n => some (.ptr o (off + n))
  | .ep o k i off, n => some (.ep o k i (off + n))
  | .d (.rp cs), n => some (.d (.rp (cs.drop n)))
  | _, _ => none
def isPtr : B → Bool
  | .ptr _ _ | .ep _ _ _ _ | .d (.rp _) => true
  | _ => false
def lenOf (objs : Nat → Option Ob) : B → Option Nat
  | .own o => match objs o with
    | some (.arr _ xs _) => some xs.length
    | _ => none
  | .d (.rd _ xs) => some xs.length
  | .d (.pv (.slice _ n _)) => if Nat.ble n maxLen then some n else none
  | _ => none
theorem RD.rp_cells {v : Value} {cs : List D} (h : RD w R v (.rp cs)) : ∃ b off us, v = .pointer (some ⟨b, off, none⟩) ∧ F2 (RD w R) us cs ∧ ∀ (j : Nat) (u : Value), us[j]? = some u → w.cell? ⟨b, off + j, none⟩ = some u := by
  cases h with
  | rp c hR hc hr =>
    rename_i b off
    refine ⟨b, off, (List.range cs.length).map c, rfl, F2.of_get (by simp) fun i a b' ha hb => ?_, fun j u hu => ?_⟩
    · have hi : i < cs.length := by
        rcases Nat.lt_or_ge i cs.length with h | h
        · exact h
        · rw [List.getElem?_eq_none h] at hb; cases hb
      simp [hi] at ha
      subst ha
      exact hr i b' hb
    · have hi : j < cs.length := by
        rcases Nat.lt_or_ge j cs.length with h | h
        · exact h
        · simp [Nat.not_lt.2 h] at hu
      simp [hi] at hu
      subst hu
      exact hc j hi
theorem cellsAt_ok (ho : ∀ p y, objs p = some y → RO w R ι dom (ι p) (φ p) y) {v : Value} {b : B} {cs : List B} (hv : RB w R ι dom v b) (h : cellsAt objs b = some cs) :
    ∃ g off us, v = .pointer (some ⟨g, off, none⟩) ∧ F2 (RB w R ι dom) us cs ∧ ∀ (j : Nat) (u : Value), us[j]? = some u → w.cell? ⟨g, off + j, none⟩ = some u := by
  unfold cellsAt at h
  split at h
  · rename_i o off
    split at h
    · rename_i T cs' hob
      cases h
      obtain ⟨_, g, h1, h2⟩ := hv
      obtain ⟨g', vs, h3, _, h4, h5⟩ := ho _ _ hob
      rw [h1] at h3
      obtain rfl : g = g' := by simpa using h3
      refine ⟨g, off, vs.drop off, h2, h5.drop off, fun j u hu => ?_⟩
      rw [List.getElem?_drop] at hu
      simp [World.cell?, h4, hu]
    · cases h
  · rename_i o k i off
    split at h
    · rename_i κ xs hs hob
      split at h
      · rename_i hkk
        subst hkk
        cases hx : xs[i]? with
        | none => simp [hx] at h
        | some es =>
          simp only [hx, Option.map_some, Option.some.injEq] at h
          subst h
          obtain ⟨_, g, n, cap, h1, h2⟩ := hv
          obtain ⟨hk, vs, S1, hown, hf, _⟩ := ho _ _ hob
          have hes := hk es (List.mem_of_getElem? hx)
          have hcell : ∀ j u, vs[j]? = some u → w.cell? ⟨g, j, none⟩ = some u := fun j u hu => by
            have := hown.cells (g := g) (by rw [h1]; rfl) j u hu
            simpa [Addr.add_lit] using this
          have hlen : ∀ j c, j < κ.k → (elemC κ.k i es hs)[j]? = some c → ∃ u, vs[i * κ.k + j]? = some u ∧ RB w R ι dom u (clB c) := fun j c hj hc => by
            rw [← cellsH_get hk hx hj hs] at hc
            obtain ⟨u, q1, _, q3, _⟩ := hf.get (R := R) hc
            exact ⟨u, q1, q3⟩
          refine ⟨g, i * κ.k + off, ((vs.drop (i * κ.k)).take κ.k).drop off, h2, ?_, fun j u hu => ?_⟩
          · rw [List.map_drop]
            refine F2.drop off (F2.of_get ?_ fun j a b ha hb => ?_)
            · simp only [List.length_take, List.length_drop, List.length_map, elemC_length]
              rcases Nat.eq_zero_or_pos κ.k with h0 | h0
              · omega
              · obtain ⟨u, hu, _⟩ := hlen (κ.k - 1) _ (by omega) (List.getElem?_eq_getElem (by rw [elemC_length]; omega))
                have : i * κ.k + (κ.k - 1) < vs.length := by
                  rcases Nat.lt_or_ge (i * κ.k + (κ.k - 1)) vs.length with h | h
                  · exact h
                  · rw [List.getElem?_eq_none h] at hu; cases hu
                omega
            · rw [List.getElem?_map] at hb
              cases hd : (elemC κ.k i es hs)[j]? with
              | none => simp [hd] at hb
              | some d =>
                simp only [hd, Option.map_some, Option.some.injEq] at hb
                subst hb
                have hj : j < κ.k := by
                  have := (List.getElem?_eq_some_iff.1 hd).1
                  rw [elemC_length] at this
                  omega
                obtain ⟨u, hu, hr⟩ := hlen j d hj hd
                rw [List.getElem?_take_of_lt hj, List.getElem?_drop, hu] at ha
                cases ha
                exact hr
          · rw [List.getElem?_drop] at hu
            have hj : off + j < κ.k := by
              rcases Nat.lt_or_ge (off + j) κ.k with h | h
              · exact h
              · rw [List.getElem?_eq_none (by simp; omega)] at hu; cases hu
            rw [List.getElem?_take_of_lt hj, List.getElem?_drop] at hu
            have := hcell _ u hu
            rw [Nat.add_assoc]
            exact this
      · cases h
    · cases h
  · rename_i cs'
    cases h
    obtain ⟨b, off, us, h1, h2, h3⟩ := RD.rp_cells hv
    refine ⟨b, off, us, h1, F2.of_get (by simp [h2.len]) fun i a b' ha hb => ?_, h3⟩
    rw [List.getElem?_map] at hb
    cases hd : cs'[i]? with
    | none => simp [hd] at hb
    | some d =>
      simp only [hd, Option.map_some, Option.some.injEq] at hb
      subst hb
      obtain ⟨u, hu, hr⟩ := h2.get hd
      rw [ha] at hu; cases hu
      exact hr
  · cases h
theorem RD.drop {v : Value} {cs : List D} {b off n : Nat} (h : RD w R v (.rp cs)) (hv : v = .pointer (some ⟨b, off, none⟩)) : RD w R (.pointer (some ⟨b, off + n, none⟩)) (.rp (cs.drop n)) := by
  cases h with
  | rp c hR hc hr =>
    simp only [Value.pointer.injEq, Option.some.injEq, Addr.mk.injEq] at hv
    obtain ⟨rfl, rfl, _⟩ := hv
    refine .rp (fun j => c (n + j)) hR (fun j hj => ?_) (fun j d hd => ?_)
    · have := hc (n + j) (by simp at hj; omega)
      rwa [← Nat.add_assoc] at this
    · rw [List.getElem?_drop] at hd
      exact hr _ _ hd
theorem addOff_ok {v : Value} {b b' : B} {n : Nat} (hv : RB w R ι dom v b) (h : addOff b n = some b') : ∃ g off, v = .pointer (some ⟨g, off, none⟩) ∧ RB w R ι dom (.pointer (some ⟨g, off + n, none⟩)) b' := by
  unfold addOff at h
  split at h <;> first | (cases h; done) | cases h
  · obtain ⟨h0, g, h1, h2⟩ := hv
    exact ⟨g, _, h2, h0, g, h1, rfl⟩
  · obtain ⟨h0, g, n', cap, h1, h2⟩ := hv
    exact ⟨g, _, h2, h0, g, n', cap, h1, by rw [Nat.add_assoc]⟩
  · have hv' : RD w R v _ := hv
    obtain ⟨b, off, us, h1, _, _⟩ := RD.rp_cells hv'
    exact ⟨b, off, h1, hv'.drop h1⟩
theorem isPtr_ok {v : Value} {b : B} (hv : RB w R ι dom v b) (h : isPtr b = true) : ∃ a, v = .pointer (some a) := by
  unfold isPtr at h
  split at h
  · obtain ⟨_, g, _, h2⟩ := hv; exact ⟨_, h2⟩
  · obtain ⟨_, g, _, _, _, h2⟩ := hv; exact ⟨_, h2⟩
  · have hv' : RD w R v _ := hv
    obtain ⟨b, off, us, h1, _, _⟩ := RD.rp_cells hv'
    exact ⟨_, h1⟩
  · cases h
theorem lenOf_ok (ho : ∀ p y, objs p = some y → RO w R ι dom (ι p) (φ p) y) {v : Value} {b : B} {n : Nat} (hv : RB w R ι dom v b) (h : lenOf objs b = some n) : ∃ a cap, v = .slice a n cap ∧ n ≤ maxLen := by
  unfold lenOf at h
  split at h
  · split at h
    · rename_i e k xs hob
      cases h
      obtain ⟨a, cap, h1, h2⟩ := RArr.len (ho _ _ hob)
      exact ⟨a, cap, hv.2.trans h1, h2⟩
    · cases h
  · cases h
    have hv' : RD w R v _ := hv
    cases hv' with
    | nil => exact ⟨_, _, rfl, by simp⟩
    | rd c h0 h1 h2 => exact ⟨_, _, rfl, by omega⟩
  · split at h
    · rename_i hle
      cases h
      have hv' : RD w R v _ := hv
      cases hv' with
      | pv => exact ⟨_, _, rfl, Nat.le_of_ble_eq_true hle⟩
    · cases h
  · cases h
end
end Go.Proofs.YtlblmofimjhbbaaDoor
