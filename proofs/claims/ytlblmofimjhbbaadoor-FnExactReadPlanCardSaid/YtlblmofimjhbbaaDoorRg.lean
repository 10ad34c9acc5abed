/- A region that draws its order, walked one operation at a time: each operation is shown, in whatever world the others may have left, to leave what is said of it. No program is named here. -/
import Derived.Orders
import Derived.Tactics
import Derived.Below
import Derived.KernelRfl
import Derived.LoopTactic
namespace Go.Proofs.YtlblmofimjhbbaaDoor
open Go.RowKit
section
/-- The operations that an operation waits for. -/
def rgDirect (l : List Oper) (i : Nat) : List Nat :=
  match l[i]? with
  | some o => (o.after.toList.filter (Region.binds .any)).map (·.on)
  | none => []
def rgNext (c : List (List Nat)) (ds : List Nat) : List (List Nat) := c ++ [(ds ++ ds.flatMap fun j => c.getD j []).eraseDups]
def rgClos (l : List Oper) : Nat → List (List Nat)
  | 0 => []
  | k + 1 => rgNext (rgClos l k) (rgDirect l k)
/-- .. and those that these wait for, and so on. -/
def rgDeps (l : List Oper) (_ : Nat) (i : Nat) : List Nat := (rgClos l (i + 1)).getD i []
theorem rgClos_len (l : List Oper) : ∀ k, (rgClos l k).length = k
  | 0 => rfl
  | k + 1 => by simp [rgClos, rgNext, rgClos_len l k]
theorem rgClos_get (l : List Oper) : ∀ {k i : Nat}, i < k → (rgClos l k).getD i [] = rgDeps l 0 i
  | k + 1, i, h => by
    by_cases hk : i = k
    · subst hk; rfl
    · have e : (rgClos l (k + 1)).getD i [] = (rgClos l k).getD i [] := by
        show (rgClos l k ++ _).getD i [] = _
        rw [List.getD_eq_getElem?_getD, List.getElem?_append_left (by rw [rgClos_len]; omega), ← List.getD_eq_getElem?_getD]
      rw [e]
      exact rgClos_get l (by omega)
theorem mem_rgDeps {l : List Oper} {f i j : Nat} (h : j ∈ rgDeps l f i) : j ∈ rgDirect l i ∨ ∃ m ∈ rgDirect l i, m < i ∧ j ∈ rgDeps l f m := by
  have e : rgDeps l f i = (rgDirect l i ++ (rgDirect l i).flatMap fun j => (rgClos l i).getD j []).eraseDups := by
    show (rgClos l i ++ [_]).getD i [] = _
    rw [List.getD_eq_getElem?_getD, List.getElem?_append_right (by rw [rgClos_len]; omega), rgClos_len]
    simp
  rw [e, List.mem_eraseDups, List.mem_append, List.mem_flatMap] at h
  rcases h with h | ⟨m, hm, h⟩
  · exact .inl h
  · by_cases hmi : m < i
    · rw [rgClos_get l hmi] at h
      exact .inr ⟨m, hm, hmi, h⟩
    · rw [List.getD_eq_getElem?_getD, List.getElem?_eq_none (by rw [rgClos_len]; omega)] at h
      cases h
def rgDst (l : List Oper) (i : Nat) : Option Tmp := (l[i]?).bind (·.dst)
/-- An operation that only hands a value on, and that no other looks at before it waits for it: it may be carried out as soon as it can be. -/
def rgLate (l : List Oper) (i : Nat) : Bool :=
  match l[i]? with
  | some o => (match o.op with | .extract _ _ => true | .move _ => true | _ => false) &&
      (List.range l.length).all fun j => j == i || (rgDirect l i).contains j || (rgDirect l j).contains i || match l[j]? with
        | some oj => o.apart l.toArray oj
        | none => true
  | none => false
/-- An operation that only hands a value on. -/
def rgHand (l : List Oper) (i : Nat) : Bool :=
  match l[i]? with
  | some o => (match o.op with | .assign _ => true | .move _ => true | .fieldAddr _ _ _ => true | .makeFunc (.func _) _ _ => true | _ => false)
  | none => false
/-- A field's address hangs on nothing in memory. -/
def fldOk (P : Program) (o : Oper) : Bool :=
  match o.op with
  | .fieldAddr T _ f => match P.underlying T with
    | some (.struct fs) => match fs[f]? with
      | some fd => match P.info? fd.type with
        | some i => i.size != 0
        | none => false
      | none => false
    | _ => false
  | _ => true
def rgApart (l : List Oper) (i j : Nat) : Bool :=
  match l[i]?, l[j]? with
  | some oi, some oj => oi.apart l.toArray oj
  | _, _ => true
def rgFirst (l : List Oper) (n i : Nat) : Bool := rgHand l i && (rgDirect l i).all fun j => decide (j < n)
/-- The operations behind the first n, as they are walked: those that only hand on what is there already come first. -/
def rgIdx (l : List Oper) (n : Nat) : List Nat :=
  ((List.range l.length).filter fun i => decide (n ≤ i) && rgFirst l n i) ++ (List.range l.length).filter fun i => decide (n ≤ i) && !rgFirst l n i
def rgTl (l : List Oper) (n : Nat) : List Oper := (rgIdx l n).filterMap fun i => l[i]?
/-- They may be walked so. -/
def tailOk (l : List Oper) : List Nat → Bool
  | [] => true
  | i :: rest => (rgDirect l i).all (fun j => !rest.contains j) && (rest.all (fun j => (rgDeps l l.length j).contains i) || (rgHand l i && rest.all fun j => (rgDirect l j).contains i || rgApart l i j)) && tailOk l rest
/-- All that is asked of the region's text. -/
def rgOk (l : List Oper) (n s : Nat) : Bool :=
  decide (n ≤ l.length) &&
  (List.range l.length).all (fun i => (rgDirect l i).all (· < i)) &&
  (List.range n).all (fun i => match rgDst l i with | some d => decide (d < s) | none => false) &&
  (List.range n).all (fun i => (List.range n).all fun j => i == j || !(rgDst l i == rgDst l j)) &&
  (List.range n).all (fun i => match l[i]? with
    | some o => (match o.op with | .select _ _ => false | _ => true) && (List.range n).all fun j => match rgDst l j with
      | some d => !(o.looksAt l.toArray).contains d || (rgDeps l n i).contains j
      | none => false
    | none => false) &&
  (List.range l.length).all (fun i => decide (i < n) || (List.range n).all fun j => (rgDeps l l.length i).contains j || rgLate l j) && tailOk l (rgIdx l n) &&
  Region.noSelect l.toArray

/-- The frame with the values v of the first n operations in their slots. -/
def rgPut (l : List Oper) (a : Act) (v : Nat → Value) : Nat → Act
  | 0 => a
  | n + 1 => (rgPut l a v n).put (rgDst l n) (v n)

/-- What an operation leaves. -/
def rgPost (d : Option Tmp) (ds : List Deferred) (w : World) (A : Value → World → Prop) : Exit → Act → World → Prop
  | .normal, a', w' => a'.defers = ds ∧ Below w.heap.size w w' ∧ (match d with | some t => A (a'.tmps.getD t undef) w' | none => False)
  | _, _, _ => False

/-- The blocks that some operations keep to themselves, and some more. -/
def gAdd (G : Nat → Prop) (X : List Nat) (b : Nat) : Prop := G b ∨ b ∈ X
/-- What an operation leaves, where the blocks G are kept by others. -/
def rgB (A : Nat → (Nat → Prop) → Value → World → Prop) (own : Nat → Value → List Nat) (k : Nat) (G : Nat → Prop) (w : World) (u : Value) (w' : World) : Prop :=
  A k (gAdd G (own k u)) u w' ∧ (∀ g ∈ own k u, w.heap.size ≤ g ∧ g < w'.heap.size)
/-- One goal an operation. -/
def rgSteps (P : Program) (l : List Oper) (n : Nat) (a0 : Act) (w0 : World) (A : Nat → (Nat → Prop) → Value → World → Prop) (own : Nat → Value → List Nat) : Nat → List Oper → Prop
  | _, [] => True
  | k, o :: rest => (k < n → ∀ (v : Nat → Value) (w : World) (G : Nat → Prop), Below w0.heap.size w0 w → (∀ b, G b → w0.heap.size ≤ b ∧ b < w.heap.size) → (∀ j, (rgDeps l n k).contains j = true → A j G (v j) w) →
      wpList P l.toArray (rgPost o.dst a0.defers w (rgB A own k G w)) [o] (rgPut l a0 v n) w) ∧ rgSteps P l n a0 w0 A own (k + 1) rest
/-- Which blocks are kept, once the operations of L have been carried out. -/
structure RgOwn (w0 w : World) (n : Nat) (L : Nat → Prop) (own : Nat → Value → List Nat) (v : Nat → Value) (G : Nat → Prop) : Prop where
  new : ∀ b, G b → w0.heap.size ≤ b ∧ b < w.heap.size
  cov : ∀ b, G b → ∃ j, j < n ∧ L j ∧ b ∈ own j (v j)
  has : ∀ j, j < n → L j → ∀ b ∈ own j (v j), G b
  dis : ∀ i j, i < n → j < n → L i → L j → i ≠ j → ∀ b ∈ own i (v i), b ∉ own j (v j)

variable {P : Program} {l : List Oper} {n : Nat} {a0 : Act} {w0 : World} {A : Nat → (Nat → Prop) → Value → World → Prop} {own : Nat → Value → List Nat} {Q : Exit → Act → World → Prop}

theorem rgSteps_get : ∀ (l' : List Oper) (k i : Nat) (o : Oper), rgSteps P l n a0 w0 A own k l' → l'[i]? = some o → k + i < n → ∀ (v : Nat → Value) (w : World) (G : Nat → Prop), Below w0.heap.size w0 w → (∀ b, G b → w0.heap.size ≤ b ∧ b < w.heap.size) → (∀ j, (rgDeps l n (k + i)).contains j = true → A j G (v j) w) →
      wpList P l.toArray (rgPost o.dst a0.defers w (rgB A own (k + i) G w)) [o] (rgPut l a0 v n) w
  | [], _, _, _, _, h, _ => by simp at h
  | o' :: rest, k, 0, o, hs, h, hk => by
    simp at h; subst h
    exact hs.1 hk
  | o' :: rest, k, i + 1, o, hs, h, hk => by
    have := rgSteps_get rest (k + 1) i o hs.2 (by simpa using h) (by omega)
    rw [show k + 1 + i = k + (i + 1) by omega] at this
    exact this

/-- A frame as it is when the operations of 'L' have been carried out. -/
structure RgFrame (l : List Oper) (n : Nat) (a0 : Act) (v : Nat → Value) (L : Nat → Prop) (a : Act) : Prop where
  defers : a.defers = a0.defers
  size : a.tmps.size = a0.tmps.size
  put : ∀ j d, j < n → L j → rgDst l j = some d → a.tmps[d]? = some (v j)
  old : ∀ t, (∀ j, j < n → L j → rgDst l j ≠ some t) → a.tmps[t]? = a0.tmps[t]?

theorem rgPut_frame (hd : ∀ i, i < n → ∃ d, rgDst l i = some d ∧ d < a0.tmps.size) (hne : ∀ i j, i < n → j < n → i ≠ j → rgDst l i ≠ rgDst l j) (v : Nat → Value) :
    ∀ m, m ≤ n → RgFrame l n a0 v (· < m) (rgPut l a0 v m)
  | 0, _ => ⟨rfl, rfl, fun _ _ _ h => absurd h (Nat.not_lt_zero _), fun _ _ => rfl⟩
  | m + 1, hm => by
    have ih := rgPut_frame hd hne v m (by omega)
    obtain ⟨d, hdm, hds⟩ := hd m (by omega)
    have hlt : d < (rgPut l a0 v m).tmps.size := by rw [ih.size]; exact hds
    refine ⟨?_, ?_, ?_, ?_⟩
    · simp [rgPut, hdm, Act.put, ih.defers]
    · simp [rgPut, hdm, Act.put, ih.size]
    · intro j e hj hjm hje
      simp only [rgPut, hdm, Act.put]
      by_cases hjm' : j = m
      · subst hjm'
        rw [hdm] at hje; cases hje
        simp [hlt]
      · have hne' : d ≠ e := fun h => hne m j (by omega) hj (fun h => hjm' h.symm) (by rw [hdm, hje, h])
        rw [Array.getElem?_setIfInBounds_ne hne']
        exact ih.put j e hj (by omega) hje
    · intro t ht
      simp only [rgPut, hdm, Act.put]
      have hne' : d ≠ t := fun h => ht m (by omega) (by omega) (by rw [hdm, h])
      rw [Array.getElem?_setIfInBounds_ne hne']
      exact ih.old t fun j hj hjm => ht j hj (by omega)

/-- How many of the first k are not yet carried out. -/
def rgLeft (listed : Array Bool) : Nat → Nat
  | 0 => 0
  | k + 1 => rgLeft listed k + (if listed.getD k true = false then 1 else 0)

theorem rgLeft_set {listed : Array Bool} {i : Nat} (h : listed.getD i true = false) : ∀ k, rgLeft (listed.setIfInBounds i true) k + (if i < k then 1 else 0) = rgLeft listed k
  | 0 => rfl
  | k + 1 => by
    have ih := rgLeft_set h k
    have hi : i < listed.size := by
      rcases Nat.lt_or_ge i listed.size with h' | h'
      · exact h'
      · simp [Array.getElem?_eq_none h'] at h
    unfold rgLeft
    by_cases hk : i = k
    · subst hk
      have e : (listed.setIfInBounds i true).getD i true = true := by simp [Array.getElem?_setIfInBounds_self_of_lt hi]
      rw [if_neg (by rw [e]; simp), if_pos h, if_pos (by omega)]
      rw [if_neg (by omega)] at ih
      omega
    · rw [getD_set_ne true hk]
      by_cases hlt : i < k
      · have e1 : (if i < k + 1 then 1 else 0) = 1 := if_pos (by omega)
        have e2 : (if i < k then 1 else 0) = 1 := if_pos hlt
        omega
      · have e1 : (if i < k + 1 then 1 else 0) = 0 := if_neg (by omega)
        have e2 : (if i < k then 1 else 0) = 0 := if_neg hlt
        omega

theorem rgLeft_zero {listed : Array Bool} : ∀ k, rgLeft listed k = 0 → ∀ j, j < k → listed.getD j true = true
  | 0, _, j, hj => absurd hj (Nat.not_lt_zero _)
  | k + 1, h, j, hj => by
    unfold rgLeft at h
    by_cases hk : j = k
    · subst hk
      cases e : listed.getD j true
      · rw [if_pos e] at h; omega
      · rfl
    · exact rgLeft_zero k (by omega) j (by omega)

theorem rgDeps_listed {listed : Array Bool} (hcl : ∀ i, i < l.length → listed.getD i false = true → ∀ j ∈ rgDirect l i, listed.getD j false = true) (_ : ∀ i, i < l.length → ∀ j ∈ rgDirect l i, j < i) :
    ∀ f i, i < l.length → (∀ j ∈ rgDirect l i, listed.getD j false = true) → ∀ j ∈ rgDeps l f i, listed.getD j false = true := by
  intro f i
  induction i using Nat.strongRecOn with
  | _ i ih =>
    intro hi hd j hj
    rcases mem_rgDeps hj with hj | ⟨m, hm, hmi, hj⟩
    · exact hd j hj
    · exact ih m hmi (by omega) (hcl m (by omega) (hd m hm)) j hj

theorem rgReady {listed : Array Bool} {i : Nat} (h : i ∈ Region.ready .any l.toArray listed) : i < l.length ∧ listed.getD i true = false ∧ ∀ j ∈ rgDirect l i, listed.getD j false = true := by
  obtain ⟨h0, o, ho, hd⟩ := mem_ready.1 h
  have ho' : l[i]? = some o := by simpa using ho
  refine ⟨(List.getElem?_eq_some_iff.1 ho').1, h0, fun j hj => ?_⟩
  simp only [rgDirect, ho', List.mem_map, List.mem_filter] at hj
  obtain ⟨e, ⟨he, hb⟩, rfl⟩ := hj
  exact hd e (by simpa using he) hb

theorem rgReady_of {listed : Array Bool} {i : Nat} (hi : i < l.length) (h0 : listed.getD i true = false) (hd : ∀ j ∈ rgDirect l i, listed.getD j false = true) : i ∈ Region.ready .any l.toArray listed := by
  refine mem_ready.2 ⟨h0, l[i], by simp [hi], fun e he hb => hd e.on ?_⟩
  simp only [rgDirect, List.getElem?_eq_getElem hi, List.mem_map, List.mem_filter]
  exact ⟨e, ⟨by simpa using he, hb⟩, rfl⟩

theorem getD_set_self {listed : Array Bool} {i : Nat} (h : listed.getD i true = false) (d : Bool) : (listed.setIfInBounds i true).getD i d = true := by
  have hi : i < listed.size := by
    rcases Nat.lt_or_ge i listed.size with h' | h'
    · exact h'
    · simp [Array.getElem?_eq_none h'] at h
  simp [Array.getElem?_setIfInBounds_self_of_lt hi]

theorem getD_true_of {listed : Array Bool} {i : Nat} (hi : i < listed.size) (h : listed.getD i true = true) : listed.getD i false = true := by
  simpa [hi] using h

theorem rgHand_wp {o : Oper} {a : Act} {w : World} {K : Act → World → Prop} (h : (match o.op with | .assign _ => true | .move _ => true | .fieldAddr _ _ _ => true | .makeFunc (.func _) _ _ => true | _ => false) = true) (hf : fldOk P o = true) (hw : o.wp P a w K Q ∨ (o.asks P a w ∧ LetsOut Q)) (hno : LetsOut Q → False) : ∃ v, (∀ w, (execOp a.eval o).run P w = .ok (.value v) w) ∧ K (a.put o.dst v) w := by
  replace hw := hw.resolve_right fun h => hno h.2
  have key : ∃ v, ∀ w, (execOp a.eval o).run P w = .ok (.value v) w := by
    obtain ⟨dst, op, type, pos, after, guard⟩ := o
    cases op <;> try (simp only [Bool.false_eq_true] at h; done)
    case move x => exact ⟨_, fun w => rfl⟩
    case makeFunc fn first caps =>
      cases fn <;> simp only [Bool.false_eq_true] at h
      exact ⟨_, fun w => rfl⟩
    case assign x => exact ⟨_, fun w => rfl⟩
    case fieldAddr T x f =>
      simp only [fldOk] at hf
      split at hf
      · rename_i fs h1
        split at hf
        · rename_i fd h2
          split at hf
          · rename_i i h3
            have hs : i.size ≠ 0 := by simpa using hf
            have hrun : ∀ w, (execOp a.eval { dst := dst, op := .fieldAddr T x f, type := type, pos := pos, after := after, guard := guard }).run P w = ((Instr.fieldAt T (a.eval x) f).run P w).andThen fun v w' => .ok (.value v) w' := fun w => by
              show (do pure (Next.value (← Instr.fieldAt T (a.eval x) f)) : Sem Next).run P w = _
              rw [Sem.run_bind]; rfl
            have hgo : ∀ b w, (Instr.fieldAt T (.pointer (some b)) f).run P w = .ok (.pointer (some (b.add fd.offset))) w := fun b w => by
              have hsz : (sizeOf fd.type).run P w = .ok i.size w := by simp [sizeOf, typeInfo, h3]
              simp only [Instr.fieldAt, Sem.run_bind, run_underlying h1, Result.andThen_ok, h2, Instr.sureAddr, Sem.run_pure, fieldPlace, hsz, if_neg hs]
            cases hx : a.eval x
            case pointer p =>
              cases p with
              | some b => exact ⟨_, fun w => by rw [hrun w, hx, hgo]; rfl⟩
              | none =>
                exfalso
                unfold Oper.wp at hw
                rw [hrun w, hx] at hw
                simp [Instr.fieldAt, run_underlying h1, h2, Instr.sureAddr, Result.andThen, Oper.upon] at hw
            all_goals
              exfalso
              unfold Oper.wp at hw
              rw [hrun w, hx] at hw
              simp [Instr.fieldAt, run_underlying h1, h2, Instr.sureAddr, Result.andThen, Oper.upon] at hw
          · cases hf
        · cases hf
      · cases hf
  obtain ⟨v, hv⟩ := key
  refine ⟨v, hv, ?_⟩
  unfold Oper.wp at hw
  rw [hv w, Oper.upon_value] at hw
  exact hw
/-- The tail, in order. -/
theorem rgTail (hfl : l.all (fldOk P) = true) (hout : LetsOut Q → False) (hlt : ∀ i, i < l.length → ∀ j ∈ rgDirect l i, j < i) (hsel : Region.noSelect l.toArray = true) (hQ : ∀ c a t v w, Q (.panic c) (a.put (some t) v) w → Q (.panic c) a w) :
    ∀ (is : List Nat) (fuel : Nat) (listed : Array Bool) (a : Act) (w : World), is.Nodup → is.length ≤ fuel → listed.size = l.length → (∀ i ∈ is, i < l.length ∧ listed.getD i true = false) → (∀ j, j < l.length → j ∉ is → listed.getD j false = true) →
      (∀ i, i < l.length → listed.getD i false = true → ∀ j ∈ rgDirect l i, listed.getD j false = true) → tailOk l is = true →
      wpList P l.toArray Q (is.filterMap fun i => l[i]?) a w → wpAny P .any l.toArray Q fuel listed a w
  | [], fuel, listed, a, w, hnd, hf, hsz, h1, h2, hcl, hok, h => by
    have hr : Region.ready .any l.toArray listed = [] := by
      rw [List.eq_nil_iff_forall_not_mem]
      intro i hi
      obtain ⟨hil, h0, _⟩ := rgReady hi
      have := h2 i hil (by simp)
      rw [show listed.getD i true = true by simp [hsz, hil] at this ⊢; exact this] at h0
      cases h0
    cases fuel with
    | zero => exact ⟨hr, h⟩
    | succ f => exact ⟨fun _ => h, fun i hi => by rw [hr] at hi; cases hi⟩
  | i :: rest, 0, listed, a, w, hnd, hf, hsz, h1, h2, hcl, hok, h => absurd hf (by simp)
  | i :: rest, fuel + 1, listed, a, w, hnd, hf, hsz, h1, h2, hcl, hok, h => by
    simp only [tailOk, Bool.and_eq_true, List.all_eq_true, Bool.not_eq_true', Bool.or_eq_true, List.contains_iff_mem] at hok
    obtain ⟨⟨hd, hcase⟩, hok'⟩ := hok
    obtain ⟨hil, h0⟩ := h1 i (by simp)
    have hnd' := List.nodup_cons.1 hnd
    have hdep : ∀ j ∈ rgDirect l i, listed.getD j false = true := fun j hj => h2 j (Nat.lt_trans (hlt i hil j hj) hil) (fun hm => by
      rcases List.mem_cons.1 hm with rfl | hm
      · exact absurd (hlt _ hil _ hj) (Nat.lt_irrefl _)
      · have := hd j hj
        rw [Bool.eq_false_iff] at this
        exact this (List.contains_iff_mem.2 hm))
    have hready : i ∈ Region.ready .any l.toArray listed := rgReady_of hil h0 hdep
    have ho : l[i]? = some l[i] := by simp [hil]
    have step : ∀ a w, wpList P l.toArray Q (rest.filterMap fun i => l[i]?) a w → wpAny P .any l.toArray Q fuel (listed.setIfInBounds i true) a w := fun a w h =>
      rgTail hfl hout hlt hsel hQ rest fuel _ a w hnd'.2 (by simpa using hf) (by simp [hsz]) (fun j hj => ⟨(h1 j (by simp [hj])).1, by rw [getD_set_ne true (show i ≠ j from fun e => by subst e; exact hnd'.1 hj)]; exact (h1 j (by simp [hj])).2⟩) (fun j hj hjn => by
        by_cases e : j = i
        · subst e; exact getD_set_self h0 _
        · rw [getD_set_ne false (fun h => e h.symm)]; exact h2 j hj (by simp [e, hjn])) (fun k hk hkl j hj => by
        by_cases hki : k = i
        · subst hki
          have hji := hlt k hk j hj
          rw [getD_set_ne false (by omega)]
          exact hdep j hj
        · rw [getD_set_ne false (fun h => hki h.symm)] at hkl
          exact getD_set_true (hcl k hk hkl j hj)) hok' h
    rw [List.filterMap_cons, ho] at h
    simp only at h
    rcases hcase with hcase | ⟨hh, hcase⟩
    · refine ⟨fun hr => (by rw [hr] at hready; cases hready), fun k hk => ?_⟩
      obtain ⟨hkl, hk0, hkd⟩ := rgReady hk
      have hki : k = i := by
        refine Classical.byContradiction fun hne => ?_
        by_cases hm : k ∈ rest
        · have h3 := rgDeps_listed hcl hlt l.length k hkl hkd i (hcase k hm)
          rw [show listed.getD i true = true by simp [hsz, hil] at h3 ⊢; exact h3] at h0
          cases h0
        · have h3 := h2 k hkl (by simp [hne, hm])
          rw [show listed.getD k true = true by simp [hsz, hkl] at h3 ⊢; exact h3] at hk0
          cases hk0
      subst hki
      unfold wpOp
      rw [show l.toArray[k]? = some l[k] by simp [hil]]
      simp only [wpList] at h
      show if Region.wanted l[k] (yielded l.toArray a.tmps) = true then _ else _
      split
      · rename_i hw
        rw [if_pos hw] at h
        exact h.imp (Oper.wp_mono step) id
      · rename_i hw
        rw [if_neg hw] at h
        exact step _ _ h
    · unfold rgHand at hh
      rw [ho] at hh
      simp only at hh
      have hfree : Region.free .any l.toArray listed i = true := by
        unfold Region.free
        have e : l.toArray[i]? = some l[i] := by simp [hil]
        rw [e]
        simp only [List.all_eq_true, List.mem_range, List.size_toArray]
        intro j hj
        have e2 : l.toArray[j]? = some l[j] := by simp [hj]
        rw [e2]
        simp only [Bool.or_eq_true, beq_iff_eq]
        by_cases hji : j = i
        · exact .inl (.inl hji)
        · by_cases hm : j ∈ rest
          · refine .inr ?_
            rcases hcase j hm with h' | h'
            · refine .inl ?_
              unfold rgDirect at h'
              rw [show l[j]? = some l[j] by simp [hj]] at h'
              simp only [List.mem_map, List.mem_filter] at h'
              obtain ⟨e, ⟨he, hb⟩, hei⟩ := h'
              rw [Array.any_eq_true]
              obtain ⟨q, hq, hqe⟩ := Array.getElem_of_mem (show e ∈ l[j].after by simpa using he)
              exact ⟨q, hq, by rw [hqe]; simp [hb, hei]⟩
            · unfold rgApart at h'
              rw [ho, show l[j]? = some l[j] by simp [hj]] at h'
              exact .inr h'
          · have h3 := h2 j hj (by simp [hji, hm])
            refine .inl (.inr ?_)
            simp [hsz, hj] at h3 ⊢
            exact h3
      have hQ' : ∀ v c a w, Q (.panic c) (a.put l[i].dst v) w → Q (.panic c) a w := fun v c a w h => by
        cases hd : l[i].dst with
        | none => rw [hd] at h; exact h
        | some t => rw [hd] at h; exact hQ c a t v w h
      simp only [wpList] at h
      by_cases hw : Region.wanted l[i] (yielded l.toArray a.tmps) = true
      · rw [if_pos hw] at h
        obtain ⟨u, hu, h⟩ := rgHand_wp hh (List.all_eq_true.1 hfl _ (List.getElem_mem hil)) h hout
        exact wpAny_take (i := i) (by simp [hil]) hsel hfree (by simpa using hready) (hQ' u) (.inl ⟨hw, hu⟩) (step _ _ h)
      · rw [if_neg hw] at h
        exact wpAny_take (i := i) (by simp [hil]) hsel hfree (by simpa using hready) (hQ' undef) (.inr ⟨by simpa using hw, rfl⟩) (step _ _ h)
theorem rgIdx_mem {i : Nat} : i ∈ rgIdx l n ↔ n ≤ i ∧ i < l.length := by
  unfold rgIdx
  simp only [List.mem_append, List.mem_filter, List.mem_range, Bool.and_eq_true, decide_eq_true_eq, Bool.not_eq_true']
  cases rgFirst l n i <;> simp [and_comm]
theorem rgIdx_nodup : (rgIdx l n).Nodup := by
  unfold rgIdx
  refine List.nodup_append.2 ⟨List.nodup_range.filter _, List.nodup_range.filter _, fun a ha b hb e => ?_⟩
  subst e
  simp only [List.mem_filter, List.mem_range, Bool.and_eq_true, decide_eq_true_eq, Bool.not_eq_true'] at ha hb
  rw [ha.2.2] at hb
  cases hb.2.2
theorem rgIdx_length (h : n ≤ l.length) : (rgIdx l n).length = l.length - n := by
  have h1 : (rgIdx l n).Perm (List.range' n (l.length - n)) := (List.perm_ext_iff_of_nodup rgIdx_nodup List.nodup_range').2 fun i => by
    rw [rgIdx_mem, List.mem_range'_1]
    omega
  rw [h1.length_eq]
  simp
/-- What is asked of the region's text, said in sentences. -/
structure RgText (l : List Oper) (n s : Nat) : Prop where
  le : n ≤ l.length
  lt : ∀ i, i < l.length → ∀ j ∈ rgDirect l i, j < i
  dst : ∀ i, i < n → ∃ d, rgDst l i = some d ∧ d < s
  ne : ∀ i j, i < n → j < n → i ≠ j → rgDst l i ≠ rgDst l j
  sel : ∀ i o, i < n → l[i]? = some o → ∀ cs b, o.op ≠ .select cs b
  sees : ∀ i o, i < n → l[i]? = some o → ∀ j d, j < n → rgDst l j = some d → d ∈ o.looksAt l.toArray → j ∈ rgDeps l n i
  tl : tailOk l (rgIdx l n) = true
  ordP : ∀ i, n ≤ i → i < l.length → ∀ j, j < n → j ∈ rgDeps l l.length i ∨ rgLate l j = true
  nosel : Region.noSelect l.toArray = true

theorem rgText_of {s : Nat} (h : rgOk l n s = true) : RgText l n s := by
  unfold rgOk at h
  simp only [Bool.and_eq_true, List.all_eq_true, List.mem_range, decide_eq_true_eq] at h
  obtain ⟨⟨⟨⟨⟨⟨⟨h1, h2⟩, h3⟩, h4⟩, h5⟩, h6⟩, h8⟩, h7⟩ := h
  refine ⟨h1, h2, fun i hi => ?_, fun i j hi hj hij he => ?_, fun i o hi ho cs b hb => ?_, fun i o hi ho j d hj hd hm => ?_, h8, fun i hi hil j hj => ?_, h7⟩
  · have := h3 i hi
    cases e : rgDst l i with
    | none => rw [e] at this; cases this
    | some d => rw [e] at this; exact ⟨d, rfl, by simpa using this⟩
  · have := h4 i hi j hj
    simp [hij, he] at this
  · have := h5 i hi
    rw [ho] at this
    simp [hb] at this
  · have := h5 i hi
    rw [ho] at this
    simp only [Bool.and_eq_true, List.all_eq_true, List.mem_range] at this
    have h' := this.2 j hj
    rw [hd] at h'
    simpa [hm] using h'
  · have := h6 i hil
    simp only [Bool.or_eq_true, decide_eq_true_eq, List.all_eq_true, List.mem_range, List.contains_iff_mem] at this
    rcases this with h' | h'
    · omega
    · exact h' j hj

theorem rgLate_free {listed : Array Bool} {i : Nat} (hd : ∀ j ∈ rgDirect l i, listed.getD j false = true) (h : rgLate l i = true) : Region.free .any l.toArray listed i = true := by
  unfold rgLate at h
  unfold Region.free
  have e : l.toArray[i]? = l[i]? := by simp
  rw [e]
  cases ho : l[i]? with
  | none => rw [ho] at h; cases h
  | some o =>
    rw [ho] at h
    simp only [Bool.and_eq_true, List.all_eq_true, List.mem_range] at h
    simp only [List.all_eq_true, List.mem_range, List.size_toArray]
    intro j hj
    have := h.2 j hj
    have e2 : l.toArray[j]? = l[j]? := by simp
    rw [e2]
    simp only [Bool.or_eq_true] at this ⊢
    rcases this with ((h' | h') | h') | h'
    · exact .inl (.inl h')
    · have := hd j (by simpa using h')
      refine .inl (.inr ?_)
      cases hs : listed[j]? with
      | none => simp [hs]
      | some b => simp [hs] at this ⊢; exact this
    · refine .inr ?_
      have hm : i ∈ rgDirect l j := by simpa using h'
      unfold rgDirect at hm
      cases hoj : l[j]? with
      | none => rfl
      | some oj =>
        rw [hoj] at hm
        simp only [List.mem_map, List.mem_filter] at hm
        obtain ⟨e, ⟨he, hb⟩, hei⟩ := hm
        simp only [Bool.or_eq_true]
        refine .inl ?_
        rw [Array.any_eq_true]
        obtain ⟨q, hq, hqe⟩ := Array.getElem_of_mem (show e ∈ oj.after by simpa using he)
        exact ⟨q, hq, by rw [hqe]; simp [hb, hei]⟩
    · refine .inr ?_
      cases hoj : l[j]? with
      | none => rfl
      | some oj => rw [hoj] at h'; simp only [Bool.or_eq_true]; exact .inr h'

theorem rgLate_run {ρ : Operand → Value} {o : Oper} (h : (match o.op with | .extract _ _ => true | .move _ => true | _ => false) = true) {u : Value} {w w' : World} (hr : (execOp ρ o).run P w = .ok (.value u) w') :
    ∀ w, (execOp ρ o).run P w = .ok (.value u) w := by
  intro w2
  obtain ⟨dst, op, type, pos, after, guard⟩ := o
  cases op <;> simp only [Bool.false_eq_true] at h
  case move x =>
    have e : ∀ w, (execOp ρ { dst := dst, op := .move x, type := type, pos := pos, after := after, guard := guard }).run P w = .ok (.value (ρ x)) w := fun w => rfl
    rw [e] at hr ⊢
    cases hr; rfl
  case extract x k =>
    have e : ∀ w, (execOp ρ { dst := dst, op := .extract x k, type := type, pos := pos, after := after, guard := guard }).run P w = (do pure (Next.value (← Instr.extract (ρ x) k)) : Sem Next).run P w := fun w => rfl
    rw [e] at hr ⊢
    cases hx : ρ x <;> rw [hx] at hr <;> first
      | (cases hr; done)
      | skip
    rename_i vs
    unfold Instr.extract at hr ⊢
    simp only at hr ⊢
    cases hv : vs[k]? <;> rw [hv] at hr <;> first
      | (cases hr; done)
      | (cases hr; rfl)

theorem rgFrame_ext {v : Nat → Value} {L : Nat → Prop} {a b : Act} (ha : RgFrame l n a0 v L a) (hb : RgFrame l n a0 v L b) : a = b := by
  have e1 : a.defers = b.defers := ha.defers.trans hb.defers.symm
  have e2 : a.tmps = b.tmps := by
    refine Array.ext_getElem? fun t => ?_
    by_cases h : ∃ j, j < n ∧ L j ∧ rgDst l j = some t
    · obtain ⟨j, hj, hL, hd⟩ := h
      rw [ha.put j t hj hL hd, hb.put j t hj hL hd]
    · have h' : ∀ j, j < n → L j → rgDst l j ≠ some t := fun j hj hL hd => h ⟨j, hj, hL, hd⟩
      rw [ha.old t h', hb.old t h']
  cases a; cases b; simp_all

theorem rgMain {s : Nat} (hfl : l.all (fldOk P) = true) (hout : LetsOut Q → False) (hT : RgText l n s) (hs : s = a0.tmps.size) (hQ : ∀ c a t v w, Q (.panic c) (a.put (some t) v) w → Q (.panic c) a w)
    (hst : ∀ i G X v w w', i < n → Below w.heap.size w w' → (∀ g ∈ X, w.heap.size ≤ g) → A i G v w → A i (gAdd G X) v w')
    (hsteps : rgSteps P l n a0 w0 A own 0 l)
    (htail : ∀ (v : Nat → Value) (w : World) (G : Nat → Prop), Below w0.heap.size w0 w → RgOwn w0 w n (fun _ => True) own v G → (∀ j, j < n → A j G (v j) w) → wpList P l.toArray Q (rgTl l n) (rgPut l a0 v n) w) :
    ∀ (fuel : Nat) (listed : Array Bool) (a : Act) (w : World) (v : Nat → Value) (G : Nat → Prop), listed.size = l.length → rgLeft listed n + (l.length - n) ≤ fuel →
      (∀ j, n ≤ j → j < l.length → listed.getD j true = false) →
      (∀ i, i < l.length → listed.getD i false = true → ∀ j ∈ rgDirect l i, listed.getD j false = true) →
      Below w0.heap.size w0 w → RgOwn w0 w n (fun j => listed.getD j false = true) own v G → (∀ j, j < n → listed.getD j false = true → A j G (v j) w) → RgFrame l n a0 v (fun j => listed.getD j false = true) a →
      wpAny P .any l.toArray Q fuel listed a w := by
  have hput : ∀ v, RgFrame l n a0 v (· < n) (rgPut l a0 v n) := fun v => rgPut_frame (fun i hi => by rw [← hs]; exact hT.dst i hi) hT.ne v n (Nat.le_refl _)
  intro fuel
  induction fuel with
  | zero =>
    intro listed a w v G hsz hfu htl hcl hB hG hA hF
    have h0 : rgLeft listed n = 0 := by omega
    have hall : ∀ j, j < n → listed.getD j false = true := fun j hj => getD_true_of (by have := hT.le; omega) (rgLeft_zero n h0 j hj)
    have e : a = rgPut l a0 v n := rgFrame_ext (L := (· < n)) ⟨hF.defers, hF.size, fun j d hj _ hd => hF.put j d hj (hall j hj) hd, fun t ht => hF.old t fun j hj _ => ht j hj hj⟩ (hput v)
    rw [e]
    exact rgTail hfl hout hT.lt hT.nosel hQ (rgIdx l n) 0 listed _ w rgIdx_nodup (by rw [rgIdx_length hT.le]; omega) hsz (fun i hi => ⟨(rgIdx_mem.1 hi).2, htl i (rgIdx_mem.1 hi).1 (rgIdx_mem.1 hi).2⟩) (fun j hj hjn => hall j (Nat.lt_of_not_le fun h => hjn (rgIdx_mem.2 ⟨h, hj⟩))) hcl hT.tl (htail v w G hB ⟨hG.new, fun b hb => by obtain ⟨j, h1, _, h3⟩ := hG.cov b hb; exact ⟨j, h1, trivial, h3⟩, fun j hj _ => hG.has j hj (hall j hj), fun i j hi hj _ _ => hG.dis i j hi hj (hall i hi) (hall j hj)⟩ fun j hj => hA j hj (hall j hj))
  | succ fuel ih =>
    intro listed a w v G hsz hfu htl hcl hB hG hA hF
    by_cases h0 : rgLeft listed n = 0
    · have hall : ∀ j, j < n → listed.getD j false = true := fun j hj => getD_true_of (by have := hT.le; omega) (rgLeft_zero n h0 j hj)
      have e : a = rgPut l a0 v n := rgFrame_ext (L := (· < n)) ⟨hF.defers, hF.size, fun j d hj _ hd => hF.put j d hj (hall j hj) hd, fun t ht => hF.old t fun j hj _ => ht j hj hj⟩ (hput v)
      rw [e]
      exact rgTail hfl hout hT.lt hT.nosel hQ (rgIdx l n) (fuel + 1) listed _ w rgIdx_nodup (by rw [rgIdx_length hT.le]; omega) hsz (fun i hi => ⟨(rgIdx_mem.1 hi).2, htl i (rgIdx_mem.1 hi).1 (rgIdx_mem.1 hi).2⟩) (fun j hj hjn => hall j (Nat.lt_of_not_le fun h => hjn (rgIdx_mem.2 ⟨h, hj⟩))) hcl hT.tl (htail v w G hB ⟨hG.new, fun b hb => by obtain ⟨j, h1, _, h3⟩ := hG.cov b hb; exact ⟨j, h1, trivial, h3⟩, fun j hj _ => hG.has j hj (hall j hj), fun i j hi hj _ _ => hG.dis i j hi hj (hall i hi) (hall j hj)⟩ fun j hj => hA j hj (hall j hj))
    · -- one of the first n stands out
      have hex : ∃ i, i < n ∧ listed.getD i true = false := by
        refine Classical.byContradiction fun hno => h0 ?_
        have : ∀ k, k ≤ n → rgLeft listed k = 0 := by
          intro k
          induction k with
          | zero => intro _; rfl
          | succ k ihk =>
            intro hk
            unfold rgLeft
            rw [ihk (by omega), if_neg fun hf => hno ⟨k, by omega, hf⟩]
        exact this n (Nat.le_refl _)
      have hleast : ∃ i, i < n ∧ listed.getD i true = false ∧ ∀ j, j < i → listed.getD j true = true := by
        obtain ⟨i, hi, hf⟩ := hex
        induction i using Nat.strongRecOn with
        | _ i ihi =>
          by_cases hj : ∃ j, j < i ∧ listed.getD j true = false
          · obtain ⟨j, hji, hjf⟩ := hj
            exact ihi j hji (by omega) hjf
          · exact ⟨i, hi, hf, fun j hji => by
              cases e : listed.getD j true
              · exact absurd ⟨j, hji, e⟩ hj
              · rfl⟩
      obtain ⟨i0, hi0, hf0, hbelow⟩ := hleast
      have hle := hT.le
      have hr0 : i0 ∈ Region.ready .any l.toArray listed := rgReady_of (by omega) hf0 fun j hj => getD_true_of (by have := hT.lt i0 (by omega) j hj; omega) (hbelow j (hT.lt i0 (by omega) j hj))
      -- what is shown of one operation that may come up
      have core : ∀ i, i < n → i ∈ Region.ready .any l.toArray listed → wpOp P l.toArray Q i (wpAny P .any l.toArray Q fuel (listed.setIfInBounds i true)) a w ∧
          (rgLate l i = true → ∃ o u, l[i]? = some o ∧ Yields P l.toArray o u a ∧ wpAny P .any l.toArray Q fuel (listed.setIfInBounds i true) (a.put o.dst u) w) := fun i hin hi => ?_
      · by_cases hlate : rgLate l i0 = true
        · obtain ⟨o, u, ho, hy, hh⟩ := (core i0 hi0 hr0).2 hlate
          refine wpAny_take (i := i0) (by simpa using ho) hT.nosel (rgLate_free (rgReady hr0).2.2 hlate) (by simpa using hr0) ?_ hy hh
          obtain ⟨d, hd0, _⟩ := hT.dst i0 hi0
          have hod : o.dst = some d := by simpa [rgDst, ho] using hd0
          rw [hod]
          exact fun c a w h => hQ c a d u w h
        · refine ⟨fun hr => (by rw [hr] at hr0; cases hr0), fun i hi => ?_⟩
          obtain ⟨hil, hf, hd⟩ := rgReady hi
          have hin : i < n := by
            rcases Nat.lt_or_ge i n with h' | h'
            · exact h'
            · have := rgDeps_listed hcl hT.lt l.length i hil hd i0 ((hT.ordP i h' hil i0 hi0).resolve_right hlate)
              rw [show listed.getD i0 true = true by
                have : i0 < listed.size := by omega
                simp [this] at *
                assumption] at hf0
              cases hf0
          exact (core i hin hi).1
      obtain ⟨hil, hf, hd⟩ := rgReady hi
      have hdeps : ∀ j, j ∈ rgDeps l n i → listed.getD j false = true := rgDeps_listed hcl hT.lt n i hil hd
      obtain ⟨d, hdi, hds⟩ := hT.dst i hin
      obtain ⟨o, ho⟩ : ∃ o, l[i]? = some o := ⟨l[i], by simp [hil]⟩
      have hod : o.dst = some d := by simpa [rgDst, ho] using hdi
      have hst' := rgSteps_get l 0 i o hsteps ho (by omega) v w G hB hG.new (fun j hj => by
        have hj' : j ∈ rgDeps l n i := by simpa using hj
        have hl := hdeps j hj'
        rcases Nat.lt_or_ge j n with hjn | hjn
        · exact hA j hjn hl
        · have hjl : j < l.length := by
            rcases Nat.lt_or_ge j listed.size with h' | h'
            · omega
            · simp [Array.getElem?_eq_none h'] at hl
          have := htl j hjn hjl
          rw [show listed.getD j true = true by
            have : j < listed.size := by omega
            simp [this] at *
            assumption] at this
          cases this)
      rw [Nat.zero_add] at hst'
      -- both frames show this operation the same
      have hsee : ∀ t, t ∈ o.looksAt l.toArray → a.tmps[t]? = (rgPut l a0 v n).tmps[t]? := fun t ht => by
        by_cases h : ∃ j, j < n ∧ rgDst l j = some t
        · obtain ⟨j, hj, hjd⟩ := h
          have hl := hdeps j (hT.sees i o hin ho j t hj hjd ht)
          rw [hF.put j t hj hl hjd, (hput v).put j t hj hj hjd]
        · rw [hF.old t fun j hj _ hjd => h ⟨j, hj, hjd⟩, (hput v).old t fun j hj _ hjd => h ⟨j, hj, hjd⟩]
      have he : execOp (rgPut l a0 v n).eval o = execOp a.eval o := execOp_congr o (hT.sel i o hin ho) fun x hx => by
        cases x with
        | tmp t =>
          have := hsee t (List.mem_append_left _ (List.mem_filterMap.2 ⟨.tmp t, by simpa using hx, rfl⟩))
          simp [Act.eval, this]
        | _ => rfl
      have hw : Region.wanted o (yielded l.toArray (rgPut l a0 v n).tmps) = Region.wanted o (yielded l.toArray a.tmps) := by
        unfold Region.wanted
        cases hg : o.guard with
        | none => rfl
        | some gw =>
          obtain ⟨g, want⟩ := gw
          have : yielded l.toArray (rgPut l a0 v n).tmps g = yielded l.toArray a.tmps g := by
            unfold yielded
            cases ht : (l.toArray[g]?).bind (·.dst) with
            | none => rfl
            | some t =>
              have := hsee t (List.mem_append_right _ (by rw [hg]; show t ∈ ((l.toArray[g]?).bind (·.dst)).toList; rw [ht]; simp))
              simp [this]
          simp only [this]
      -- what follows
      have next : ∀ (u : Value) (w' : World), rgPost o.dst a0.defers w (rgB A own i G w) .normal ((rgPut l a0 v n).put o.dst u) w' → wpAny P .any l.toArray Q fuel (listed.setIfInBounds i true) (a.put o.dst u) w' := by
        intro u w' hp
        obtain ⟨_, hb, hAi⟩ := hp
        rw [hod] at hAi ⊢
        have hu2 : rgB A own i G w u w' := by
          have hlt : d < (rgPut l a0 v n).tmps.size := by rw [(hput v).size, ← hs]; exact hds
          simpa [Act.put, hlt] using hAi
        obtain ⟨hu, hun⟩ := hu2
        have hL : ∀ j, (listed.setIfInBounds i true).getD j false = true → j ≠ i → listed.getD j false = true := fun j h hji => by
          rwa [getD_set_ne false (fun h => hji h.symm)] at h
        refine ih _ _ w' (fun j => if j = i then u else v j) (gAdd G (own i u)) (by simpa using hsz) ?_ ?_ ?_ ?_ ?_ ?_ ?_
        · have := rgLeft_set hf n
          rw [if_pos hin] at this
          omega
        · intro j hj hjl
          rw [getD_set_ne true (by omega)]; exact htl j hj hjl
        · intro k hk hkl j hj
          by_cases hki : k = i
          · subst hki
            have hji := hT.lt k hk j hj
            rw [getD_set_ne false (by omega)]
            exact hd j hj
          · rw [getD_set_ne false (fun h => hki h.symm)] at hkl
            exact getD_set_true (hcl k hk hkl j hj)
        · exact hB.trans (hb.mono hB.size)
        · have hget : ∀ j, j < n → (listed.setIfInBounds i true).getD j false = true → j ≠ i → own j (if j = i then u else v j) = own j (v j) := fun j _ _ h => by rw [if_neg h]
          refine ⟨fun b hb' => ?_, fun b hb' => ?_, fun j hj hjl b hb' => ?_, fun j k hj hk hjl hkl hjk b hb' hbk => ?_⟩
          · rcases hb' with hb' | hb'
            · have := hG.new b hb'
              exact ⟨this.1, Nat.lt_of_lt_of_le this.2 hb.size⟩
            · have := hun b hb'
              exact ⟨Nat.le_trans hB.size this.1, this.2⟩
          · rcases hb' with hb' | hb'
            · obtain ⟨j, h1, h2, h3⟩ := hG.cov b hb'
              have hji : j ≠ i := fun e => by
                subst e
                have h4 : listed.getD j true = true := by
                  have : j < listed.size := by omega
                  simp [this] at h2 ⊢
                  exact h2
                rw [h4] at hf; cases hf
              refine ⟨j, h1, ?_, by simp only [if_neg hji]; exact h3⟩
              show (listed.setIfInBounds i true).getD j false = true
              rw [getD_set_ne false (fun h => hji h.symm)]
              exact h2
            · exact ⟨i, hin, getD_set_self hf _, by simpa using hb'⟩
          · by_cases hji : j = i
            · subst hji
              exact .inr (by simpa using hb')
            · simp only [if_neg hji] at hb'
              exact .inl (hG.has j hj (hL j hjl hji) b hb')
          · by_cases hji : j = i
            · by_cases hki : k = i
              · exact hjk (hji.trans hki.symm)
              · simp only [if_neg hki] at hbk
                have h1 := hG.new b (hG.has k hk (hL k hkl hki) b hbk)
                subst hji
                have h2 := hun b (by simpa using hb')
                omega
            · simp only [if_neg hji] at hb'
              have h1 := hG.new b (hG.has j hj (hL j hjl hji) b hb')
              by_cases hki : k = i
              · subst hki
                have h2 := hun b (by simpa using hbk)
                omega
              · simp only [if_neg hki] at hbk
                exact hG.dis j k hj hk (hL j hjl hji) (hL k hkl hki) hjk b hb' hbk
        · intro j hj hjl
          by_cases hji : j = i
          · subst hji; simpa using hu
          · rw [getD_set_ne false (fun h => hji h.symm)] at hjl
            simp only [if_neg hji]
            exact hst j _ _ _ _ _ hj hb (fun g hg => (hun g hg).1) (hA j hj hjl)
        · have hlt : d < a.tmps.size := by rw [hF.size, ← hs]; exact hds
          refine ⟨hF.defers, by simp [Act.put, hF.size], ?_, ?_⟩
          · intro j e hj hjl hje
            by_cases hji : j = i
            · subst hji
              rw [hdi] at hje; cases hje
              simp [Act.put, hlt]
            · rw [getD_set_ne false (fun h => hji h.symm)] at hjl
              have hne' : d ≠ e := fun h => hT.ne i j hin hj (fun h => hji h.symm) (by rw [hdi, hje, h])
              simp only [Act.put, if_neg hji]
              rw [Array.getElem?_setIfInBounds_ne hne']
              exact hF.put j e hj hjl hje
          · intro t ht
            have hne' : d ≠ t := fun h => ht i hin (getD_set_self hf _) (by rw [hdi, h])
            simp only [Act.put]
            rw [Array.getElem?_setIfInBounds_ne hne']
            refine hF.old t fun j hj hjl => ht j hj (getD_set_true hjl)
      simp only [wpList] at hst'
      rw [hw] at hst'
      refine ⟨?_, fun hlate => ?_⟩
      · unfold wpOp
        rw [show l.toArray[i]? = some o by simpa using ho]
        show if Region.wanted o (yielded l.toArray a.tmps) = true then _ else _
        split
        · rename_i hwt
          rw [if_pos hwt] at hst'
          rcases hst' with hst' | ⟨_, a1, w1, hlo⟩
          case inr => exact hlo.elim
          refine .inl ?_
          unfold Oper.wp at *
          rw [he] at hst'
          generalize (execOp a.eval o).run P w = r at *
          cases r with
          | ok m w' =>
            cases m <;> simp only [Oper.upon] at hst' ⊢
            case value u => exact next u w' hst'
            case skip => exact next undef w' hst'
            case defer df =>
              exfalso
              have h1 := hst'.1
              have h2 : ∀ (x : Act) (t : Option Tmp) (q : Value), (x.put t q).defers = x.defers := fun x t q => by cases t <;> rfl
              rw [h2] at h1
              have h3 := congrArg List.length h1
              have h4 := (hput v).defers
              simp [h4] at h3
            case enter f args =>
              refine Calls.mono hst' fun e w'' hh => ?_
              cases e with
              | returned u => exact next u w'' hh
              | panicked c => exact hh.elim
              | outgrown => exact hh.elim (fun _ h => h.elim fun _ h => h.elim)
            case row row args => exact Rows.mono hst' fun u w'' hh => next u w'' hh
          | halt x w' => cases x <;> simp only [Oper.upon] at hst' ⊢ <;> exact hst'.elim
        · rename_i hwt
          rw [if_neg hwt] at hst'
          exact next undef w hst'
      · have hk : (match o.op with | .extract _ _ => true | .move _ => true | _ => false) = true := by
          unfold rgLate at hlate
          rw [ho] at hlate
          simp only [Bool.and_eq_true] at hlate
          exact hlate.1
        by_cases hwt : Region.wanted o (yielded l.toArray a.tmps) = true
        · rw [if_pos hwt] at hst'
          rcases hst' with hst' | ⟨_, a1, w1, hlo⟩
          case inr => exact hlo.elim
          unfold Oper.wp at hst'
          rw [he] at hst'
          cases hrun : (execOp a.eval o).run P w with
          | ok m w' =>
            rw [hrun] at hst'
            have hval : ∃ u, m = .value u ∧ w' = w := by
              obtain ⟨dst, op, type, pos, after, guard⟩ := o
              cases op <;> simp only [Bool.false_eq_true] at hk
              case move x => cases hrun; exact ⟨_, rfl, rfl⟩
              case extract x k =>
                have e : (execOp a.eval { dst := dst, op := .extract x k, type := type, pos := pos, after := after, guard := guard }).run P w = (do pure (Next.value (← Instr.extract (a.eval x) k)) : Sem Next).run P w := rfl
                rw [e] at hrun
                cases hx : a.eval x <;> rw [hx] at hrun <;> first
                  | (cases hrun; done)
                  | skip
                rename_i vs
                unfold Instr.extract at hrun
                simp only at hrun
                cases hv : vs[k]? <;> rw [hv] at hrun <;> first
                  | (cases hrun; done)
                  | (cases hrun; exact ⟨_, rfl, rfl⟩)
            obtain ⟨u, rfl, rfl⟩ := hval
            exact ⟨o, u, ho, .inl ⟨hwt, rgLate_run hk hrun⟩, next u _ hst'⟩
          | halt x w' =>
            rw [hrun] at hst'
            cases x <;> simp only [Oper.upon] at hst' <;> exact hst'.elim
        · rw [if_neg hwt] at hst'
          exact ⟨o, undef, ho, .inr ⟨by simpa using hwt, rfl⟩, next undef w hst'⟩

/-- THE REGION: each of the first n operations by itself; the others behind them, in order. -/
theorem wp_region_rg {id : Nat} (n : Nat) (A : Nat → (Nat → Prop) → Value → World → Prop) (own : Nat → Value → List Nat) (hfl : l.all (fldOk P) = true) (hout : LetsOut Q → False) (hQ : ∀ c a t v w, Q (.panic c) (a.put (some t) v) w → Q (.panic c) a w) (hm : P.follows .mixedOrders = true) (hok : rgOk l n a0.tmps.size = true)
    (hst : ∀ i G X v w w', i < n → Below w.heap.size w w' → (∀ g ∈ X, w.heap.size ≤ g) → A i G v w → A i (gAdd G X) v w')
    (hsteps : rgSteps P l n a0 w0 A own 0 l)
    (htail : ∀ (v : Nat → Value) (w : World) (G : Nat → Prop), Below w0.heap.size w0 w → RgOwn w0 w n (fun _ => True) own v G → (∀ j, j < n → A j G (v j) w) → wpList P l.toArray Q (rgTl l n) (rgPut l a0 v n) w) :
    (Code.region id l.toArray true).wp P Q a0 w0 := by
  have hT := rgText_of hok
  have hF : ∀ j d, (Array.replicate l.length false).getD j d = if j < l.length then false else d := fun j d => by
    by_cases h : j < l.length <;> simp [h]
  refine wp_region_any hm ?_
  have hsz : l.toArray.size = l.length := by simp
  rw [hsz]
  refine rgMain hfl hout hT rfl hQ hst hsteps htail l.length _ a0 w0.drew (fun _ => undef) (fun _ => False) (by simp) ?_ ?_ ?_ (Below.drew (Below.refl _ _)) ⟨fun b h => h.elim, fun b h => h.elim, fun j hj hl => ?_, fun i j hi hj hl => ?_⟩ ?_ ?_
  · have : ∀ k, rgLeft (Array.replicate l.length false) k ≤ k := by
      intro k
      induction k with
      | zero => exact Nat.le_refl _
      | succ k ih => unfold rgLeft; split <;> omega
    have := this n
    have := hT.le
    omega
  · intro j _ hj; rw [hF, if_pos hj]
  · intro i hi hl; rw [hF, if_pos hi] at hl; cases hl
  · rw [hF] at hl; split at hl <;> cases hl
  · rw [hF] at hl; split at hl <;> cases hl
  · intro j hj hl; rw [hF] at hl; split at hl <;> cases hl
  · refine ⟨rfl, rfl, fun j d hj hl => ?_, fun _ _ => rfl⟩
    rw [hF] at hl; split at hl <;> cases hl
end
end Go.Proofs.YtlblmofimjhbbaaDoor
