/- More rules to walk with: elements known, slices within arrays. No program is named here. -/
import Derived.Test.YtlblmofimjhbbaaDoorY20
namespace Go.Proofs.YtlblmofimjhbbaaDoor
open Go.RowKit
section
variable {P : Program} {Q : Exit → St → Prop} {ks : List Fr} {e : Nat → AV} {o : Nat → Option Ob} {d : Nat} {fr : Bool} {x y z : Operand} {rest : List SR}
/-- An element that is known. -/
theorem R.ixK {α : Type} {f : α → List D} {l : List α} {κ κ' : Ky} {k' : IntKind} {i : Nat} (a : α) (ha : l[i]? = some a) (h : ev e x = rdA κ' (l.map f)) (hk : κ'.k = κ.k) (h1 : ev e y = pvA (.int k' (i : Int))) (k : WL P rest ks Q ⟨upd e d (.v (.c (.d (.rp (f a))))), o⟩) : WL P (⟨some d, none, fr, .ix κ x y⟩ :: rest) ks Q ⟨e, o⟩ :=
  R.ixN h hk h1 (List.getElem?_eq_some_iff.1 ha).1 fun b hb => by rw [ha] at hb; cases hb; exact k
theorem R.ixOK {α : Type} {f : α → List D} {l : List α} {κ : Ky} {p : Nat} {hs : List Ho} {k' : IntKind} {i : Nat} (a : α) (ha : l[i]? = some a) (h : ev e x = .v (.c (.own p))) (ho : o p = some (.arr κ (l.map f) hs)) (h1 : ev e y = pvA (.int k' (i : Int))) (k : WL P rest ks Q ⟨upd e d (.v (.c (.ep p κ.k i 0))), o⟩) : WL P (⟨some d, none, fr, .ix κ x y⟩ :: rest) ks Q ⟨e, o⟩ :=
  R.ixON h ho h1 (List.getElem?_eq_some_iff.1 ha).1 fun _ _ => k
/-- An element that has just been written. -/
theorem R.ixS {α : Type} {f : α → List D} {l : List α} {b : α} {κ : Ky} {p : Nat} {hs : List Ho} {k' : IntKind} {i : Nat} (h : ev e x = .v (.c (.own p))) (ho : o p = some (.arr κ ((l.set i b).map f) hs)) (h1 : ev e y = pvA (.int k' (i : Int))) (h0 : i < l.length) (k : (l.set i b)[i]? = some b → WL P rest ks Q ⟨upd e d (.v (.c (.ep p κ.k i 0))), o⟩) : WL P (⟨some d, none, fr, .ix κ x y⟩ :: rest) ks Q ⟨e, o⟩ :=
  R.ixON h ho h1 (by simpa using h0) fun _ _ => k (List.getElem?_set_self h0)
def openId (d : Nat) : Nat := 960000 + d
/-- A slice within an array of one's own, loaded: it is an object of its own from here on; its place in the array is a hole. -/
theorem R.ldOpen {α β : Type} {f : α → List D} {g : β → List D} {l : List α} {l' : List β} {p i j : Nat} {κ κ' : Ky} {a : α} {s' : Nat} (h : ev e x = .v (.c (.ep p κ.k i j))) (ho : o p = some (.arr κ (l.map f) [])) (hi : l[i]? = some a) (hj : (f a)[j]? = some (.rd κ' (l'.map g))) (hjk : j < κ.k) (hq : freeO o (openId d))
    (k : WL P rest ks Q ⟨upd e d (.v (.c (.own (openId d)))), upd (upd o p (some (.arr κ (l.map f) [⟨i, j, some (openId d)⟩]))) (openId d) (some (.arr κ' (l'.map g) []))⟩) : WL P (⟨some d, none, false, .ld false s' x⟩ :: rest) ks Q ⟨e, o⟩ := by
  have hpq : p ≠ openId d := fun e => by have := hq.none.1; rw [← e, ho] at this; cases this
  have hfa : (l.map f)[i]? = some (f a) := by rw [List.getElem?_map, hi]; rfl
  refine R.weak (Weak.open (st := ⟨e, o⟩) p i j (openId d) ho hfa hj (fun _ h => by cases h) hq) (R.ld h (cs := ((elemC κ.k i (f a) [⟨i, j, some (openId d)⟩]).drop j).map clB) (c := .own (openId d)) ?_ ?_ k)
  · simp only [cellsAt, upd_ne _ _ hpq, upd_same, if_true, hfa, Option.map_some]
  · have hlen : j < ((f a).map Cl.d).length := by simpa using (List.getElem?_eq_some_iff.1 hj).1
    simp only [elemC, true_and, hjk, if_true, List.map_drop, List.getElem?_drop, Nat.add_zero, List.getElem?_map]
    rw [List.getElem?_set_self hlen]
    rfl
/-- What lies in a hole goes back. -/
theorem Weak.close {α β : Type} {f : α → List D} {g : β → List D} {l : List α} {l' : List β} {p i j q : Nat} {κ κ' : Ky} {a : α} (b : α) (ho : o p = some (.arr κ (l.map f) [⟨i, j, some q⟩])) (hq : o q = some (.arr κ' (l'.map g) [])) (hne : Nat.beq p q = false) (hi : l[i]? = some a) (hj : Nat.blt j κ.k = true) (hb : splice (f a) j [.rd κ' (l'.map g)] = f b) :
    Weak ⟨e, o⟩ ⟨(eK [q] e), upd (oK [q] o) p (some (.arr κ ((l.set i b).map f) []))⟩ := by
  have hne' : p ≠ q := fun e => by subst e; simp at hne
  have h := Weak.fold (st := ⟨e, o⟩) p i j q (hs' := []) ho hq (by simp [St.kill, hne', ho, Ob.kill, Ho.kill]) (by rw [List.getElem?_map, hi]; rfl) (by rw [Nat.blt] at hj; exact Nat.le_of_ble_eq_true hj)
  rw [hb, ← List.map_set] at h
  exact h
theorem R.callN1 {bor : Bool} {g : FuncId} {f : Operand} {xs : List Operand} {caps : List D} {args : List V1} {ds : List VD} {κ : Ky} {ys : List (List D)} (h1 : ev e f = .v (.c (.d (.fn g caps)))) (h2 : argsC (hobOf bor [] o) [] e xs = some args) (hc : Spec P g ds (oN κ ys)) (h3 : (args ++ caps.map fun d => .c (.d d)) = ds.map VD.v1)
    (h5 : freeO o (callId d)) (k : WL P rest ks Q ⟨upd e d (.v (.c (.own (callId d)))), upd o (callId d) (some (.arr κ ys []))⟩) : WL P (⟨some d, none, false, .call f xs⟩ :: rest) ks Q ⟨e, o⟩ :=
  R.callN (bor := bor) (dst := some d) h1 h2 hc h3 (by
    unfold freeO at h5
    simpa [outsOk, look2, RT.outs, R1.outs, RC.out] using h5) (by cases bor <;> rfl) rfl rfl k
theorem R.nseqFold {α β : Type} {f : α → List D} {g : β → List D} {l : List α} {l' : List β} {p i j q : Nat} {κ κ' : Ky} {a : α} {c : SC} (b : α) (ho : o p = some (.arr κ (l.map f) [⟨i, j, some q⟩])) (hq : o q = some (.arr κ' (l'.map g) [])) (hne : Nat.beq p q = false) (hi : l[i]? = some a) (hj : Nat.blt j κ.k = true) (hb : splice (f a) j [.rd κ' (l'.map g)] = f b)
    (k : (l.set i b)[i]? = some b → WC P c ks Q ⟨(eK [q] e), upd (oK [q] o) p (some (.arr κ ((l.set i b).map f) []))⟩) : WN P (.seq c :: ks) Q ⟨e, o⟩ :=
  R.nseqW (Weak.close b ho hq hne hi hj hb) (k (List.getElem?_set_self (List.getElem?_eq_some_iff.1 hi).1))
def pairV1 : V1 → V1 → List (Nat × Nat)
  | .c b, .c c => pairB b c
  | .agg bs, .agg cs => pairBs bs cs
  | _, _ => []
def pairY : List V1 → List V1 → List (Nat × Nat)
  | y :: ys, x :: xs => pairV1 y x ++ pairY ys xs
  | _, _ => []
def avL : AV → List V1
  | .v y => [y]
  | .tup l => l
def pinsOf (ρ : List (Nat × Nat)) : List (Nat × Ob) → List (Nat × Nat)
  | [] => []
  | (j, _) :: l => if Nat.ble pinN j && (look2 ρ j).isNone then (j, j) :: pinsOf ρ l else pinsOf ρ l
/-- Which objects are handed back: those that the results name, and those that stay. -/
def ρOut (ys : List V1) (r : AV) (outs : List (Nat × Ob)) : List (Nat × Nat) := pairY ys (avL r) ++ pinsOf (pairY ys (avL r)) outs
def shp (r : AV) (ys' : List V1) : Prop := match r with
  | .v y => ys' = [y]
  | .tup l => l.length ≠ 1 ∧ ys' = l
/-- What is handed back: which objects they are is read off. -/
theorem R.outR {fn : Func} {rs : List ResultVar} {r : AV} {outs : List (Nat × Ob)} {st : St} {ys ys' : List V1} (hrs : fn.results.toList = rs) (h1 : F2 (resV P st) rs ys) (h2 : vAll (cV1 (fun _ => none) (ρOut ys r outs)) ys = some ys') (h3 : insC st.objs (fun _ => none) (ρOut ys r outs) (ρOut ys r outs) = some outs) (h4 : okρ (ρOut ys r outs) = true) (h5 : shp r ys') : RetOk P fn.results.toList r outs st :=
  R.out hrs h1 _ h2 h3 h4 (by cases r <;> exact h5)
def ownsB : List B → List Nat
  | [] => []
  | .own p :: bs => p :: ownsB bs
  | .ptr p _ :: bs => p :: ownsB bs
  | _ :: bs => ownsB bs
def ownsA : AV → List Nat
  | .v (.c b) => ownsB [b]
  | .v (.agg bs) => ownsB bs
  | .tup _ => []
/-- Calls whose callee turns objects that stay where they lie: one, two, three of them, all in the first argument. -/
theorem R.callM1 {bor : Bool} {dst : Option Nat} {g : FuncId} {f x0 : Operand} {xs : List Operand} {caps : List D} {args as' : List V1} {i1 p1 : Nat} {κ1 : Ky} {X1 Y1 : List (List D)} {v : Value} (h1 : ev e f = .v (.c (.d (.fn g caps)))) (_ : ownsA (ev e x0) = [p1]) (hc : SpecM P g as' [(i1, .arr κ1 X1 [])] (.v (.c (.d (.pv v)))) [(i1, .arr κ1 Y1 [])])
    (h2 : argsC (hobOf bor [(p1, i1)] o) [(p1, i1)] e (x0 :: xs) = some args) (h3 : (args ++ caps.map fun d => .c (.d d)) = as') (h4 : o p1 = some (.arr κ1 X1 [])) (h5 : Nat.ble pinN i1 = true) (k : WL P rest ks Q (putD ⟨e, upd o p1 (some (.arr κ1 Y1 []))⟩ dst (pvA v))) : WL P (⟨dst, none, false, .call f (x0 :: xs)⟩ :: rest) ks Q ⟨e, o⟩ := by
  unfold WL at k
  refine WL.wr (.inl ⟨g, caps, bor, [(p1, i1)], args, _, _, _, h1, h2, ?_, by rw [h3]; exact hc, ?_, fun _ => ⟨rfl, fun j Y h => ?_⟩, ?_⟩)
  · simp [insC, h4, cOb, vAll]
  · simp [nodupB, outsOk, look2, h5]
  · by_cases hj : j = i1
    · subst hj; simp [frO, upd_same] at h; rw [← h]; rfl
    · simp [frO, upd_ne _ _ hj] at h
  · have e1 : stAfter ⟨e, o⟩ [(p1, i1)] (callId (dst.getD 0)) [(i1, .arr κ1 Y1 [])] = ⟨e, upd o p1 (some (.arr κ1 Y1 []))⟩ := by
      simp [stAfter, deadL, hasKey, St.kill, putOuts, sg, look2, Ob.ren]
    rw [e1]
    exact k
theorem R.callM2 {bor : Bool} {dst : Option Nat} {g : FuncId} {f x0 : Operand} {xs : List Operand} {caps : List D} {args as' : List V1} {i1 p1 i2 p2 : Nat} {κ1 κ2 : Ky} {X1 Y1 X2 Y2 : List (List D)} {v : Value} (h1 : ev e f = .v (.c (.d (.fn g caps)))) (_ : ownsA (ev e x0) = [p1, p2]) (hc : SpecM P g as' [(i1, .arr κ1 X1 []), (i2, .arr κ2 X2 [])] (.v (.c (.d (.pv v)))) [(i1, .arr κ1 Y1 []), (i2, .arr κ2 Y2 [])])
    (h2 : argsC (hobOf bor [(p1, i1), (p2, i2)] o) [(p1, i1), (p2, i2)] e (x0 :: xs) = some args) (h3 : (args ++ caps.map fun d => .c (.d d)) = as') (h4 : o p1 = some (.arr κ1 X1 [])) (h4' : o p2 = some (.arr κ2 X2 [])) (h5 : (Nat.ble pinN i1 && Nat.ble pinN i2 && nodupB [i1, i2] && nodupB [p1, p2]) = true)
    (k : WL P rest ks Q (putD ⟨e, upd (upd o p2 (some (.arr κ2 Y2 []))) p1 (some (.arr κ1 Y1 []))⟩ dst (pvA v))) : WL P (⟨dst, none, false, .call f (x0 :: xs)⟩ :: rest) ks Q ⟨e, o⟩ := by
  unfold WL at k
  simp only [Bool.and_eq_true] at h5
  obtain ⟨⟨⟨q1, q2⟩, q4⟩, q5⟩ := h5
  have n4 := nodupB_ok q4
  simp only [List.nodup_cons, List.mem_cons, List.not_mem_nil, or_false] at n4
  have a1 := n4.1
  refine WL.wr (.inl ⟨g, caps, bor, [(p1, i1), (p2, i2)], args, _, _, _, h1, h2, ?_, by rw [h3]; exact hc, ?_, fun _ => ⟨rfl, fun j Y h => ?_⟩, ?_⟩)
  · simp [insC, h4, h4', cOb, vAll]
  · simp [q4, q5, outsOk, look2, q1, q2, Ne.symm a1]
  · by_cases hj : j = i1
    · subst hj; simp [frO, upd_same] at h; rw [← h]; rfl
    · simp [frO, upd_ne _ _ hj] at h
      by_cases hj2 : j = i2
      · subst hj2; simp [upd_same] at h; rw [← h]; rfl
      · simp [upd_ne _ _ hj2] at h
  · have e1 : stAfter ⟨e, o⟩ [(p1, i1), (p2, i2)] (callId (dst.getD 0)) [(i1, .arr κ1 Y1 []), (i2, .arr κ2 Y2 [])] = ⟨e, upd (upd o p2 (some (.arr κ2 Y2 []))) p1 (some (.arr κ1 Y1 []))⟩ := by
      simp [stAfter, deadL, hasKey, St.kill, putOuts, sg, look2, Ob.ren, Ne.symm a1]
    rw [e1]
    exact k
theorem R.callM3 {bor : Bool} {dst : Option Nat} {g : FuncId} {f x0 : Operand} {xs : List Operand} {caps : List D} {args as' : List V1} {i1 p1 i2 p2 i3 p3 : Nat} {κ1 κ2 κ3 : Ky} {X1 Y1 X2 Y2 X3 Y3 : List (List D)} {v : Value} (h1 : ev e f = .v (.c (.d (.fn g caps)))) (_ : ownsA (ev e x0) = [p1, p2, p3]) (hc : SpecM P g as' [(i1, .arr κ1 X1 []), (i2, .arr κ2 X2 []), (i3, .arr κ3 X3 [])] (.v (.c (.d (.pv v)))) [(i1, .arr κ1 Y1 []), (i2, .arr κ2 Y2 []), (i3, .arr κ3 Y3 [])])
    (h2 : argsC (hobOf bor [(p1, i1), (p2, i2), (p3, i3)] o) [(p1, i1), (p2, i2), (p3, i3)] e (x0 :: xs) = some args) (h3 : (args ++ caps.map fun d => .c (.d d)) = as') (h4 : o p1 = some (.arr κ1 X1 [])) (h4' : o p2 = some (.arr κ2 X2 [])) (h4'' : o p3 = some (.arr κ3 X3 [])) (h5 : (Nat.ble pinN i1 && Nat.ble pinN i2 && Nat.ble pinN i3 && nodupB [i1, i2, i3] && nodupB [p1, p2, p3]) = true)
    (k : WL P rest ks Q (putD ⟨e, upd (upd (upd o p3 (some (.arr κ3 Y3 []))) p2 (some (.arr κ2 Y2 []))) p1 (some (.arr κ1 Y1 []))⟩ dst (pvA v))) : WL P (⟨dst, none, false, .call f (x0 :: xs)⟩ :: rest) ks Q ⟨e, o⟩ := by
  unfold WL at k
  simp only [Bool.and_eq_true] at h5
  obtain ⟨⟨⟨⟨q1, q2⟩, q3⟩, q4⟩, q5⟩ := h5
  have n4 := nodupB_ok q4
  have n5 := nodupB_ok q5
  simp only [List.nodup_cons, List.mem_cons, List.not_mem_nil, or_false, not_or] at n4 n5
  obtain ⟨⟨a1, a2⟩, a3, _⟩ := n4
  refine WL.wr (.inl ⟨g, caps, bor, [(p1, i1), (p2, i2), (p3, i3)], args, _, _, _, h1, h2, ?_, by rw [h3]; exact hc, ?_, fun _ => ⟨rfl, fun j Y h => ?_⟩, ?_⟩)
  · simp [insC, h4, h4', h4'', cOb, vAll]
  · simp [q4, q5, outsOk, look2, q1, q2, q3, Ne.symm a1, Ne.symm a2, Ne.symm a3]
  · by_cases hj : j = i1
    · subst hj; simp [frO, upd_same] at h; rw [← h]; rfl
    · simp [frO, upd_ne _ _ hj] at h
      by_cases hj2 : j = i2
      · subst hj2; simp [upd_same] at h; rw [← h]; rfl
      · simp [upd_ne _ _ hj2] at h
        by_cases hj3 : j = i3
        · subst hj3; simp [upd_same] at h; rw [← h]; rfl
        · simp [upd_ne _ _ hj3] at h
  · have e1 : stAfter ⟨e, o⟩ [(p1, i1), (p2, i2), (p3, i3)] (callId (dst.getD 0)) [(i1, .arr κ1 Y1 []), (i2, .arr κ2 Y2 []), (i3, .arr κ3 Y3 [])] = ⟨e, upd (upd (upd o p3 (some (.arr κ3 Y3 []))) p2 (some (.arr κ2 Y2 []))) p1 (some (.arr κ1 Y1 []))⟩ := by
      simp [stAfter, deadL, hasKey, St.kill, putOuts, sg, look2, Ob.ren, Ne.symm a1, Ne.symm a2, Ne.symm a3]
    rw [e1]
    exact k
end
end Go.Proofs.YtlblmofimjhbbaaDoor
