/- Results with slices in them. -/
import Derived.Test.YtghpeccaknhjiaaY23
namespace Go.Proofs.Ytghpeccaknhjiaa
open Go.RowKit
theorem R.outNilI {P : Program} {fn : Func} {t1 t2 : Nat} {u u' : Int} {κ : Ky} {e : Nat → AV} {o : Nat → Option Ob} (hrs : fn.results.toList = [.tmp t1, .tmp t2]) (hne : Nat.beq t2 t1 = false) (h : e t1 = .v (.c nilB)) (h0 : freeO o 900000) (h2 : e t2 = pvA (.int .i64 u')) (hu : u' = u) : RetOk P fn.results.toList (RT.tup [cN κ [], cI u]).av (RT.tup [cN κ [], cI u]).outs ⟨e, o⟩ := by
  subst hu
  have hne' : t2 ≠ t1 := fun e => by subst e; simp at hne
  exact R.outW (Weak.reify (st := ⟨e, o⟩) t1 900000 κ h h0) (R.out hrs (ys := [.c (.own 900000), .c (.d (iD u'))]) (.cons (R.tmp (upd_same _ _ _)) (.cons (R.tmp ((upd_ne _ _ hne').trans h2)) .nil)) [(900000, 0)] rfl (by simp [insC, upd_same, cOb, vAll]; rfl) rfl ⟨by show ¬ (2 = 1); omega, rfl⟩)
theorem R.outNI {P : Program} {fn : Func} {t1 t2 p : Nat} {u u' : Int} {κ : Ky} {xs : List (List D)} {st : St} (hrs : fn.results.toList = [.tmp t1, .tmp t2]) (h : st.env t1 = .v (.c (.own p))) (h1 : st.objs p = some (.arr κ xs [])) (h2 : st.env t2 = pvA (.int .i64 u')) (hu : u' = u) : RetOk P fn.results.toList (RT.tup [cN κ xs, cI u]).av (RT.tup [cN κ xs, cI u]).outs st := by
  subst hu
  exact R.out hrs (ys := [.c (.own p), .c (.d (iD u'))]) (.cons (R.tmp h) (.cons (R.tmp h2) .nil)) [(p, 0)] (by simp [vAll, cV1, cB, look1]; rfl) (by simp [insC, h1, cOb, vAll]; rfl) (by simp [okρ, nodupB, Nat.blt, pinN]) ⟨by show ¬ (2 = 1); omega, rfl⟩
/-- .. of a struct that holds one slice. -/
theorem R.outSOwn {P : Program} {fn : Func} {t t2 p q T T' : Nat} {v v' : Value} {κ : Ky} {xs : List (List D)} {st : St} (hrs : fn.results.toList = [.cell t T, .tmp t2]) (h : st.env t = .v (.c (.ptr p 0))) (h1 : st.objs p = some (.box T' [.own q])) (hq : st.objs q = some (.arr κ xs [])) (hT : tyInfo P T = some (true, 1)) (h2 : st.env t2 = pvA v') (hv : v' = v) : RetOk P fn.results.toList (RT.tup [.agg [.nw κ xs], .c (.fz (.pv v))]).av (RT.tup [.agg [.nw κ xs], .c (.fz (.pv v))]).outs st := by
  subst hv
  exact R.out hrs (ys := [.agg [.own q], .c (.d (.pv v'))]) (.cons (R.cell h h1 hT (Nat.le_refl _) rfl) (.cons (R.tmp h2) .nil)) [(q, 0)] (by simp [vAll, cV1, cB, look1]; rfl) (by simp [insC, hq, cOb, vAll]; rfl) (by simp [okρ, nodupB, Nat.blt, pinN]) ⟨by show ¬ (2 = 1); omega, rfl⟩
theorem R.outSNil {P : Program} {fn : Func} {t t2 p T T' : Nat} {v v' : Value} {κ : Ky} {e : Nat → AV} {o : Nat → Option Ob} (hrs : fn.results.toList = [.cell t T, .tmp t2]) (h : e t = .v (.c (.ptr p 0))) (h1 : o p = some (.box T' [nilB])) (hT : tyInfo P T = some (true, 1)) (h0 : freeO o 900000) (h2 : e t2 = pvA v') (hv : v' = v) : RetOk P fn.results.toList (RT.tup [.agg [.nw κ []], .c (.fz (.pv v))]).av (RT.tup [.agg [.nw κ []], .c (.fz (.pv v))]).outs ⟨e, o⟩ := by
  have hne : (900000 : Nat) ≠ p := fun e => by subst e; have := h0.none.1; rw [h1] at this; cases this
  exact R.outW (Weak.reifyBox (st := ⟨e, o⟩) p 0 900000 κ h1 rfl h0) (R.outSOwn hrs h (upd_same _ _ _) ((upd_ne _ _ hne).trans (upd_same _ _ _)) hT h2 hv)
theorem R.outS1 {P : Program} {fn : Func} {t p q T T' : Nat} {κ : Ky} {xs : List (List D)} {st : St} (hrs : fn.results.toList = [.cell t T]) (h : st.env t = .v (.c (.ptr p 0))) (h1 : st.objs p = some (.box T' [.own q])) (hq : st.objs q = some (.arr κ xs [])) (hT : tyInfo P T = some (true, 1)) : RetOk P fn.results.toList (RT.v (.agg [.nw κ xs])).av (RT.v (.agg [.nw κ xs])).outs st :=
  R.out hrs (ys := [.agg [.own q]]) (.cons (R.cell h h1 hT (Nat.le_refl _) rfl) .nil) [(q, 0)] (by simp [vAll, cV1, cB, look1]; rfl) (by simp [insC, hq, cOb, vAll]; rfl) (by simp [okρ, nodupB, Nat.blt, pinN]) rfl
end Go.Proofs.Ytghpeccaknhjiaa
