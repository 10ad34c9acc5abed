/- The end, where the results are a slice and a number. -/
import Derived.Test.YtehkaajakapkmaaBel
namespace Go.Proofs.Ytehkaajakapkmaa
open Go.RowKit
/-- The end, where a slice is nil. -/
theorem R.outNilI {P : Program} {fn : Func} {t1 t2 : Nat} {u u' : Int} {κ : Ky} {e : Nat → AV} {o : Nat → Option Ob} (hrs : fn.results.toList = [.tmp t1, .tmp t2]) (hne : Nat.beq t2 t1 = false) (h : e t1 = .v (.c nilB)) (h0 : freeO o 900000) (h2 : e t2 = pvA (.int .i64 u')) (hu : u' = u) : RetOk P fn.results.toList (RT.tup [cN κ [], cI u]).av (RT.tup [cN κ [], cI u]).outs ⟨e, o⟩ := by
  subst hu
  have hne' : t2 ≠ t1 := fun e => by subst e; simp at hne
  exact R.outW (Weak.reify (st := ⟨e, o⟩) t1 900000 κ h h0) (R.out hrs (ys := [.c (.own 900000), .c (.d (iD u'))]) (.cons (R.tmp (upd_same _ _ _)) (.cons (R.tmp ((upd_ne _ _ hne').trans h2)) .nil)) [(900000, 0)] rfl (by simp [insC, upd_same, cOb, vAll]; rfl) rfl ⟨by show ¬ (2 = 1); omega, rfl⟩)
theorem R.outNI {P : Program} {fn : Func} {t1 t2 p : Nat} {u u' : Int} {κ : Ky} {xs : List (List D)} {st : St} (hrs : fn.results.toList = [.tmp t1, .tmp t2]) (h : st.env t1 = .v (.c (.own p))) (h1 : st.objs p = some (.arr κ xs [])) (h2 : st.env t2 = pvA (.int .i64 u')) (hu : u' = u) : RetOk P fn.results.toList (RT.tup [cN κ xs, cI u]).av (RT.tup [cN κ xs, cI u]).outs st := by
  subst hu
  exact R.out hrs (ys := [.c (.own p), .c (.d (iD u'))]) (.cons (R.tmp h) (.cons (R.tmp h2) .nil)) [(p, 0)] (by simp [vAll, cV1, cB, look1]; rfl) (by simp [insC, h1, cOb, vAll]; rfl) (by simp [okρ, nodupB, Nat.blt, pinN]) ⟨by show ¬ (2 = 1); omega, rfl⟩
end Go.Proofs.Ytehkaajakapkmaa
