/- More rules for the end of a function: several results. No program is named here. -/
import Derived.Test.YtefpjlokediieaaY22
namespace Go.Proofs.Ytefpjlokediieaa
open Go.RowKit
section
variable {P : Program}
/-- Two results that are plain. -/
theorem R.outP2 {fn : Func} {t1 t2 : Nat} {u1 u2 u1' u2' : Value} {st : St} (hrs : fn.results.toList = [.tmp t1, .tmp t2]) (h1 : st.env t1 = pvA u1') (h2 : st.env t2 = pvA u2') (e1 : u1' = u1) (e2 : u2' = u2) : RetOk P fn.results.toList (RT.tup [.c (.fz (.pv u1)), .c (.fz (.pv u2))]).av (RT.tup [.c (.fz (.pv u1)), .c (.fz (.pv u2))]).outs st := by
  subst e1; subst e2
  exact R.outR hrs (.cons (R.tmp h1) (.cons (R.tmp h2) .nil)) rfl rfl rfl ⟨(by show ¬ (2 = 1); omega), rfl⟩
theorem R.outIB {fn : Func} {t1 t2 : Nat} {u1 u1' : Int} {u2 u2' : Bool} {st : St} (hrs : fn.results.toList = [.tmp t1, .tmp t2]) (h1 : st.env t1 = pvA (.int .i64 u1')) (h2 : st.env t2 = pvA (.bool u2')) (e1 : u1' = u1) (e2 : u2' = u2) : RetOk P fn.results.toList (RT.tup [cI u1, cB1 u2]).av (RT.tup [cI u1, cB1 u2]).outs st := R.outP2 hrs h1 h2 (by rw [e1]) (by rw [e2])
theorem R.outII {fn : Func} {t1 t2 : Nat} {u1 u1' u2 u2' : Int} {st : St} (hrs : fn.results.toList = [.tmp t1, .tmp t2]) (h1 : st.env t1 = pvA (.int .i64 u1')) (h2 : st.env t2 = pvA (.int .i64 u2')) (e1 : u1' = u1) (e2 : u2' = u2) : RetOk P fn.results.toList (RT.tup [cI u1, cI u2]).av (RT.tup [cI u1, cI u2]).outs st := R.outP2 hrs h1 h2 (by rw [e1]) (by rw [e2])
end
end Go.Proofs.Ytefpjlokediieaa
