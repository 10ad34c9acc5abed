/- More rules for the end of a function: several results. No program is named here. -/
import Derived.Test.YtlblmofimjhbbaaDoorY22
namespace Go.Proofs.YtlblmofimjhbbaaDoor
open Go.RowKit
section
variable {P : Program}
/-- Two results that are plain. -/
theorem R.outP2 {fn : Func} {t1 t2 : Nat} {u1 u2 u1' u2' : Value} {st : St} (hrs : fn.results.toList = [.tmp t1, .tmp t2]) (h1 : st.env t1 = pvA u1') (h2 : st.env t2 = pvA u2') (e1 : u1' = u1) (e2 : u2' = u2) : RetOk P fn.results.toList (RT.tup [.c (.fz (.pv u1)), .c (.fz (.pv u2))]).av (RT.tup [.c (.fz (.pv u1)), .c (.fz (.pv u2))]).outs st := by
  subst e1; subst e2
  exact R.outR hrs (.cons (R.tmp h1) (.cons (R.tmp h2) .nil)) rfl rfl rfl ⟨(by show ¬ (2 = 1); omega), rfl⟩
theorem R.outIB {fn : Func} {t1 t2 : Nat} {u1 u1' : Int} {u2 u2' : Bool} {st : St} (hrs : fn.results.toList = [.tmp t1, .tmp t2]) (h1 : st.env t1 = pvA (.int .i64 u1')) (h2 : st.env t2 = pvA (.bool u2')) (e1 : u1' = u1) (e2 : u2' = u2) : RetOk P fn.results.toList (RT.tup [cI u1, cB1 u2]).av (RT.tup [cI u1, cB1 u2]).outs st := R.outP2 hrs h1 h2 (by rw [e1]) (by rw [e2])
theorem R.outII {fn : Func} {t1 t2 : Nat} {u1 u1' u2 u2' : Int} {st : St} (hrs : fn.results.toList = [.tmp t1, .tmp t2]) (h1 : st.env t1 = pvA (.int .i64 u1')) (h2 : st.env t2 = pvA (.int .i64 u2')) (e1 : u1' = u1) (e2 : u2' = u2) : RetOk P fn.results.toList (RT.tup [cI u1, cI u2]).av (RT.tup [cI u1, cI u2]).outs st := R.outP2 hrs h1 h2 (by rw [e1]) (by rw [e2])
end
section
variable {P : Program} {Q : Exit → St → Prop} {ks : List Fr} {e : Nat → AV} {o : Nat → Option Ob} {d : Nat} {fr : Bool} {x y z : Operand} {rest : List SR}
/-- A call; which objects are handed over is told. -/
theorem R.callX {bor : Bool} (ρ : List (Nat × Nat)) {dst : Option Nat} {g : FuncId} {f : Operand} {xs : List Operand} {caps : List D} {args as' : List V1} {ins outs : List (Nat × Ob)} {r : AV} (h1 : ev e f = .v (.c (.d (.fn g caps)))) (hc : SpecM P g as' ins r outs) (h2 : argsC (hobOf bor ρ o) ρ e xs = some args) (h3 : (args ++ caps.map fun d => .c (.d d)) = as') (h4 : insC o (hobOf bor ρ o) ρ ρ = some ins)
    (h5 : (nodupB (ρ.map (·.1)) && nodupB (ρ.map (·.2)) && outsOk o ρ (callId (dst.getD 0)) outs) = true) (hb : (!bor || (r.pu && outs.all fun x => x.2.pu)) = true) (k : WL P rest ks Q (putD (stAfter ⟨e, o⟩ ρ (callId (dst.getD 0)) outs) dst (r.ren (sg ρ (callId (dst.getD 0)))))) : WL P (⟨dst, none, false, .call f xs⟩ :: rest) ks Q ⟨e, o⟩ := by
  unfold WL at k
  refine WL.wr (.inl ⟨g, caps, bor, ρ, args, ins, r, outs, h1, h2, h4, by rw [h3]; exact hc, h5, fun hbt => ?_, k⟩)
  subst hbt
  simp only [Bool.not_true, Bool.false_or, Bool.and_eq_true] at hb
  exact ⟨hb.1, R.call.allPu hb.2⟩
end
/-- A region told order by order, at a block's end. -/
theorem R.regOB {P : Program} {Q : Exit → St → Prop} {ks : List Fr} {t : OT SR} {b : SC} {id : Nat} {st : St} (mid : St) (h : WT P t (fun s => Weak s mid) st) (k : WC P b ks Q mid) : WC P (.regO t) (.blk id :: .seq b :: ks) Q st := by
  unfold WT at h
  unfold WC at k ⊢
  show VT P t (kQ P (.blk id :: .seq b :: ks) Q .normal) st
  exact VT_mono (fun s hs => Wk.of hs k) h
end Go.Proofs.YtlblmofimjhbbaaDoor
