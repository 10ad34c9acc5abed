/- The stripped form of a function. No program is named here. -/
import Derived.Test.YthgdccokpgaicaaSx17
namespace Go.Proofs.Ythgdccokpgaicaa
open Go.RowKit
def stripF (P : Program) (fn : Func) : Option SC := fn.body.bind fun c => if (fn.name == "runtime.NumGoroutine") then none else strip P fn.ntmps c
section
variable {P : Program}
theorem Spec.of_s (hm : P.follows .mixedOrders = true) {f : FuncId} {fn : Func} (hf : P.funcs[f]? = some fn) {s : SC} (hs : stripF P fn = some s) {args : List VD} {r : RT} (ha : args.length ≤ fn.ntmps)
    (h : (∀ x ∈ args, ∀ d ∈ x.ds, Known d) → VSC P s (fun e st => (e = .normal ∨ e = .ret) ∧ RetOk P fn.results.toList r st) (st0 args)) : Spec P f args r := by
  unfold stripF at hs
  cases hb : fn.body with
  | none => simp [hb] at hs
  | some c =>
    simp only [hb, Option.bind_some] at hs
    split at hs
    · cases hs
    · rename_i hn
      exact Spec.of_vs hm hf hb (by simpa using hn) ha hs h
end
end Go.Proofs.Ythgdccokpgaicaa
