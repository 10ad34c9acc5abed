/- Lists of numbers below a limit; answers that are known. -/
import Derived.Test.YtlblmofimjhbbaaDoorY23
import Derived.Test.YtlblmofimjhbbaaDoorBoil
namespace Go.Proofs.YtlblmofimjhbbaaDoor
open Go.RowKit
set_option maxRecDepth 10000
set_option maxHeartbeats 4000000
theorem inB_T {n a b : Int} (h : a ≤ n ∧ n ≤ b) : inB n a b = true := decide_eq_true h
theorem inB_F {n a b : Int} (h : ¬ (a ≤ n ∧ n ≤ b)) : inB n a b = false := decide_eq_false h
theorem iWinT {n a b : Int} (h : a ≤ n ∧ n ≤ b) : Spec Tryd.prog 18 [vI n, vI a, vI b] (oB true) := by have := iWithin n a b; rwa [inB_T h] at this
theorem iWinF {n a b : Int} (h : ¬ (a ≤ n ∧ n ≤ b)) : Spec Tryd.prog 18 [vI n, vI a, vI b] (oB false) := by have := iWithin n a b; rwa [inB_F h] at this
theorem sInT {n a b : Int} (h : a ≤ n ∧ n ≤ b) : Spec Tryd.prog 15 [vI n, vI a, vI b] (oB true) := by have := sIn n a b; rwa [inB_T h] at this
theorem sInF {n a b : Int} (h : ¬ (a ≤ n ∧ n ≤ b)) : Spec Tryd.prog 15 [vI n, vI a, vI b] (oB false) := by have := sIn n a b; rwa [inB_F h] at this
end Go.Proofs.YtlblmofimjhbbaaDoor
