/- Short names. No program is named here. -/
import Derived.Test.YtlblmofimjhbbaaDoorY14
namespace Go.Proofs.YtlblmofimjhbbaaDoor
open Go.RowKit
abbrev iD (n : Int) : D := .pv (.int .i64 n)
abbrev bD (b : Bool) : D := .pv (.bool b)
abbrev sD (s : ByteArray) : D := .pv (.string s)
abbrev vI (n : Int) : VD := .c (iD n)
abbrev vB1 (b : Bool) : VD := .c (bD b)
abbrev vS (s : ByteArray) : VD := .c (sD s)
abbrev vL (κ : Ky) (xs : List (List D)) : VD := .c (.rd κ xs)
abbrev vP (cs : List D) : VD := .c (.rp cs)
abbrev cI (n : Int) : R1 := .c (.fz (iD n))
abbrev cB1 (b : Bool) : R1 := .c (.fz (bD b))
abbrev cS (s : ByteArray) : R1 := .c (.fz (sD s))
abbrev cN (κ : Ky) (xs : List (List D)) : R1 := .c (.nw κ xs)
abbrev oI (n : Int) : RT := .v (cI n)
abbrev oB (b : Bool) : RT := .v (cB1 b)
abbrev oS (s : ByteArray) : RT := .v (cS s)
abbrev oN (κ : Ky) (xs : List (List D)) : RT := .v (cN κ xs)
theorem upd_app {α : Type} (f : Nat → α) (d : Nat) (v : α) (x : Nat) : upd f d v x = if x = d then v else f x := rfl
end Go.Proofs.YtlblmofimjhbbaaDoor
