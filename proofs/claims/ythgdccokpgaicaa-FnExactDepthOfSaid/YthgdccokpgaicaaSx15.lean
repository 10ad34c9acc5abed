/- Short names, and the rules by which the words about what is known are worked out. No program is named here. -/
import Derived.Test.YthgdccokpgaicaaSx14
namespace Go.Proofs.Ythgdccokpgaicaa
open Go.RowKit
abbrev iD (n : Int) : D := .pv (.int .i64 n)
abbrev bD (b : Bool) : D := .pv (.bool b)
abbrev sD (s : ByteArray) : D := .pv (.string s)
abbrev vI (n : Int) : VD := .c (iD n)
abbrev vS (s : ByteArray) : VD := .c (sD s)
abbrev vL (k : Nat) (xs : List (List D)) : VD := .c (.rd k xs)
abbrev vP (cs : List D) : VD := .c (.rp cs)
abbrev cI (n : Int) : R1 := .c (.fz (iD n))
abbrev cB (b : Bool) : R1 := .c (.fz (bD b))
abbrev cS (s : ByteArray) : R1 := .c (.fz (sD s))
abbrev oI (n : Int) : RT := .v (cI n)
abbrev oB (b : Bool) : RT := .v (cB b)
abbrev oS (s : ByteArray) : RT := .v (cS s)
theorem F2_nil {α β : Type} {r : α → β → Prop} {bs : List β} : F2 r [] bs ↔ bs = [] := ⟨fun h => by cases h; rfl, fun h => by subst h; exact .nil⟩
theorem F2_cons {α β : Type} {r : α → β → Prop} {a : α} {as : List α} {bs : List β} : F2 r (a :: as) bs ↔ ∃ b bs', bs = b :: bs' ∧ r a b ∧ F2 r as bs' := ⟨fun h => by cases h; exact ⟨_, _, rfl, by assumption, by assumption⟩, fun ⟨b, bs', e, h1, h2⟩ => by subst e; exact .cons h1 h2⟩
theorem upd_app {α : Type} (f : Nat → α) (d : Nat) (v : α) (x : Nat) : upd f d v x = if x = d then v else f x := rfl
theorem argsEnv_app (args : List VD) (d : Nat) : argsEnv args d = match args[d]? with | some x => x.av | none => undefA := rfl
theorem bool_imp {p q : Bool → Prop} {t : Bool} : ((t = true → p t) ∧ (t = false → q t)) ↔ ((t = true → p true) ∧ (t = false → q false)) := by cases t <;> simp
end Go.Proofs.Ythgdccokpgaicaa
