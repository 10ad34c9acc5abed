/- The text of a configuration: the program's side, by a builder. -/
import Derived.Test.YtnkfbodolbfjpaaDoorCfg0
import Derived.Test.YtnkfbodolbfjpaaDoorShE
import Derived.WalkLawsBesides
import Derived.WalkSpells
import Derived.Outline
import Derived.BigQuiet
import Derived.Lib.Hide
namespace Go.Proofs.YtnkfbodolbfjpaaDoor
open Go.RowKit
set_option maxRecDepth 100000
set_option maxHeartbeats 4000000
/-- A builder that lies below what has turned is as it was. -/
theorem BuilderAt.below {T e : TypeId} {B b : Nat} {p : Value} {bs : List Value} {w w' : World} (h : Lib.BuilderAt T e B b p bs w) (hb : Below w.heap.size w w') : Lib.BuilderAt T e B b p bs w' := by
  have hlt := h.lt
  obtain ⟨hB, v, hbk, hown, hne⟩ := h
  refine ⟨hB, v, (hb.block _ hlt).trans hbk, ?_, hne⟩
  exact hown.kept (row := none) ⟨hb.os, hb.tape, hb.output, hb.size, fun k hk _ => hb.block k hk⟩ (by cases hu : v.ownBlock <;> simp)
theorem IsB.below {T e : TypeId} {B b : Nat} {bs : List Value} {w w' : World} (h : Lib.IsBuilder T e B b bs w) (hb : Below w.heap.size w w') : Lib.IsBuilder T e B b bs w' := h.elim (fun h => .inl (BuilderAt.below h hb)) (fun h => .inr (BuilderAt.below h hb))
theorem strCells_bA (l : List UInt8) : Lib.strCells (bA l) = Lib.byteCells l := by
  unfold Lib.strCells Lib.byteCells
  rw [bA_list]
/-- The table of the powers of ten stands in this world. -/
def Tab10 (w : World) : Prop := Lib.TabIs Tryd.prog w "internal/strconv.uint64pow10" .u64 Lib.pow10Tab
theorem Tab10.pos {w : World} (h : Tab10 w) : 0 < w.heap.size := by
  have hg : Tryd.prog.globalNamed "internal/strconv.uint64pow10" = some 0 := by kernel_rfl
  unfold Tab10 Lib.TabIs World.var? at h
  rw [hg] at h
  simp only [Option.bind_some] at h
  cases ho : w.heap[0]? with
  | none => rw [ho] at h; cases h
  | some ob => exact (Array.getElem?_eq_some_iff.1 ho).1
theorem Tab10.below {w w' : World} {B : Nat} (h : Tab10 w) (hB : w.heap.size ≤ B) (hb : Below B w w') : Tab10 w' := by
  have hp := h.pos
  have hg : Tryd.prog.globalNamed "internal/strconv.uint64pow10" = some 0 := by kernel_rfl
  unfold Tab10 Lib.TabIs World.var? at h ⊢
  rw [hg] at h ⊢
  simp only [Option.bind_some] at h ⊢
  rw [hb.block _ (by omega)]
  exact h
theorem decC (n : Int) (hn : i64 n) (w : World) (ht : Tab10 w) : Calls Tryd.prog 25 #[.int .i64 n] w fun e w' => e = .returned (.string (bA (decL n))) ∧ Below w.heap.size w w' := by
  go_enter Tryd.func25, Tryd.ntmps25
  go_wp2_with (go_at_call 46; refine (Tryd.strconv_FormatInt_10 n hn.1 hn.2 w ht).mono ?_; rintro e w' ⟨rfl, k, os, rfl⟩)
  go_ret
  exact ⟨rfl, ⟨rfl, rfl, rfl, by simp [Sort.grow], fun j hj => Sort.heap_grow_old (w.drewN k) os hj⟩⟩
/-- The cells of a slice of numbers in a world. -/
def ICells (W : World) (b off : Nat) (l : List Int) : Prop := ∀ (i : Nat) (n : Int), l[i]? = some n → W.cell? ⟨b, off + i, none⟩ = some (.int .i64 n)
/-- The slice holds these numbers, in a block below n₀, or there are none. -/
def ISl (W : World) (n₀ : Nat) (v : Value) (cs : List Int) (b off : Nat) : Prop :=
  (cs = [] ∧ ∃ a cap, v = .slice a 0 cap) ∨ ∃ cap, v = .slice (some ⟨b, off, none⟩) cs.length cap ∧ b < n₀ ∧ cs.length ≤ cap ∧ cap ≤ maxLen ∧ ICells W b off cs
theorem intOf_int (x : Int) : intOf (.int .i64 x) = x := rfl
theorem cfg_lim {tape : List Int} {hd st : Int} (hs : i64 st) (ht : ∀ n ∈ tape, i64 n) (hl : tape.length ≤ 1048576) {i : Nat} (hi : i ≤ tape.length) : (Lib.byteCells (cfL tape hd st i)).length + 100 ≤ 140737488355328 := by
  have := cfL_len (hd := hd) hs ht i hi
  rw [Lib.byteCells_length]
  omega
theorem cfg_lim2 {tape : List Int} {hd st : Int} (hs : i64 st) (ht : ∀ n ∈ tape, i64 n) (hl : tape.length ≤ 1048576) {i : Nat} (hi : i ≤ tape.length) {s : ByteArray} (hz : s.size ≤ 100) : (Lib.byteCells (cfL tape hd st i)).length + s.size ≤ 140737488355328 := Nat.le_trans (Nat.add_le_add_left hz _) (cfg_lim hs ht hl hi)
theorem app3 (x : List UInt8) : (⟨#[91]⟩ : ByteArray) ++ bA x ++ ⟨#[93]⟩ = bA ([91] ++ x ++ [93]) := by
  rw [show (⟨#[91]⟩ : ByteArray) = bA [91] from rfl, show (⟨#[93]⟩ : ByteArray) = bA [93] from rfl, bA_app, bA_app]
theorem app2 (x : List UInt8) : (⟨#[32]⟩ : ByteArray) ++ bA x = bA ([32] ++ x) := by
  rw [show (⟨#[32]⟩ : ByteArray) = bA [32] from rfl, bA_app]
theorem app1 (x : List UInt8) : bA x ++ (⟨#[58]⟩ : ByteArray) = bA (x ++ [58]) := by
  rw [show (⟨#[58]⟩ : ByteArray) = bA [58] from rfl, bA_app]
theorem size_in {s : ByteArray} {x : List UInt8} (e : s = bA x) (h : x.length ≤ 100) : s.size ≤ 100 := by rw [e, bA_size]; exact h
theorem cells_in {s : ByteArray} {x l l' : List UInt8} (e : s = bA x) (h : l' = l ++ x) : Lib.byteCells l ++ Lib.strCells s = Lib.byteCells l' := by
  rw [e, strCells_bA, h, Lib.byteCells_append]
theorem cfg1 (sv : Value) (a : Option Addr) (len cap : Nat) (hsv : sv = .slice a len cap) (tape : List Int) (hd st : Int) (b off : Nat) (hs : i64 st) (ht : ∀ n ∈ tape, i64 n) (hl : tape.length ≤ 1048576) (w : World) (hI : ISl w w.heap.size sv tape b off) (hT : Tab10 w) :
    Calls Tryd.prog 9 #[.agg #[sv, .int .i64 hd, .int .i64 st]] w fun e W' => e = .returned (.string (bA (cfL tape hd st tape.length))) ∧ Below w.heap.size w W' := by
  subst hsv
  have hlen : len = tape.length := by
    rcases hI with ⟨rfl, _, _, e⟩ | ⟨_, e, _⟩
    · cases e; rfl
    · cases e; rfl
  subst hlen
  have hcl : ∀ (k : Nat) (s : Int), tape[k]? = some s → a = some ⟨b, off, none⟩ ∧ b < w.heap.size ∧ w.cell? ⟨b, off + k, none⟩ = some (.int .i64 s) := fun k s hg => by
    rcases hI with ⟨rfl, _⟩ | ⟨_, e, hb, _, _, hc⟩
    · cases hg
    · cases e; exact ⟨rfl, hb, hc k s hg⟩
  clear hI
  have p2 : ((w.alloc (.cells #[.slice a tape.length cap, .int .i64 hd, .int .i64 st] 27)).alloc (.cells #[.pointer none, .slice none 0 0] 59)).cell? ⟨w.heap.size, 2, none⟩ = some (.int .i64 st) := (World.cell?_alloc_past _ _ _ (by rw [World.size_alloc]; omega)).trans (World.cell?_alloc_new _ _ _ _)
  have hsl := decL_len hs
  go_enter Tryd.func9, Tryd.ntmps9
  go_wp2_with fail
  have hw1 : Below w.heap.size w (w.alloc (.cells #[.slice a tape.length cap, .int .i64 hd, .int .i64 st] 27)) := (Below.refl _ w).alloc (Nat.le_refl _) _
  have c0 : (w.alloc (.cells #[.slice a tape.length cap, .int .i64 hd, .int .i64 st] 27)).cell? ⟨w.heap.size, 0, none⟩ = some (.slice a tape.length cap) := World.cell?_alloc_new _ _ _ _
  have c1 : (w.alloc (.cells #[.slice a tape.length cap, .int .i64 hd, .int .i64 st] 27)).cell? ⟨w.heap.size, 1, none⟩ = some (.int .i64 hd) := World.cell?_alloc_new _ _ _ _
  have hz1 : (w.alloc (.cells #[.slice a tape.length cap, .int .i64 hd, .int .i64 st] 27)).heap.size = w.heap.size + 1 := World.size_alloc _ _
  generalize w.alloc (.cells #[.slice a tape.length cap, .int .i64 hd, .int .i64 st] 27) = W1 at *
  have hI2 := Lib.fresh_isBuilder 59 5 W1
  have hB2 : Below (w.heap.size + 1) W1 (W1.alloc (.cells #[.pointer none, .slice none 0 0] 59)) := (Below.refl _ W1).alloc (by omega) _
  rw [hz1] at hI2
  generalize W1.alloc (.cells #[.pointer none, .slice none 0 0] 59) = W2 at *
  have hT2 : Tab10 W2 := hT.below (Nat.le_refl _) (hw1.trans (hB2.mono (by omega)))
  have hD := decC st hs W2 hT2
  have hz0 : ¬ 9223372036854775807 < (bA (decL st)).size + 1 := by rw [bA_size]; omega
  have Hl0 := Lib.hid (cfg_lim2 (hd := hd) hs ht hl (Nat.zero_le _) (size_in (app1 (decL st)) (by rw [List.length_append]; simp; omega)))
  go_wp2_with (first
    | (go_at_call 25; refine hD.mono ?_; rintro e w3 ⟨rfl, hb3⟩; have hI3 := IsB.below hI2 hb3; have hB3 := hB2.trans (hb3.mono (by have := hB2.size; omega)))
    | (go_at_call 24; refine (Tryd.Builder_WriteString (w.heap.size + 1) (w.heap.size + 1) [] _ _ hI3 (by have := Hl0.out; simp at this ⊢; omega) (by have := hB3.size; omega)).mono ?_; rintro e w4 ⟨rfl, hI4, hb4⟩; have hB4 := hB3.trans hb4; have c04 := (hB4.cell (p := ⟨w.heap.size, 0, none⟩) (Nat.lt_succ_self _)).trans c0))
  have hI4 : Lib.IsBuilder 59 5 (w.heap.size + 1) (w.heap.size + 1) (Lib.byteCells (cfL tape hd st 0)) w4 := by
    have e := cells_in (l := []) (l' := cfL tape hd st 0) (app1 (decL st)) rfl
    rw [← e]
    exact .inr hI4
  clear hI2 hI3 hT2 hD hb3 hB3 hB2 hz0 Hl0 p2 hb4
  go_loopw [14] (fun i wr => ∃ k : Nat, k ≤ tape.length ∧ i = .int .i64 k ∧ Lib.IsBuilder 59 5 (w.heap.size + 1) (w.heap.size + 1) (Lib.byteCells (cfL tape hd st k)) wr ∧ Below (w.heap.size + 1) W1 wr) (fun i _ => (tape.length - intOf i).toNat)
  case atStart => exact ⟨0, Nat.zero_le _, rfl, hI4, hB4⟩
  case round =>
    obtain ⟨k, hk, rfl, hIb, hBb⟩ := hrel
    clear hI4 hB4 c04
    have hwk : Below w.heap.size w wr := hw1.trans (hBb.mono (by omega))
    by_cases hkl : k < tape.length
    · obtain ⟨s, hg⟩ : ∃ s, tape[k]? = some s := ⟨_, List.getElem?_eq_getElem hkl⟩
      have hsb := ht s (List.mem_of_getElem? hg)
      obtain ⟨rfl, hbl, hcell⟩ := hcl k s hg
      have cT := (hwk.cell (p := ⟨b, off + k, none⟩) hbl).trans hcell
      have cH := (hBb.cell (p := ⟨w.heap.size, 1, none⟩) (Nat.lt_succ_self _)).trans c1
      have hD := decC s hsb wr (hT.below (Nat.le_refl _) hwk)
      have hdl := decL_len hsb
      have hsuc := cfL_succ (hd := hd) (st := st) hg
      have Hl3 := Lib.hid (cfg_lim2 (hd := hd) hs ht hl hk (size_in (app3 (decL s)) (by simp only [List.length_append, List.length_cons, List.length_nil]; omega)))
      have Hl2 := Lib.hid (cfg_lim2 (hd := hd) hs ht hl hk (size_in (app2 (decL s)) (by simp only [List.length_append, List.length_cons, List.length_nil]; omega)))
      have hz1 : ¬ 9223372036854775807 < 1 + (bA (decL s)).size := by rw [bA_size]; omega
      have hz2 : ¬ 9223372036854775807 < 1 + (bA (decL s)).size + 1 := by rw [bA_size]; omega
      have hw3 : RowKit.wrap64 ((k : Int) + 1) = ((k + 1 : Nat) : Int) := IntWalk.wrap64_in _ (by omega)
      have hkx := Lib.hid (And.intro hk hkl)
      have hcx := Lib.hid hcl
      clear hcl hl hdl hk
      go_wp2_with (first
        | (go_at_call 25; refine hD.mono ?_; rintro e w3 ⟨rfl, hb3⟩; have hI3 := IsB.below hIb hb3; have hB3 := hBb.trans (hb3.mono (by have := hBb.size; omega)))
        | (go_at_call 24; refine (Tryd.Builder_WriteString (w.heap.size + 1) (w.heap.size + 1) _ _ _ hI3 (by first | exact Hl3.out | exact Hl2.out) (by have := hB3.size; omega)).mono ?_; rintro e w4 ⟨rfl, hI4, hb4⟩; have hB4 := hB3.trans hb4))
      · have hh : (k : Int) = hd := by simpa using (by assumption : ((k : Int) == hd) = true)
        have e := cells_in (l' := cfL tape hd st (k + 1)) (app3 (decL s)) (hsuc.trans (by rw [show cellL hd k s = [91] ++ decL s ++ [93] from if_pos hh]))
        rw [e] at hI4
        go_roundw
        case rel => exact ⟨k + 1, hkx.out.2, by rw [hw3], .inr hI4, hB4⟩
        case measure =>
          show ((tape.length : Int) - intOf (Value.int .i64 (RowKit.wrap64 ((k : Int) + 1)))).toNat < ((tape.length : Int) - intOf (Value.int .i64 (k : Int))).toNat
          have := hkx.out.2
          rw [intOf_int, intOf_int, hw3]
          clear hw3 hz1 hz2 Hl2 Hl3
          omega
      · have hh : ¬ (k : Int) = hd := by simpa using (by assumption : ((k : Int) == hd) = false)
        have e := cells_in (l' := cfL tape hd st (k + 1)) (app2 (decL s)) (hsuc.trans (by rw [show cellL hd k s = [32] ++ decL s from if_neg hh]))
        rw [e] at hI4
        go_roundw
        case rel => exact ⟨k + 1, hkx.out.2, by rw [hw3], .inr hI4, hB4⟩
        case measure =>
          show ((tape.length : Int) - intOf (Value.int .i64 (RowKit.wrap64 ((k : Int) + 1)))).toNat < ((tape.length : Int) - intOf (Value.int .i64 (k : Int))).toNat
          have := hkx.out.2
          rw [intOf_int, intOf_int, hw3]
          clear hw3 hz1 hz2 Hl2 Hl3
          omega
    · obtain rfl : k = tape.length := by omega
      have hS := Tryd.Builder_String_any (w.heap.size + 1) (w.heap.size + 1) (cfL tape hd st tape.length) wr hIb (by have := hBb.size; omega)
      clear hcl hl
      go_wp2_with (go_at_call 26; refine hS.mono ?_; rintro e w4 ⟨rfl, hb4⟩)
      exact bodyPost_ret (results_tmp rfl _ _ _) rfl ⟨rfl, hw1.trans ((hBb.trans hb4).mono (by omega))⟩
end Go.Proofs.YtnkfbodolbfjpaaDoor
