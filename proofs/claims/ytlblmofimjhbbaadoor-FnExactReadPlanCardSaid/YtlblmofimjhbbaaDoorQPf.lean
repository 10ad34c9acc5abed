/- RdS and RdI and RdJ and RdX and RdK and RdD. -/
import Derived.Test.YtlblmofimjhbbaaDoorQPa
import Derived.Test.YtlblmofimjhbbaaDoorQPc
import Derived.Test.YtlblmofimjhbbaaDoorShS
import Derived.Test.YtlblmofimjhbbaaDoorShI
import Derived.Lib.Strings
import Derived.Tactics
import Derived.Tactics2
import Derived.Test.YtlblmofimjhbbaaDoorBel
import Derived.Defers
import Derived.Recover
import Derived.Laws.Pointers
namespace Go.Proofs.YtlblmofimjhbbaaDoor
open Go.RowKit
set_option maxRecDepth 100000 in
def S.s34 : SC := (.seq (.reg [⟨(.some 4), .none, .false, (.mv (.const (Go.Value.slice none 0 0)))⟩]) (.seq (.reg [⟨(.some 8), .none, .false, (.bsl (.mk 9 1) 0 [])⟩, ⟨(.some 5), .none, .false, (.mv (.tmp 8))⟩]) (.seq (.reg [⟨(.some 6), .none, .false, (.mv (.const (Go.Value.int Go.IntKind.i64 0)))⟩]) (.seq (.seq (.reg [⟨(.some 7), .none, .false, (.mv (.const (Go.Value.int Go.IntKind.i64 0)))⟩]) (.block 0 (.loop (.seq (.seq (.reg [⟨(.some 9), .none, .false, (.mv (.tmp 7))⟩, ⟨(.some 10), .none, .false, (.mv (.tmp 1))⟩, ⟨(.some 11), .none, .false, (.slen (.tmp 10))⟩, ⟨(.some 12), .none, .false, (.bin .add (.tmp 9) (.tmp 11))⟩, ⟨(.some 13), .none, .false, (.mv (.tmp 0))⟩, ⟨(.some 14), .none, .false, (.slen (.tmp 13))⟩, ⟨(.some 15), .none, .false, (.bin .leq (.tmp 12) (.tmp 14))⟩]) (.cond (.tmp 15) .skip (.exit 0))) (.seq (.block 1 (.seq (.reg [⟨(.some 18), .none, .false, (.mv (.tmp 0))⟩, ⟨(.some 19), .none, .false, (.mv (.tmp 7))⟩, ⟨(.some 20), .none, .false, (.mv (.tmp 7))⟩, ⟨(.some 21), .none, .false, (.mv (.tmp 1))⟩, ⟨(.some 22), .none, .false, (.slen (.tmp 21))⟩, ⟨(.some 23), .none, .false, (.bin .add (.tmp 20) (.tmp 22))⟩, ⟨(.some 24), .none, .false, (.sslc (.tmp 18) (.some (.tmp 19)) (.some (.tmp 23)))⟩, ⟨(.some 25), .none, .false, (.mv (.tmp 1))⟩, ⟨(.some 26), .none, .false, (.bin .eql (.tmp 24) (.tmp 25))⟩]) (.cond (.tmp 26) (.seq (.reg [⟨(.some 27), .none, .false, (.mv (.tmp 5))⟩, ⟨(.some 28), .none, .false, (.mv (.tmp 0))⟩, ⟨(.some 29), .none, .false, (.mv (.tmp 6))⟩, ⟨(.some 30), .none, .false, (.mv (.tmp 7))⟩, ⟨(.some 31), .none, .false, (.sslc (.tmp 28) (.some (.tmp 29)) (.some (.tmp 30)))⟩, ⟨(.some 32), .none, .false, (.bsl (.mk 9 1) 1 [(0, (.tmp 31))])⟩, ⟨(.some 33), .none, .false, (.app (.mk 9 1) 16 (.tmp 27) (.tmp 32))⟩, ⟨(.some 5), .none, .false, (.mv (.tmp 33))⟩]) (.seq (.reg [⟨(.some 34), .none, .false, (.mv (.tmp 7))⟩, ⟨(.some 35), .none, .false, (.mv (.tmp 1))⟩, ⟨(.some 36), .none, .false, (.slen (.tmp 35))⟩, ⟨(.some 37), .none, .false, (.bin .sub (.tmp 36) (.const (Go.Value.int Go.IntKind.i64 1)))⟩, ⟨(.some 38), .none, .false, (.bin .add (.tmp 34) (.tmp 37))⟩, ⟨(.some 7), .none, .false, (.mv (.tmp 38))⟩]) (.reg [⟨(.some 39), .none, .false, (.mv (.tmp 7))⟩, ⟨(.some 40), .none, .false, (.bin .add (.tmp 39) (.const (Go.Value.int Go.IntKind.i64 1)))⟩, ⟨(.some 6), .none, .false, (.mv (.tmp 40))⟩]))) .skip))) (.reg [⟨(.some 16), .none, .false, (.mv (.tmp 7))⟩, ⟨(.some 17), .none, .false, (.bin .add (.tmp 16) (.const (Go.Value.int Go.IntKind.i64 1)))⟩, ⟨(.some 7), .none, .false, (.mv (.tmp 17))⟩])))))) (.seq (.reg [⟨(.some 41), .none, .false, (.mv (.tmp 5))⟩, ⟨(.some 42), .none, .false, (.mv (.tmp 0))⟩, ⟨(.some 43), .none, .false, (.mv (.tmp 6))⟩, ⟨(.some 44), .none, .false, (.sslc (.tmp 42) (.some (.tmp 43)) .none)⟩, ⟨(.some 45), .none, .false, (.bsl (.mk 9 1) 1 [(0, (.tmp 44))])⟩, ⟨(.some 46), .none, .false, (.app (.mk 9 1) 16 (.tmp 41) (.tmp 45))⟩, ⟨(.some 4), .none, .false, (.mv (.tmp 46))⟩]) .ret)))))
set_option maxRecDepth 100000 in
theorem S.ok34 : stripF Tryd.prog Tryd.f34 = some S.s34 := by kernel_rfl
set_option maxRecDepth 100000 in
def S.s58 : SC := (.seq (.reg [⟨(.some 2), .none, .false, (.mv (.const (Go.Value.int Go.IntKind.i64 0)))⟩, ⟨(.some 3), .none, .false, (.mv (.const (Go.Value.bool false)))⟩]) (.seq (.seq (.reg [⟨(.some 6), .none, .false, (.mv (.tmp 0))⟩, ⟨(.some 7), .none, .false, (.slen (.tmp 6))⟩, ⟨(.some 8), .none, .false, (.bin .lss (.tmp 7) (.const (Go.Value.int Go.IntKind.i64 1)))⟩, ⟨(.some 9), .none, .false, (.mv (.tmp 8))⟩, ⟨(.some 10), (.some (9, .false)), .false, (.mv (.tmp 0))⟩, ⟨(.some 11), (.some (9, .false)), .false, (.slen (.tmp 10))⟩, ⟨(.some 12), (.some (9, .false)), .false, (.bin .gtr (.tmp 11) (.const (Go.Value.int Go.IntKind.i64 11)))⟩, ⟨(.some 13), .none, .false, (.pick (.tmp 9) (.const (Go.Value.bool true)) (.tmp 12))⟩]) (.cond (.tmp 13) (.seq (.reg [⟨(.some 2), .none, .false, (.mv (.const (Go.Value.int Go.IntKind.i64 0)))⟩, ⟨(.some 3), .none, .false, (.mv (.const (Go.Value.bool false)))⟩]) .ret) .skip)) (.seq (.reg [⟨(.some 4), .none, .false, (.mv (.const (Go.Value.int Go.IntKind.i64 0)))⟩]) (.seq (.seq (.reg [⟨(.some 5), .none, .false, (.mv (.const (Go.Value.int Go.IntKind.i64 0)))⟩]) (.block 0 (.loop (.seq (.seq (.reg [⟨(.some 14), .none, .false, (.mv (.tmp 5))⟩, ⟨(.some 15), .none, .false, (.mv (.tmp 0))⟩, ⟨(.some 16), .none, .false, (.slen (.tmp 15))⟩, ⟨(.some 17), .none, .false, (.bin .lss (.tmp 14) (.tmp 16))⟩]) (.cond (.tmp 17) .skip (.exit 0))) (.seq (.block 1 (.seq (.seq (.reg [⟨(.some 20), .none, .false, (.mv (.tmp 5))⟩, ⟨(.some 21), .none, .false, (.bin .eql (.tmp 20) (.const (Go.Value.int Go.IntKind.i64 0)))⟩, ⟨(.some 22), .none, .false, (.mv (.tmp 21))⟩, ⟨(.some 23), (.some (22, .true)), .false, (.mv (.tmp 0))⟩, ⟨(.some 24), (.some (22, .true)), .false, (.mv (.tmp 5))⟩, ⟨(.some 25), (.some (22, .true)), .false, (.six (.tmp 23) (.tmp 24))⟩, ⟨(.some 26), (.some (22, .true)), .false, (.bin .eql (.tmp 25) (.const (Go.Value.int Go.IntKind.u8 45)))⟩, ⟨(.some 27), .none, .false, (.pick (.tmp 22) (.tmp 26) (.const (Go.Value.bool false)))⟩]) (.cond (.tmp 27) (.exit 1) .skip)) (.seq (.seq (.reg [⟨(.some 28), .none, .false, (.mv (.tmp 0))⟩, ⟨(.some 29), .none, .false, (.mv (.tmp 5))⟩, ⟨(.some 30), .none, .false, (.six (.tmp 28) (.tmp 29))⟩, ⟨(.some 31), .none, .false, (.call (.func 73) [(.tmp 30)])⟩, ⟨(.some 32), .none, .false, (.not (.tmp 31))⟩]) (.cond (.tmp 32) (.seq (.reg [⟨(.some 2), .none, .false, (.mv (.const (Go.Value.int Go.IntKind.i64 0)))⟩, ⟨(.some 3), .none, .false, (.mv (.const (Go.Value.bool false)))⟩]) .ret) .skip)) (.reg [⟨(.some 33), .none, .false, (.mv (.tmp 4))⟩, ⟨(.some 34), .none, .false, (.bin .mul (.const (Go.Value.int Go.IntKind.i64 10)) (.tmp 33))⟩, ⟨(.some 35), .none, .false, (.mv (.tmp 0))⟩, ⟨(.some 36), .none, .false, (.mv (.tmp 5))⟩, ⟨(.some 37), .none, .false, (.six (.tmp 35) (.tmp 36))⟩, ⟨(.some 38), .none, .false, (.bin .sub (.tmp 37) (.const (Go.Value.int Go.IntKind.u8 48)))⟩, ⟨(.some 39), .none, .false, (.cv .i64 (.tmp 38))⟩, ⟨(.some 40), .none, .false, (.bin .add (.tmp 34) (.tmp 39))⟩, ⟨(.some 4), .none, .false, (.mv (.tmp 40))⟩])))) (.reg [⟨(.some 18), .none, .false, (.mv (.tmp 5))⟩, ⟨(.some 19), .none, .false, (.bin .add (.tmp 18) (.const (Go.Value.int Go.IntKind.i64 1)))⟩, ⟨(.some 5), .none, .false, (.mv (.tmp 19))⟩])))))) (.seq (.seq (.reg [⟨(.some 41), .none, .false, (.mv (.tmp 0))⟩, ⟨(.some 42), .none, .false, (.six (.tmp 41) (.const (Go.Value.int Go.IntKind.i64 0)))⟩, ⟨(.some 43), .none, .false, (.bin .eql (.tmp 42) (.const (Go.Value.int Go.IntKind.u8 45)))⟩]) (.cond (.tmp 43) (.reg [⟨(.some 44), .none, .false, (.mv (.tmp 4))⟩, ⟨(.some 45), .none, .false, (.neg (.tmp 44))⟩, ⟨(.some 4), .none, .false, (.mv (.tmp 45))⟩]) .skip)) (.seq (.seq (.reg [⟨(.some 46), .none, .false, (.mv (.tmp 4))⟩, ⟨(.some 47), .none, .false, (.call (.func 15) [(.tmp 46), (.const (Go.Value.int Go.IntKind.i64 (-1000000000))), (.const (Go.Value.int Go.IntKind.i64 1000000000))])⟩, ⟨(.some 48), .none, .false, (.not (.tmp 47))⟩, ⟨(.some 49), .none, .false, (.mv (.tmp 48))⟩, ⟨(.some 50), (.some (49, .false)), .false, (.mv (.tmp 4))⟩, ⟨(.some 51), (.some (49, .false)), .false, (.call (.func 17) [(.tmp 50)])⟩, ⟨(.some 52), (.some (49, .false)), .false, (.mv (.tmp 0))⟩, ⟨(.some 53), (.some (49, .false)), .false, (.bin .neq (.tmp 51) (.tmp 52))⟩, ⟨(.some 54), .none, .false, (.pick (.tmp 49) (.const (Go.Value.bool true)) (.tmp 53))⟩]) (.cond (.tmp 54) (.seq (.reg [⟨(.some 2), .none, .false, (.mv (.const (Go.Value.int Go.IntKind.i64 0)))⟩, ⟨(.some 3), .none, .false, (.mv (.const (Go.Value.bool false)))⟩]) .ret) .skip)) (.seq (.reg [⟨(.some 55), .none, .false, (.mv (.tmp 4))⟩, ⟨(.some 2), .none, .false, (.mv (.tmp 55))⟩, ⟨(.some 3), .none, .false, (.mv (.const (Go.Value.bool true)))⟩]) .ret)))))))
set_option maxRecDepth 100000 in
theorem S.ok58 : stripF Tryd.prog Tryd.f58 = some S.s58 := by kernel_rfl
set_option maxRecDepth 100000 in
def S.s73 : SC := (.seq (.reg [⟨(.some 2), .none, .false, (.mv (.const (Go.Value.bool false)))⟩]) (.seq (.reg [⟨(.some 3), .none, .false, (.mv (.tmp 0))⟩, ⟨(.some 4), .none, .false, (.bin .geq (.tmp 3) (.const (Go.Value.int Go.IntKind.u8 48)))⟩, ⟨(.some 5), .none, .false, (.mv (.tmp 4))⟩, ⟨(.some 6), (.some (5, .true)), .false, (.mv (.tmp 0))⟩, ⟨(.some 7), (.some (5, .true)), .false, (.bin .leq (.tmp 6) (.const (Go.Value.int Go.IntKind.u8 57)))⟩, ⟨(.some 8), .none, .false, (.pick (.tmp 5) (.tmp 7) (.const (Go.Value.bool false)))⟩, ⟨(.some 2), .none, .false, (.mv (.tmp 8))⟩]) .ret))
set_option maxRecDepth 100000 in
theorem S.ok73 : stripF Tryd.prog Tryd.f73 = some S.s73 := by kernel_rfl
set_option maxRecDepth 20000
set_option maxHeartbeats 8000000
abbrev kStr : Ky := ⟨9, 1⟩
abbrev enS (w : List UInt8) : List D := [sD (bA w)]
theorem maxLen_cell {w : World} (h : TabsOk w) : ∃ m, w.cell? ⟨1, 0, none⟩ = some (.int .i64 m) := by
  obtain ⟨cs, T, p, hh, m, rfl⟩ := h (1, 1) (by simp [tabG])
  exact ⟨m, by simp [World.cell?, hh]⟩
theorem split_run (sep s : List UInt8) (h0 : sep ≠ []) (hs : s.length ≤ 1048576) {w : World} (h : TabsOk w) : Calls Tryd.prog 62 #[.string (bA s), .string (bA sep)] w fun e w' =>
    e = .returned (.slice (some ⟨w.heap.size, 0, none⟩) (cutS sep s [] 0).length (cutS sep s [] 0).length) ∧ w' = w.alloc (.cells ((cutS sep s [] 0).map fun b => Value.string (bA b)).toArray 9) := by
  obtain ⟨m, hm⟩ := maxLen_cell h
  have h1 : 1 ≤ (bA sep).size := by rw [bA_size]; exact List.length_pos_iff.2 h0
  have := Tryd.strings_Split (bA s) (bA sep) m w (by rw [bA_size]; omega) hm h1
  rw [splitB_cut h1, ← cutB_len h1] at this
  unfold cutB at this
  rw [bA_list, bA_list, List.length_map, List.map_map] at this
  exact this
theorem ET.strs {W : World} : ∀ l : List (List UInt8), (∀ x ∈ l, x.length ≤ 1048576) → ET W (l.map fun b => Value.string (bA b)) (l.map enS).flatten []
  | [], _ => .nil
  | x :: l, h => .pv rfl (by show (bA x).size ≤ maxLen; rw [bA_size]; have := h x (by simp); unfold maxLen; omega) (ET.strs l fun m hm => h m (by simp [hm]))
theorem lib_cut (sep s : List UInt8) (h0 : sep ≠ []) (hs : s.length ≤ 1048576) : Spec Tryd.prog 62 [.c (sD (bA s)), .c (sD (bA sep))] (oN kStr ((cutS sep s [] 0).map enS)) := by
  refine ⟨callFunc_enter Tryd.func62 rfl (by simp [Tryd.f62]), fun w R ι φ vs hR hF ho => ?_⟩
  cases hF with | cons h1 h2 =>
  cases h2 with | cons h2 h3 =>
  cases h3
  rename_i v1 v2
  have h1 : RD w R v1 (sD (bA s)) := h1
  have h2 : RD w R v2 (sD (bA sep)) := h2
  cases h1
  cases h2
  have hTb : TabsOk w := fun x hx => (ho.2.2.2 x hx).2
  obtain ⟨hb1, hb2⟩ := cut_bds (s := s) h0
  have hlen : (cutS sep s [] 0).length ≤ 1048577 := by
    have hs1 : 0 < sep.length := List.length_pos_iff.2 h0
    have : (cutS sep s [] 0).length * 1 ≤ (cutS sep s [] 0).length * sep.length := Nat.mul_le_mul_left _ hs1
    by_cases h : (cutS sep s [] 0).length ≤ 1048577
    · exact h
    · exfalso
      have h4 : 1048578 * sep.length ≤ (cutS sep s [] 0).length * sep.length := Nat.mul_le_mul_right _ (by omega)
      omega
  refine (split_run sep s h0 hs hTb).mono ?_
  generalize cutS sep s [] 0 = l at *
  rintro e w1 ⟨rfl, rfl⟩
  have hg : ∀ o x, frO ([(0, Ob.arr kStr (l.map enS) [])]) o = some x → o = 0 ∧ x = .arr kStr (l.map enS) [] := fun o x hf => by
    simp only [frO, upd] at hf
    split at hf
    · cases hf; exact ⟨by assumption, rfl⟩
    · cases hf
  have hbl : Below w.heap.size w (w.alloc (.cells (l.map fun b => Value.string (bA b)).toArray 9)) := Below.alloc (Below.refl _ _) (Nat.le_refl _) _
  have hhp : (w.alloc (.cells (l.map fun b => Value.string (bA b)).toArray 9)).heap[w.heap.size]? = some (.cells (l.map fun b => Value.string (bA b)).toArray 9) := by show (w.heap.push _)[w.heap.size]? = _; simp
  have hsz : w.heap.size < (w.alloc (.cells (l.map fun b => Value.string (bA b)).toArray 9)).heap.size := by simp
  have hrow : World.ownsRow (w.alloc (.cells (l.map fun b => Value.string (bA b)).toArray 9)) w.heap.size 9 1 (.slice (some ⟨w.heap.size, 0, none⟩) l.length l.length) l.length (l.map fun b => Value.string (bA b)) := by
    refine ⟨by simp, .inr ⟨w.heap.size, l.length, _, rfl, Nat.le_refl _, hhp, Nat.le_refl _, by unfold maxLen; omega, by simp, ?_⟩⟩
    rw [Nat.mul_one]
    show List.take _ (l.map fun b => Value.string (bA b)) = _
    rw [List.take_of_length_le (by simp)]
  refine ⟨_, rfl, R, upd ι 0 (.slice (some ⟨w.heap.size, 0, none⟩) l.length l.length), upd φ 0 [w.heap.size], BelowM.of_below hbl, fun b h => h, fun b h => Nat.lt_of_lt_of_le (hR b h) hbl.size, fun b h _ => .inl h, ?_, ⟨fun o x hf => ?_, fun o x hf g hgm => ?_, fun o p x y g hf hf' _ _ => (hg o x hf).1.trans (hg p y hf').1.symm, ho.2.2.2.keep (fun _ h => h) fun b hb => hbl.block b (hR b hb)⟩, fun g hf => ?_, fun o hf => upd_ne _ _ (fun e => by subst e; exact absurd hf (by decide))⟩
  · exact ⟨⟨_, upd_same _ _ _⟩, (upd_same _ _ _).symm⟩
  · obtain ⟨rfl, rfl⟩ := hg o x hf
    rw [upd_same, upd_same]
    refine ⟨fun es he => ?_, _, [], ?_, EH.of_ET (ET.strs l fun x hx => Nat.le_trans (hb1 x hx) hs), by simp [Value.ownBlock], by simp⟩
    · obtain ⟨n, _, rfl⟩ := List.mem_map.1 he
      rfl
    · rw [List.length_map]
      exact ⟨hrow.1, hrow.2.imp id fun ⟨g, cp, cur, e1, e2, e3⟩ => ⟨g, cp, cur, e1, Nat.zero_le _, e3⟩⟩
  · obtain ⟨rfl, rfl⟩ := hg o x hf
    rw [upd_same] at hgm
    obtain rfl := List.mem_singleton.1 hgm
    exact ⟨fun hr => by have := hR _ hr; omega, hsz⟩
  · obtain ⟨o, x, hf, hgm⟩ := hf
    obtain ⟨rfl, rfl⟩ := hg o x hf
    rw [upd_same] at hgm
    obtain rfl := List.mem_singleton.1 hgm
    exact .inr (Nat.le_refl _)
theorem errCell {w : World} (h : TabsOk w) : (∃ ev, w.cell? ⟨6, 0, none⟩ = some ev ∧ (ev = .nilIface ∨ ∃ te pe, ev = .iface te pe)) ∧ ∃ ev, w.cell? ⟨7, 0, none⟩ = some ev ∧ (ev = .nilIface ∨ ∃ te pe, ev = .iface te pe) := by
  constructor
  · obtain ⟨cs, T, p, hh, ev, rfl, hev⟩ := h (6, 2) (by simp [tabG])
    exact ⟨ev, by simp [World.cell?, hh], hev⟩
  · obtain ⟨cs, T, p, hh, ev, rfl, hev⟩ := h (7, 2) (by simp [tabG])
    exact ⟨ev, by simp [World.cell?, hh], hev⟩
theorem below_bytes (w : World) (T : TypeId) (t : ByteArray) : Below w.heap.size w (Lib.bytesWorld w T t) := Lib.bytesWorld_below _ _ _
/-- strconv.ParseInt, where the text is a number. -/
theorem parse_ok (l : List UInt8) (hl : l.length ≤ 1048576) {n : Int} (h : Lib.parseIntB 64 l = .ok n) (w : World) : Calls Tryd.prog 100 #[.string (bA l), .int .i64 10, .int .i64 64] w fun e w' =>
    e = .returned (.tuple #[.int .i64 n, .nilIface]) ∧ Below w.heap.size w w' := by
  refine (Tryd.strconv_ParseInt_10_at64_ok (bA l) (by rw [bA_size]; omega) n (by rw [bA_list]; exact h) w).mono fun e w' => ?_
  rintro ⟨rfl, rfl | ⟨t, rfl⟩⟩
  · exact ⟨rfl, Below.refl _ _⟩
  · exact ⟨rfl, below_bytes _ _ _⟩
/-- .. where it is none. -/
theorem parse_no (l : List UInt8) (hl : l.length ≤ 1048576) (h : ∀ n, Lib.parseIntB 64 l ≠ .ok n) {w : World} (hT : TabsOk w) : Calls Tryd.prog 100 #[.string (bA l), .int .i64 10, .int .i64 64] w fun e w' =>
    ∃ n N, e = .returned (.tuple #[.int .i64 n, .iface 174 (.pointer (some ⟨N, 0, none⟩))]) ∧ Below w.heap.size w w' := by
  obtain ⟨⟨ev, h1, h2⟩, ev', h3, h4⟩ := errCell hT
  by_cases hr : Lib.parseIntB 64 l = .range
  · refine (Tryd.strconv_ParseInt_10_at64_range (bA l) (by rw [bA_size]; omega) (by rw [bA_list]; exact hr) ev' w h3 h4).mono fun e w' => ?_
    rintro ⟨N, rfl, _, _, hb⟩
    exact ⟨_, N, rfl, hb⟩
  · refine (Tryd.strconv_ParseInt_10_at64_syntax (bA l) (by rw [bA_size]; omega) (by rw [bA_list]; exact h) (by rw [bA_list]; exact hr) ev w h1 h2).mono fun e w' => ?_
    rintro ⟨N, rfl, _, _, hb⟩
    exact ⟨_, N, rfl, hb⟩
theorem RDi {w : World} {R : Nat → Prop} {n : Int} (h : -9223372036854775808 ≤ n ∧ n ≤ 9223372036854775807) : RD w R (.int .i64 n) (iD n) := .pv rfl (by show (Lit.int .i64 n).wf = true; simp [Lit.wf, IntKind.min, IntKind.max, IntKind.signed, IntKind.bits]; omega)
theorem bA_inj {l m : List UInt8} (h : bA l = bA m) : l = m := by rw [← bA_list l, h, bA_list]
/-- What is handed back. -/
def oRd (l : List UInt8) : Value := match rdD l with
  | some n => .tuple #[.int .i64 n, .bool true]
  | none => .tuple #[.int .i64 0, .bool false]
theorem noR {W : World} : ∀ b, (fun _ : Nat => False) b → b < W.heap.size := fun _ h => h.elim
theorem readDec1 (l : List UInt8) (hl : l.length ≤ 1048576) (w : World) (hT : TabsOk w) : Calls Tryd.prog 76 #[.string (bA l)] w fun e w' => e = .returned (oRd l) ∧ Below w.heap.size w w' := by
  by_cases hp : ∃ n, Lib.parseIntB 64 l = .ok n
  · obtain ⟨n, hp⟩ := hp
    have hn := Lib.parseIntB_bounds hp
    have hn : -9223372036854775808 ≤ n ∧ n ≤ 9223372036854775807 := by
      obtain ⟨h1, h2⟩ := hn
      simp at h1 h2
      omega
    have hW := iWithin n (-1000000000) 1000000000
    have hD := iDec n hn
    have hPar := parse_ok l hl hp w
    have hk1 : -9223372036854775808 ≤ (-1000000000 : Int) ∧ (-1000000000 : Int) ≤ 9223372036854775807 := by decide
    have hk2 : -9223372036854775808 ≤ (1000000000 : Int) ∧ (1000000000 : Int) ≤ 9223372036854775807 := by decide
    by_cases hr : -1000000000 ≤ n ∧ n ≤ 1000000000
    · rw [show inB n (-1000000000) 1000000000 = true by simp [inB]; omega] at hW
      by_cases hd : decL n = l
      · have e1 : oRd l = .tuple #[.int .i64 n, .bool true] := by unfold oRd; rw [show rdD l = some n by unfold rdD; rw [hp]; exact if_pos ⟨hr, hd⟩]
        rw [e1]
        rw [hd] at hD
        clear hp hd e1
        go_enter Tryd.func76, Tryd.ntmps76
        go_wp2_with (first | (go_at_call 100; refine hPar.mono ?_; rintro e w1 ⟨rfl, hb1⟩) | (go_at_call 18; refine (specT_B hW (hT.below hb1) (R := fun _ => False) noR (.cons (RDi hn) (.cons (RDi hk1) (.cons (RDi hk2) .nil)))).mono ?_; rintro e w2 ⟨rfl, hb2⟩) | (go_at_call 23; refine (specT_S hD ((hT.below hb1).below hb2) (R := fun _ => False) noR (.cons (RDi hn) .nil)).mono ?_; rintro e w3 ⟨rfl, hb3⟩))
        refine bodyPost_ret (v := .tuple #[.int .i64 n, .bool true]) ?_ rfl ⟨rfl, (hb1.trans (hb2.mono hb1.size)).trans (hb3.mono (Nat.le_trans hb1.size hb2.size))⟩
        simp [results, Tryd.results76, go_sem]
      · have e1 : oRd l = .tuple #[.int .i64 0, .bool false] := by unfold oRd; rw [show rdD l = none by unfold rdD; rw [hp]; exact if_neg fun h => hd h.2]
        have hne : ((bA (decL n)).toList == (bA l).toList) = false := by rw [Lib.toList_data, Lib.toList_data, bA_list, bA_list]; exact beq_eq_false_iff_ne.2 hd
        rw [e1]
        clear hp hd e1
        go_enter Tryd.func76, Tryd.ntmps76
        go_wp2_with (first | (go_at_call 100; refine hPar.mono ?_; rintro e w1 ⟨rfl, hb1⟩) | (go_at_call 18; refine (specT_B hW (hT.below hb1) (R := fun _ => False) noR (.cons (RDi hn) (.cons (RDi hk1) (.cons (RDi hk2) .nil)))).mono ?_; rintro e w2 ⟨rfl, hb2⟩) | (go_at_call 23; refine (specT_S hD ((hT.below hb1).below hb2) (R := fun _ => False) noR (.cons (RDi hn) .nil)).mono ?_; rintro e w3 ⟨rfl, hb3⟩))
        refine bodyPost_ret (v := .tuple #[.int .i64 0, .bool false]) ?_ rfl ⟨rfl, (hb1.trans (hb2.mono hb1.size)).trans (hb3.mono (Nat.le_trans hb1.size hb2.size))⟩
        simp [results, Tryd.results76, go_sem]
    · rw [show inB n (-1000000000) 1000000000 = false by simp [inB]; omega] at hW
      have e1 : oRd l = .tuple #[.int .i64 0, .bool false] := by unfold oRd; rw [show rdD l = none by unfold rdD; rw [hp]; exact if_neg fun h => hr h.1]
      rw [e1]
      clear hp hr e1
      go_enter Tryd.func76, Tryd.ntmps76
      go_wp2_with (first | (go_at_call 100; refine hPar.mono ?_; rintro e w1 ⟨rfl, hb1⟩) | (go_at_call 18; refine (specT_B hW (hT.below hb1) (R := fun _ => False) noR (.cons (RDi hn) (.cons (RDi hk1) (.cons (RDi hk2) .nil)))).mono ?_; rintro e w2 ⟨rfl, hb2⟩) | (go_at_call 23; refine (specT_S hD ((hT.below hb1).below hb2) (R := fun _ => False) noR (.cons (RDi hn) .nil)).mono ?_; rintro e w3 ⟨rfl, hb3⟩))
      refine bodyPost_ret (v := .tuple #[.int .i64 0, .bool false]) ?_ rfl ⟨rfl, hb1.trans (hb2.mono hb1.size)⟩
      simp [results, Tryd.results76, go_sem]
  · have hp : ∀ n, Lib.parseIntB 64 l ≠ .ok n := fun n h => hp ⟨n, h⟩
    have e1 : oRd l = .tuple #[.int .i64 0, .bool false] := by
      unfold oRd
      rw [show rdD l = none by unfold rdD; split; exact (hp _ (by assumption)).elim; rfl]
    rw [e1]
    have hPar := parse_no l hl hp hT
    clear hp e1
    go_enter Tryd.func76, Tryd.ntmps76
    go_wp2_with (go_at_call 100; refine hPar.mono ?_; rintro e w1 ⟨n, N, rfl, hb1⟩)
    refine bodyPost_ret (v := .tuple #[.int .i64 0, .bool false]) ?_ rfl ⟨rfl, hb1⟩
    simp [results, Tryd.results76, go_sem]
/-- What is read of a numeral. -/
def rdN (l : List UInt8) : Int × Bool := match rdD l with
  | some n => (n, true)
  | none => (0, false)
theorem oRd_eq (l : List UInt8) : oRd l = .tuple #[.int .i64 (rdN l).1, .bool (rdN l).2] := by
  unfold oRd rdN
  split <;> rfl
theorem rdN_bd (l : List UInt8) : -1000000000 ≤ (rdN l).1 ∧ (rdN l).1 ≤ 1000000000 := by
  unfold rdN
  split
  · rename_i h; exact (rdD_some h).1
  · decide
theorem iReadDec (l : List UInt8) (hl : l.length ≤ 1048576) : Spec Tryd.prog 76 [.c (sD (bA l))] (.tup [cI (rdN l).1, cB1 (rdN l).2]) := by
  refine ⟨callFunc_enter Tryd.func76 rfl (by simp [Tryd.f76]), fun w R ι φ vs hR hF ho => ?_⟩
  cases hF with | cons h1 h2 =>
  cases h2
  rename_i v
  have h1 : RD w R v (sD (bA l)) := h1
  cases h1
  have hTb : TabsOk w := fun x hx => (ho.2.2.2 x hx).2
  have hbd := rdN_bd l
  refine (readDec1 l hl w hTb).mono fun e w1 => ?_
  rw [oRd_eq]
  rintro ⟨rfl, hbl⟩
  have hn2 : ∀ o x, frO [] o = some x → False := fun o x h => by simp [frO] at h
  have hO : ObjsOk w1 R ι φ (frO []) := ⟨fun o x h => (hn2 o x h).elim, fun o x h => (hn2 o x h).elim, fun o p x y g h => (hn2 o x h).elim, ho.2.2.2.keep (fun _ h => h) fun b hb => hbl.block b (hR b hb)⟩
  refine ⟨_, rfl, R, ι, φ, BelowM.of_below hbl, fun b h => h, fun b h => Nat.lt_of_lt_of_le (hR b h) hbl.size, fun b h _ => .inl h, ⟨_, rfl, .cons (RDi (by omega)) (.cons (.pv rfl trivial) .nil)⟩, hO, fun g h => ?_, fun o h => rfl⟩
  obtain ⟨o, x, h, _⟩ := h
  exact (hn2 o x h).elim
theorem body_app {p : List UInt8} (h : p ≠ []) (q : List UInt8) : bodyN (p ++ q) = bodyN p ++ q := by
  cases p with
  | nil => exact (h rfl).elim
  | cons c r =>
    simp only [List.cons_append, bodyN]
    split <;> rfl
theorem body_mem {l : List UInt8} {k : Nat} {b : UInt8} (h : b ∈ bodyN (l.take k)) : b ∈ bodyN l := by
  by_cases h0 : l.take k = []
  · rw [h0] at h
    cases h
  · have := body_app h0 (l.drop k)
    rw [List.take_append_drop] at this
    rw [this]
    exact List.mem_append_left _ h
theorem take_snocN {α : Type} {l : List α} {i : Nat} {a : α} (h : l[i]? = some a) : l.take (i + 1) = l.take i ++ [a] := by
  rw [List.take_add_one, h]
  rfl
theorem rdN_none {l : List UInt8} (h : rdD l = none) : rdN l = (0, false) := by unfold rdN; rw [h]
theorem rdN_some {l : List UInt8} {n : Int} (h : rdD l = some n) : rdN l = (n, true) := by unfold rdN; rw [h]
theorem isDg_u8 {b : UInt8} : isDg b ↔ 48 ≤ (b.toNat : Int) ∧ (b.toNat : Int) ≤ 57 := by unfold isDg; omega
theorem sDig (c : Int) : Spec Tryd.prog 73 [.c (.pv (.int .u8 c))] (oB (inB c 48 57)) := by
  refine Spec.walk T.mixed Tryd.func73 S.ok73 (by simp [Tryd.f73]) fun hk => ?_
  unfold S.s73
  clear hk
  repeat' (first | refine R.mv rfl ?_ | refine R.reg ?_ | refine R.nil ?_ | refine R.seq ?_ | refine R.nseq ?_ | refine R.nblk ?_ | refine R.skip ?_ | refine R.blk ?_ | refine R.exit rfl ?_ | refine R.gRun rfl ?_ | refine R.gSkip rfl ?_ | refine R.gSkip0 rfl ?_ | refine R.gUndef rfl ?_ | refine R.gUndef0 rfl ?_ | refine R.leq rfl rfl ?_ | refine R.geq rfl rfl ?_ | refine R.pickT rfl rfl ?_ | refine R.pickF rfl rfl ?_ | refine R.condT rfl ?_ | refine R.condF rfl ?_ | refine R.cond rfl (fun hc => ?_) (fun hc => ?_) | refine R.condN rfl (fun hc => ?_) (fun hc => ?_) | refine R.condB rfl (fun hc => ?_) (fun hc => ?_) | refine R.gP rfl (fun hc => ?_) (fun hc => ?_) | refine R.gN rfl (fun hc => ?_) (fun hc => ?_) | refine R.gB rfl (fun hc => ?_) (fun hc => ?_))
  all_goals first
    | exact R.ret ⟨.inr rfl, R.outB rfl rfl (by simp [inB]; omega)⟩
    | skip
theorem sReadDec (l : List UInt8) (hl : l.length ≤ 1048576) : Spec Tryd.prog 58 [.c (sD (bA l))] (.tup [cI (rdN l).1, cB1 (rdN l).2]) := by
  refine Spec.walk T.mixed Tryd.func58 S.ok58 (by simp [Tryd.f58]) fun hk => ?_
  clear hk
  unfold S.s58
  by_cases h11 : 1 ≤ l.length ∧ l.length ≤ 11
  case neg =>
    have hno : rdN l = (0, false) := by
      cases hr : rdD l with
      | none => exact rdN_none hr
      | some n => exact (h11 (rd_body hr).1).elim
    rw [hno]
    repeat' (first | refine R.slenA rfl ?_ | refine R.mv rfl ?_ | refine R.reg ?_ | refine R.nil ?_ | refine R.seq ?_ | refine R.nseq ?_ | refine R.nblk ?_ | refine R.skip ?_ | refine R.blk ?_ | refine R.exit rfl ?_ | refine R.gRun rfl ?_ | refine R.gSkip rfl ?_ | refine R.gSkip0 rfl ?_ | refine R.gUndef rfl ?_ | refine R.gUndef0 rfl ?_ | refine R.slen rfl ?_ | refine R.lss rfl rfl ?_ | refine R.gtr rfl rfl ?_ | refine R.eql rfl rfl ?_ | refine R.neq rfl rfl ?_ | refine R.add rfl rfl (by omega) ?_ | refine R.sub rfl rfl (by omega) ?_ | refine R.six rfl rfl (by omega) (fun a ha => ?_) | refine R.cv64 rfl (by omega) ?_ | refine R.pickT rfl rfl ?_ | refine R.pickF rfl rfl ?_ | refine R.not rfl ?_ | refine R.neg rfl (by omega) ?_ | refine R.cvU rfl (by omega) ?_ | refine R.condT rfl ?_ | refine R.condF rfl ?_ | refine R.cond rfl (fun hc => ?_) (fun hc => ?_) | refine R.condN rfl (fun hc => ?_) (fun hc => ?_) | refine R.condB rfl (fun hc => ?_) (fun hc => ?_) | refine R.gP rfl (fun hc => ?_) (fun hc => ?_) | refine R.gN rfl (fun hc => ?_) (fun hc => ?_) | refine R.gB rfl (fun hc => ?_) (fun hc => ?_))
    all_goals first
      | (exfalso; omega)
      | exact R.ret ⟨.inr rfl, R.outIB rfl rfl rfl rfl rfl⟩
      | skip
  obtain ⟨c0, hc0⟩ : ∃ c, l[0]? = some c := ⟨_, List.getElem?_eq_getElem (by omega)⟩
  repeat' (first | refine R.slenA rfl ?_ | refine R.mv rfl ?_ | refine R.reg ?_ | refine R.nil ?_ | refine R.seq ?_ | refine R.nseq ?_ | refine R.nblk ?_ | refine R.skip ?_ | refine R.blk ?_ | refine R.exit rfl ?_ | refine R.gRun rfl ?_ | refine R.gSkip rfl ?_ | refine R.gSkip0 rfl ?_ | refine R.gUndef rfl ?_ | refine R.gUndef0 rfl ?_ | refine R.slen rfl ?_ | refine R.lss rfl rfl ?_ | refine R.gtr rfl rfl ?_ | refine R.eql rfl rfl ?_ | refine R.neq rfl rfl ?_ | refine R.add rfl rfl (by omega) ?_ | refine R.sub rfl rfl (by omega) ?_ | refine R.six rfl rfl (by omega) (fun a ha => ?_) | refine R.cv64 rfl (by omega) ?_ | refine R.pickT rfl rfl ?_ | refine R.pickF rfl rfl ?_ | refine R.not rfl ?_ | refine R.neg rfl (by omega) ?_ | refine R.cvU rfl (by omega) ?_ | refine R.condT rfl ?_ | refine R.condF rfl ?_ | refine R.cond rfl (fun hc => ?_) (fun hc => ?_) | refine R.condN rfl (fun hc => ?_) (fun hc => ?_) | refine R.condB rfl (fun hc => ?_) (fun hc => ?_) | refine R.gP rfl (fun hc => ?_) (fun hc => ?_) | refine R.gN rfl (fun hc => ?_) (fun hc => ?_) | refine R.gB rfl (fun hc => ?_) (fun hc => ?_))
  all_goals first
    | (exfalso; omega)
    | skip
  refine R.loop (G := Nat) (fun i => [(0, pvA (.string (bA l))), (4, pvA (.int .i64 (nvD (l.take i)))), (5, pvA (.int .i64 i))]) (fun _ => []) (fun i => i ≤ l.length ∧ ∀ b ∈ bodyN (l.take i), isDg b) (fun i => l.length - i) 0 ⟨Nat.zero_le _, by simp [bodyN]⟩ (Weak.frame _ _ ⟨rfl, rfl, rfl, trivial⟩ trivial rfl rfl) fun i hi => ?_
  obtain ⟨hi, hdg⟩ := hi
  have hnb := nvD_bd (l := l.take i) (by rw [List.length_take]; omega) hdg
  by_cases hil : i < l.length
  · obtain ⟨b, hb⟩ : ∃ b, l[i]? = some b := ⟨_, List.getElem?_eq_getElem hil⟩
    have hts := take_snocN hb
    have hbb := b.toNat_lt
    by_cases hs : i = 0 ∧ b = 45
    · obtain ⟨rfl, rfl⟩ := hs
      have e1 : nvD (l.take 1) = 0 := by rw [hts]; rfl
      have e2 : ∀ b ∈ bodyN (l.take 1), isDg b := by rw [hts]; simp [bodyN]
      repeat' (first | refine R.slenA rfl ?_ | refine R.sixA hb rfl rfl (by omega) ?_ | refine R.mv rfl ?_ | refine R.reg ?_ | refine R.nil ?_ | refine R.seq ?_ | refine R.nseq ?_ | refine R.nblk ?_ | refine R.skip ?_ | refine R.blk ?_ | refine R.exit rfl ?_ | refine R.gRun rfl ?_ | refine R.gSkip rfl ?_ | refine R.gSkip0 rfl ?_ | refine R.gUndef rfl ?_ | refine R.gUndef0 rfl ?_ | refine R.slen rfl ?_ | refine R.lss rfl rfl ?_ | refine R.gtr rfl rfl ?_ | refine R.eql rfl rfl ?_ | refine R.neq rfl rfl ?_ | refine R.add rfl rfl (by omega) ?_ | refine R.sub rfl rfl (by omega) ?_ | refine R.six rfl rfl (by omega) (fun a ha => ?_) | refine R.cv64 rfl (by omega) ?_ | refine R.pickT rfl rfl ?_ | refine R.pickF rfl rfl ?_ | refine R.not rfl ?_ | refine R.neg rfl (by omega) ?_ | refine R.cvU rfl (by omega) ?_ | refine R.condT rfl ?_ | refine R.condF rfl ?_ | refine R.cond rfl (fun hc => ?_) (fun hc => ?_) | refine R.condN rfl (fun hc => ?_) (fun hc => ?_) | refine R.condB rfl (fun hc => ?_) (fun hc => ?_) | refine R.gP rfl (fun hc => ?_) (fun hc => ?_) | refine R.gN rfl (fun hc => ?_) (fun hc => ?_) | refine R.gB rfl (fun hc => ?_) (fun hc => ?_))
      all_goals first
        | (exfalso; omega)
        | (exfalso; rename_i h; exact h rfl)
        | exact R.nloop (R.again 1 ⟨by omega, e2⟩ (by omega) ⟨rfl, by rw [e1]; rfl, rfl, trivial⟩ trivial rfl rfl)
        | skip
    · have hD := sDig b.toNat
      have hs' : ¬ (l.take i = [] ∧ b = 45) := fun ⟨e, hb45⟩ => hs ⟨by
        have := congrArg List.length e
        rw [List.length_take, List.length_nil] at this
        omega, hb45⟩
      by_cases hd : isDg b
      · rw [show inB (b.toNat : Int) 48 57 = true by have := isDg_u8.1 hd; simp [inB]; omega] at hD
        have hd' := isDg_u8.1 hd
        have e1 : nvD (l.take (i + 1)) = 10 * nvD (l.take i) + ((b.toNat : Int) - 48) := by rw [hts, nvD_step hs']
        have e2 : ∀ c ∈ bodyN (l.take (i + 1)), isDg c := by
          rw [hts, body_one hs']
          intro c hc
          rcases List.mem_append.1 hc with hc | hc
          · exact hdg c hc
          · rw [List.mem_singleton.1 hc]; exact hd
        generalize nvD (l.take i) = n at *
        by_cases hi0 : i = 0
        · have hb45 : ¬ ((b.toNat : Int) = 45) := by omega
          subst hi0
          repeat' (first | refine R.slenA rfl ?_ | refine R.sixA hb rfl rfl (by omega) ?_ | refine R.mv rfl ?_ | refine R.reg ?_ | refine R.nil ?_ | refine R.seq ?_ | refine R.nseq ?_ | refine R.nblk ?_ | refine R.skip ?_ | refine R.blk ?_ | refine R.exit rfl ?_ | refine R.gRun rfl ?_ | refine R.gSkip rfl ?_ | refine R.gSkip0 rfl ?_ | refine R.gUndef rfl ?_ | refine R.gUndef0 rfl ?_ | refine R.slen rfl ?_ | refine R.lss rfl rfl ?_ | refine R.gtr rfl rfl ?_ | refine R.eql rfl rfl ?_ | refine R.neq rfl rfl ?_ | refine R.add rfl rfl (by omega) ?_ | refine R.sub rfl rfl (by omega) ?_ | refine R.six rfl rfl (by omega) (fun a ha => ?_) | refine R.cv64 rfl (by omega) ?_ | refine R.pickT rfl rfl ?_ | refine R.pickF rfl rfl ?_ | refine R.not rfl ?_ | refine R.neg rfl (by omega) ?_ | refine R.cvU rfl (by omega) ?_ | refine R.condT rfl ?_ | refine R.condF rfl ?_ | refine R.call (bor := false) rfl rfl (hD) rfl rfl rfl ?_ | refine R.call (bor := true) rfl rfl (hD) rfl rfl rfl ?_ | refine R.fcal (bor := false) rfl rfl (hD) rfl rfl rfl ?_ | refine R.fcal (bor := true) rfl rfl (hD) rfl rfl rfl ?_ | refine R.mul rfl rfl (by omega) ?_ | refine R.subB rfl rfl (by omega) ?_ | refine R.cond rfl (fun hc => ?_) (fun hc => ?_) | refine R.condN rfl (fun hc => ?_) (fun hc => ?_) | refine R.condB rfl (fun hc => ?_) (fun hc => ?_) | refine R.gP rfl (fun hc => ?_) (fun hc => ?_) | refine R.gN rfl (fun hc => ?_) (fun hc => ?_) | refine R.gB rfl (fun hc => ?_) (fun hc => ?_))
          all_goals first
            | (exfalso; omega)
            | exact R.nloop (R.again 1 ⟨by omega, e2⟩ (by omega) ⟨rfl, by rw [e1]; rfl, rfl, trivial⟩ trivial rfl rfl)
            | skip
        · repeat' (first | refine R.slenA rfl ?_ | refine R.sixA hb rfl rfl (by omega) ?_ | refine R.mv rfl ?_ | refine R.reg ?_ | refine R.nil ?_ | refine R.seq ?_ | refine R.nseq ?_ | refine R.nblk ?_ | refine R.skip ?_ | refine R.blk ?_ | refine R.exit rfl ?_ | refine R.gRun rfl ?_ | refine R.gSkip rfl ?_ | refine R.gSkip0 rfl ?_ | refine R.gUndef rfl ?_ | refine R.gUndef0 rfl ?_ | refine R.slen rfl ?_ | refine R.lss rfl rfl ?_ | refine R.gtr rfl rfl ?_ | refine R.eql rfl rfl ?_ | refine R.neq rfl rfl ?_ | refine R.add rfl rfl (by omega) ?_ | refine R.sub rfl rfl (by omega) ?_ | refine R.six rfl rfl (by omega) (fun a ha => ?_) | refine R.cv64 rfl (by omega) ?_ | refine R.pickT rfl rfl ?_ | refine R.pickF rfl rfl ?_ | refine R.not rfl ?_ | refine R.neg rfl (by omega) ?_ | refine R.cvU rfl (by omega) ?_ | refine R.condT rfl ?_ | refine R.condF rfl ?_ | refine R.call (bor := false) rfl rfl (hD) rfl rfl rfl ?_ | refine R.call (bor := true) rfl rfl (hD) rfl rfl rfl ?_ | refine R.fcal (bor := false) rfl rfl (hD) rfl rfl rfl ?_ | refine R.fcal (bor := true) rfl rfl (hD) rfl rfl rfl ?_ | refine R.mul rfl rfl (by omega) ?_ | refine R.subB rfl rfl (by omega) ?_ | refine R.cond rfl (fun hc => ?_) (fun hc => ?_) | refine R.condN rfl (fun hc => ?_) (fun hc => ?_) | refine R.condB rfl (fun hc => ?_) (fun hc => ?_) | refine R.gP rfl (fun hc => ?_) (fun hc => ?_) | refine R.gN rfl (fun hc => ?_) (fun hc => ?_) | refine R.gB rfl (fun hc => ?_) (fun hc => ?_))
          all_goals first
            | (exfalso; omega)
            | exact R.nloop (R.again (i + 1) ⟨by omega, e2⟩ (by omega) ⟨rfl, by rw [e1]; rfl, rfl, trivial⟩ trivial rfl rfl)
            | skip
      · have hno : rdN l = (0, false) := by
          cases hr : rdD l with
          | none => exact rdN_none hr
          | some n =>
            refine (hd ((rd_body hr).2.1 b (body_mem (k := i + 1) ?_))).elim
            rw [hts, body_one hs']
            simp
        rw [show inB (b.toNat : Int) 48 57 = false by have := mt isDg_u8.2 hd; simp [inB]; omega] at hD
        rw [hno]
        have hb45 : i = 0 → ¬ ((b.toNat : Int) = 45) := fun h0 e => hs ⟨h0, by rw [← UInt8.toNat_inj]; exact Int.ofNat.inj e⟩
        repeat' (first | refine R.slenA rfl ?_ | refine R.sixA hb rfl rfl (by omega) ?_ | refine R.mv rfl ?_ | refine R.reg ?_ | refine R.nil ?_ | refine R.seq ?_ | refine R.nseq ?_ | refine R.nblk ?_ | refine R.skip ?_ | refine R.blk ?_ | refine R.exit rfl ?_ | refine R.gRun rfl ?_ | refine R.gSkip rfl ?_ | refine R.gSkip0 rfl ?_ | refine R.gUndef rfl ?_ | refine R.gUndef0 rfl ?_ | refine R.slen rfl ?_ | refine R.lss rfl rfl ?_ | refine R.gtr rfl rfl ?_ | refine R.eql rfl rfl ?_ | refine R.neq rfl rfl ?_ | refine R.add rfl rfl (by omega) ?_ | refine R.sub rfl rfl (by omega) ?_ | refine R.six rfl rfl (by omega) (fun a ha => ?_) | refine R.cv64 rfl (by omega) ?_ | refine R.pickT rfl rfl ?_ | refine R.pickF rfl rfl ?_ | refine R.not rfl ?_ | refine R.neg rfl (by omega) ?_ | refine R.cvU rfl (by omega) ?_ | refine R.condT rfl ?_ | refine R.condF rfl ?_ | refine R.call (bor := false) rfl rfl (hD) rfl rfl rfl ?_ | refine R.call (bor := true) rfl rfl (hD) rfl rfl rfl ?_ | refine R.fcal (bor := false) rfl rfl (hD) rfl rfl rfl ?_ | refine R.fcal (bor := true) rfl rfl (hD) rfl rfl rfl ?_ | refine R.cond rfl (fun hc => ?_) (fun hc => ?_) | refine R.condN rfl (fun hc => ?_) (fun hc => ?_) | refine R.condB rfl (fun hc => ?_) (fun hc => ?_) | refine R.gP rfl (fun hc => ?_) (fun hc => ?_) | refine R.gN rfl (fun hc => ?_) (fun hc => ?_) | refine R.gB rfl (fun hc => ?_) (fun hc => ?_))
        all_goals first
          | (exfalso; omega)
          | (exfalso; exact hb45 (by omega) (by assumption))
          | exact R.ret ⟨.inr rfl, R.outIB rfl rfl rfl rfl rfl⟩
          | skip
  obtain rfl : i = l.length := by omega
  rw [List.take_length] at hdg hnb ⊢
  have hD1 := sDec (nvD l) ⟨by omega, by omega⟩
  have hD2 := sDec (-nvD l) ⟨by omega, by omega⟩
  have hc45 : ((c0.toNat : Int) = 45) ↔ l.head? = some 45 := by
    rw [List.head?_eq_getElem?, hc0]
    constructor
    · intro h; rw [Option.some_inj, ← UInt8.toNat_inj]; exact Int.ofNat.inj h
    · intro h; cases h; rfl
  have key : ∀ n, (if l.head? = some 45 then 0 - nvD l else nvD l) = n → rdN l = if (-1000000000 ≤ n ∧ n ≤ 1000000000) ∧ decL n = l then (n, true) else (0, false) := fun n hn => by
    split
    · rename_i h
      have := rdD_dec h.1
      rw [h.2] at this
      exact rdN_some this
    · rename_i h
      cases hr : rdD l with
      | none => exact rdN_none hr
      | some m =>
        have h1 := (rd_body hr).2.2
        rw [show -nvD l = 0 - nvD l by omega, hn] at h1
        subst h1
        exact (h (rdD_some hr)).elim
  have hW1 := sIn (nvD l) (-1000000000) 1000000000
  have hW2 := sIn (-nvD l) (-1000000000) 1000000000
  rw [show -nvD l = 0 - nvD l by omega] at hD2 hW2
  have hb0 := c0.toNat_lt
  by_cases h45 : l.head? = some 45
  · have k1 := key _ (if_pos h45)
    have h45' := hc45.2 h45
    by_cases hr : -1000000000 ≤ 0 - nvD l ∧ 0 - nvD l ≤ 1000000000
    · rw [inB_T hr] at hW2
      by_cases hd : decL (0 - nvD l) = l
      · rw [if_pos ⟨hr, hd⟩] at k1
        rw [k1]
        repeat' (first | refine R.slenA rfl ?_ | refine R.sixA hc0 rfl rfl (by omega) ?_ | refine R.mv rfl ?_ | refine R.reg ?_ | refine R.nil ?_ | refine R.seq ?_ | refine R.nseq ?_ | refine R.nblk ?_ | refine R.skip ?_ | refine R.blk ?_ | refine R.exit rfl ?_ | refine R.gRun rfl ?_ | refine R.gSkip rfl ?_ | refine R.gSkip0 rfl ?_ | refine R.gUndef rfl ?_ | refine R.gUndef0 rfl ?_ | refine R.slen rfl ?_ | refine R.lss rfl rfl ?_ | refine R.gtr rfl rfl ?_ | refine R.eql rfl rfl ?_ | refine R.neq rfl rfl ?_ | refine R.add rfl rfl (by omega) ?_ | refine R.sub rfl rfl (by omega) ?_ | refine R.six rfl rfl (by omega) (fun a ha => ?_) | refine R.cv64 rfl (by omega) ?_ | refine R.pickT rfl rfl ?_ | refine R.pickF rfl rfl ?_ | refine R.not rfl ?_ | refine R.neg rfl (by omega) ?_ | refine R.cvU rfl (by omega) ?_ | refine R.condT rfl ?_ | refine R.condF rfl ?_ | refine R.call (bor := false) rfl rfl (hW2) rfl rfl rfl ?_ | refine R.call (bor := true) rfl rfl (hW2) rfl rfl rfl ?_ | refine R.fcal (bor := false) rfl rfl (hW2) rfl rfl rfl ?_ | refine R.fcal (bor := true) rfl rfl (hW2) rfl rfl rfl ?_ | refine R.call (bor := false) rfl rfl (hD2) rfl rfl rfl ?_ | refine R.call (bor := true) rfl rfl (hD2) rfl rfl rfl ?_ | refine R.fcal (bor := false) rfl rfl (hD2) rfl rfl rfl ?_ | refine R.fcal (bor := true) rfl rfl (hD2) rfl rfl rfl ?_ | refine R.neqA (decide_eq_true hd) rfl rfl ?_ | refine R.cond rfl (fun hc => ?_) (fun hc => ?_) | refine R.condN rfl (fun hc => ?_) (fun hc => ?_) | refine R.condB rfl (fun hc => ?_) (fun hc => ?_) | refine R.gP rfl (fun hc => ?_) (fun hc => ?_) | refine R.gN rfl (fun hc => ?_) (fun hc => ?_) | refine R.gB rfl (fun hc => ?_) (fun hc => ?_))
        all_goals first
          | (exfalso; omega)
          | exact R.ret ⟨.inr rfl, R.outIB rfl rfl rfl rfl rfl⟩
          | skip
      · rw [if_neg fun h => hd h.2] at k1
        rw [k1]
        repeat' (first | refine R.slenA rfl ?_ | refine R.sixA hc0 rfl rfl (by omega) ?_ | refine R.mv rfl ?_ | refine R.reg ?_ | refine R.nil ?_ | refine R.seq ?_ | refine R.nseq ?_ | refine R.nblk ?_ | refine R.skip ?_ | refine R.blk ?_ | refine R.exit rfl ?_ | refine R.gRun rfl ?_ | refine R.gSkip rfl ?_ | refine R.gSkip0 rfl ?_ | refine R.gUndef rfl ?_ | refine R.gUndef0 rfl ?_ | refine R.slen rfl ?_ | refine R.lss rfl rfl ?_ | refine R.gtr rfl rfl ?_ | refine R.eql rfl rfl ?_ | refine R.neq rfl rfl ?_ | refine R.add rfl rfl (by omega) ?_ | refine R.sub rfl rfl (by omega) ?_ | refine R.six rfl rfl (by omega) (fun a ha => ?_) | refine R.cv64 rfl (by omega) ?_ | refine R.pickT rfl rfl ?_ | refine R.pickF rfl rfl ?_ | refine R.not rfl ?_ | refine R.neg rfl (by omega) ?_ | refine R.cvU rfl (by omega) ?_ | refine R.condT rfl ?_ | refine R.condF rfl ?_ | refine R.call (bor := false) rfl rfl (hW2) rfl rfl rfl ?_ | refine R.call (bor := true) rfl rfl (hW2) rfl rfl rfl ?_ | refine R.fcal (bor := false) rfl rfl (hW2) rfl rfl rfl ?_ | refine R.fcal (bor := true) rfl rfl (hW2) rfl rfl rfl ?_ | refine R.call (bor := false) rfl rfl (hD2) rfl rfl rfl ?_ | refine R.call (bor := true) rfl rfl (hD2) rfl rfl rfl ?_ | refine R.fcal (bor := false) rfl rfl (hD2) rfl rfl rfl ?_ | refine R.fcal (bor := true) rfl rfl (hD2) rfl rfl rfl ?_ | refine R.neqA (decide_eq_false hd) rfl rfl ?_ | refine R.cond rfl (fun hc => ?_) (fun hc => ?_) | refine R.condN rfl (fun hc => ?_) (fun hc => ?_) | refine R.condB rfl (fun hc => ?_) (fun hc => ?_) | refine R.gP rfl (fun hc => ?_) (fun hc => ?_) | refine R.gN rfl (fun hc => ?_) (fun hc => ?_) | refine R.gB rfl (fun hc => ?_) (fun hc => ?_))
        all_goals first
          | (exfalso; omega)
          | exact R.ret ⟨.inr rfl, R.outIB rfl rfl rfl rfl rfl⟩
          | skip
    · rw [inB_F hr] at hW2
      rw [if_neg fun h => hr h.1] at k1
      rw [k1]
      repeat' (first | refine R.slenA rfl ?_ | refine R.sixA hc0 rfl rfl (by omega) ?_ | refine R.mv rfl ?_ | refine R.reg ?_ | refine R.nil ?_ | refine R.seq ?_ | refine R.nseq ?_ | refine R.nblk ?_ | refine R.skip ?_ | refine R.blk ?_ | refine R.exit rfl ?_ | refine R.gRun rfl ?_ | refine R.gSkip rfl ?_ | refine R.gSkip0 rfl ?_ | refine R.gUndef rfl ?_ | refine R.gUndef0 rfl ?_ | refine R.slen rfl ?_ | refine R.lss rfl rfl ?_ | refine R.gtr rfl rfl ?_ | refine R.eql rfl rfl ?_ | refine R.neq rfl rfl ?_ | refine R.add rfl rfl (by omega) ?_ | refine R.sub rfl rfl (by omega) ?_ | refine R.six rfl rfl (by omega) (fun a ha => ?_) | refine R.cv64 rfl (by omega) ?_ | refine R.pickT rfl rfl ?_ | refine R.pickF rfl rfl ?_ | refine R.not rfl ?_ | refine R.neg rfl (by omega) ?_ | refine R.cvU rfl (by omega) ?_ | refine R.condT rfl ?_ | refine R.condF rfl ?_ | refine R.call (bor := false) rfl rfl (hW2) rfl rfl rfl ?_ | refine R.call (bor := true) rfl rfl (hW2) rfl rfl rfl ?_ | refine R.fcal (bor := false) rfl rfl (hW2) rfl rfl rfl ?_ | refine R.fcal (bor := true) rfl rfl (hW2) rfl rfl rfl ?_ | refine R.cond rfl (fun hc => ?_) (fun hc => ?_) | refine R.condN rfl (fun hc => ?_) (fun hc => ?_) | refine R.condB rfl (fun hc => ?_) (fun hc => ?_) | refine R.gP rfl (fun hc => ?_) (fun hc => ?_) | refine R.gN rfl (fun hc => ?_) (fun hc => ?_) | refine R.gB rfl (fun hc => ?_) (fun hc => ?_))
      all_goals first
        | (exfalso; omega)
        | exact R.ret ⟨.inr rfl, R.outIB rfl rfl rfl rfl rfl⟩
        | skip
  · have k1 := key _ (if_neg h45)
    have h45' : ¬ ((c0.toNat : Int) = 45) := fun h => h45 (hc45.1 h)
    by_cases hr : -1000000000 ≤ nvD l ∧ nvD l ≤ 1000000000
    · rw [inB_T hr] at hW1
      by_cases hd : decL (nvD l) = l
      · rw [if_pos ⟨hr, hd⟩] at k1
        rw [k1]
        repeat' (first | refine R.slenA rfl ?_ | refine R.sixA hc0 rfl rfl (by omega) ?_ | refine R.mv rfl ?_ | refine R.reg ?_ | refine R.nil ?_ | refine R.seq ?_ | refine R.nseq ?_ | refine R.nblk ?_ | refine R.skip ?_ | refine R.blk ?_ | refine R.exit rfl ?_ | refine R.gRun rfl ?_ | refine R.gSkip rfl ?_ | refine R.gSkip0 rfl ?_ | refine R.gUndef rfl ?_ | refine R.gUndef0 rfl ?_ | refine R.slen rfl ?_ | refine R.lss rfl rfl ?_ | refine R.gtr rfl rfl ?_ | refine R.eql rfl rfl ?_ | refine R.neq rfl rfl ?_ | refine R.add rfl rfl (by omega) ?_ | refine R.sub rfl rfl (by omega) ?_ | refine R.six rfl rfl (by omega) (fun a ha => ?_) | refine R.cv64 rfl (by omega) ?_ | refine R.pickT rfl rfl ?_ | refine R.pickF rfl rfl ?_ | refine R.not rfl ?_ | refine R.neg rfl (by omega) ?_ | refine R.cvU rfl (by omega) ?_ | refine R.condT rfl ?_ | refine R.condF rfl ?_ | refine R.call (bor := false) rfl rfl (hW1) rfl rfl rfl ?_ | refine R.call (bor := true) rfl rfl (hW1) rfl rfl rfl ?_ | refine R.fcal (bor := false) rfl rfl (hW1) rfl rfl rfl ?_ | refine R.fcal (bor := true) rfl rfl (hW1) rfl rfl rfl ?_ | refine R.call (bor := false) rfl rfl (hD1) rfl rfl rfl ?_ | refine R.call (bor := true) rfl rfl (hD1) rfl rfl rfl ?_ | refine R.fcal (bor := false) rfl rfl (hD1) rfl rfl rfl ?_ | refine R.fcal (bor := true) rfl rfl (hD1) rfl rfl rfl ?_ | refine R.neqA (decide_eq_true hd) rfl rfl ?_ | refine R.cond rfl (fun hc => ?_) (fun hc => ?_) | refine R.condN rfl (fun hc => ?_) (fun hc => ?_) | refine R.condB rfl (fun hc => ?_) (fun hc => ?_) | refine R.gP rfl (fun hc => ?_) (fun hc => ?_) | refine R.gN rfl (fun hc => ?_) (fun hc => ?_) | refine R.gB rfl (fun hc => ?_) (fun hc => ?_))
        all_goals first
          | (exfalso; omega)
          | exact R.ret ⟨.inr rfl, R.outIB rfl rfl rfl rfl rfl⟩
          | skip
      · rw [if_neg fun h => hd h.2] at k1
        rw [k1]
        repeat' (first | refine R.slenA rfl ?_ | refine R.sixA hc0 rfl rfl (by omega) ?_ | refine R.mv rfl ?_ | refine R.reg ?_ | refine R.nil ?_ | refine R.seq ?_ | refine R.nseq ?_ | refine R.nblk ?_ | refine R.skip ?_ | refine R.blk ?_ | refine R.exit rfl ?_ | refine R.gRun rfl ?_ | refine R.gSkip rfl ?_ | refine R.gSkip0 rfl ?_ | refine R.gUndef rfl ?_ | refine R.gUndef0 rfl ?_ | refine R.slen rfl ?_ | refine R.lss rfl rfl ?_ | refine R.gtr rfl rfl ?_ | refine R.eql rfl rfl ?_ | refine R.neq rfl rfl ?_ | refine R.add rfl rfl (by omega) ?_ | refine R.sub rfl rfl (by omega) ?_ | refine R.six rfl rfl (by omega) (fun a ha => ?_) | refine R.cv64 rfl (by omega) ?_ | refine R.pickT rfl rfl ?_ | refine R.pickF rfl rfl ?_ | refine R.not rfl ?_ | refine R.neg rfl (by omega) ?_ | refine R.cvU rfl (by omega) ?_ | refine R.condT rfl ?_ | refine R.condF rfl ?_ | refine R.call (bor := false) rfl rfl (hW1) rfl rfl rfl ?_ | refine R.call (bor := true) rfl rfl (hW1) rfl rfl rfl ?_ | refine R.fcal (bor := false) rfl rfl (hW1) rfl rfl rfl ?_ | refine R.fcal (bor := true) rfl rfl (hW1) rfl rfl rfl ?_ | refine R.call (bor := false) rfl rfl (hD1) rfl rfl rfl ?_ | refine R.call (bor := true) rfl rfl (hD1) rfl rfl rfl ?_ | refine R.fcal (bor := false) rfl rfl (hD1) rfl rfl rfl ?_ | refine R.fcal (bor := true) rfl rfl (hD1) rfl rfl rfl ?_ | refine R.neqA (decide_eq_false hd) rfl rfl ?_ | refine R.cond rfl (fun hc => ?_) (fun hc => ?_) | refine R.condN rfl (fun hc => ?_) (fun hc => ?_) | refine R.condB rfl (fun hc => ?_) (fun hc => ?_) | refine R.gP rfl (fun hc => ?_) (fun hc => ?_) | refine R.gN rfl (fun hc => ?_) (fun hc => ?_) | refine R.gB rfl (fun hc => ?_) (fun hc => ?_))
        all_goals first
          | (exfalso; omega)
          | exact R.ret ⟨.inr rfl, R.outIB rfl rfl rfl rfl rfl⟩
          | skip
    · rw [inB_F hr] at hW1
      rw [if_neg fun h => hr h.1] at k1
      rw [k1]
      repeat' (first | refine R.slenA rfl ?_ | refine R.sixA hc0 rfl rfl (by omega) ?_ | refine R.mv rfl ?_ | refine R.reg ?_ | refine R.nil ?_ | refine R.seq ?_ | refine R.nseq ?_ | refine R.nblk ?_ | refine R.skip ?_ | refine R.blk ?_ | refine R.exit rfl ?_ | refine R.gRun rfl ?_ | refine R.gSkip rfl ?_ | refine R.gSkip0 rfl ?_ | refine R.gUndef rfl ?_ | refine R.gUndef0 rfl ?_ | refine R.slen rfl ?_ | refine R.lss rfl rfl ?_ | refine R.gtr rfl rfl ?_ | refine R.eql rfl rfl ?_ | refine R.neq rfl rfl ?_ | refine R.add rfl rfl (by omega) ?_ | refine R.sub rfl rfl (by omega) ?_ | refine R.six rfl rfl (by omega) (fun a ha => ?_) | refine R.cv64 rfl (by omega) ?_ | refine R.pickT rfl rfl ?_ | refine R.pickF rfl rfl ?_ | refine R.not rfl ?_ | refine R.neg rfl (by omega) ?_ | refine R.cvU rfl (by omega) ?_ | refine R.condT rfl ?_ | refine R.condF rfl ?_ | refine R.call (bor := false) rfl rfl (hW1) rfl rfl rfl ?_ | refine R.call (bor := true) rfl rfl (hW1) rfl rfl rfl ?_ | refine R.fcal (bor := false) rfl rfl (hW1) rfl rfl rfl ?_ | refine R.fcal (bor := true) rfl rfl (hW1) rfl rfl rfl ?_ | refine R.cond rfl (fun hc => ?_) (fun hc => ?_) | refine R.condN rfl (fun hc => ?_) (fun hc => ?_) | refine R.condB rfl (fun hc => ?_) (fun hc => ?_) | refine R.gP rfl (fun hc => ?_) (fun hc => ?_) | refine R.gN rfl (fun hc => ?_) (fun hc => ?_) | refine R.gB rfl (fun hc => ?_) (fun hc => ?_))
      all_goals first
        | (exfalso; omega)
        | exact R.ret ⟨.inr rfl, R.outIB rfl rfl rfl rfl rfl⟩
        | skip
theorem iA_eq {m n : Int} (h : m = n) : (pvA (.int .i64 m)) = pvA (.int .i64 n) := by rw [h]
theorem arrX_eq {l l' : List (List UInt8)} (h : l = l') : (some (Ob.arr kStr (l.map enS) [])) = some (Ob.arr kStr (l'.map enS) []) := by rw [h]
theorem prefix_take {sep s : List UInt8} : (s.take sep.length = sep) ↔ sep.isPrefixOf s = true := by
  rw [List.isPrefixOf_iff_prefix]
  constructor
  · intro h; exact h ▸ List.take_prefix _ _
  · rintro ⟨t, rfl⟩; rw [List.take_left]
theorem drop_take' {l : List UInt8} (i m : Nat) : (l.take (i + m)).drop i = (l.drop i).take m := by rw [List.drop_take, Nat.add_sub_cancel_left]
structure GCut where
  ps : List (List UInt8)
  fr : Nat
  i : Nat
def okCut (sep l : List UInt8) (g : GCut) : Prop := g.fr ≤ g.i ∧ g.i ≤ l.length ∧ cutS sep l [] 0 = g.ps ++ cutS sep (l.drop g.i) ((l.take g.i).drop g.fr) 0
theorem sCut (sep l : List UInt8) (h0 : sep ≠ []) (hs : l.length ≤ 1048576) (hm : sep.length ≤ 3) : Spec Tryd.prog 34 [.c (sD (bA l)), .c (sD (bA sep))] (oN kStr ((cutS sep l [] 0).map enS)) := by
  have hm1 : 1 ≤ sep.length := List.length_pos_iff.2 h0
  refine Spec.walk T.mixed Tryd.func34 S.ok34 (by simp [Tryd.f34]) fun hk => ?_
  clear hk
  unfold S.s34
  repeat' (first | refine R.mv rfl ?_ | refine R.reg ?_ | refine R.nil ?_ | refine R.seq ?_ | refine R.nseq ?_ | refine R.nblk ?_ | refine R.skip ?_ | refine R.blk ?_ | refine R.exit rfl ?_ | refine R.slen rfl ?_ | refine R.leq rfl rfl ?_ | refine R.eql rfl rfl ?_ | refine R.add rfl rfl (by omega) ?_ | refine R.sub rfl rfl (by omega) ?_ | refine R.condT rfl ?_ | refine R.condF rfl ?_ | refine R.bsl (f := enS) ([] : List (List UInt8)) rfl rfl rfl rfl rfl ?_ | refine R.cond rfl (fun hc => ?_) (fun hc => ?_) | refine R.condN rfl (fun hc => ?_) (fun hc => ?_) | refine R.condB rfl (fun hc => ?_) (fun hc => ?_))
  refine R.loop (G := GCut) (fun g => [(0, pvA (.string (bA l))), (1, pvA (.string (bA sep))), (5, .v (.c (.own 8))), (6, pvA (.int .i64 g.fr)), (7, pvA (.int .i64 g.i))]) (fun g => [(8, .arr kStr (g.ps.map enS) [])]) (okCut sep l) (fun g => l.length - g.i) ⟨[], 0, 0⟩ ⟨Nat.le_refl _, Nat.zero_le _, rfl⟩ (Weak.frame _ _ ⟨rfl, rfl, rfl, rfl, rfl, trivial⟩ ⟨rfl, trivial⟩ rfl rfl) fun g hg => ?_
  obtain ⟨h1, h2, h3⟩ := hg
  have hpl : g.ps.length ≤ 1048579 := by
    have := (cut_bds (s := l) h0).2
    rw [h3, List.length_append] at this
    have h4 : g.ps.length * sep.length ≤ (g.ps.length + (cutS sep (l.drop g.i) ((l.take g.i).drop g.fr) 0).length) * sep.length := Nat.mul_le_mul_right _ (Nat.le_add_right _ _)
    have h5 : g.ps.length * 1 ≤ g.ps.length * sep.length := Nat.mul_le_mul_left _ hm1
    omega
  by_cases hcc : g.i + sep.length ≤ l.length
  · by_cases hp : sep.isPrefixOf (l.drop g.i) = true
    · have e1 : decide ((l.take (g.i + sep.length)).drop g.i = sep) = true := by rw [drop_take']; exact decide_eq_true (prefix_take.2 hp)
      have e2 : okCut sep l ⟨g.ps ++ [(l.take g.i).drop g.fr], g.i + sep.length, g.i + sep.length⟩ := by
        refine ⟨Nat.le_refl _, hcc, ?_⟩
        rw [h3, cutS_hit h0 hp, List.drop_drop, List.append_assoc]
        simp only [List.singleton_append]
        rw [show (l.take (g.i + sep.length)).drop (g.i + sep.length) = [] from List.drop_eq_nil_of_le (by rw [List.length_take]; omega)]
      repeat' (first | refine R.slenA rfl ?_ | refine R.eqlA e1 rfl rfl ?_ | refine R.mv rfl ?_ | refine R.reg ?_ | refine R.nil ?_ | refine R.seq ?_ | refine R.nseq ?_ | refine R.nblk ?_ | refine R.skip ?_ | refine R.blk ?_ | refine R.exit rfl ?_ | refine R.slen rfl ?_ | refine R.leq rfl rfl ?_ | refine R.eql rfl rfl ?_ | refine R.add rfl rfl (by omega) ?_ | refine R.sub rfl rfl (by omega) ?_ | refine R.condT rfl ?_ | refine R.condF rfl ?_ | refine R.sslcA g.i (g.i + sep.length) rfl ⟨by omega, hcc⟩ ⟨_, rfl⟩ ⟨_, rfl⟩ ?_ | refine R.sslcA g.fr g.i rfl ⟨h1, h2⟩ ⟨_, rfl⟩ ⟨_, rfl⟩ ?_ | refine R.bsl (f := enS) [(l.take g.i).drop g.fr] rfl rfl rfl rfl rfl ?_ | refine R.app (f := enS) (fun _ => rfl) rfl rfl rfl rfl rfl ⟨by simp only [List.length_singleton]; omega, by simp only [List.length_singleton]; omega⟩ ?_ | refine R.cond rfl (fun hc => ?_) (fun hc => ?_) | refine R.condN rfl (fun hc => ?_) (fun hc => ?_) | refine R.condB rfl (fun hc => ?_) (fun hc => ?_))
      all_goals first
        | (exfalso; omega)
        | exact R.nloop (R.again ⟨g.ps ++ [(l.take g.i).drop g.fr], g.i + sep.length, g.i + sep.length⟩ e2 (by simp only; omega) ⟨rfl, rfl, rfl, iA_eq (by simp only; omega), iA_eq (by simp only; omega), trivial⟩ ⟨rfl, trivial⟩ rfl rfl)
        | skip
    · have hp : sep.isPrefixOf (l.drop g.i) = false := Bool.eq_false_iff.2 hp
      have e1 : decide ((l.take (g.i + sep.length)).drop g.i = sep) = false := by
        rw [drop_take']
        refine decide_eq_false fun e => ?_
        rw [prefix_take.1 e] at hp
        cases hp
      obtain ⟨b, hb⟩ : ∃ b, l[g.i]? = some b := ⟨_, List.getElem?_eq_getElem (by omega)⟩
      have e2 : okCut sep l ⟨g.ps, g.fr, g.i + 1⟩ := by
        refine ⟨Nat.le_succ_of_le h1, by show g.i + 1 ≤ l.length; omega, ?_⟩
        have hd : l.drop g.i = b :: l.drop (g.i + 1) := by
          obtain ⟨hlt, hbe⟩ := List.getElem?_eq_some_iff.1 hb
          rw [List.drop_eq_getElem_cons hlt, hbe]
        rw [hd] at hp
        show cutS sep l [] 0 = g.ps ++ cutS sep (l.drop (g.i + 1)) ((l.take (g.i + 1)).drop g.fr) 0
        rw [h3, hd, cutS_miss hp, List.take_add_one, hb, List.drop_append_of_le_length (by rw [List.length_take]; omega)]
        rfl
      repeat' (first | refine R.slenA rfl ?_ | refine R.eqlA e1 rfl rfl ?_ | refine R.mv rfl ?_ | refine R.reg ?_ | refine R.nil ?_ | refine R.seq ?_ | refine R.nseq ?_ | refine R.nblk ?_ | refine R.skip ?_ | refine R.blk ?_ | refine R.exit rfl ?_ | refine R.slen rfl ?_ | refine R.leq rfl rfl ?_ | refine R.eql rfl rfl ?_ | refine R.add rfl rfl (by omega) ?_ | refine R.sub rfl rfl (by omega) ?_ | refine R.condT rfl ?_ | refine R.condF rfl ?_ | refine R.sslcA g.i (g.i + sep.length) rfl ⟨by omega, hcc⟩ ⟨_, rfl⟩ ⟨_, rfl⟩ ?_ | refine R.cond rfl (fun hc => ?_) (fun hc => ?_) | refine R.condN rfl (fun hc => ?_) (fun hc => ?_) | refine R.condB rfl (fun hc => ?_) (fun hc => ?_))
      all_goals first
        | (exfalso; omega)
        | exact R.nloop (R.again ⟨g.ps, g.fr, g.i + 1⟩ e2 (by simp only; omega) ⟨rfl, rfl, rfl, rfl, rfl, trivial⟩ ⟨rfl, trivial⟩ rfl rfl)
        | skip
  · have e1 : cutS sep l [] 0 = g.ps ++ [(l.take l.length).drop g.fr] := by
      rw [h3, cutS_short _ _ (by rw [List.length_drop]; omega), List.take_length]
      congr 2
      have : (l.take g.i).drop g.fr ++ l.drop g.i = (l.take g.i ++ l.drop g.i).drop g.fr := by rw [List.drop_append_of_le_length (by rw [List.length_take]; omega)]
      rw [this, List.take_append_drop]
    rw [e1]
    repeat' (first | refine R.slenA rfl ?_ | refine R.mv rfl ?_ | refine R.reg ?_ | refine R.nil ?_ | refine R.seq ?_ | refine R.nseq ?_ | refine R.nblk ?_ | refine R.skip ?_ | refine R.blk ?_ | refine R.exit rfl ?_ | refine R.slen rfl ?_ | refine R.leq rfl rfl ?_ | refine R.eql rfl rfl ?_ | refine R.add rfl rfl (by omega) ?_ | refine R.sub rfl rfl (by omega) ?_ | refine R.condT rfl ?_ | refine R.condF rfl ?_ | refine R.sslcA g.fr l.length rfl ⟨by omega, Nat.le_refl _⟩ ⟨_, rfl⟩ rfl ?_ | refine R.bsl (f := enS) [(l.take l.length).drop g.fr] rfl rfl rfl rfl rfl ?_ | refine R.app (f := enS) (fun _ => rfl) rfl rfl rfl rfl rfl ⟨by simp only [List.length_singleton]; omega, by simp only [List.length_singleton]; omega⟩ ?_ | refine R.cond rfl (fun hc => ?_) (fun hc => ?_) | refine R.condN rfl (fun hc => ?_) (fun hc => ?_) | refine R.condB rfl (fun hc => ?_) (fun hc => ?_))
    all_goals first
      | (exfalso; omega)
      | exact R.ret ⟨.inr rfl, R.outN rfl rfl rfl⟩
      | skip
/-- The panic of a text that is no plan. -/
def npV : Value := .iface 100 (.agg #[])
def npCh : List PanicEntry := [{ v := npV, recovered := false }]
/-- THE CONTRACT of a call that panics: nothing of its caller's has turned. -/
def PanM (P : Program) (f : FuncId) (args : List VD) (ch : List PanicEntry) : Prop :=
  (∀ (vs : Array Value) (w : World), (callFunc f vs).run P w = .ok (.enter f vs) w) ∧
  ∀ (w : World) (R : Nat → Prop) (vs : List Value), (∀ b, R b → b < w.heap.size) → F2 (RVD w R) vs args → TabW w R →
    Calls P f vs.toArray w fun e w' => e = .panicked ch ∧ Below w.heap.size w w'
theorem args_v1 {w : World} {R : Nat → Prop} {dom : Nat → Prop} {ι : Nat → Value} {vs : List Value} {args : List VD} (h : F2 (RVD w R) vs args) : F2 (RV1 w R ι dom) vs (args.map VD.v1) := by
  induction h with
  | nil => exact .nil
  | cons h1 _ ih =>
    refine .cons ?_ ih
    rename_i v x _ _ _
    cases x with
    | c y => exact h1
    | agg ys => obtain ⟨us, e, h2⟩ := h1; exact ⟨us, e, F2.map_right (f := B.d) (fun _ _ h => h) h2⟩
theorem PanM.walk {P : Program} (hm : P.follows .mixedOrders = true) {f : FuncId} {fn : Func} (hf : P.funcs[f]? = some fn) {s : SC} (hs : stripF P fn = some s) {args : List VD} {ch : List PanicEntry} (ha : args.length ≤ fn.ntmps)
    (h : KnownAll (args.map VD.v1) [] → WC P s [] (fun e _ => e = .panic ch) ⟨argsEnv (args.map VD.v1), fun _ => none⟩) : PanM P f args ch := by
  unfold stripF at hs
  cases hb : fn.body with
  | none => simp [hb] at hs
  | some c =>
    simp only [hb, Option.bind_some] at hs
    split at hs
    · cases hs
    · rename_i hn
      refine ⟨callFunc_enter hf (by rw [hb]; rfl) (by simpa using hn), fun w R vs hR hF hT => ?_⟩
      have hF' : F2 (RV1 w R (fun _ => undef) (domO (frO []))) vs (args.map VD.v1) := args_v1 hF
      have hlen := hF'.len
      have ho : ObjsOk w R (fun _ => undef) (fun _ => []) (frO []) := ⟨fun o x h => (by cases h), fun o x h => (by cases h), fun o p x y g h => (by cases h), hT⟩
      let F : Fx := ⟨w, fun _ => False, fun _ => undef, R, fn.ntmps, hT, fun g hg => hg.elim, []⟩
      refine calls_of_wp hf hb (Code.wp_mono (fun e a' w' hp => ?_) (VC_sound (F := F) (ι := fun _ => undef) (R := R) (φ := fun _ => []) hm c (VC_mono hs (fun _ _ h => h) (WC.intro (h (knows hF' ho)))) ?_))
      · obtain ⟨st, R', ι', φ', rfl, hs⟩ := hp.mk
        exact ⟨hs.defers, rfl, hs.below.below fun _ h => h⟩
      · refine ⟨BelowM.refl _ _, hR, fun _ h => h, fun b h => .inl h, by simp [F]; rw [List.length_map] at hlen; omega, rfl, fun d => ?_, fun o x h => (by cases h), fun o x h => (by cases h), fun o p x y g h => (by cases h), fun _ _ => rfl⟩
        have hget : (vs.toArray ++ Array.replicate (fn.ntmps - vs.toArray.size) undef).getD d undef = vs.getD d undef := by
          rw [Array.getD_eq_getD_getElem?, Array.getElem?_append]
          by_cases hd : d < vs.length
          · simp [hd, List.getD]
          · simp [hd, List.getD, Array.getElem?_replicate]
            split <;> rfl
        show RA w R _ _ ((vs.toArray ++ Array.replicate (fn.ntmps - vs.toArray.size) undef).getD d undef) (argsEnv (args.map VD.v1) d)
        rw [hget]
        unfold argsEnv
        split
        · rename_i x hx
          obtain ⟨v, hv, hr⟩ := hF'.get hx
          rw [show vs.getD d undef = v by simp [List.getD, hv]]
          exact hr
        · rename_i hx
          have : (args.map VD.v1).length ≤ d := by
            rcases Nat.lt_or_ge d (args.map VD.v1).length with h | h
            · rw [List.getElem?_eq_getElem h] at hx; cases hx
            · exact h
          rw [show vs.getD d undef = undef by simp [List.getD, List.getElem?_eq_none (show vs.length ≤ d by omega)]]
          exact RA.undef
theorem put_get {a : Act} {d : Nat} {v : Value} (h : d < a.tmps.size) : (a.put (some d) v).eval (.tmp d) = v := by
  simp [Act.put, Act.eval, Array.getElem?_setIfInBounds_self_of_lt h]
/-- A region that panics with noPlan. -/
theorem regk_np {P : Program} (hz : ∀ w, (Instr.build 100 #[]).run P w = .ok (.agg #[]) w) (hmi : ∀ v w, (Instr.makeInterface 100 v).run P w = .ok (.iface 100 v) w) (hpn : ∀ w, (Instr.panic npV).run P w = .halt (.panic npV) w) {n id k1 k2 : Nat} {p1 p2 p3 : String} {a1 a2 a3 : Array Edge} {t1 t2 t3 : TypeId} {Q : Exit → St → Prop} {e : Nat → AV} {o : Nat → Option Ob} (hk1 : k1 < n) (hk2 : k2 < n)
    (h : Q (.panic npCh) ⟨upd (upd e k1 deadA) k2 deadA, o⟩) :
    RegK P n (.region id (.mk [(.mk (some k1) (.build 100 (.mk [])) t1 p1 a1 none), (.mk (some k2) (.makeInterface 100 (.tmp k1)) t2 p2 a2 none), (.mk none (.panic (.tmp k2)) t3 p3 a3 none)]) false) (fun e s => e = .panic npCh ∧ Q (.panic npCh) s) ⟨e, o⟩ := by
  intro F hn R ι φ a w hs
  subst hn
  have hs1 := hs.put (d := k1) (v := .agg #[]) (x := deadA) hk1 trivial
  have hs2 := hs1.put (d := k2) (v := npV) (x := deadA) hk2 trivial
  have e1 : (a.put (some k1) (.agg #[])).eval (.tmp k1) = .agg #[] := put_get (by rw [hs.size]; exact hk1)
  have e2 : ((a.put (some k1) (.agg #[])).put (some k2) npV).eval (.tmp k2) = npV := put_get (by rw [hs1.size]; exact hk2)
  refine wp_region_lit ?_
  refine wpList_step fun K hK => ?_
  rw [if_pos (by simp [Region.wanted])]
  unfold Oper.wp
  simp only [execOp, List.map_toArray, List.map_nil, Sem.run_bind, hz, Result.andThen_ok, Sem.run_pure, Oper.upon]
  refine hK _ _ ?_
  refine wpList_step fun K hK => ?_
  rw [if_pos (by simp [Region.wanted])]
  unfold Oper.wp
  simp only [execOp, e1, Sem.run_bind, hmi, Result.andThen_ok, Sem.run_pure, Oper.upon]
  refine hK _ _ ?_
  refine wpList_step fun K hK => ?_
  rw [if_pos (by simp [Region.wanted])]
  unfold Oper.wp
  have e3 : ((a.put (some k1) (.agg #[])).put (some k2) (.iface 100 (.agg #[]))).eval (.tmp k2) = npV := e2
  simp only [execOp, e3, Sem.run_bind, hpn, Result.andThen_halt, Oper.upon]
  exact ⟨_, R, ι, φ, ⟨rfl, h⟩, hs2⟩
/-- A region whose call panics. -/
theorem regk_call {P : Program} {f : FuncId} {s : ByteArray} {ch : List PanicEntry} (hp : PanM P f [.c (sD s)] ch) {n id k1 k2 k3 j1 j2 : Nat} {p1 p2 p3 : String} {b1 b2 b3 : Array Edge} {t1 t2 t3 : TypeId} {ts : Array TypeId} {rest : List Oper} {Q : Exit → St → Prop} {e : Nat → AV} {o : Nat → Option Ob} (hk1 : k1 < n) (hk2 : k2 < n)
    (hj : e j2 = pvA (.string s)) (hjk : j2 ≠ k1) (h : Q (.panic ch) ⟨upd (upd e k1 deadA) k2 (pvA (.string s)), o⟩) :
    RegK P n (.region id (.mk ((.mk (some k1) (.move (.tmp j1)) t1 p1 b1 none) :: (.mk (some k2) (.move (.tmp j2)) t2 p2 b2 none) :: (.mk (some k3) (.call (.mk (.value (.func f)) (.mk [(.tmp k2)]) ts)) t3 p3 b3 none) :: rest)) false) (fun e s => e = .panic ch ∧ Q (.panic ch) s) ⟨e, o⟩ := by
  intro F hn R ι φ a w hs
  subst hn
  have hs1 := hs.put (d := k1) (v := a.eval (.tmp j1)) (x := deadA) hk1 trivial
  have hj1 : upd e k1 deadA j2 = pvA (.string s) := by rw [upd_ne _ _ hjk]; exact hj
  have hv : RA w R ι (St.dom ⟨upd e k1 deadA, o⟩) ((a.put (some k1) (a.eval (.tmp j1))).eval (.tmp j2)) (upd e k1 deadA j2) := hs1.env j2
  have hs2 := hs1.put (d := k2) (v := (a.put (some k1) (a.eval (.tmp j1))).eval (.tmp j2)) (x := pvA (.string s)) hk2 (by rw [hj1] at hv; exact hv)
  have e2 : ((a.put (some k1) (a.eval (.tmp j1))).put (some k2) ((a.put (some k1) (a.eval (.tmp j1))).eval (.tmp j2))).eval (.tmp k2) = ((a.put (some k1) (a.eval (.tmp j1))).eval (.tmp j2)) := put_get (by rw [hs1.size]; exact hk2)
  refine wp_region_lit ?_
  refine wpList_step fun K hK => ?_
  rw [if_pos (by simp [Region.wanted])]
  unfold Oper.wp
  simp only [execOp, Sem.run_pure, Oper.upon]
  refine hK _ _ ?_
  refine wpList_step fun K hK => ?_
  rw [if_pos (by simp [Region.wanted])]
  unfold Oper.wp
  simp only [execOp, Sem.run_pure, Oper.upon]
  refine hK _ _ ?_
  refine wpList_step fun K hK => ?_
  rw [if_pos (by simp [Region.wanted])]
  unfold Oper.wp
  generalize a.put (some k1) (a.eval (.tmp j1)) = a1 at *
  generalize a1.eval (.tmp j2) = v at *
  generalize a1.put (some k2) v = a2 at *
  rw [run_call_op (o := ⟨some k3, .call (.mk (.value (.func f)) (.mk [(.tmp k2)]) ts), t3, p3, _, none⟩) (us := []) rfl rfl rfl hp.1, Oper.upon_enter]
  rw [hj1] at hv
  have hrd : RD w R v (sD s) := hv
  refine ((by simpa [e2] using hp.2 w R [v] hs.rlt (.cons hrd .nil) hs.tab : Calls P f _ w fun e w' => e = .panicked ch ∧ Below w.heap.size w w')).mono fun e w' => ?_
  rintro ⟨rfl, hb⟩
  exact ⟨_, R, ι, φ, ⟨rfl, h⟩, hs2.below' hb⟩
theorem R.panNp {P : Program} (hz : ∀ w, (Instr.build 100 #[]).run P w = .ok (.agg #[]) w) (hmi : ∀ v w, (Instr.makeInterface 100 v).run P w = .ok (.iface 100 v) w) (hpn : ∀ w, (Instr.panic npV).run P w = .halt (.panic npV) w) {n id k1 k2 : Nat} {p1 p2 p3 : String} {a1 a2 a3 : Array Edge} {t1 t2 t3 : TypeId} {Q : Exit → St → Prop} {ks : List Fr} {e : Nat → AV} {o : Nat → Option Ob} (hk1 : Nat.blt k1 n = true) (hk2 : Nat.blt k2 n = true)
    (h : Q (.panic npCh) ⟨upd (upd e k1 deadA) k2 deadA, o⟩) :
    WC P (.code n (.region id (.mk [(.mk (some k1) (.build 100 (.mk [])) t1 p1 a1 none), (.mk (some k2) (.makeInterface 100 (.tmp k1)) t2 p2 a2 none), (.mk none (.panic (.tmp k2)) t3 p3 a3 none)]) false)) ks Q ⟨e, o⟩ :=
  R.pan (regk_np hz hmi hpn (Nat.le_of_ble_eq_true hk1) (Nat.le_of_ble_eq_true hk2) h)
theorem R.panCall {P : Program} {f : FuncId} {s : ByteArray} {ch : List PanicEntry} (hp : PanM P f [.c (sD s)] ch) {n id k1 k2 k3 j1 j2 : Nat} {p1 p2 p3 : String} {b1 b2 b3 : Array Edge} {t1 t2 t3 : TypeId} {ts : Array TypeId} {rest : List Oper} {Q : Exit → St → Prop} {ks : List Fr} {e : Nat → AV} {o : Nat → Option Ob} {sc : SC} (hk1 : Nat.blt k1 n = true) (hk2 : Nat.blt k2 n = true)
    (hj : e j2 = pvA (.string s)) (hjk : Nat.beq j2 k1 = false) (h : Q (.panic ch) ⟨upd (upd e k1 deadA) k2 (pvA (.string s)), o⟩) :
    WC P (.alt n (.region id (.mk ((.mk (some k1) (.move (.tmp j1)) t1 p1 b1 none) :: (.mk (some k2) (.move (.tmp j2)) t2 p2 b2 none) :: (.mk (some k3) (.call (.mk (.value (.func f)) (.mk [(.tmp k2)]) ts)) t3 p3 b3 none) :: rest)) false) sc) ks Q ⟨e, o⟩ :=
  R.panA (regk_call hp (Nat.le_of_ble_eq_true hk1) (Nat.le_of_ble_eq_true hk2) hj (fun e => by rw [e] at hjk; simp at hjk) h)
theorem np_build (w : World) : (Instr.build 100 #[]).run Tryd.prog w = .ok (.agg #[]) w := by simp [Instr.build, go_sem]
theorem np_iface (v : Value) (w : World) : (Instr.makeInterface 100 v).run Tryd.prog w = .ok (.iface 100 v) w := by simp [Instr.makeInterface, go_sem]
theorem np_panic (w : World) : (Instr.panic npV).run Tryd.prog w = .halt (.panic npV) w := by simp [Instr.panic, npV, go_sem]
theorem catch_idle (p q : Addr) (w : World) :
    CallsD Tryd.prog 61 #[.pointer (some p), .pointer (some q)] .returning w fun e u' w' => e = .returned (.tuple #[]) ∧ u' = .returning ∧ w' = w := by
  refine callsD_of_wpS Tryd.func61 rfl fun c₀ cs hu => ?_
  apply wpS_seq
  apply wpS_region
  simp [wpOpsS, go_sem, recoverD, hu, Tryd.ntmps61, Exit.thenS]
  refine wpS_of_wp ?_
  go_wp2
  cases c₀
  simp_all [bodyPostS, results, Tryd.results61]
theorem catch_np (g g' : Nat) (w : World) (b : Bool) (x : Value) (hp : w.cell? ⟨g, 0, none⟩ = some x) (hq : w.cell? ⟨g', 0, none⟩ = some (.bool b)) (hzp : w.frozen? ⟨g, 0, none⟩ = false) (hzq : w.frozen? ⟨g', 0, none⟩ = false) (hne : ¬ g = g') (hpl : g < w.heap.size) (hql : g' < w.heap.size) :
    CallsD Tryd.prog 61 #[.pointer (some ⟨g, 0, none⟩), .pointer (some ⟨g', 0, none⟩)] (.panicking npCh) w fun e u' w' => e = .returned (.tuple #[]) ∧ u' = .panicking [{ v := npV, recovered := true }] ∧ w' = ((w.setCell ⟨g, 0, none⟩ (.slice none 0 0)).setCell ⟨g', 0, none⟩ (.bool false)).alloc (.cells #[] 100) := by
  have hta : ∀ w, (Instr.typeAssert (.iface 100 (.agg #[])) 20 100 true).run Tryd.prog w = .ok (.tuple #[.agg #[], .bool true]) w := fun w => by simp [Instr.typeAssert, go_sem]
  have hb : Below w.heap.size w (w.alloc (.cells #[] 100)) := Below.alloc (Below.refl _ _) (Nat.le_refl _) _
  have hp1 : (w.alloc (.cells #[] 100)).cell? ⟨g, 0, none⟩ = some x := by rw [← hp]; exact (bcell hb).1 g 0 hpl
  have hq1 : (w.alloc (.cells #[] 100)).cell? ⟨g', 0, none⟩ = some (.bool b) := by rw [← hq]; exact (bcell hb).1 g' 0 hql
  have hzp1 : (w.alloc (.cells #[] 100)).frozen? ⟨g, 0, none⟩ = false := by rw [← hzp]; exact (bcell hb).2 g 0 hpl
  have hzq1 : (w.alloc (.cells #[] 100)).frozen? ⟨g', 0, none⟩ = false := by rw [← hzq]; exact (bcell hb).2 g' 0 hql
  have hne' : ¬ g' = g := fun e => hne e.symm
  clear hb
  refine callsD_of_wpS Tryd.func61 rfl fun c₀ cs hu => ?_
  apply wpS_seq
  apply wpS_region
  simp [wpOpsS, go_sem, recoverD, hu, npCh, npV, Tryd.ntmps61, Exit.thenS]
  refine wpS_of_wp ?_
  go_wp2
  simp [bodyPostS, results, Tryd.results61]
end Go.Proofs.YtlblmofimjhbbaaDoor
