/- Texts of one proof, one behind the other. -/
import Derived.Shelf.RegionOpenPlain
import Derived.WalkKit
import Derived.Deep.Draws
import Derived.Lib.SlKept
import Derived.Lib.Hide
import Derived.WalkLawsBesides
import Derived.WalkSpells
import Derived.Outline
import Derived.BigQuiet
import Derived.Deep.QuietTactic
import Derived.Test.YtehkaajakapkmaaGreatFB16
import Derived.Test.YtehkaajakapkmaaGreatFB17
import Derived.Test.YtehkaajakapkmaaGreatFB19
import Derived.Test.YtehkaajakapkmaaGreatFB27
import Derived.Test.YtehkaajakapkmaaGreatFB33
import Derived.Test.YtehkaajakapkmaaGreatFB34
namespace Go.Proofs.YtehkaajakapkmaaGreat
section
open Go.RowKit Go.Lib
set_option maxRecDepth 100000
set_option maxHeartbeats 2000000
structure KI (l : List TCube) (n i j : Nat) (dk : List TCube) : Prop where
  len : dk.length = n
  lt : i < j
  le : j ≤ n
  cnt : (cu l j).length = i
  low : dk.take i = cu l j
  high : dk.drop i = l.drop i
theorem KI.start {l : List TCube} {n k : Nat} {q : TCube} (hl : l.length = n) (hk : 0 < k) (hq : l[k]? = some q) (hp : l[k - 1]? = some q) (h : cu l k = l.take k) : KI l n k (k + 1) l := by
  have hkl := (List.getElem?_eq_some_iff.1 hq).1
  have e := cu_skip hq hk hp
  exact ⟨hl, by omega, by omega, by rw [e, h, List.length_take]; omega, by rw [e, h], rfl⟩
theorem KI.get {l : List TCube} {n i j m : Nat} {dk : List TCube} (h : KI l n i j dk) (hm : i ≤ m) : dk[m]? = l[m]? := by
  have := congrArg (·[m - i]?) h.high
  simp only [List.getElem?_drop] at this
  rwa [show i + (m - i) = m by omega] at this
theorem KI.skip {l : List TCube} {n i j : Nat} {dk : List TCube} {q : TCube} (h : KI l n i j dk) (hq : l[j]? = some q) (hp : l[j - 1]? = some q) (hj : j < n) : KI l n i (j + 1) dk := by
  have h1 := h.lt
  have e := cu_skip hq (by omega) hp
  exact ⟨h.len, by omega, by omega, by rw [e]; exact h.cnt, by rw [e]; exact h.low, h.high⟩
theorem KI.keep {l : List TCube} {n i j : Nat} {dk : List TCube} {q : TCube} (h : KI l n i j dk) (hq : l[j]? = some q) (hp : l[j - 1]? ≠ some q) (hj : j < n) : KI l n (i + 1) (j + 1) (dk.take i ++ [q] ++ dk.drop (i + 1)) := by
  have e := cu_keep hq (.inr hp)
  have h1 := h.lt
  have h2 := h.len
  have h3 : (dk.take i).length = i := by rw [List.length_take]; omega
  have h4 : (dk.take i ++ [q]).length = i + 1 := by rw [List.length_append, h3]; rfl
  refine ⟨?_, by omega, by omega, ?_, ?_, ?_⟩
  · rw [List.length_append, h4, List.length_drop]
    omega
  · rw [e, List.length_append, h.cnt]
    rfl
  · rw [List.take_append, h4, List.take_of_length_le (by omega), Nat.sub_self, List.take_zero, List.append_nil, e, h.low]
  · rw [List.drop_append, h4, List.drop_of_length_le (by omega), List.nil_append, Nat.sub_self, List.drop_zero, ← List.drop_drop, h.high, List.drop_drop]
theorem intOf_intC (x : Int) : intOf (.int .i64 x) = x := rfl
theorem one_zero {n : Nat} : ∀ v ∈ List.replicate n (Value.int .i64 0), v.oneCell' = true := fun v hv => by rw [List.eq_of_mem_replicate hv]; rfl
theorem zero2 (n : Nat) : (Builtin.zeroCells (Value.agg #[.int .i64 0, .int .i64 0]).cells n).toList = List.replicate (n * 2) (.int .i64 0) := by
  simp only [Builtin.zeroCells, Value.cells]
  apply List.ext_getElem
  · simp
  · intro i h1 h2
    simp only [Array.getElem_toList, Array.getElem_map, Array.getElem_range, List.getElem_replicate]
    have : i % 2 < 2 := Nat.mod_lt _ (by omega)
    show #[Value.int .i64 0, .int .i64 0][i % 2]! = _
    generalize i % 2 = k at this
    match k, this with
    | 0, _ => rfl
    | 1, _ => rfl
theorem run_clear2 {w : World} {b o n c : Nat} {X : List Value} (h : Bk w b X) (hn : 0 < n) (hfit : o + n * 2 ≤ X.length) : ∀ ty, (Builtin.clear_ #[27] ty #[.slice (some ⟨b, o, none⟩) n c]).run Tryz.prog w = .ok (.tuple #[]) (w.setRow b (putX X o (List.replicate (n * 2) (.int .i64 0))).toArray) := fun ty => by
  have hst := h.put (o := o) (vs := List.replicate (n * 2) (.int .i64 0)) (by simpa using hfit) one_zero
  have hz := zero2 n
  obtain ⟨m, rfl⟩ : ∃ m, n = m + 1 := ⟨n - 1, by omega⟩
  simp [Builtin.clear_, run_underlying Tryz.underlying27, hz, hst, Result.andThen]
theorem eqlQ (p q : TCube) (w : World) : (binOp .eql 56 (.agg #[.int .i64 p.fCare, .int .i64 p.fValue]) (.agg #[.int .i64 q.fCare, .int .i64 q.fValue])).run Tryz.prog w = .ok (.bool (decide (p = q))) w := by
  have hk : kdsOf Tryz.prog 6 56 = some [.i .i64, .i .i64] := by kernel_rfl
  have hs : isSt Tryz.prog 56 = true := by kernel_rfl
  have hr := eq_ok (P := Tryz.prog) (w := w) 6 56 _ hk 10000 (by omega) [.int .i64 p.fCare, .int .i64 p.fValue] [.int .i64 q.fCare, .int .i64 q.fValue] rfl rfl
  rw [hs] at hr
  simp only [valOf, if_true] at hr
  rw [run_eql_struct, hr]
  obtain ⟨a, b⟩ := p
  obtain ⟨c, d⟩ := q
  simp [eqVs, eqV, Result.andThen, Bool.decide_and]
theorem neqQ (p q : TCube) (w : World) : (binOp .neq 56 (.agg #[.int .i64 p.fCare, .int .i64 p.fValue]) (.agg #[.int .i64 q.fCare, .int .i64 q.fValue])).run Tryz.prog w = .ok (.bool (!decide (p = q))) w := by
  have h := eqlQ p q w
  rw [run_eql_struct] at h
  rw [run_neq_struct]
  generalize Sem.run Tryz.prog (Op.equalIn 10000 56 _ _) w = r at *
  cases r <;> simp_all [Result.andThen]
theorem cpt1 {l : List TCube} (w : World) (b n cap : Nat) (X : List Value) (hB : Bk w b X) (hnc : n ≤ cap) (hm : cap ≤ maxLen) (hx : X.length = cap * 2) (ht : X.take (n * 2) = flat2 l) (hl : l.length = n) (hn1 : 1 ≤ n) :
    Calls Tryz.prog 73 #[.slice (some ⟨b, 0, none⟩) n cap] w fun e w' => ∃ Y, e = .returned (.slice (some ⟨b, 0, none⟩) (cu l n).length cap) ∧ But b w w' ∧ Bk w' b Y ∧ Y.length = cap * 2 ∧ Y.take ((cu l n).length * 2) = flat2 (cu l n) := by
  have hc1 : cu l 1 = l.take 1 := by
    obtain ⟨q, hq⟩ : ∃ q, l[0]? = some q := ⟨_, List.getElem?_eq_getElem (by omega)⟩
    rw [cu_keep hq (.inl rfl), take_snoc hq]
    rfl
  have same : ∀ w', But b w w' → Bk w' b X → cu l n = l.take n → ∃ Y, Ending.returned (.slice (some ⟨b, 0, none⟩) n cap) = .returned (.slice (some ⟨b, 0, none⟩) (cu l n).length cap) ∧ But b w w' ∧ Bk w' b Y ∧ Y.length = cap * 2 ∧ Y.take ((cu l n).length * 2) = flat2 (cu l n) := fun w' h1 h2 h3 => by
    have e : cu l n = l := by rw [h3, ← hl, List.take_length]
    rw [e, hl]
    exact ⟨X, rfl, h1, h2, hx, ht⟩
  have SM := Lib.hid same
  clear same
  have hn63 : n ≤ 9223372036854775807 := by unfold maxLen at hm; omega
  have HM := Lib.hid hm
  clear hm
  go_enter Tryz.func73, Tryz.ntmps73
  by_cases h2 : n < 2
  · have hB0 := Lib.hid hB
    have hc2 := Lib.hid hc1
    clear hB hc1 hx ht hl
    go_wp2
    go_ret
    obtain rfl : n = 1 := by omega
    exact SM.out _ (BelowM.refl _ _) hB0.out hc2.out
  · have hc2 := Lib.hid hc1
    clear hc1
    have hbt0 : But b w w := BelowM.refl _ _
    have hw3 : ∀ x : Nat, x < n → RowKit.wrap64 ((x : Int) + 1) = ((x + 1 : Nat) : Int) := fun x hx => IntWalk.wrap64_in _ (by omega)
    have hw4 : ∀ x : Nat, 1 ≤ x → x < n → IntKind.i64.wrap ((x : Int) - 1) = ((x - 1 : Nat) : Int) := fun x h1 hx => by rw [IntKind.wrap_i64]; omega
    have HW := Lib.hid hw3
    have HV := Lib.hid hw4
    clear hw3 hw4
    go_wp2
    go_loopw [3] (fun v3 wr => ∃ k : Nat, 1 ≤ k ∧ k ≤ n ∧ v3 = .int .i64 k ∧ But b w wr ∧ Bk wr b X ∧ Hid (cu l k = l.take k)) (fun v3 _ => (n - intOf v3).toNat)
    case atStart => exact ⟨1, Nat.le_refl _, hn1, rfl, hbt0, hB, hc2⟩
    case round =>
      obtain ⟨k, hk1, hk, rfl, hbt, hBk, hck⟩ := hrel
      clear hB hbt0 hc2 h2
      by_cases hlt : k < n
      · obtain ⟨q, hq⟩ : ∃ q, l[k]? = some q := ⟨_, List.getElem?_eq_getElem (by omega)⟩
        obtain ⟨p, hp⟩ : ∃ p, l[k - 1]? = some p := ⟨_, List.getElem?_eq_getElem (by omega)⟩
        obtain ⟨c0, c1⟩ := hBk.tile ht hq hlt
        obtain ⟨d0, d1⟩ := hBk.tile ht hp (by omega)
        have e1 := eqlQ q p
        have hqh := Lib.hid hq
        have hph := Lib.hid hp
        have hv := HV.out k hk1 hlt
        have hw := HW.out k hlt
        have hbd : But b w wr.drew := hbt.below (Below.drew (Below.refl _ _))
        have hBd : Bk wr.drew b X := hBk.keep (Below.drew (Below.refl _ _))
        clear hq hp hbt hBk
        by_cases hdup : q = p
        · subst hdup
          have hI0 : Hid (KI l n k (k + 1) l) := Lib.hid (KI.start hl hk1 hqh.out hph.out hck.out)
          have HX := Lib.hid hx
          have HT := Lib.hid ht
          have HBt := Lib.hid hbd
          have HBd := Lib.hid hBd
          clear hbd hBd hx ht
          go_wp2_with fail
          go_region
          go_wp2
          clear c0 c1 d0 d1 e1 hv hw hck hqh hph
          generalize wr.drew = w0 at *
          go_loopw [3, 5] (fun v3 v5 wr => ∃ (i k2 : Nat) (dk : List TCube) (Y : List Value), v3 = .int .i64 i ∧ v5 = .int .i64 k2 ∧ 1 ≤ k2 ∧ k + k2 ≤ n ∧ But b w wr ∧ Bk wr b Y ∧ Y.length = cap * 2 ∧ Hid (Y.take (n * 2) = flat2 dk) ∧ Hid (KI l n i (k + k2) dk)) (fun _ v5 _ => (((n - k : Nat) : Int) - intOf v5).toNat)
          case atStart => exact ⟨k, 1, l, X, rfl, rfl, Nat.le_refl _, by omega, HBt.out, HBd.out, HX.out, HT, hI0⟩
          case round =>
            obtain ⟨i, k2, dk, Y, rfl, rfl, h1, hle, hbt, hBY, hY1, hYT, hI⟩ := hrel
            have hik := hI.out.lt
            have hwk := HW.out
            by_cases hlt2 : k + k2 < n
            · obtain ⟨u, hu⟩ : ∃ u, l[k + k2]? = some u := ⟨_, List.getElem?_eq_getElem (by omega)⟩
              obtain ⟨v, hv⟩ : ∃ v, l[k + k2 - 1]? = some v := ⟨_, List.getElem?_eq_getElem (by omega)⟩
              have c := hBY.tile hYT.out ((hI.out.get (by omega)).trans hu) hlt2
              have d := hBY.tile hYT.out ((hI.out.get (by omega)).trans hv) (by omega)
              rw [Nat.add_mul] at c
              rw [show k + k2 - 1 = k + (k2 - 1) by omega, Nat.add_mul] at d
              obtain ⟨c0, c1⟩ := c
              obtain ⟨d0, d1⟩ := d
              have e1 := neqQ u v
              have huh := Lib.hid hu
              have hvh := Lib.hid hv
              have b1 : i * 2 + 2 ≤ Y.length := by omega
              have b2 : i + 1 ≤ n := by omega
              have b3 : n * 2 ≤ Y.length := by omega
              have b4 : 1 ≤ k2 + 1 := by omega
              have b5 : k + (k2 + 1) ≤ n := by omega
              have b6 : k + k2 + 1 = k + (k2 + 1) := by omega
              have hv2 := HV.out k2 h1 (by omega)
              have hw2 := HW.out k2 (by omega)
              have hbd : But b w wr.drew := hbt.below (Below.drew (Below.refl _ _))
              have hBd : Bk wr.drew b Y := hBY.keep (Below.drew (Below.refl _ _))
              clear hu hv hbt hBY hwk
              by_cases huv : u = v
              · subst huv
                have HBt := Lib.hid hbd
                have HBd := Lib.hid hBd
                clear hbd hBd
                go_wp2_with fail
                go_region
                go_wp2
                go_roundw
                case rel => exact ⟨i, k2 + 1, dk, Y, rfl, (by first | rfl | rw [hw2] | exact congrArg (Value.int .i64) (by omega)), by omega, by omega, HBt.out, HBd.out, hY1, hYT, Lib.hid (by have := hI.out.skip huh.out hvh.out (by omega); rwa [show k + k2 + 1 = k + (k2 + 1) by omega] at this)⟩
                case measure =>
                  first
                    | (show (((n - k : Nat) : Int) - ((k2 : Int) + 1)).toNat < (((n - k : Nat) : Int) - (k2 : Int)).toNat
                       clear hw2 hv2
                       omega)
                    | (show (((n - k : Nat) : Int) - intOf (Value.int .i64 (RowKit.wrap64 ((k2 : Int) + 1)))).toNat < (((n - k : Nat) : Int) - intOf (Value.int .i64 (k2 : Int))).toNat
                       rw [intOf_intC, intOf_intC, hw2]
                       clear hw2 hv2
                       omega)
              · have hin : i < n := by omega
                have hst := hBd.set2 (i * 2) (.int .i64 u.fCare) (.int .i64 u.fValue) (by omega)
                have hrow := hBd.row (putX Y (i * 2) (c2 u))
                obtain ⟨v0, g0⟩ := hBd.some2 (o := i * 2) (by omega)
                obtain ⟨v1, g1⟩ := hBd.some2 (o := i * 2 + 1) (by omega)
                have f0 := hBd.frz (i * 2)
                have f1 := hBd.frz (i * 2 + 1)
                have k0 : wr.drew.cell? ⟨b, k * 2 + k2 * 2, none⟩ = some (.int .i64 u.fCare) := c0
                have k1 : wr.drew.cell? ⟨b, k * 2 + k2 * 2 + 1, none⟩ = some (.int .i64 u.fValue) := c1
                have HS := Lib.hid hst
                have hiX := HW.out i hin
                have hBt := Lib.hid hbd
                have hR := Lib.hid hrow
                clear hst hbd hBd hrow
                go_wp2_with fail
                go_region
                generalize wr.drew = w1 at *
                clear c0 c1 d0 d1 e1
                go_wp2
                go_roundw
                case rel =>
                  rw [HS.out]
                  refine ⟨i + 1, k2 + 1, _, putX Y (i * 2) (c2 u), (by first | rfl | rw [hiX] | exact congrArg (Value.int .i64) (by omega)), (by first | rfl | rw [hw2] | exact congrArg (Value.int .i64) (by omega)), b4, b5, hBt.out.trans hR.out.2.1, hR.out.1, by rw [putX_len (by rw [c2_len]; exact b1)]; exact hY1, Lib.hid ?_, Lib.hid (by have := hI.out.keep huh.out (fun e => huv (by rw [hvh.out] at e; cases e; rfl)) hlt2; rwa [b6] at this)⟩
                  have := putX_row (m := [u]) (i := i) hYT.out b2 b3
                  simpa [flat2] using this
                case measure =>
                  first
                    | (show (((n - k : Nat) : Int) - ((k2 : Int) + 1)).toNat < (((n - k : Nat) : Int) - (k2 : Int)).toNat
                       clear hw2 hv2 hiX
                       omega)
                    | (show (((n - k : Nat) : Int) - intOf (Value.int .i64 (RowKit.wrap64 ((k2 : Int) + 1)))).toNat < (((n - k : Nat) : Int) - intOf (Value.int .i64 (k2 : Int))).toNat
                       rw [intOf_intC, intOf_intC, hw2]
                       clear hw2 hv2 hiX
                       omega)
            · have hend : k + k2 = n := by omega
              have hcl := run_clear2 (o := i * 2) (n := n - i) (c := cap - i) hBY (by omega) (by omega)
              have hrow := hBY.row (putX Y (i * 2) (List.replicate ((n - i) * 2) (.int .i64 0)))
              have HY := Lib.hid hBY
              have HR := Lib.hid hrow
              have HBt2 := Lib.hid hbt
              clear hBY hrow hbt hwk
              go_wp2_with fail
              go_ret
              have hI := hI.out
              have hcnt := hI.cnt
              have hlow := hI.low
              rw [hend] at hcnt hlow
              have hYT := hYT.out
              rw [hcnt]
              refine ⟨_, rfl, HBt2.out.trans HR.out.2.1, HR.out.1, ?_, ?_⟩
              · rw [putX_len (by simp; omega)]
                exact hY1
              · have h3 : (Y.take (i * 2)).length = i * 2 := by rw [List.length_take]; omega
                unfold putX
                rw [List.append_assoc, List.take_append_of_le_length (by omega), List.take_of_length_le (by omega), ← hlow, ← flat2_take, ← hYT, List.take_take, Nat.min_eq_left (by omega)]
        · go_wp2_with fail
          go_region
          go_wp2
          go_roundw
          case rel => exact ⟨k + 1, by omega, by omega, (by first | rfl | rw [hw] | exact congrArg (Value.int .i64) (by omega)), hbd, hBd, Lib.hid (by rw [cu_keep hqh.out (.inr fun e => hdup (by rw [hph.out] at e; cases e; rfl)), hck.out, take_snoc hqh.out])⟩
          case measure =>
            first
              | (show ((n : Int) - ((k : Int) + 1)).toNat < ((n : Int) - (k : Int)).toNat
                 clear hw hv
                 omega)
              | (show ((n : Int) - intOf (Value.int .i64 (RowKit.wrap64 ((k : Int) + 1)))).toNat < ((n : Int) - intOf (Value.int .i64 (k : Int))).toNat
                 rw [intOf_intC, intOf_intC, hw]
                 clear hw hv
                 omega)
      · obtain rfl : k = n := by omega
        have HBk := Lib.hid hBk
        clear hBk
        go_wp2
        go_ret
        exact SM.out _ hbt HBk.out hck.out
theorem cpt0 {a : Option Addr} {cap : Nat} (w : World) : Calls Tryz.prog 73 #[.slice a 0 cap] w fun e w' => e = .returned (.slice a 0 cap) ∧ Below w.heap.size w w' := by
  have hb := Below.refl w.heap.size w
  go_enter Tryz.func73, Tryz.ntmps73
  go_wp2
  go_ret
  exact ⟨rfl, hb⟩
theorem frO1 {p o : Nat} {X x : Ob} (h : frO [(p, X)] o = some x) : o = p ∧ x = X := by
  simp only [frO, upd] at h
  split at h
  · cases h; exact ⟨by assumption, rfl⟩
  · cases h
theorem cubes_after {w w1 : World} {R : Nat → Prop} {ι : Nat → Value} {φ : Nat → List Nat} {l' : List TCube} {v' : Value} {ins : Nat → Option Ob} (hR : ∀ b, R b → b < w.heap.size) (ho : ObjsOk w R ι φ ins) (hbm : BelowM (fpO φ ins) w w1) (hrow : w1.ownsRow 0 56 2 v' l'.length (flat2 l')) (hok : ∀ q ∈ l', okI (.int .i64 q.fCare) ∧ okI (.int .i64 q.fValue)) (hnew : ∀ g, v'.ownBlock = some g → (fpO φ ins g ∨ w.heap.size ≤ g) ∧ g < w1.heap.size) : After w R ι φ ins (.v (.c (.own 0))) (frO [(0, .arr kCube (l'.map enCube) [])]) v' w1 := by
  have hkeep : ∀ b, R b → w1.heap[b]? = w.heap[b]? := fun b hb => hbm.block b (hR b hb) fun ⟨o, x, h1, h2⟩ => (ho.2.1 o x h1 b h2).1 hb
  refine ⟨R, upd ι 0 v', upd φ 0 v'.ownBlock.toList, hbm, fun b h => h, fun b h => Nat.lt_of_lt_of_le (hR b h) hbm.size, fun b h _ => .inl h, ⟨⟨_, upd_same _ _ _⟩, (upd_same _ _ _).symm⟩, ⟨fun o x hf => ?_, fun o x hf g hgm => ?_, fun o p x y g hf hf' _ _ => (frO1 hf).1.trans (frO1 hf').1.symm, ho.2.2.2.keep (fun _ h => h) hkeep⟩, fun g hf => ?_, fun o hf => upd_ne _ _ (fun e => by subst e; exact absurd hf (by decide))⟩
  · obtain ⟨rfl, rfl⟩ := frO1 hf
    rw [upd_same, upd_same]
    refine ⟨fun es he => ?_, flat2 l', [], ?_, EH.of_ET (ET.toCubes hok), by simp, by cases v'.ownBlock <;> simp⟩
    · obtain ⟨n, _, rfl⟩ := List.mem_map.1 he
      rfl
    · rw [List.length_map]
      exact hrow
  · obtain ⟨rfl, rfl⟩ := frO1 hf
    rw [upd_same] at hgm
    obtain ⟨h1, h2⟩ := hnew g (by simpa using hgm)
    exact ⟨fun hr => h1.elim (fun ⟨o, x, h3, h4⟩ => (ho.2.1 o x h3 g h4).1 hr) fun h => by have := hR g hr; omega, h2⟩
  · obtain ⟨o, x, hf, hgm⟩ := hf
    obtain ⟨rfl, rfl⟩ := frO1 hf
    rw [upd_same] at hgm
    exact (hnew g (by simpa using hgm)).1
theorem cu_mem {l : List TCube} : ∀ {j : Nat} {q : TCube}, q ∈ cu l j → q ∈ l
  | j + 1, q, h => by
    rw [cu] at h
    split at h
    · exact cu_mem h
    · rename_i x hx
      split at h
      · rcases List.mem_append.1 h with h | h
        · exact cu_mem h
        · rw [List.mem_singleton.1 h]; exact List.mem_of_getElem? hx
      · exact cu_mem h
theorem lib_cmpct (l : List TCube) : SpecM Tryz.prog 73 [.c (.own (pin 0))] [(pin 0, .arr kCube (l.map enCube) [])] (.v (.c (.own 0))) [(0, .arr kCube ((cu l l.length).map enCube) [])] := by
  refine ⟨callFunc_enter Tryz.func73 rfl (by simp [Tryz.f73]), fun w R ι φ vs hR hF ho => ?_⟩
  cases hF with | cons hv hF =>
  cases hF
  rename_i v
  obtain ⟨_, hv⟩ := hv
  have hX : frO [(pin 0, Ob.arr kCube (l.map enCube) [])] (pin 0) = some (.arr kCube (l.map enCube) []) := rfl
  obtain ⟨_, xs, S1, how, heh, hS, _⟩ := ho.1 _ _ hX
  have het := EH.to_ET heh
  obtain ⟨rfl, rfl, hok⟩ := ET.ofCubes het
  have hmine := ho.2.1 _ _ hX
  rw [← hv] at how hS
  have hlen : (l.map enCube).length = l.length := by simp
  rw [hlen] at how
  have how : w.ownsRow 0 56 2 v l.length (flat2 l) := how
  have hin : ∀ q ∈ cu l l.length, okI (.int .i64 q.fCare) ∧ okI (.int .i64 q.fValue) := fun q hq => hok q (cu_mem hq)
  rcases own_bk how with ⟨rfl, hl0, _⟩ | ⟨b, cap, X, rfl, _, hB, hnc, hm, hx, ht, hl⟩
  · subst hl0
    refine (cpt0 w).mono ?_
    rintro e w1 ⟨rfl, hb⟩
    exact ⟨_, rfl, cubes_after hR ho (BelowM.of_below hb) (World.ownsRow_nil _ _ _ _) hin (fun g hg => by simp [Value.ownBlock] at hg)⟩
  · have hφ : φ (pin 0) = [b] := by rw [hS]; rfl
    have hblt := hB.lt
    by_cases hl0 : l = []
    · subst hl0
      refine (cpt0 w).mono ?_
      rintro e w1 ⟨rfl, hb⟩
      exact ⟨_, rfl, cubes_after hR ho (BelowM.of_below hb) (bk_own (Nat.zero_le _) (hB.keep hb) hnc hm hx (by simpa [cu] using ht) rfl) hin (fun g hg => by
        obtain rfl : b = g := by simpa [Value.ownBlock] using hg
        exact ⟨.inl ⟨pin 0, _, hX, by rw [hφ]; simp⟩, Nat.lt_of_lt_of_le hblt hb.size⟩)⟩
    · have hn1 : 1 ≤ l.length := Nat.pos_of_ne_zero fun e => hl0 (List.eq_nil_of_length_eq_zero e)
      refine (cpt1 w b _ cap X hB hnc hm hx ht hl hn1).mono ?_
      rintro e w1 ⟨Y, rfl, hbt, hBY, hY1, hY2⟩
      exact ⟨_, rfl, cubes_after hR ho ⟨hbt.os, hbt.tape, hbt.output, hbt.size, fun k hk hM => hbt.block k hk fun e => hM ⟨pin 0, _, hX, by rw [hφ, e]; simp⟩⟩ (bk_own (Nat.zero_le _) hBY (Nat.le_trans (cu_len l _) hnc) hm hY1 hY2 rfl) hin (fun g' hg => by
        obtain rfl : b = g' := by simpa [Value.ownBlock] using hg
        exact ⟨.inl ⟨pin 0, _, hX, by rw [hφ]; simp⟩, hBY.lt⟩)⟩
end
section
open Go.RowKit Go.Sort
set_option maxRecDepth 10000
set_option maxHeartbeats 4000000
theorem ET.ofInts {W : World} : ∀ {l : List Int} {vs : List Value} {S1 : List Nat}, ET W vs (l.map iD) S1 → vs = l.map (Value.int .i64) ∧ S1 = [] ∧ ∀ n ∈ l, okI (.int .i64 n)
  | [], _, _, h => by cases h; exact ⟨rfl, rfl, fun n h => by cases h⟩
  | n :: l, _, _, h => by
    cases h with
    | pv h1 hi h2 =>
      obtain ⟨rfl, rfl, h3⟩ := ET.ofInts h2
      exact ⟨rfl, rfl, fun m hm => by
        rcases List.mem_cons.1 hm with rfl | hm
        · exact hi
        · exact h3 m hm⟩
theorem ET.toInts {W : World} : ∀ {l : List Int}, (∀ n ∈ l, okI (.int .i64 n)) → ET W (l.map (Value.int .i64)) (l.map iD) []
  | [], _ => .nil
  | n :: l, h => .pv rfl (h n (by simp)) (ET.toInts fun m hm => h m (by simp [hm]))
theorem flat_ints : ∀ l : List Int, (ints l).flatten = l.map iD
  | [] => rfl
  | n :: l => by
    show [iD n] ++ (ints l).flatten = _
    rw [flat_ints l]; rfl
theorem frO1s {i o : Nat} {x y : Ob} (h : frO [(i, x)] o = some y) : o = i ∧ y = x := by
  unfold frO upd at h
  split at h
  · rename_i e
    cases h
    exact ⟨e, rfl⟩
  · cases h
abbrev srt (l : List Int) : List Int := l.mergeSort fun x y => decide (x ≤ y)
theorem lib_sort (l : List Int) (h0 : 0 < l.length) (hl : l.length ≤ 1048576) : SpecM Tryz.prog 75 [.c (.own (pin 0))] [(pin 0, .arr kI (ints l) [])] (.tup []) [(pin 0, .arr kI (ints (srt l)) [])] := by
  refine ⟨fun vs w => by kernel_rfl, fun w R ι φ vs hR hF ho => ?_⟩
  cases hF with
  | cons hv hF =>
  cases hF
  rename_i v
  obtain ⟨hdom, hv⟩ := hv
  have hX : frO [(pin 0, Ob.arr kI (ints l) [])] (pin 0) = some (.arr kI (ints l) []) := rfl
  obtain ⟨hk, xs, S1, how, heh, hS, hnd⟩ := ho.1 _ _ hX
  have heh : EH w ι (domO (frO [(pin 0, Ob.arr kI (ints l) [])])) xs ((ints l).flatten.map .d) S1 := heh
  have het := EH.to_ET heh
  rw [flat_ints] at het
  obtain ⟨rfl, rfl, hok⟩ := ET.ofInts het
  have hlen : (ints l).length = l.length := by simp [ints]
  rw [← hv, hlen] at how
  obtain ⟨_, ⟨_, hn⟩ | ⟨g, cap, cur, rfl, _, hg, hnc, hcm, hcs, htake⟩⟩ := how
  · omega
  have hgs : g < w.heap.size := by
    rcases Nat.lt_or_ge g w.heap.size with h | h
    · exact h
    · rw [Array.getElem?_eq_none h] at hg; cases hg
  rw [← hv] at hS
  have hφ : φ (pin 0) = [g] := hS
  have hcur : ∀ j, j < l.length → cur[j]? = some (Value.int .i64 l[j]!) := fun j hj => by
    have h1 : (cur.toList.take (l.length * 1))[j]? = (l.map (Value.int .i64))[j]? := by rw [htake]
    rw [List.getElem?_take_of_lt (by omega), Array.getElem?_toList, List.getElem?_map, List.getElem?_eq_getElem hj] at h1
    rw [h1, getElem!_pos l j hj]
    rfl
  have hH : Holds (Value.int .i64) w g 0 l.toArray := fun j hj => by
    have hj' : j < l.length := by simpa using hj
    refine ⟨?_, ?_⟩
    · show w.cell? ⟨g, 0 + j, none⟩ = _
      unfold World.cell?
      rw [hg, Nat.zero_add]
      show cur[j]? = _
      rw [hcur j hj']
      simp
    · show w.frozen? ⟨g, 0 + j, none⟩ = false
      unfold World.frozen?
      rw [hg]
      simp
  have hp := List.mergeSort_perm l (fun x y => decide (x ≤ y))
  have hsl : (srt l).length = l.length := hp.length_eq
  refine (Tryz.slices_Sort_int g 0 cap l w hH hgs (by omega)).mono fun e w' => ?_
  rintro ⟨rfl, n, os, rfl⟩
  have hsz : (putRow (Value.int .i64) (Sort.ahead w n) g 0 (srt l).toArray).heap.size = w.heap.size := by simp [putRow, mapBlock, Sort.ahead]
  have hold : ∀ k, k < w.heap.size → (grow (putRow (Value.int .i64) (Sort.ahead w n) g 0 (srt l).toArray) os).heap[k]? = (putRow (Value.int .i64) (Sort.ahead w n) g 0 (srt l).toArray).heap[k]? := fun k hk => by
    unfold grow
    exact Array.getElem?_append_left (by rw [hsz]; exact hk)
  have hgn : (grow (putRow (Value.int .i64) (Sort.ahead w n) g 0 (srt l).toArray) os).heap[g]? = some (.cells (putCells (Value.int .i64) 0 (srt l).toArray cur) 2 (0, 0)) := by
    rw [hold g hgs]
    simp only [putRow, mapBlock, Sort.ahead, Array.getElem?_modify, if_true, hg, Option.map_some, onCells]
  have hsize : w.heap.size ≤ (grow (putRow (Value.int .i64) (Sort.ahead w n) g 0 (srt l).toArray) os).heap.size := by
    unfold grow
    simp only [Array.size_append, hsz]
    omega
  have hblk : ∀ k, k < w.heap.size → k ≠ g → (grow (putRow (Value.int .i64) (Sort.ahead w n) g 0 (srt l).toArray) os).heap[k]? = w.heap[k]? := fun k hk hne => by
    rw [hold k hk]
    simp only [putRow, mapBlock, Sort.ahead, Array.getElem?_modify]
    rw [if_neg fun h => hne h.symm]
  have hmine := ho.2.1 _ _ hX
  refine ⟨_, rfl, R, ι, φ, ⟨rfl, rfl, rfl, hsize, fun k hk hM => hblk k hk fun e => hM ⟨pin 0, _, hX, by rw [hφ, e]; simp⟩⟩, fun b h => h, fun b h => Nat.lt_of_lt_of_le (hR b h) hsize, fun b h _ => .inl h, ⟨[], rfl, .nil⟩, ⟨?_, ?_, ?_, ho.2.2.2.keep (fun _ h => h) fun b hb => hblk b (hR b hb) fun e => (ho.2.1 _ _ hX g (by rw [hφ]; simp)).1 (e ▸ hb)⟩, ?_, fun _ _ => rfl⟩
  · intro o x hx
    obtain ⟨rfl, rfl⟩ := frO1s hx
    refine ⟨fun es hes => by obtain ⟨m, _, rfl⟩ := List.mem_map.1 hes; rfl, (srt l).map (Value.int .i64), [], ?_, ?_, ?_, by rw [hφ]; simp⟩
    · rw [← hv]
      have hlen2 : (ints (srt l)).length = l.length := by simp [ints, hsl]
      rw [hlen2]
      refine ⟨by simp [hsl], .inr ⟨g, cap, _, rfl, Nat.zero_le _, hgn, hnc, hcm, by simp [putCells, hcs], ?_⟩⟩
      show (putCells (Value.int .i64) 0 (srt l).toArray cur).toList.take (l.length * 1) = (srt l).map (Value.int .i64)
      have hcs : cur.size = cap * 1 := hcs
      apply List.ext_getElem?
      intro j
      by_cases hj : j < l.length
      · have hc := hcur j hj
        obtain ⟨hj2, _⟩ := Array.getElem?_eq_some_iff.1 hc
        rw [List.getElem?_take_of_lt (by omega), Array.getElem?_toList, List.getElem?_map, List.getElem?_eq_getElem (by omega)]
        unfold putCells
        rw [Array.getElem?_mapIdx, hc]
        have hj3 : j < (srt l).toArray.size := by simp [hsl, hj]
        simp only [Option.map_some]
        rw [if_pos ⟨Nat.zero_le _, by omega⟩, Nat.sub_zero, getElem!_pos (srt l).toArray j hj3]
        simp
      · rw [List.getElem?_eq_none (by simp; omega), List.getElem?_eq_none (by simp [hsl]; omega)]
    · show EH _ ι _ _ ((ints (srt l)).flatten.map .d) []
      rw [flat_ints]
      exact EH.of_ET (ET.toInts fun m hm => hok m (hp.mem_iff.1 hm))
    · rw [← hv, hφ]; rfl
  · intro o x hx b hb
    obtain ⟨rfl, rfl⟩ := frO1s hx
    exact ⟨(hmine b hb).1, Nat.lt_of_lt_of_le (hmine b hb).2 hsize⟩
  · intro o p x y b h1 h2 _ _
    rw [(frO1s h1).1, (frO1s h2).1]
  · rintro b ⟨o, x, hx, hb⟩
    obtain ⟨rfl, rfl⟩ := frO1s hx
    exact .inl ⟨pin 0, _, hX, hb⟩
end
section
open Go.RowKit
set_option maxRecDepth 100000 in
def S.s75 : SC := (.seq (.reg [⟨(.some 3), .none, .false, (.mv (.tmp 0))⟩, ⟨(.some 4), .none, .false, (.len (.tmp 3))⟩, ⟨(.some 2), .none, .false, (.mv (.tmp 4))⟩]) (.reg [⟨(.some 5), .none, .false, (.mv (.tmp 0))⟩, ⟨(.some 6), .none, .false, (.mv (.tmp 2))⟩, ⟨(.some 7), .none, .false, (.mv (.tmp 2))⟩, ⟨(.some 8), .none, .false, (.cv .u64 (.tmp 7))⟩, ⟨(.some 9), .none, .false, (.call (.func 100) [(.tmp 8)])⟩, ⟨(.some 10), .none, .false, (.call (.func 101) [(.tmp 5), (.const (Go.Value.int Go.IntKind.i64 0)), (.tmp 6), (.tmp 9)])⟩]))
set_option maxRecDepth 100000 in
theorem S.ok75 : stripF Tryz.prog Tryz.f75 = some S.s75 := by kernel_rfl
set_option maxRecDepth 100000 in
def S.s100 : SC := (.seq (.reg [⟨(.some 2), .none, .false, (.mv (.const (Go.Value.int Go.IntKind.i64 0)))⟩]) (.seq (.cond (.const (Go.Value.bool false)) (.seq (.reg [⟨(.some 3), .none, .false, (.mv (.tmp 0))⟩, ⟨(.some 4), .none, .false, (.cv .u32 (.tmp 3))⟩, ⟨(.some 5), .none, .false, (.call (.func 113) [(.tmp 4)])⟩, ⟨(.some 2), .none, .false, (.mv (.tmp 5))⟩]) .ret) .skip) (.seq (.reg [⟨(.some 6), .none, .false, (.mv (.tmp 0))⟩, ⟨(.some 7), .none, .false, (.call (.func 114) [(.tmp 6)])⟩, ⟨(.some 2), .none, .false, (.mv (.tmp 7))⟩]) .ret)))
set_option maxRecDepth 100000 in
theorem S.ok100 : stripF Tryz.prog Tryz.f100 = some S.s100 := by kernel_rfl
set_option maxRecDepth 100000 in
def S.s114 : SC := (.seq (.reg [⟨(.some 2), .none, .false, (.mv (.const (Go.Value.int Go.IntKind.i64 0)))⟩]) (.seq (.seq (.reg [⟨(.some 3), .none, .false, (.mv (.tmp 0))⟩, ⟨(.some 4), .none, .false, (.bin .geq (.tmp 3) (.const (Go.Value.int Go.IntKind.u64 4294967296)))⟩]) (.cond (.tmp 4) (.seq (.reg [⟨(.some 5), .none, .false, (.mv (.tmp 0))⟩, ⟨(.some 6), .none, .false, (.bin .shr (.tmp 5) (.const (Go.Value.int Go.IntKind.u64 32)))⟩, ⟨(.some 0), .none, .false, (.mv (.tmp 6))⟩]) (.reg [⟨(.some 2), .none, .false, (.mv (.const (Go.Value.int Go.IntKind.i64 32)))⟩])) .skip)) (.seq (.seq (.reg [⟨(.some 7), .none, .false, (.mv (.tmp 0))⟩, ⟨(.some 8), .none, .false, (.bin .geq (.tmp 7) (.const (Go.Value.int Go.IntKind.u64 65536)))⟩]) (.cond (.tmp 8) (.seq (.reg [⟨(.some 9), .none, .false, (.mv (.tmp 0))⟩, ⟨(.some 10), .none, .false, (.bin .shr (.tmp 9) (.const (Go.Value.int Go.IntKind.u64 16)))⟩, ⟨(.some 0), .none, .false, (.mv (.tmp 10))⟩]) (.reg [⟨(.some 11), .none, .false, (.mv (.tmp 2))⟩, ⟨(.some 12), .none, .false, (.bin .add (.tmp 11) (.const (Go.Value.int Go.IntKind.i64 16)))⟩, ⟨(.some 2), .none, .false, (.mv (.tmp 12))⟩])) .skip)) (.seq (.seq (.reg [⟨(.some 13), .none, .false, (.mv (.tmp 0))⟩, ⟨(.some 14), .none, .false, (.bin .geq (.tmp 13) (.const (Go.Value.int Go.IntKind.u64 256)))⟩]) (.cond (.tmp 14) (.seq (.reg [⟨(.some 15), .none, .false, (.mv (.tmp 0))⟩, ⟨(.some 16), .none, .false, (.bin .shr (.tmp 15) (.const (Go.Value.int Go.IntKind.u64 8)))⟩, ⟨(.some 0), .none, .false, (.mv (.tmp 16))⟩]) (.reg [⟨(.some 17), .none, .false, (.mv (.tmp 2))⟩, ⟨(.some 18), .none, .false, (.bin .add (.tmp 17) (.const (Go.Value.int Go.IntKind.i64 8)))⟩, ⟨(.some 2), .none, .false, (.mv (.tmp 18))⟩])) .skip)) (.seq (.reg [⟨(.some 19), .none, .false, (.mv (.tmp 2))⟩, ⟨(.some 20), .none, .false, (.mv (.tmp 0))⟩, ⟨(.some 21), .none, .false, (.cv .u8 (.tmp 20))⟩, ⟨(.some 22), .none, .false, (.six (.const (Go.Value.string { data := (([0, 1, 2, 2, 3, 3, 3, 3, 4, 4, 4, 4, 4, 4, 4, 4, 5, 5, 5, 5, 5, 5, 5, 5, 5, 5, 5, 5, 5, 5, 5, 5, 6, 6, 6, 6, 6, 6, 6, 6, 6, 6, 6, 6, 6, 6, 6, 6, 6, 6, 6, 6, 6, 6, 6, 6, 6, 6, 6, 6, 6, 6, 6, 6].append [7, 7, 7, 7, 7, 7, 7, 7, 7, 7, 7, 7, 7, 7, 7, 7, 7, 7, 7, 7, 7, 7, 7, 7, 7, 7, 7, 7, 7, 7, 7, 7, 7, 7, 7, 7, 7, 7, 7, 7, 7, 7, 7, 7, 7, 7, 7, 7, 7, 7, 7, 7, 7, 7, 7, 7, 7, 7, 7, 7, 7, 7, 7, 7]).append ([8, 8, 8, 8, 8, 8, 8, 8, 8, 8, 8, 8, 8, 8, 8, 8, 8, 8, 8, 8, 8, 8, 8, 8, 8, 8, 8, 8, 8, 8, 8, 8, 8, 8, 8, 8, 8, 8, 8, 8, 8, 8, 8, 8, 8, 8, 8, 8, 8, 8, 8, 8, 8, 8, 8, 8, 8, 8, 8, 8, 8, 8, 8, 8].append [8, 8, 8, 8, 8, 8, 8, 8, 8, 8, 8, 8, 8, 8, 8, 8, 8, 8, 8, 8, 8, 8, 8, 8, 8, 8, 8, 8, 8, 8, 8, 8, 8, 8, 8, 8, 8, 8, 8, 8, 8, 8, 8, 8, 8, 8, 8, 8, 8, 8, 8, 8, 8, 8, 8, 8, 8, 8, 8, 8, 8, 8, 8, 8])).toArray })) (.tmp 21))⟩, ⟨(.some 23), .none, .false, (.cv .i64 (.tmp 22))⟩, ⟨(.some 24), .none, .false, (.bin .add (.tmp 19) (.tmp 23))⟩, ⟨(.some 2), .none, .false, (.mv (.tmp 24))⟩]) .ret)))))
set_option maxRecDepth 100000 in
theorem S.ok114 : stripF Tryz.prog Tryz.f114 = some S.s114 := by kernel_rfl
set_option maxRecDepth 10000
set_option maxHeartbeats 4000000
theorem iLen64 : Spec Tryz.prog 114 [.c (.pv (.int .u64 0))] (oI 0) := by
  refine Spec.walk T.mixed Tryz.func114 S.ok114 (by simp [Tryz.f114]) fun hk => ?_
  clear hk
  unfold S.s114
  repeat' (first|refine R.six rfl rfl ⟨Int.le_refl _, by decide⟩ (fun y hy => ?_); obtain rfl : y = 0 := Option.some.inj (hy.symm.trans (by decide))|refine R.mv rfl ?_|refine R.reg ?_|refine R.nil ?_|refine R.seq ?_|refine R.nseq ?_|refine R.skip ?_|refine R.geq rfl rfl ?_|refine R.condF rfl ?_|refine R.cv (k' := .u8) rfl ?_|refine R.cv64 rfl ⟨by decide, by decide⟩ ?_|refine R.add rfl rfl ⟨by decide, by decide⟩ ?_)
  all_goals first | (exfalso; omega) | exact R.ret ⟨.inr rfl, R.outI rfl rfl rfl⟩ | skip
theorem iLen0 : Spec Tryz.prog 100 [.c (.pv (.int .u64 0))] (oI 0) := by
  have h := iLen64
  refine Spec.walk T.mixed Tryz.func100 S.ok100 (by simp [Tryz.f100]) fun hk => ?_
  clear hk
  unfold S.s100
  repeat' (first|refine R.mv rfl ?_|refine R.reg ?_|refine R.nil ?_|refine R.seq ?_|refine R.nseq ?_|refine R.skip ?_|refine R.condF rfl ?_|refine R.call (bor := false) rfl rfl (h) rfl rfl rfl ?_)
  all_goals first | (exfalso; omega) | exact R.ret ⟨.inr rfl, R.outI rfl rfl rfl⟩ | skip
theorem ins0 (a : Option Addr) (cap : Nat) (w : World) : Calls Tryz.prog 115 #[.slice a 0 cap, .int .i64 0, .int .i64 0] w fun e w' => e = .returned (.tuple #[]) ∧ Below w.heap.size w w' := by
  have hb := Below.refl w.heap.size w
  go_enter Tryz.func115, Tryz.ntmps115
  go_wp2_with fail
  go_loopw [6] (fun v wr => v = .int .i64 1 ∧ wr = w) (fun _ _ => 0)
  case atStart => exact ⟨rfl, rfl⟩
  case round =>
    obtain ⟨rfl, rfl⟩ := hrel
    go_wp2_with fail
    exact bodyPost_end (v := .tuple #[]) (by simp [results, Tryz.results115, go_sem] <;> rfl) rfl ⟨rfl, hb⟩
theorem pdq0 (a : Option Addr) (cap : Nat) (w : World) : Calls Tryz.prog 101 #[.slice a 0 cap, .int .i64 0, .int .i64 0, .int .i64 0] w fun e w' => e = .returned (.tuple #[]) ∧ Below w.heap.size w w' := by
  have hi := ins0 a cap w
  go_enter Tryz.func101, Tryz.ntmps101
  go_wp2_with fail
  go_loopw [1, 2] (fun v u wr => v = .int .i64 0 ∧ u = .int .i64 0 ∧ wr = w) (fun _ _ _ => 0)
  case atStart => exact ⟨rfl, rfl, rfl⟩
  case round =>
    obtain ⟨rfl, rfl, rfl⟩ := hrel
    go_wp2_with fail
    refine hi.mono ?_
    rintro e w' ⟨rfl, hb⟩
    go_wp2_with fail
    exact bodyPost_ret (v := .tuple #[]) (by simp [results, Tryz.results101, go_sem] <;> rfl) rfl ⟨rfl, hb⟩
theorem lib_pdq0 : Spec Tryz.prog 101 [vL kI (ints []), vI 0, vI 0, vI 0] (.tup []) := by
  refine ⟨callFunc_enter Tryz.func101 rfl (by simp [Tryz.f101]), fun w R ι φ vs hR hF ho => ?_⟩
  cases hF with | cons h1 hF => cases hF with | cons h2 hF => cases hF with | cons h3 hF => cases hF with | cons h4 hF =>
  cases hF
  rename_i v1 v2 v3 v4
  have h1 : RD w R v1 (.rd kI []) := h1
  cases h2; cases h3; cases h4
  obtain ⟨a, cap, rfl⟩ : ∃ a cap, v1 = .slice a 0 cap := by
    cases h1 with
    | nil => exact ⟨_, _, rfl⟩
    | rd c h0 => cases h0
  refine (pdq0 a cap w).mono ?_
  rintro e w1 ⟨rfl, hbl⟩
  have hn : ∀ o x, frO [] o = some x → False := fun o x h => by simp [frO] at h
  have hO : ObjsOk w1 R ι φ (frO []) := ⟨fun o x h => (hn o x h).elim, fun o x h => (hn o x h).elim, fun o p x y g h => (hn o x h).elim, ho.2.2.2.keep (fun _ h => h) fun b hb => hbl.block b (hR b hb)⟩
  refine ⟨_, rfl, R, ι, φ, BelowM.of_below hbl, fun b h => h, fun b h => Nat.lt_of_lt_of_le (hR b h) hbl.size, fun b h _ => .inl h, ⟨[], rfl, .nil⟩, hO, fun g h => ?_, fun o h => rfl⟩
  obtain ⟨o, x, h, _⟩ := h
  exact (hn o x h).elim
theorem lib_sort0 : Spec Tryz.prog 75 [vL kI (ints [])] (.tup []) := by
  have h := lib_pdq0
  have h2 := iLen0
  refine Spec.walk T.mixed Tryz.func75 S.ok75 (by simp [Tryz.f75]) fun hk => ?_
  clear hk
  unfold S.s75
  repeat' (first|refine R.mv rfl ?_|refine R.reg ?_|refine R.nil ?_|refine R.seq ?_|refine R.nseq ?_|refine R.lenM rfl ?_|refine R.call (bor := false) rfl rfl (h) rfl rfl rfl ?_|refine R.call (bor := false) rfl rfl (h2) rfl rfl rfl ?_|refine R.cvU rfl ⟨by decide, by decide⟩ ?_)
  all_goals first | (exfalso; omega) | exact R.nend ⟨.inl rfl, R.outR rfl .nil rfl rfl rfl ⟨by show ¬ (0 = 1); omega, rfl⟩⟩ | skip
end
end Go.Proofs.YtehkaajakapkmaaGreat
