/- slices.DeleteFunc on a row of placed tiles. -/
import Derived.Test.YtghpeccaknhjiaaRow3
import Derived.Test.YtghpeccaknhjiaaSpC
import Derived.Lib.SlKept
import Derived.Lib.Hide
namespace Go.Proofs.Ytghpeccaknhjiaa
open Go.RowKit Go.Lib
set_option maxRecDepth 100000
set_option maxHeartbeats 2000000
instance : Inhabited TPlaced := ⟨⟨⟨0, 0⟩, 0⟩⟩
theorem idxOf_cases (p : TPlaced → Bool) (l : List TPlaced) : (idxOf p l = -1 ∧ ∀ q ∈ l, p q = false) ∨ ∃ (k : Nat) (q : TPlaced), idxOf p l = (k : Int) ∧ l[k]? = some q ∧ p q = true ∧ ∀ x ∈ l.take k, p x = false := by
  by_cases h : ∀ q ∈ l, p q = false
  · exact .inl ⟨idxOf_none h, h⟩
  · have key : ∀ l : List TPlaced, (¬ ∀ q ∈ l, p q = false) → ∃ (k : Nat) (q : TPlaced), l[k]? = some q ∧ p q = true ∧ ∀ x ∈ l.take k, p x = false := by
      intro l
      induction l with
      | nil => intro h; exact absurd (fun q hq => by cases hq) h
      | cons a l ih =>
        intro h
        by_cases ha : p a = true
        · exact ⟨0, a, rfl, ha, fun x hx => by simp at hx⟩
        · obtain ⟨k, q, h1, h2, h3⟩ := ih fun h' => h fun q hq => by
            rcases List.mem_cons.1 hq with rfl | hq
            · simpa using ha
            · exact h' q hq
          exact ⟨k + 1, q, h1, h2, fun x hx => by
            rw [List.take_succ_cons] at hx
            rcases List.mem_cons.1 hx with rfl | hx
            · simpa using ha
            · exact h3 x hx⟩
    obtain ⟨k, q, h1, h2, h3⟩ := key l h
    exact .inr ⟨k, q, idxOf_some h3 h1 h2, h1, h2, h3⟩
theorem filt_all {p : TPlaced → Bool} {l : List TPlaced} (h : ∀ q ∈ l, p q = false) : l.filter (fun a => !p a) = l := by
  rw [List.filter_eq_self]
  intro a ha
  rw [h a ha]
  rfl
/-- Behind j of them i have been kept. -/
structure KI (p : TPlaced → Bool) (l : List TPlaced) (n i j : Nat) (dk : List TPlaced) : Prop where
  len : dk.length = n
  lt : i < j
  le : j ≤ n
  cnt : ((l.take j).filter fun a => !p a).length = i
  low : dk.take i = (l.take j).filter fun a => !p a
  high : dk.drop j = l.drop j
theorem KI.start {p : TPlaced → Bool} {l : List TPlaced} {n k : Nat} {q : TPlaced} (hl : l.length = n) (hq : l[k]? = some q) (hp : p q = true) (h : ∀ x ∈ l.take k, p x = false) : KI p l n k (k + 1) l := by
  have hk := (List.getElem?_eq_some_iff.1 hq).1
  have e : (l.take (k + 1)).filter (fun a => !p a) = l.take k := by
    rw [take_snoc hq, List.filter_append, filt_all h]
    simp [hp]
  exact ⟨hl, by omega, by omega, by rw [e, List.length_take]; omega, e.symm, rfl⟩
theorem KI.get {p : TPlaced → Bool} {l : List TPlaced} {n i j : Nat} {dk : List TPlaced} (h : KI p l n i j dk) : dk[j]? = l[j]? := by
  have := congrArg (·[0]?) h.high
  simpa using this
theorem KI.skip {p : TPlaced → Bool} {l : List TPlaced} {n i j : Nat} {dk : List TPlaced} {q : TPlaced} (h : KI p l n i j dk) (hq : l[j]? = some q) (hp : p q = true) (hj : j < n) : KI p l n i (j + 1) dk := by
  have e : (l.take (j + 1)).filter (fun a => !p a) = (l.take j).filter fun a => !p a := by
    rw [take_snoc hq, List.filter_append]
    simp [hp]
  have := h.lt
  exact ⟨h.len, by omega, by omega, by rw [e]; exact h.cnt, by rw [e]; exact h.low, by rw [← List.drop_drop, ← List.drop_drop, h.high]⟩
theorem KI.keep {p : TPlaced → Bool} {l : List TPlaced} {n i j : Nat} {dk : List TPlaced} {q : TPlaced} (h : KI p l n i j dk) (hq : l[j]? = some q) (hp : p q = false) (hj : j < n) : KI p l n (i + 1) (j + 1) (dk.take i ++ [q] ++ dk.drop (i + 1)) := by
  have e : (l.take (j + 1)).filter (fun a => !p a) = ((l.take j).filter fun a => !p a) ++ [q] := by
    rw [take_snoc hq, List.filter_append]
    simp [hp]
  have h1 := h.lt
  have h2 := h.len
  have h3 : (dk.take i).length = i := by rw [List.length_take]; omega
  have h4 : (dk.take i ++ [q]).length = i + 1 := by rw [List.length_append, h3]; rfl
  refine ⟨?_, by omega, by omega, ?_, ?_, ?_⟩
  · rw [List.length_append, h4, List.length_drop]
    omega
  · rw [e, List.length_append, h.cnt]
    rfl
  · rw [List.take_append, h4, List.take_of_length_le (by omega), Nat.sub_self, List.take_zero, List.append_nil, e, h.low]
  · rw [List.drop_append, h4, List.drop_of_length_le (by omega), List.nil_append, List.drop_drop, show i + 1 + (j + 1 - (i + 1)) = j + 1 by omega, ← List.drop_drop, h.high, List.drop_drop]
theorem zeroPlaced : ∀ w : World, (zeroValue 50).run Try.prog w = .ok (.agg #[.int .i64 0, .int .i64 0, .int .i64 0]) w := fun w => by kernel_rfl
theorem intOf_int (x : Int) : intOf (.int .i64 x) = x := rfl
theorem one_zero {n : Nat} : ∀ v ∈ List.replicate n (Value.int .i64 0), v.oneCell' = true := fun v hv => by rw [List.eq_of_mem_replicate hv]; rfl
theorem zero3 (n : Nat) : (Builtin.zeroCells (Value.agg #[.int .i64 0, .int .i64 0, .int .i64 0]).cells n).toList = List.replicate (n * 3) (.int .i64 0) := by
  simp only [Builtin.zeroCells, Value.cells]
  apply List.ext_getElem
  · simp
  · intro i h1 h2
    simp only [Array.getElem_toList, Array.getElem_map, Array.getElem_range, List.getElem_replicate]
    have : i % 3 < 3 := Nat.mod_lt _ (by omega)
    show #[Value.int .i64 0, .int .i64 0, .int .i64 0][i % 3]! = _
    generalize i % 3 = k at this
    match k, this with
    | 0, _ => rfl
    | 1, _ => rfl
    | 2, _ => rfl
theorem run_clear3 {w : World} {b o n c : Nat} {X : List Value} (h : Bk w b X) (hn : 0 < n) (hfit : o + n * 3 ≤ X.length) : ∀ ty, (Builtin.clear_ #[28] ty #[.slice (some ⟨b, o, none⟩) n c]).run Try.prog w = .ok (.tuple #[]) (w.setRow b (putX X o (List.replicate (n * 3) (.int .i64 0))).toArray) := fun ty => by
  have hst := h.put (o := o) (vs := List.replicate (n * 3) (.int .i64 0)) (by simpa using hfit) one_zero
  have hz := zero3 n
  obtain ⟨m, rfl⟩ : ∃ m, n = m + 1 := ⟨n - 1, by omega⟩
  simp [Builtin.clear_, run_underlying Try.underlying28, hz, hst, Result.andThen]
theorem del0 {fv : Value} {p : TPlaced → Bool} {a : Option Addr} {n cap : Nat} (w : World)
    (hIF : Calls Try.prog 65 #[.slice a n cap, fv] w fun e w' => e = .returned (.int .i64 (idxOf p ([] : List TPlaced))) ∧ Below w.heap.size w w') :
    Calls Try.prog 57 #[.slice a n cap, fv] w fun e w' => e = .returned (.slice a n cap) ∧ Below w.heap.size w w' := by
  go_enter Try.func57, Try.ntmps57
  go_wp2_with fail
  refine hIF.mono ?_
  clear hIF
  rintro e w1 ⟨rfl, hb1⟩
  rw [show idxOf p ([] : List TPlaced) = -1 from idxOf_none fun q hq => by cases hq]
  go_wp2
  go_ret
  exact ⟨rfl, hb1⟩
theorem del1 {l : List TPlaced} {g : FuncId} {cb : Array Value} {p : TPlaced → Bool} (w : World) (b n cap : Nat) (X : List Value)
    (eg : ∀ args w, (callFunc g args).run Try.prog w = .ok (.enter g args) w)
    (hIF : Calls Try.prog 65 #[.slice (some ⟨b, 0, none⟩) n cap, .func (.func g) #[] cb] w fun e w' => e = .returned (.int .i64 (idxOf p l)) ∧ Below w.heap.size w w')
    (hdel : ∀ (W : World) (q : TPlaced), But b w W → q ∈ l → Calls Try.prog g (#[.agg #[.int .i64 q.fAt.fX, .int .i64 q.fAt.fY, .int .i64 q.fTile]] ++ cb) W fun e w' => e = .returned (.bool (p q)) ∧ Below W.heap.size W w')
    (hB : Bk w b X) (hnc : n ≤ cap) (hm : cap ≤ maxLen) (hx : X.length = cap * 3) (ht : X.take (n * 3) = flat3 l) (hl : l.length = n) :
    Calls Try.prog 57 #[.slice (some ⟨b, 0, none⟩) n cap, .func (.func g) #[] cb] w fun e w' => ∃ Y, e = .returned (.slice (some ⟨b, 0, none⟩) (l.filter fun a => !p a).length cap) ∧ But b w w' ∧ Bk w' b Y ∧ Y.length = cap * 3 ∧ Y.take ((l.filter fun a => !p a).length * 3) = flat3 (l.filter fun a => !p a) := by
  go_enter Try.func57, Try.ntmps57
  go_wp2_with fail
  refine hIF.mono ?_
  clear hIF
  rintro e w1 ⟨rfl, hb1⟩
  have hB1 := hB.keep hb1
  have hBt1 : But b w w1 := (BelowM.refl _ w).then hb1
  rcases idxOf_cases p l with ⟨e1, hall⟩ | ⟨k0, q0, e1, hq0, hp0, hall⟩
  · rw [e1]
    have hfil := Lib.hid (filt_all (p := p) (l := l) hall)
    clear e1 hall hB hdel
    go_wp2
    go_ret
    rw [hfil.out, hl]
    exact ⟨X, rfl, hBt1, hB1, hx, ht⟩
  · rw [e1]
    have hk0 : k0 < n := by rw [← hl]; exact (List.getElem?_eq_some_iff.1 hq0).1
    have hn63 : n ≤ 9223372036854775807 := by unfold maxLen at hm; omega
    have hw3 : ∀ x : Nat, x < n → RowKit.wrap64 ((x : Int) + 1) = ((x + 1 : Nat) : Int) := fun x hx => IntWalk.wrap64_in _ (by omega)
    have hI0 : Hid (KI p l n k0 (k0 + 1) l) := Lib.hid (KI.start hl hq0 hp0 hall)
    have HW := Lib.hid hw3
    have HD := Lib.hid hdel
    have HM := Lib.hid hm
    have hne1 : ((k0 : Int) == -1) = false := beq_eq_false_iff_ne.2 (by omega)
    clear e1 hall hq0 hp0 hdel hw3 hB hm
    go_wp2_with fail
    clear hne1
    go_loopw [5, 6] (fun v5 v6 wr => ∃ (i j : Nat) (dk : List TPlaced) (Y : List Value), v5 = .int .i64 i ∧ v6 = .int .i64 j ∧ But b w wr ∧ Bk wr b Y ∧ Y.length = cap * 3 ∧ Y.take (n * 3) = flat3 dk ∧ Hid (KI p l n i j dk)) (fun _ v6 _ => (n - intOf v6).toNat)
    case atStart => exact ⟨k0, k0 + 1, l, X, rfl, congrArg (Value.int .i64) (by omega), hBt1, hB1, hx, ht, hI0⟩
    case round =>
      obtain ⟨i, j, dk, Y, rfl, rfl, hBt, hBY, hY1, hY2, hI⟩ := hrel
      clear hI0 hB1 hBt1 hx ht hk0
      by_cases hjn : j < n
      · obtain ⟨q, hq⟩ : ∃ q, l[j]? = some q := ⟨_, List.getElem?_eq_getElem (hl ▸ hjn)⟩
        obtain ⟨c0, c1, c2⟩ := hBY.tile hY2 (hI.out.get.trans hq) hjn
        have hw3 := HW.out j hjn
        have hq' := Lib.hid hq
        have hb2 : Below wr.heap.size wr (wr.alloc (.cells #[.int .i64 q.fAt.fX, .int .i64 q.fAt.fY, .int .i64 q.fTile] 50)) := (Below.refl _ wr).alloc (Nat.le_refl _) _
        have k0' : (wr.alloc (.cells #[.int .i64 q.fAt.fX, .int .i64 q.fAt.fY, .int .i64 q.fTile] 50)).cell? ⟨wr.heap.size, 0, none⟩ = some (.int .i64 q.fAt.fX) := World.cell?_alloc_new _ _ _ _
        have k1' : (wr.alloc (.cells #[.int .i64 q.fAt.fX, .int .i64 q.fAt.fY, .int .i64 q.fTile] 50)).cell? ⟨wr.heap.size, 1, none⟩ = some (.int .i64 q.fAt.fY) := World.cell?_alloc_new _ _ _ _
        have k2' : (wr.alloc (.cells #[.int .i64 q.fAt.fX, .int .i64 q.fAt.fY, .int .i64 q.fTile] 50)).cell? ⟨wr.heap.size, 2, none⟩ = some (.int .i64 q.fTile) := World.cell?_alloc_new _ _ _ _
        have hz2 : (wr.alloc (.cells #[.int .i64 q.fAt.fX, .int .i64 q.fAt.fY, .int .i64 q.fTile] 50)).heap.size = wr.heap.size + 1 := World.size_alloc _ _
        have HC := HD.out _ q (hBt.below hb2) (List.mem_of_getElem? hq)
        go_wp2_with fail
        generalize wr.alloc (.cells #[.int .i64 q.fAt.fX, .int .i64 q.fAt.fY, .int .i64 q.fTile] 50) = w2 at *
        refine HC.mono ?_
        clear HC c0 c1 c2
        rintro e w3 ⟨rfl, hb3⟩
        have c0 := (hb3.cell (p := ⟨wr.heap.size, 0, none⟩) (by show wr.heap.size < _; omega)).trans k0'
        have c1 := (hb3.cell (p := ⟨wr.heap.size, 1, none⟩) (by show wr.heap.size < _; omega)).trans k1'
        have c2 := (hb3.cell (p := ⟨wr.heap.size, 2, none⟩) (by show wr.heap.size < _; omega)).trans k2'
        have hBt3 := (hBt.below hb2).below hb3
        have hB3 := (hBY.keep hb2).keep hb3
        clear k0' k1' k2' hz2 hb2 hb3 hBt hBY
        cases hpq : p q with
        | true =>
          go_wp2_with fail
          go_roundw
          case rel => exact ⟨i, j + 1, dk, Y, rfl, (by first | rfl | exact congrArg (Value.int .i64) (by omega) | rw [hw3]), hBt3, hB3, hY1, hY2, Lib.hid (hI.out.skip hq hpq hjn)⟩
          case measure =>
            first
              | (show ((n : Int) - ((j : Int) + 1)).toNat < ((n : Int) - (j : Int)).toNat
                 clear hw3
                 omega)
              | (show ((n : Int) - intOf (Value.int .i64 (RowKit.wrap64 ((j : Int) + 1)))).toNat < ((n : Int) - intOf (Value.int .i64 (j : Int))).toNat
                 rw [intOf_int, intOf_int, hw3]
                 clear hw3
                 omega)
        | false =>
          have hlt := hI.out.lt
          have hin : i < n := by omega
          have hst := hB3.set3 (i * 3) (.int .i64 q.fAt.fX) (.int .i64 q.fAt.fY) (.int .i64 q.fTile) (by omega)
          have hrow := hB3.row (putX Y (i * 3) (c3 q))
          obtain ⟨v0, d0⟩ := hB3.some3 (o := i * 3) (by omega)
          obtain ⟨v1, d1⟩ := hB3.some3 (o := i * 3 + 1) (by omega)
          obtain ⟨v2, d2⟩ := hB3.some3 (o := i * 3 + 2) (by omega)
          have f0 := hB3.frz (i * 3)
          have f1 := hB3.frz (i * 3 + 1)
          have f2 := hB3.frz (i * 3 + 2)
          have HS := Lib.hid hst
          clear hst
          have hiX := HW.out i hin
          go_wp2_with fail
          go_roundw
          case rel =>
            rw [HS.out]
            exact ⟨i + 1, j + 1, _, putX Y (i * 3) (c3 q), (by first | rfl | rw [hiX] | exact congrArg (Value.int .i64) (by omega)), (by first | rfl | exact congrArg (Value.int .i64) (by omega) | rw [hw3]), hBt3.trans hrow.2.1, hrow.1, by rw [putX_len (by rw [c3_len]; omega)]; exact hY1, by have := putX_row (m := [q]) (i := i) hY2 (by simp; omega) (by omega); exact this, Lib.hid (hI.out.keep hq hpq hjn)⟩
          case measure =>
            first
              | (show ((n : Int) - ((j : Int) + 1)).toNat < ((n : Int) - (j : Int)).toNat
                 clear hw3 hiX
                 omega)
              | (show ((n : Int) - intOf (Value.int .i64 (RowKit.wrap64 ((j : Int) + 1)))).toNat < ((n : Int) - intOf (Value.int .i64 (j : Int))).toNat
                 rw [intOf_int, intOf_int, hw3]
                 clear hw3 hiX
                 omega)
      · obtain rfl : j = n := by have := hI.out.le; omega
        have hlt := hI.out.lt
        have hcl := run_clear3 (o := i * 3) (n := j - i) (c := cap - i) hBY (by omega) (by omega)
        have hrow := hBY.row (putX Y (i * 3) (List.replicate ((j - i) * 3) (.int .i64 0)))
        have HY := Lib.hid hBY
        clear hBY
        go_wp2_with fail
        go_ret
        have hI := hI.out
        have hcnt := hI.cnt
        have hlow := hI.low
        rw [← hl, List.take_length] at hcnt hlow
        rw [hcnt]
        refine ⟨_, rfl, hBt.trans hrow.2.1, hrow.1, ?_, ?_⟩
        · rw [putX_len (by simp; omega)]
          exact hY1
        · have h3 : (Y.take (i * 3)).length = i * 3 := by rw [List.length_take]; omega
          unfold putX
          rw [List.append_assoc, List.take_append_of_le_length (by omega), List.take_of_length_le (by omega), ← hlow, ← flat3_take, ← hY2, List.take_take, Nat.min_eq_left (by omega)]
/-- What a callee leaves that is handed an array of tiles and hands one back. -/
theorem frO1 {p o : Nat} {X x : Ob} (h : frO [(p, X)] o = some x) : o = p ∧ x = X := by
  simp only [frO, upd] at h
  split at h
  · cases h; exact ⟨by assumption, rfl⟩
  · cases h
theorem tiles_after {w w1 : World} {R : Nat → Prop} {ι : Nat → Value} {φ : Nat → List Nat} {l' : List TPlaced} {v' : Value} {ins : Nat → Option Ob} (hR : ∀ b, R b → b < w.heap.size) (ho : ObjsOk w R ι φ ins) (hbm : BelowM (fpO φ ins) w w1) (hrow : w1.ownsRow 0 50 3 v' l'.length (flat3 l')) (hok : ∀ q ∈ l', okI (.int .i64 q.fAt.fX) ∧ okI (.int .i64 q.fAt.fY) ∧ okI (.int .i64 q.fTile)) (hnew : ∀ g, v'.ownBlock = some g → (fpO φ ins g ∨ w.heap.size ≤ g) ∧ g < w1.heap.size) : After w R ι φ ins (.v (.c (.own 0))) (frO [(0, .arr kPlaced (l'.map enPlaced) [])]) v' w1 := by
  have hkeep : ∀ b, R b → w1.heap[b]? = w.heap[b]? := fun b hb => hbm.block b (hR b hb) fun ⟨o, x, h1, h2⟩ => (ho.2.1 o x h1 b h2).1 hb
  refine ⟨R, upd ι 0 v', upd φ 0 v'.ownBlock.toList, hbm, fun b h => h, fun b h => Nat.lt_of_lt_of_le (hR b h) hbm.size, fun b h _ => .inl h, ⟨⟨_, upd_same _ _ _⟩, (upd_same _ _ _).symm⟩, ⟨fun o x hf => ?_, fun o x hf g hgm => ?_, fun o p x y g hf hf' _ _ => (frO1 hf).1.trans (frO1 hf').1.symm, ho.2.2.2.keep (fun _ h => h) hkeep⟩, fun g hf => ?_, fun o hf => upd_ne _ _ (fun e => by subst e; exact absurd hf (by decide))⟩
  · obtain ⟨rfl, rfl⟩ := frO1 hf
    rw [upd_same, upd_same]
    refine ⟨fun es he => ?_, flat3 l', [], ?_, EH.of_ET (ET.toTiles hok), by simp, by cases v'.ownBlock <;> simp⟩
    · obtain ⟨n, _, rfl⟩ := List.mem_map.1 he
      rfl
    · rw [List.length_map]
      exact hrow
  · obtain ⟨rfl, rfl⟩ := frO1 hf
    rw [upd_same] at hgm
    obtain ⟨h1, h2⟩ := hnew g (by simpa using hgm)
    exact ⟨fun hr => h1.elim (fun ⟨o, x, h3, h4⟩ => (ho.2.1 o x h3 g h4).1 hr) fun h => by have := hR g hr; omega, h2⟩
  · obtain ⟨o, x, hf, hgm⟩ := hf
    obtain ⟨rfl, rfl⟩ := frO1 hf
    rw [upd_same] at hgm
    exact (hnew g (by simpa using hgm)).1
theorem lib_delPlaced {l : List TPlaced} {g : FuncId} {caps : List D} {p : TPlaced → Bool} (h : ∀ a ∈ l, Spec Try.prog g ([.agg (enPlaced a)] ++ caps.map .c) (oB (p a))) : SpecM Try.prog 57 [.c (.own (pin 0)), .c (.d (.fn g caps))] [(pin 0, .arr kPlaced (l.map enPlaced) [])] (.v (.c (.own 0))) [(0, .arr kPlaced ((l.filter fun a => !p a).map enPlaced) [])] := by
  refine ⟨callFunc_enter Try.func57 rfl (by simp [Try.f57]), fun w R ι φ vs hR hF ho => ?_⟩
  cases hF with | cons hv hF => cases hF with | cons hf hF =>
  cases hF
  rename_i v fv
  obtain ⟨_, hv⟩ := hv
  have hf : RD w R fv (.fn g caps) := hf
  have hX : frO [(pin 0, Ob.arr kPlaced (l.map enPlaced) [])] (pin 0) = some (.arr kPlaced (l.map enPlaced) []) := rfl
  have hro := ho.1 _ _ hX
  have hrd : RD w (fun b => R b ∨ b ∈ φ (pin 0)) (ι (pin 0)) (.rd kPlaced (l.map enPlaced)) := RArr.data hro fun b hb => .inr hb
  obtain ⟨_, xs, S1, how, heh, hS, _⟩ := hro
  have het := EH.to_ET heh
  obtain ⟨rfl, rfl, hok⟩ := ET.ofTiles het
  have hmine := ho.2.1 _ _ hX
  rw [← hv] at how hS hrd
  have hlen : (l.map enPlaced).length = l.length := by simp
  rw [hlen] at how
  have how : w.ownsRow 0 50 3 v l.length (flat3 l) := how
  have hR1 : ∀ b, (R b ∨ b ∈ φ (pin 0)) → b < w.heap.size := fun b hb => hb.elim (hR b) fun h => (hmine b h).2
  cases hf with | fn hcl hcr =>
  rename_i lb
  have hF2 : ∀ (W : World), (∀ b, R b → W.heap[b]? = w.heap[b]?) → F2 (RVD W R) lb (caps.map .c) := fun W hW => by
    have := F2.of_get (r := RD w R) hcl hcr
    exact F2.map_right (r' := RVD W R) (f := VD.c) (fun _ _ h => RD.keep (fun _ h => h) hW h) this
  have hIF : Calls Try.prog 65 #[v, .func (.func g) #[] lb.toArray] w fun e w' => e = .returned (.int .i64 (idxOf p l)) ∧ Below w.heap.size w w' := by
    refine (spec_call (lib_indexPlaced h) hR1 (vs := [v, .func (.func g) #[] lb.toArray]) (.cons hrd (.cons (RD.fn hcl fun j u d h1 h2 => RD.keep (fun _ h => .inl h) (fun _ _ => rfl) (hcr j u d h1 h2)) .nil))).mono ?_
    rintro e w1 ⟨u, rfl, hb, R2, hu⟩
    have hu : RD w1 R2 u (.pv (.int .i64 (idxOf p l))) := hu
    cases hu
    exact ⟨rfl, hb⟩
  have hin : ∀ q ∈ l.filter (fun a => !p a), okI (.int .i64 q.fAt.fX) ∧ okI (.int .i64 q.fAt.fY) ∧ okI (.int .i64 q.fTile) := fun q hq => hok q (List.mem_filter.1 hq).1
  rcases own_bk how with ⟨rfl, hl0, _⟩ | ⟨b, cap, X, rfl, _, hB, hnc, hm, hx, ht, hl⟩
  · subst hl0
    refine (del0 w hIF).mono ?_
    rintro e w1 ⟨rfl, hb⟩
    exact ⟨_, rfl, tiles_after hR ho (BelowM.of_below hb) (World.ownsRow_nil _ _ _ _) hin (fun g hg => by simp [Value.ownBlock] at hg)⟩
  · have hφ : φ (pin 0) = [b] := by rw [hS]; rfl
    have hRb : ¬ R b := (hmine b (by rw [hφ]; simp)).1
    have hblt := hB.lt
    by_cases hl0 : l = []
    · subst hl0
      refine (del0 w hIF).mono ?_
      rintro e w1 ⟨rfl, hb⟩
      exact ⟨_, rfl, tiles_after hR ho (BelowM.of_below hb) (bk_own (Nat.zero_le _) (hB.keep hb) hnc hm hx (by simpa using ht) rfl) hin (fun g hg => by
        obtain rfl : b = g := by simpa [Value.ownBlock] using hg
        exact ⟨.inl ⟨pin 0, _, hX, by rw [hφ]; simp⟩, Nat.lt_of_lt_of_le hblt hb.size⟩)⟩
    · obtain ⟨q0, l0, rfl⟩ : ∃ q0 l0, l = q0 :: l0 := by
        cases l with
        | nil => exact absurd rfl hl0
        | cons q l => exact ⟨q, l, rfl⟩
      have hdel : ∀ (W : World) (q : TPlaced), But b w W → q ∈ q0 :: l0 → Calls Try.prog g (#[.agg #[.int .i64 q.fAt.fX, .int .i64 q.fAt.fY, .int .i64 q.fTile]] ++ lb.toArray) W fun e w' => e = .returned (.bool (p q)) ∧ Below W.heap.size W w' := fun W q hW hq => by
        have hk : ∀ b', R b' → W.heap[b']? = w.heap[b']? := fun b' hb' => hW.block b' (hR b' hb') fun e => hRb (e ▸ hb')
        obtain ⟨i1, i2, i3⟩ := hok q hq
        have := spec_call (h q hq) (W := W) (R := R) (fun b' hb' => Nat.lt_of_lt_of_le (hR b' hb') hW.size) (vs := .agg #[.int .i64 q.fAt.fX, .int .i64 q.fAt.fY, .int .i64 q.fTile] :: lb) (.cons ⟨[.int .i64 q.fAt.fX, .int .i64 q.fAt.fY, .int .i64 q.fTile], rfl, .cons (.pv rfl i1) (.cons (.pv rfl i2) (.cons (.pv rfl i3) .nil))⟩ (hF2 W hk))
        rw [show (#[Value.agg #[.int .i64 q.fAt.fX, .int .i64 q.fAt.fY, .int .i64 q.fTile]] ++ lb.toArray) = (Value.agg #[.int .i64 q.fAt.fX, .int .i64 q.fAt.fY, .int .i64 q.fTile] :: lb).toArray by simp]
        refine this.mono ?_
        rintro e w1 ⟨u, rfl, hb, R2, hu⟩
        have hu : RD w1 R2 u (.pv (.bool (p q))) := hu
        cases hu
        exact ⟨rfl, hb⟩
      refine (del1 w b _ cap X (h q0 (by simp)).1 hIF hdel hB hnc hm hx ht hl).mono ?_
      rintro e w1 ⟨Y, rfl, hbt, hBY, hY1, hY2⟩
      exact ⟨_, rfl, tiles_after hR ho ⟨hbt.os, hbt.tape, hbt.output, hbt.size, fun k hk hM => hbt.block k hk fun e => hM ⟨pin 0, _, hX, by rw [hφ, e]; simp⟩⟩ (bk_own (Nat.zero_le _) hBY (Nat.le_trans (by rw [← hl]; exact List.length_filter_le _ _) hnc) hm hY1 hY2 rfl) hin (fun g' hg => by
        obtain rfl : b = g' := by simpa [Value.ownBlock] using hg
        exact ⟨.inl ⟨pin 0, _, hX, by rw [hφ]; simp⟩, hBY.lt⟩)⟩
end Go.Proofs.Ytghpeccaknhjiaa
