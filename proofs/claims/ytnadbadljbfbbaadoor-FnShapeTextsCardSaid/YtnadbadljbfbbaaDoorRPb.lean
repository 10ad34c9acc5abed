/- RgIn and ChkW. -/
import Derived.Test.YtnadbadljbfbbaaDoorRg
import Derived.RangeFuncNested
import Derived.RangeFuncCalls
import Derived.OrdersIn
import Derived.OwnWalkIn
import Derived.Test.YtnadbadljbfbbaaDoorBoil
import Derived.RangeFuncBound
import Derived.RangeFuncLeaves
import Derived.Shelf.RegionOpen
import Derived.WalkKit
import Derived.TacticsInMore
import Derived.LoopNIn
import Derived.LoopIn
import Derived.Maps.AppendAt
import Derived.Lib.Hide
namespace Go.Proofs.YtnadbadljbfbbaaDoor
open Go.RowKit
set_option maxRecDepth 20000
set_option maxHeartbeats 8000000
section
variable {P : Program} {ops : Array Oper} {Q : Exit → Act → World → Prop} {md : Region.Mode} {l0 m : Nat}
theorem wpIn_of_wp {o : Oper} (hnd : ∀ c, o.op ≠ .defer c) {a : Act} {w : World} {K : Act → World → Prop} (h : o.wp P a w K Q) : o.wpIn (Fence.wide.inRound l0) m P a w K Q := by
  refine ⟨fun _ _ => trivial, ?_⟩
  rw [Oper.semAt_eq _ _ _ hnd]
  unfold Oper.wp at h
  generalize (execOp a.eval o).run P w = r at *
  cases r with
  | ok n w' =>
    cases n <;> simp only [Oper.upon, Oper.uponIn] at h ⊢
    case value v => exact h
    case skip => exact h
    case defer d => exact h
    case enter f args => exact ⟨fun h' => by simp [Fence.wide] at h', CallsIn.inRound l0 (callsIn_wide.2 h)⟩
    case row r args => exact ⟨fun h' => by simp [Fence.wide] at h', fun c cs _ => let ⟨v, w', r, s⟩ := h c cs; ⟨v, w', r, stepsIn_wide.2 s⟩⟩
  | halt x w' => cases x <;> simp only [Oper.upon, Oper.uponIn] at h ⊢ <;> exact h
theorem wpAnyIn_of (hnd : ∀ (i : Nat) (o : Oper), ops[i]? = some o → ∀ c, o.op ≠ .defer c) (hout : LetsOut Q → False) : ∀ (fuel : Nat) (listed : Array Bool) (a : Act) (w : World), wpAny P md ops Q fuel listed a w → wpAnyIn (Fence.wide.inRound l0) m P md ops Q fuel listed a w := by
  intro fuel
  induction fuel with
  | zero => intro listed a w h; exact h
  | succ fuel ih =>
    intro listed a w h
    refine ⟨h.1, fun i hi => ?_⟩
    have h1 := h.2 i hi
    unfold wpOp at h1
    unfold wpOpIn
    cases ho : ops[i]? with
    | none =>
      rw [ho] at h1
      exact ih _ _ _ h1
    | some o =>
      rw [ho] at h1
      simp only at h1 ⊢
      split
      · rename_i hw
        rw [if_pos hw] at h1
        rcases h1 with h1 | ⟨_, h1⟩
        · exact Oper.wpIn_mono (fun a w h => ih _ a w h) (wpIn_of_wp (hnd i o ho) h1)
        · exact (hout h1).elim
      · rename_i hw
        rw [if_neg hw] at h1
        exact ⟨fun _ _ => trivial, ih _ _ _ h1⟩
end
section
variable {P : Program} {l : List Oper} {n : Nat} {a0 : Act} {w0 : World} {Q : Exit → Act → World → Prop} {l0 m : Nat}
/-- What is said of the values, one by one. -/
def rgA1 (L : List (Value → World → Prop)) (i : Nat) (_ : Nat → Prop) (v : Value) (w : World) : Prop := match L[i]? with
  | some p => p v w
  | none => True
/-- It stays said. -/
def StabI (p : Value → World → Prop) : Prop := ∀ v w w', Below w.heap.size w w' → p v w → p v w'
def AllStabI : List (Value → World → Prop) → Prop
  | [] => True
  | p :: ps => StabI p ∧ AllStabI ps
theorem AllStabI.get : ∀ {L : List (Value → World → Prop)}, AllStabI L → ∀ (i : Nat) (p : Value → World → Prop), L[i]? = some p → StabI p
  | [], _, i, p, h => by simp at h
  | q :: L, hs, 0, p, h => by simp at h; subst h; exact hs.1
  | q :: L, hs, i + 1, p, h => AllStabI.get hs.2 i p (by simpa using h)
theorem StabI.val (p : Value → Prop) : StabI fun v _ => p v := fun _ _ _ _ h => h
/-- THE REGION, in a round: each of the first n operations by itself; the others behind them, in order. -/
theorem wpIn_region_rgl {id : Nat} (n : Nat) (L : List (Value → World → Prop)) (hnd : ∀ (i : Nat) (o : Oper), l.toArray[i]? = some o → ∀ c, o.op ≠ .defer c) (hfl : l.all (fldOk P) = true) (hout : LetsOut Q → False) (hQ : ∀ c a t v w, Q (.panic c) (a.put (some t) v) w → Q (.panic c) a w) (hm : P.follows .mixedOrders = true) (hok : rgOk l n a0.tmps.size = true) (hst : AllStabI L)
    (hsteps : rgSteps P l n a0 w0 (rgA1 L) (fun _ _ => []) 0 l)
    (htail : ∀ (v : Nat → Value) (w : World), Below w0.heap.size w0 w → (∀ j, j < n → rgA1 L j (fun _ => False) (v j) w) → wpList P l.toArray Q (rgTl l n) (rgPut l a0 v n) w) :
    (Code.region id l.toArray true).wpIn (Fence.wide.inRound l0) m P Q a0 w0 := by
  have hT := rgText_of hok
  have hF : ∀ j d, (Array.replicate l.length false).getD j d = if j < l.length then false else d := fun j d => by
    by_cases h : j < l.length <;> simp [h]
  refine wpIn_region_any hm (wpAnyIn_of hnd hout _ _ _ _ ?_)
  have hsz : l.toArray.size = l.length := by simp
  rw [hsz]
  refine rgMain hfl hout hT rfl hQ (fun i G X v w w' _ hb _ h => by
    unfold rgA1 at *
    cases hp : L[i]? with
    | none => rw [hp] at h; trivial
    | some p => rw [hp] at h; exact hst.get i p hp v w w' hb h) hsteps (fun v w G hb _ hA => htail v w hb fun j hj => by
      have := hA j hj
      unfold rgA1 at *
      exact this) l.length _ a0 w0.drew (fun _ => undef) (fun _ => False) (by simp) ?_ ?_ ?_ (Below.drew (Below.refl _ _)) ⟨fun b h => h.elim, fun b h => h.elim, fun j hj hl => ?_, fun i j hi hj hl => ?_⟩ ?_ ?_
  · have : ∀ k, rgLeft (Array.replicate l.length false) k ≤ k := by
      intro k
      induction k with
      | zero => exact Nat.le_refl _
      | succ k ih => unfold rgLeft; split <;> omega
    have := this n
    have := hT.le
    omega
  · intro j _ hj; rw [hF, if_pos hj]
  · intro i hi hl; rw [hF, if_pos hi] at hl; cases hl
  · rw [hF] at hl; split at hl <;> cases hl
  · rw [hF] at hl; split at hl <;> cases hl
  · intro j hj hl; rw [hF] at hl; split at hl <;> cases hl
  · refine ⟨rfl, rfl, fun j d hj hl => ?_, fun _ _ => rfl⟩
    rw [hF] at hl; split at hl <;> cases hl
/-- THE REGION, outside of rounds. -/
theorem wp_region_rgl1 {id : Nat} (n : Nat) (L : List (Value → World → Prop)) (hfl : l.all (fldOk P) = true) (hout : LetsOut Q → False) (hQ : ∀ c a t v w, Q (.panic c) (a.put (some t) v) w → Q (.panic c) a w) (hm : P.follows .mixedOrders = true) (hok : rgOk l n a0.tmps.size = true) (hst : AllStabI L)
    (hsteps : rgSteps P l n a0 w0 (rgA1 L) (fun _ _ => []) 0 l)
    (htail : ∀ (v : Nat → Value) (w : World), Below w0.heap.size w0 w → (∀ j, j < n → rgA1 L j (fun _ => False) (v j) w) → wpList P l.toArray Q (rgTl l n) (rgPut l a0 v n) w) :
    (Code.region id l.toArray true).wp P Q a0 w0 :=
  wp_region_rg n (rgA1 L) (fun _ _ => []) hfl hout hQ hm hok (fun i G X v w w' _ hb _ h => by
    unfold rgA1 at *
    cases hp : L[i]? with
    | none => rw [hp] at h; trivial
    | some p => rw [hp] at h; exact hst.get i p hp v w w' hb h) hsteps (fun v w G hb _ hA => htail v w hb fun j hj => by
      have := hA j hj
      unfold rgA1 at *
      exact this)
end
attribute [local go_sem] Oper.semAt_some
/-- The cells of a slice of numbers in a world. -/
def ICells (W : World) (b off : Nat) (l : List Int) : Prop := ∀ (i : Nat) (n : Int), l[i]? = some n → W.cell? ⟨b, off + i, none⟩ = some (.int .i64 n)
/-- These blocks lie as they lay. -/
def KpC (n b : Nat) (W W' : World) : Prop := W.heap.size ≤ W'.heap.size ∧ ∀ k, (k < n ∨ k = b ∨ k = b + 1) → k < W.heap.size → W'.heap[k]? = W.heap[k]?
theorem KpC.refl (n b : Nat) (W : World) : KpC n b W W := ⟨Nat.le_refl _, fun _ _ _ => rfl⟩
theorem KpC.trans {n b : Nat} {W1 W2 W3 : World} (h : KpC n b W1 W2) (k : KpC n b W2 W3) : KpC n b W1 W3 :=
  ⟨Nat.le_trans h.1 k.1, fun i hi hl => (k.2 i hi (Nat.lt_of_lt_of_le hl h.1)).trans (h.2 i hi hl)⟩
theorem KpC.cell {n b : Nat} {W W' : World} (h : KpC n b W W') {p : Addr} {v : Value} (hp : p.block < n ∨ p.block = b ∨ p.block = b + 1) (hv : W.cell? p = some v) : W'.cell? p = some v := by
  have hl : p.block < W.heap.size := by
    obtain ⟨o, ho, _⟩ := cells_of_cell hv
    exact (Array.getElem?_eq_some_iff.1 ho).1
  exact (World.cell?_of_block (h.2 _ hp hl)).trans hv
theorem intOf_int (x : Int) : intOf (.int .i64 x) = x := rfl
--? slices.Chunk[[]int64,int64]$1
theorem chunkW1 (wd l Bs n₀ b off cap h n : Nat) (hwd : 1 ≤ wd ∧ wd ≤ 100) (hcs : n = wd * h) (hlen : n ≤ cap) (hcap : cap ≤ maxLen) (J Jx : List {k : Nat // k < h} → World → Prop) (hJd : ∀ pre W, J pre W → J pre W.drew)
    (hY : ∀ pre (x : {k : Nat // k < h}) W, J pre W → pre.length < h → YieldAt Fence.wide 8 Tryd.prog l #[.slice (some ⟨b, off + wd * x.1, none⟩) wd wd] W fun e W' =>
      (e = .returned (.bool true) ∧ J (pre ++ [x]) W' ∧ KpC n₀ Bs W W') ∨ (e = .returned (.bool false) ∧ Jx (pre ++ [x]) W'))
    (W : World) (hBs : W.cell? ⟨Bs, 0, none⟩ = some (.slice (some ⟨b, off, none⟩) n cap)) (hB2 : W.cell? ⟨Bs + 1, 0, none⟩ = some (.int .i64 wd)) (h0 : J [] W) :
    CallsIn Fence.wide 9 Tryd.prog 67 #[.func (.yield l) #[] #[], .pointer (some ⟨Bs, 0, none⟩), .pointer (some ⟨Bs + 1, 0, none⟩)] W fun e W' => (∃ v, e = .returned v) ∧
      ((∃ ys, ys.map (·.1) = List.range h ∧ J ys W') ∨ (∃ pre, True ∧ Jx pre W')) := by
  refine callsIn_of_wp Tryd.func67 rfl trivial ?_ rfl
  simp only [Tryd.ntmps67, List.size_toArray, List.length_cons, List.length_nil, Nat.reduceAdd, Nat.reduceSub, Array.replicate_succ, Array.replicate_zero, List.push_toArray, List.append_toArray, List.nil_append, List.cons_append]
  have hm : n ≤ maxLen := by omega
  gi_wp2
  gi_loopw [4] (fun i wr => ∃ (k : Nat) (z : Nat), k ≤ h ∧ z = wd * k ∧ i = .int .i64 z ∧ (∃ pre : List {k : Nat // k < h}, pre.map (·.1) = List.range k ∧ J pre wr) ∧ KpC n₀ Bs W wr)
    (fun i _ => (n - intOf i).toNat)
  case atStart => exact ⟨0, 0, Nat.zero_le _, rfl, rfl, ⟨[], rfl, h0⟩, KpC.refl _ _ _⟩
  case round =>
    obtain ⟨k, z, hk, hz, rfl, ⟨pre, hpre, hJs⟩, hnx⟩ := hrel
    have dB := hnx.cell (p := ⟨Bs, 0, none⟩) (.inr (.inl rfl)) hBs
    have dN := hnx.cell (p := ⟨Bs + 1, 0, none⟩) (.inr (.inr rfl)) hB2
    by_cases hkh : k < h
    · have hzw : z + wd = wd * (k + 1) := by rw [hz, Nat.mul_succ]
      have hzn : wd * (k + 1) ≤ n := by rw [hcs]; exact Nat.mul_le_mul_left _ hkh
      have hlt : z < n := by omega
      have hlp : pre.length < h := by
        have := congrArg List.length hpre
        simp at this
        omega
      have hle2 : z ≤ n := by omega
      have hc1 : z + wd ≤ cap := by omega
      have hc2 : z + wd ≤ n := by omega
      have hmin : (wd : Int) ≤ ((n - z : Nat) : Int) := by omega
      have hw2 : RowKit.wrap64 ((z : Int) + wd) = ((z + wd : Nat) : Int) := IntWalk.wrap64_in _ (by unfold maxLen at hm; omega)
      obtain ⟨fn, tmps, assign, body, hy, hR⟩ := hY pre ⟨k, hkh⟩ wr.drew (hJd _ _ hJs) hlp
      dsimp only at hy
      rw [show off + wd * k = off + z by rw [hz]] at hy
      have HZ := Lib.hid (show z + wd = wd * (k + 1) ∧ k + 1 ≤ h from ⟨hzw, hkh⟩)
      clear hz hcs hzw hzn
      clear hm hcap
      gi_wp2
      gi_region
      gi_wp2
      refine hR.mono ?_
      rintro e W3 (⟨rfl, hJ3, hk3⟩ | ⟨rfl, hJx3⟩)
      · have hk4 : KpC n₀ Bs wr W3 := hk3
        have dN3 := hk4.cell (p := ⟨Bs + 1, 0, none⟩) (.inr (.inr rfl)) dN
        gi_wp2
        go_roundw
        case rel => exact ⟨k + 1, z + wd, HZ.out.2, HZ.out.1, by rw [hw2], ⟨_, by rw [List.map_append, hpre, List.range_succ]; rfl, hJ3⟩, hnx.trans hk4⟩
        case measure =>
          show ((n : Int) - intOf (Value.int .i64 (RowKit.wrap64 ((z : Int) + wd)))).toNat < ((n : Int) - intOf (Value.int .i64 (z : Int))).toNat
          rw [intOf_int, intOf_int, hw2]
          clear hmin hw2
          omega
      · gi_wp2
        refine bodyPost_ret (results_none rfl _ _ _) rfl ?_
        exact ⟨⟨_, rfl⟩, .inr ⟨_, trivial, hJx3⟩⟩
    · obtain rfl : k = h := by omega
      have hlt : z = n := by rw [hz, hcs]
      subst hlt
      clear hcap hm
      gi_wp2
      go_end0
      exact ⟨⟨_, rfl⟩, .inl ⟨pre, hpre, hJs⟩⟩
theorem chunkW0 (l Bs : Nat) (a : Option Addr) (cap h : Nat) (hh : h = 0) (J : List {k : Nat // k < h} → World → Prop)
    (W : World) (hBs : W.cell? ⟨Bs, 0, none⟩ = some (.slice a 0 cap)) (h0 : J [] W) :
    CallsIn Fence.wide 9 Tryd.prog 67 #[.func (.yield l) #[] #[], .pointer (some ⟨Bs, 0, none⟩), .pointer (some ⟨Bs + 1, 0, none⟩)] W fun e W' => (∃ v, e = .returned v) ∧
      (∃ ys, ys.map (·.1) = List.range h ∧ J ys W') := by
  refine callsIn_of_wp Tryd.func67 rfl trivial ?_ rfl
  simp only [Tryd.ntmps67, List.size_toArray, List.length_cons, List.length_nil, Nat.reduceAdd, Nat.reduceSub, Array.replicate_succ, Array.replicate_zero, List.push_toArray, List.append_toArray, List.nil_append, List.cons_append]
  gi_wp2
  gi_loopw [4] (fun i wr => i = .int .i64 0 ∧ J [] wr ∧ wr.cell? ⟨Bs, 0, none⟩ = some (.slice a 0 cap)) (fun i _ => 0)
  case atStart => exact ⟨rfl, h0, hBs⟩
  case round =>
    obtain ⟨rfl, hJs, hB⟩ := hrel
    gi_wp2
    go_end0
    exact ⟨⟨_, rfl⟩, ⟨[], by rw [hh]; rfl, hJs⟩⟩
theorem chunkW_in (wd : Int) (hwd : 1 ≤ wd) (a : Option Addr) (len cap : Nat) (w : World) :
    CallsIn Fence.wide 9 Tryd.prog 45 #[.slice a len cap, .int .i64 wd] w fun e w' => e = .returned (.func (.func 67) #[] #[.pointer (some ⟨w.heap.size, 0, none⟩), .pointer (some ⟨w.heap.size + 1, 0, none⟩)]) ∧ w' = (w.alloc (.cells #[.slice a len cap] 22)).alloc (.cells #[.int .i64 wd] 3) := by
  refine callsIn_of_wp Tryd.func45 rfl trivial ?_ rfl
  simp only [Tryd.ntmps45, List.size_toArray, List.length_cons, List.length_nil, Nat.reduceAdd, Nat.reduceSub, Array.replicate_succ, Array.replicate_zero, List.push_toArray, List.append_toArray, List.nil_append, List.cons_append]
  gi_wp2
  go_ret
  exact ⟨rfl, rfl⟩
/-- The slice holds these numbers, in a block below n₀, or there are none. -/
def ISl (W : World) (n₀ : Nat) (v : Value) (cs : List Int) (b off : Nat) : Prop :=
  (cs = [] ∧ ∃ a cap, v = .slice a 0 cap) ∨ ∃ cap, v = .slice (some ⟨b, off, none⟩) cs.length cap ∧ b < n₀ ∧ cs.length ≤ cap ∧ cap ≤ maxLen ∧ ICells W b off cs
theorem chunkW_stops (wd Bs n₀ h b off : Nat) (sv : Value) (cs : List Int) (hwd : 1 ≤ wd ∧ wd ≤ 100) (hcs : cs.length = wd * h) (w : World) (hBs : Bs + 1 < w.heap.size)
    (hc : w.cell? ⟨Bs, 0, none⟩ = some sv) (hc2 : w.cell? ⟨Bs + 1, 0, none⟩ = some (.int .i64 wd)) (hI : ISl w n₀ sv cs b off) :
    SeqStopsK Fence.wide 9 Tryd.prog 67 #[.pointer (some ⟨Bs, 0, none⟩), .pointer (some ⟨Bs + 1, 0, none⟩)] (fun x : {k : Nat // k < h} => #[Value.slice (some ⟨b, off + wd * x.1, none⟩) wd wd]) (KpC n₀ Bs) (fun ys => ys.map (·.1) = List.range h) (fun _ => True) h w := fun l J Jx W hW hJ _ hY h0 => by
  have hc' := (hW.cell (p := ⟨Bs, 0, none⟩) (Nat.lt_of_succ_lt hBs)).trans hc
  have hc2' := (hW.cell (p := ⟨Bs + 1, 0, none⟩) hBs).trans hc2
  rcases hI with ⟨hp, a, cap, rfl⟩ | ⟨cap, rfl, _, h1, h2, _⟩
  · exact (chunkW0 l Bs a cap h (by rw [hp] at hcs; have h0 : wd * h = 0 := hcs.symm; rcases Nat.mul_eq_zero.1 h0 with h | h <;> omega) J W hc' h0).mono fun e W' ⟨he, hj⟩ => ⟨he, .inl hj⟩
  · exact chunkW1 wd l Bs n₀ b off cap h cs.length hwd hcs h1 h2 J Jx (fun pre W hj => hJ pre W W.drew none hj ⟨rfl, rfl, rfl, Nat.le_refl _, fun _ _ _ => rfl⟩ (fun r e => by cases e)) hY W hc' hc2' h0
end Go.Proofs.YtnadbadljbfbbaaDoor
