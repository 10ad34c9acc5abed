/- Txt4 and Txt5. -/
import Derived.Test.YtnadbadljbfbbaaDoorRPb
import Derived.Test.YtnadbadljbfbbaaDoorRPg
import Derived.Test.YtnadbadljbfbbaaDoorRPa
import Derived.Test.YtnadbadljbfbbaaDoorShB
namespace Go.Proofs.YtnadbadljbfbbaaDoor
open Go.RowKit
set_option maxRecDepth 20000
set_option maxHeartbeats 8000000
attribute [local go_sem] Oper.semAt_some
/-- A row's string. -/
def rowS (wd : Nat) (cs : List Int) (k : Nat) : ByteArray := bsOf (((cs.drop (wd * k)).take wd).map fun c => 97 + c)
/-- The bytes of the first k letters of a row. -/
def rowL (wd : Nat) (cs : List Int) (x k : Nat) : List UInt8 := (((cs.drop (wd * x)).take k).map fun c => 97 + c).map fun n => UInt8.ofNat n.toNat
theorem rowL_len (wd : Nat) (cs : List Int) (x k : Nat) : (rowL wd cs x k).length ≤ k := by
  simp [rowL]
  omega
theorem rowL_lim (wd : Nat) (cs : List Int) (x k : Nat) (h : k ≤ 1000) : (Lib.byteCells (rowL wd cs x k)).length + 1 ≤ 140737488355328 := by
  have := rowL_len wd cs x k
  rw [Lib.byteCells_length]
  omega
theorem rowL_cells {wd : Nat} {cs : List Int} {x k : Nat} {c : Int} (h : cs[wd * x + k]? = some c) (hc : 0 ≤ c ∧ c ≤ 5) : Lib.byteCells (rowL wd cs x (k + 1)) = Lib.byteCells (rowL wd cs x k) ++ [.int .u8 (97 + c)] := by
  have e : (cs.drop (wd * x))[k]? = some c := by rw [List.getElem?_drop]; exact h
  obtain ⟨m, rfl⟩ : ∃ m : Nat, c = m := ⟨c.toNat, by omega⟩
  have e2 : ((UInt8.ofNat (97 + (m : Int)).toNat).toNat : Int) = 97 + m := by
    have e3 : (97 + (m : Int)).toNat = 97 + m := by omega
    rw [e3, UInt8.toNat_ofNat']
    omega
  unfold rowL Lib.byteCells
  rw [List.take_add_one, e]
  simp only [List.map_append, Option.toList_some, List.map_cons, List.map_nil, e2]
theorem wpIn_append_own_at {F : Fence} {n : Nat} {P : Program} (w : World) {o : Oper} {a : Act} {Q : Exit → Act → World → Prop} {K : Act → World → Prop}
    (s x : Operand) (t : TypeId) (hop : o.op = Op.call { callee := Callee.builtin Builtin.append, args := #[s, x], argTypes := #[t, t] })
    (base : Nat) (e : TypeId) (i : TypeInfo) (z : Value) (size bytes : Nat) (h1 : P.underlying t = some (.slice e)) (h2 : P.info? e = some i) (h3 : i.zero = some z) (h4 : i.size = size) (h5 : i.bytes = bytes) (h6 : z.cells.size = size) (h7 : 0 < size)
    (v : Value) (k : Nat) (xs : List Value) (hs : a.eval s = v) (hown : w.ownsRow base e size v k xs) (ad : Addr) (m c : Nat) (news : List Value) (hx : a.eval x = .slice (some ad) m c) (hn : news.length = m * size)
    (hc : ∀ j u, news[j]? = some u → w.cell? (ad.add j) = some u) (h1c : ∀ u ∈ news, u.oneCell' = true) (b1 : k + m ≤ maxLen) (b2 : (k + m) * bytes ≤ 140737488355328) (b3 : base ≤ w.heap.size)
    (hK : ∀ v' w', w'.ownsRow base e size v' (k + m) (xs ++ news) → w.grownBy w' v.ownBlock → K (a.put o.dst v') w') : o.wpIn F n P a w K Q := by
  obtain ⟨v', w', hrun, r1, r2, _⟩ := run_append_own (P := P) w base t o.type e i z size bytes h1 h2 h3 h4 h5 h6 h7 v k xs hown ad m c news hn hc h1c b1 b2 b3
  unfold Oper.wpIn
  refine ⟨?_, ?_⟩
  · simp [Oper.about, hop, resolve, Target.leads, Sem.run_pure]
  · rw [Oper.semAt_plain F _ _ (by rw [hop]; intro c hc'; cases hc')]
    simp [execOp, hop, resolve, invoke, builtin, hs, hx, hrun, Result.andThen]
    exact hK _ _ r1 r2
theorem infoStr : (Tryd.prog.info? 9).map (fun i => (i.zero, i.size, i.bytes)) = some (some (.string ⟨#[]⟩), 1, 16) := by kernel_rfl
theorem patText1 (sv : Value) (a : Option Addr) (len cap : Nat) (hsv : sv = .slice a len cap) (cs : List Int) (wd h b off : Nat) (hwd : 1 ≤ wd ∧ wd ≤ 100) (hh1 : 1 ≤ h) (hcs : cs.length = wd * h) (hbits : ∀ c ∈ cs, 0 ≤ c ∧ c ≤ 5) (hlen : cs.length ≤ 1048576) (H : Int) (hjl : (Lib.join (((List.range h).map (rowS wd cs)).reverse.map (·.data.toList)) [47]).length ≤ 140737488355328) (w : World) (hI : ISl w w.heap.size sv cs b off) :
    CallsIn Fence.wide 10 Tryd.prog 23 #[.agg #[.int .i64 wd, .int .i64 H, sv]] w fun e W' => e = .returned (.string (joinB ((List.range h).map (rowS wd cs)).reverse ⟨#[47]⟩)) ∧ Below w.heap.size w W' := by
  subst hsv
  have hw1 : (1 : Int) ≤ wd := by omega
  refine callsIn_of_wp_marks Tryd.func23 rfl trivial ?_ rfl
  simp only [Tryd.ntmps23, List.size_toArray, List.length_cons, List.length_nil, Nat.reduceAdd, Nat.reduceSub, Array.replicate_succ, Array.replicate_zero, List.push_toArray, List.append_toArray, List.nil_append, List.cons_append]
  have p0 : ((w.alloc (.cells #[.int .i64 wd, .int .i64 H, .slice a len cap] 24)).alloc (.cells #[.slice none 0 0] 39)).cell? ⟨w.heap.size, 0, none⟩ = some (.int .i64 wd) := (World.cell?_alloc_past _ _ _ (by rw [World.size_alloc]; omega)).trans (World.cell?_alloc_new _ _ _ _)
  have p2 : ((w.alloc (.cells #[.int .i64 wd, .int .i64 H, .slice a len cap] 24)).alloc (.cells #[.slice none 0 0] 39)).cell? ⟨w.heap.size, 2, none⟩ = some (.slice a len cap) := (World.cell?_alloc_past _ _ _ (by rw [World.size_alloc]; omega)).trans (World.cell?_alloc_new _ _ _ _)
  gi_wp2_with (refine ⟨trivial, ?_⟩; gi_at_call 45; refine (chunkW_in _ hw1 _ _ _ _).mono ?_; rintro e w' ⟨rfl, rfl⟩)
  have bO := Boxed.new (w.alloc (.cells #[.int .i64 wd, .int .i64 H, .slice a len cap] 24)) 39 (.slice none 0 0)
  have bS := Boxed.new ((w.alloc (.cells #[.int .i64 wd, .int .i64 H, .slice a len cap] 24)).alloc (.cells #[.slice none 0 0] 39)) 22 (.slice a len cap)
  have bN := Boxed.new (((w.alloc (.cells #[.int .i64 wd, .int .i64 H, .slice a len cap] 24)).alloc (.cells #[.slice none 0 0] 39)).alloc (.cells #[.slice a len cap] 22)) 3 (.int .i64 wd)
  simp only [World.size_alloc] at bO bS bN
  have hB0 : Below w.heap.size w ((((w.alloc (.cells #[.int .i64 wd, .int .i64 H, .slice a len cap] 24)).alloc (.cells #[.slice none 0 0] 39)).alloc (.cells #[.slice a len cap] 22)).alloc (.cells #[.int .i64 wd] 3)) := ((((Below.refl _ w).alloc (Nat.le_refl _) _).alloc (by simp) _).alloc (by simp; omega) _).alloc (by simp; omega) _
  have hsz : ((((w.alloc (.cells #[.int .i64 wd, .int .i64 H, .slice a len cap] 24)).alloc (.cells #[.slice none 0 0] 39)).alloc (.cells #[.slice a len cap] 22)).alloc (.cells #[.int .i64 wd] 3)).heap.size = w.heap.size + 4 := by simp
  have bO2 := (bO.alloc (.cells #[.slice a len cap] 22)).alloc (.cells #[.int .i64 wd] 3)
  have bS2 := bS.alloc (.cells #[.int .i64 wd] 3)
  have hI2 : ISl ((((w.alloc (.cells #[.int .i64 wd, .int .i64 H, .slice a len cap] 24)).alloc (.cells #[.slice none 0 0] 39)).alloc (.cells #[.slice a len cap] 22)).alloc (.cells #[.int .i64 wd] 3)) w.heap.size (.slice a len cap) cs b off := by
    rcases hI with ⟨hp, a', cap', h⟩ | ⟨cap', h, hb, h1, h2, h3⟩
    · exact .inl ⟨hp, a', cap', h⟩
    · exact .inr ⟨cap', h, hb, h1, h2, fun i n hn => (hB0.cell (p := ⟨b, _, none⟩) hb).trans (h3 i n hn)⟩
  generalize (((w.alloc (.cells #[.int .i64 wd, .int .i64 H, .slice a len cap] 24)).alloc (.cells #[.slice none 0 0] 39)).alloc (.cells #[.slice a len cap] 22)).alloc (.cells #[.int .i64 wd] 3) = W0 at bO2 bS2 bN hB0 hsz hI2 ⊢
  clear bO bS p0 p2
  refine wpIn_rangeFunc_ownG rfl (by decide) (gf := 67) (lb := #[.pointer (some ⟨w.heap.size + 1 + 1, 0, none⟩), .pointer (some ⟨w.heap.size + 1 + 1 + 1, 0, none⟩)]) rfl trivial (enters_of Tryd.func67 (by kernel_rfl) rfl)
    (chunkW_stops wd (w.heap.size + 1 + 1) w.heap.size h b off (.slice a len cap) cs hwd hcs W0 (by omega) bS2.cell bN.cell hI2) (fun h k => h.trans k)
    (fun W l o o' hl _ _ _ => ⟨by simp, fun k hk _ => World.putObj_heap_other (by omega)⟩) (Below.refl _ _) (fun _ => rfl)
    (fun pre W => ((∃ v, Boxed W (w.heap.size + 1) 39 v ∧ W.ownsRow W0.heap.size 9 1 v pre.length (pre.map fun x => Value.string (rowS wd cs x.1)) ∧ True) ∧ Below w.heap.size w W) ∧ W0.heap.size ≤ W.heap.size)
    (fun _ _ _ => False)
    (OwnFrom.and (OwnFrom.and (Own.from (holdsRow_own W0.heap.size (w.heap.size + 1) 39 9 1 (fun pre : List {k : Nat // k < h} => pre.length) (fun pre => pre.map fun x => Value.string (rowS wd cs x.1)) (fun _ _ => True)) _) (ownFrom_below (Nat.le_refl _) (by omega))) (fun s X Y row hs hg _ => Nat.le_trans hs hg.size))
    (fun _ _ _ _ _ hs _ _ => hs)
    ⟨⟨⟨_, bO2, World.ownsRow_nil _ _ _ _, trivial⟩, hB0⟩, Nat.le_refl _⟩
    (fun x => { tmps := #[.agg #[.int .i64 wd, .int .i64 H, .slice a len cap], .pointer (some ⟨w.heap.size, 0, none⟩), .string ⟨#[]⟩, .pointer (some ⟨w.heap.size + 1, 0, none⟩), .slice (some ⟨b, off + wd * x.1, none⟩) wd wd, undef, undef, undef, .pointer (some ⟨w.heap.size, 2, none⟩), .slice a len cap, .pointer (some ⟨w.heap.size, 0, none⟩), .int .i64 wd, .func (.func 67) #[] #[.pointer (some ⟨w.heap.size + 1 + 1, 0, none⟩), .pointer (some ⟨w.heap.size + 1 + 1 + 1, 0, none⟩)], .slice (some ⟨b, off + wd * x.1, none⟩) wd wd, undef, undef, undef, undef, undef, undef, undef, undef, undef, undef, undef, undef, undef, undef, undef, undef, undef, undef, undef], defers := [] }) ?assign ?body ?done ?stop
  case assign =>
    intro l x W K hK
    gi_wp2
    exact hK
  case body =>
    rintro l pre x W1 ⟨⟨⟨u, hv, hrow, _⟩, hB1⟩, hWs⟩ hlt
    have hx2 := x.2
    rcases hI2 with ⟨hp, _⟩ | ⟨cap', _, hbl0, _, _, hcells⟩
    · have hpos := Nat.mul_le_mul hwd.1 hh1
      rw [hp] at hcs
      simp only [List.length_nil] at hcs
      omega
    have hbl : b < W1.heap.size := Nat.lt_of_lt_of_le hbl0 hB1.size
    have hcx : ∀ k, k < wd → ∃ c, cs[wd * x.1 + k]? = some c ∧ (0 ≤ c ∧ c ≤ 5) ∧ W1.cell? ⟨b, off + wd * x.1 + k, none⟩ = some (.int .i64 c) := fun k hk => by
      have hle : wd * (x.1 + 1) ≤ wd * h := Nat.mul_le_mul_left _ hx2
      rw [Nat.mul_succ] at hle
      have e0 : cs[wd * x.1 + k]? = some (cs[wd * x.1 + k]'(by omega)) := List.getElem?_eq_getElem (by omega)
      refine ⟨_, e0, hbits _ (List.mem_of_getElem? e0), ?_⟩
      rw [Nat.add_assoc]
      exact (hB1.cell (p := ⟨b, _, none⟩) hbl0).trans (((hB0.cell (p := ⟨b, _, none⟩) hbl0).symm).trans (hcells _ _ e0))
    have hmx1 : pre.length + 1 ≤ maxLen := by
      have : 1 * h ≤ wd * h := Nat.mul_le_mul_right _ hwd.1
      unfold maxLen
      omega
    have hmx2 : (pre.length + 1) * 16 ≤ 140737488355328 := by
      have : 1 * h ≤ wd * h := Nat.mul_le_mul_right _ hwd.1
      omega
    have hwd2 := hwd.2
    have hofs : ∀ k : Nat, off + wd * x.1 + k = off + wd * x.1 + k := fun _ => rfl
    clear hcells hI hbits hlen hlt hx2 hcs hjl
    gi_wp2_with fail
    gi_loopw [16] (fun i wr => ∃ k : Nat, k ≤ wd ∧ i = .int .i64 k ∧ Lib.IsBuilder 72 5 W1.heap.size W1.heap.size (Lib.byteCells (rowL wd cs x.1 k)) wr ∧ Below W1.heap.size W1 wr) (fun i _ => (wd - intOf i).toNat)
    case atStart => exact ⟨0, Nat.zero_le _, rfl, Lib.fresh_isBuilder 72 5 W1, (Below.refl _ W1).alloc (Nat.le_refl _) _⟩
    case round =>
      obtain ⟨k, hk, rfl, hIb, hBb⟩ := hrel
      by_cases hkw : k < wd
      · obtain ⟨c, hc, hcb, hcell⟩ := hcx k hkw
        have hk1000 : k ≤ 1000 := Nat.le_trans hk (Nat.le_trans hwd2 (by decide))
        have hcw := (hBb.cell (p := ⟨b, _, none⟩) hbl).trans hcell
        have hw1 : RowKit.wrap64 (97 + c) = 97 + c := IntWalk.wrap64_in _ (by omega)
        have hw2 : IntKind.wrap .u8 (97 + c) = 97 + c := wrapU8 ⟨by omega, by omega⟩
        have hw3 : RowKit.wrap64 ((k : Int) + 1) = ((k + 1 : Nat) : Int) := IntWalk.wrap64_in _ (by omega)
        have hW := Tryd.Builder_WriteByte W1.heap.size W1.heap.size _ (97 + c) wr hIb (rowL_lim wd cs x.1 k hk1000) hBb.size
        have hst := rowL_cells hc hcb
        have hkx := Lib.hid hk
        clear hk hmx1 hmx2 hcb hwd2
        gi_wp2_with (refine ⟨trivial, ?_⟩; gi_at_call 46; refine (CallsIn.inRound _ (callsIn_wide.2 hW)).mono ?_; rintro e w' ⟨rfl, hb1, hb2⟩)
        go_roundw
        case rel => exact ⟨k + 1, hkw, by rw [hw3], .inr (by rw [hst]; exact hb1), hBb.trans (hb2.mono (Nat.le_refl _))⟩
        case measure =>
          show ((wd : Int) - intOf (Value.int .i64 (RowKit.wrap64 ((k : Int) + 1)))).toNat < ((wd : Int) - intOf (Value.int .i64 (k : Int))).toNat
          rw [intOf_int, intOf_int, hw3]
          clear hw3
          omega
      · obtain rfl : wd = k := by omega
        have HM := Lib.hid (And.intro hmx1 hmx2)
        have hS := Tryd.Builder_String_any W1.heap.size W1.heap.size (rowL wd cs x.1 wd) wr.drew hIb hBb.size
        have hB2 : Below W1.heap.size W1 wr.drew := Below.drew hBb
        clear hmx1 hmx2 hwd2 hcx hIb hBb
        have bU : Boxed wr.drew (w.heap.size + 1) 39 u := (hB2.block _ hv.lt).trans hv
        have cU := bU.cell
        have hvl := hv.lt
        gi_wp2
        refine wpIn_region_any (by kernel_rfl) ?_
        change wpAnyIn _ _ _ _ _ _ _ _ _ wr.drew
        refine wpAnyIn_ready (rs := [0, 1]) (by kernel_rfl) (by simp) ?_
        refine AllReadyIn.cons rfl (fun K hK => ?_) (AllReadyIn.cons rfl (fun K hK => ?_) AllReadyIn.nil)
        · go_simp
          refine hK _ _ ?_
          clear hK K
          refine wpAnyIn_ready (rs := [1]) (by kernel_rfl) (by simp) ?_
          refine AllReadyIn.cons rfl (fun K hK => ?_) AllReadyIn.nil
          go_simp
          refine ⟨trivial, (CallsIn.inRound _ (callsIn_wide.2 hS)).mono ?_⟩
          rintro e W3 ⟨rfl, hb3⟩
          have bU3 : Boxed W3 (w.heap.size + 1) 39 u := (hb3.block _ hvl).trans bU
          have cU3 := bU3.cell
          refine hK _ _ ?_
          clear hK K
          refine wpAnyIn_ready (rs := [2]) (by kernel_rfl) (by simp) ?_
          refine AllReadyIn.cons rfl (fun K hK => ?_) AllReadyIn.nil
          go_simp
          refine hK _ _ ?_
          clear hK K
          have hb : Below W1.heap.size W1 (W3.alloc (.cells #[.string ⟨(rowL wd cs x.1 wd).toArray⟩] 9)) := (hB2.trans hb3).alloc (Nat.le_trans hB2.size hb3.size) _
          have b9 : (W3.alloc (.cells #[.string ⟨(rowL wd cs x.1 wd).toArray⟩] 9)).heap[W3.heap.size]? = some (.cells #[.string ⟨(rowL wd cs x.1 wd).toArray⟩] 9) := World.alloc_heap_new _ _
          have hv1 : Boxed (W3.alloc (.cells #[.string ⟨(rowL wd cs x.1 wd).toArray⟩] 9)) (w.heap.size + 1) 39 u := (hb.block _ hv.lt).trans hv
          generalize hg9 : W3.heap.size = g9 at *
          generalize W3.alloc (.cells #[.string ⟨(rowL wd cs x.1 wd).toArray⟩] 9) = w1 at *
          have G1 : W1.grownBy w1 none := ⟨hb.os, hb.tape, hb.output, hb.size, fun k hk _ => hb.block k hk⟩
          have hrow1 := hrow.kept G1 (by cases hu : u.ownBlock <;> simp)
          have hsz1 := hb.size
          obtain ⟨i0, hi, hz0, hz1, hz2⟩ := info_parts infoStr
          refine wpAnyIn_ready (rs := [3]) (by kernel_rfl) (by simp) ?_
          refine AllReadyIn.cons rfl (fun K hK => ?_) AllReadyIn.nil
          rw [if_pos (show Region.wanted _ _ = true from rfl)]
          refine wpIn_append_own_at _ (.tmp 25) (.tmp 27) 39 rfl W0.heap.size 9 i0 (.string ⟨#[]⟩) 1 16 Tryd.underlying39 hi hz0 hz1 hz2 rfl (by decide) u pre.length _ rfl hrow1 ⟨g9, 0, none⟩ 1 1 [.string ⟨(rowL wd cs x.1 wd).toArray⟩] rfl rfl (fun j y hj => by
            cases j with
            | zero => simp at hj; subst hj; simp [World.cell?, b9, Addr.add]
            | succ j => simp at hj) (by simp [Value.oneCell']) HM.1 HM.2 (Nat.le_trans hWs hsz1) ?_
          intro v' W2 hown' hgrow
          refine hK _ _ ?_
          clear hK K
          obtain ⟨g', cap', rfl⟩ := ownsRow_succ hown'
          have hv2 : Boxed W2 (w.heap.size + 1) 39 u := hv1.kept hgrow (hv1.not_row (by decide) hrow1)
          have cB := hv2.cell
          have fB := hv2.frozen
          have hrowne : ∀ j, u.ownBlock = some j → W0.heap.size ≤ j ∧ ∃ o : Obj, w1.heap[j]? = some o ∧ o.isCells = true := fun j ej => by
            rcases hrow1.2 with ⟨rfl, _⟩ | ⟨g, cp, cur, rfl, hg, hgb, _⟩
            · simp [Value.ownBlock] at ej
            · obtain rfl : g = j := by simpa [Value.ownBlock] using ej
              exact ⟨hg, _, hgb, rfl⟩
          refine wpAnyIn_ready (rs := [4]) (by kernel_rfl) (by simp) ?_
          refine AllReadyIn.cons rfl (fun K hK => ?_) AllReadyIn.nil
          go_simp
          refine hK _ _ ?_
          clear hK K
          refine wpAnyIn_done (by kernel_rfl) ?_ _
          gi_wp2
          refine ⟨?_, ?_, ⟨⟨_, hv2.set _, ?_, trivial⟩, ?_⟩, ?_⟩
          · exact (((KeepsOthers.of_grownBy G1 (fun j o e _ => by cases e)).trans (KeepsOthers.of_grownBy hgrow fun j o ej hj => by
              obtain ⟨_, o', ho', hc'⟩ := hrowne j ej
              rw [ho'] at hj; cases hj; exact hc')).trans (KeepsOthers.setCell _ _ _)).from _
          · refine ⟨Nat.le_trans hsz1 (Nat.le_trans hgrow.size (by simp)), fun k hk hl => ?_⟩
            have hk1 : k ≠ w.heap.size + 1 := by omega
            refine ((grownBy_setCell' W2 (w.heap.size + 1) _).block k (Nat.lt_of_lt_of_le hl (Nat.le_trans hsz1 hgrow.size)) (fun e => hk1 (by cases e; rfl))).trans ((hgrow.block k (Nat.lt_of_lt_of_le hl hsz1) (fun e => by have := (hrowne k e.symm).1; omega)).trans (hb.block k hl))
          · have := hown'.kept (grownBy_setCell' W2 (w.heap.size + 1) (.slice (some ⟨g', 0, none⟩) (pre.length + 1) cap')) (.inr (hv2.not_row (by decide) hown').symm)
            rw [List.length_append, List.map_append, List.map_singleton]
            exact this
          · exact ((hB1.trans (hb.mono hB1.size)).grown hgrow (Nat.le_trans hB1.size hsz1) (fun k e => by have := (hrowne k e).1; omega)).setCell (p := ⟨w.heap.size + 1, 0, none⟩) (by simp) _
          · exact Nat.le_trans hWs (Nat.le_trans hsz1 (Nat.le_trans hgrow.size (by simp)))
        · go_simp
          refine ⟨trivial, (CallsIn.inRound _ (callsIn_wide.2 hS)).mono ?_⟩
          rintro e W3 ⟨rfl, hb3⟩
          have bU3 : Boxed W3 (w.heap.size + 1) 39 u := (hb3.block _ hvl).trans bU
          have cU3 := bU3.cell
          refine hK _ _ ?_
          clear hK K
          refine wpAnyIn_ready (rs := [0, 2]) (by kernel_rfl) (by simp) ?_
          refine AllReadyIn.cons rfl (fun K hK => ?_) (AllReadyIn.cons rfl (fun K hK => ?_) AllReadyIn.nil)
          · go_simp
            refine hK _ _ ?_
            clear hK K
            refine wpAnyIn_ready (rs := [2]) (by kernel_rfl) (by simp) ?_
            refine AllReadyIn.cons rfl (fun K hK => ?_) AllReadyIn.nil
            go_simp
            refine hK _ _ ?_
            clear hK K
            have hb : Below W1.heap.size W1 (W3.alloc (.cells #[.string ⟨(rowL wd cs x.1 wd).toArray⟩] 9)) := (hB2.trans hb3).alloc (Nat.le_trans hB2.size hb3.size) _
            have b9 : (W3.alloc (.cells #[.string ⟨(rowL wd cs x.1 wd).toArray⟩] 9)).heap[W3.heap.size]? = some (.cells #[.string ⟨(rowL wd cs x.1 wd).toArray⟩] 9) := World.alloc_heap_new _ _
            have hv1 : Boxed (W3.alloc (.cells #[.string ⟨(rowL wd cs x.1 wd).toArray⟩] 9)) (w.heap.size + 1) 39 u := (hb.block _ hv.lt).trans hv
            generalize hg9 : W3.heap.size = g9 at *
            generalize W3.alloc (.cells #[.string ⟨(rowL wd cs x.1 wd).toArray⟩] 9) = w1 at *
            have G1 : W1.grownBy w1 none := ⟨hb.os, hb.tape, hb.output, hb.size, fun k hk _ => hb.block k hk⟩
            have hrow1 := hrow.kept G1 (by cases hu : u.ownBlock <;> simp)
            have hsz1 := hb.size
            obtain ⟨i0, hi, hz0, hz1, hz2⟩ := info_parts infoStr
            refine wpAnyIn_ready (rs := [3]) (by kernel_rfl) (by simp) ?_
            refine AllReadyIn.cons rfl (fun K hK => ?_) AllReadyIn.nil
            rw [if_pos (show Region.wanted _ _ = true from rfl)]
            refine wpIn_append_own_at _ (.tmp 25) (.tmp 27) 39 rfl W0.heap.size 9 i0 (.string ⟨#[]⟩) 1 16 Tryd.underlying39 hi hz0 hz1 hz2 rfl (by decide) u pre.length _ rfl hrow1 ⟨g9, 0, none⟩ 1 1 [.string ⟨(rowL wd cs x.1 wd).toArray⟩] rfl rfl (fun j y hj => by
              cases j with
              | zero => simp at hj; subst hj; simp [World.cell?, b9, Addr.add]
              | succ j => simp at hj) (by simp [Value.oneCell']) HM.1 HM.2 (Nat.le_trans hWs hsz1) ?_
            intro v' W2 hown' hgrow
            refine hK _ _ ?_
            clear hK K
            obtain ⟨g', cap', rfl⟩ := ownsRow_succ hown'
            have hv2 : Boxed W2 (w.heap.size + 1) 39 u := hv1.kept hgrow (hv1.not_row (by decide) hrow1)
            have cB := hv2.cell
            have fB := hv2.frozen
            have hrowne : ∀ j, u.ownBlock = some j → W0.heap.size ≤ j ∧ ∃ o : Obj, w1.heap[j]? = some o ∧ o.isCells = true := fun j ej => by
              rcases hrow1.2 with ⟨rfl, _⟩ | ⟨g, cp, cur, rfl, hg, hgb, _⟩
              · simp [Value.ownBlock] at ej
              · obtain rfl : g = j := by simpa [Value.ownBlock] using ej
                exact ⟨hg, _, hgb, rfl⟩
            refine wpAnyIn_ready (rs := [4]) (by kernel_rfl) (by simp) ?_
            refine AllReadyIn.cons rfl (fun K hK => ?_) AllReadyIn.nil
            go_simp
            refine hK _ _ ?_
            clear hK K
            refine wpAnyIn_done (by kernel_rfl) ?_ _
            gi_wp2
            refine ⟨?_, ?_, ⟨⟨_, hv2.set _, ?_, trivial⟩, ?_⟩, ?_⟩
            · exact (((KeepsOthers.of_grownBy G1 (fun j o e _ => by cases e)).trans (KeepsOthers.of_grownBy hgrow fun j o ej hj => by
                obtain ⟨_, o', ho', hc'⟩ := hrowne j ej
                rw [ho'] at hj; cases hj; exact hc')).trans (KeepsOthers.setCell _ _ _)).from _
            · refine ⟨Nat.le_trans hsz1 (Nat.le_trans hgrow.size (by simp)), fun k hk hl => ?_⟩
              have hk1 : k ≠ w.heap.size + 1 := by omega
              refine ((grownBy_setCell' W2 (w.heap.size + 1) _).block k (Nat.lt_of_lt_of_le hl (Nat.le_trans hsz1 hgrow.size)) (fun e => hk1 (by cases e; rfl))).trans ((hgrow.block k (Nat.lt_of_lt_of_le hl hsz1) (fun e => by have := (hrowne k e.symm).1; omega)).trans (hb.block k hl))
            · have := hown'.kept (grownBy_setCell' W2 (w.heap.size + 1) (.slice (some ⟨g', 0, none⟩) (pre.length + 1) cap')) (.inr (hv2.not_row (by decide) hown').symm)
              rw [List.length_append, List.map_append, List.map_singleton]
              exact this
            · exact ((hB1.trans (hb.mono hB1.size)).grown hgrow (Nat.le_trans hB1.size hsz1) (fun k e => by have := (hrowne k e).1; omega)).setCell (p := ⟨w.heap.size + 1, 0, none⟩) (by simp) _
            · exact Nat.le_trans hWs (Nat.le_trans hsz1 (Nat.le_trans hgrow.size (by simp)))
          · go_simp
            refine hK _ _ ?_
            clear hK K
            have cU4 := (bU3.alloc (.cells #[.string ⟨(rowL wd cs x.1 wd).toArray⟩] 9)).cell
            refine wpAnyIn_ready (rs := [0]) (by kernel_rfl) (by simp) ?_
            refine AllReadyIn.cons rfl (fun K hK => ?_) AllReadyIn.nil
            go_simp
            refine hK _ _ ?_
            clear hK K
            have hb : Below W1.heap.size W1 (W3.alloc (.cells #[.string ⟨(rowL wd cs x.1 wd).toArray⟩] 9)) := (hB2.trans hb3).alloc (Nat.le_trans hB2.size hb3.size) _
            have b9 : (W3.alloc (.cells #[.string ⟨(rowL wd cs x.1 wd).toArray⟩] 9)).heap[W3.heap.size]? = some (.cells #[.string ⟨(rowL wd cs x.1 wd).toArray⟩] 9) := World.alloc_heap_new _ _
            have hv1 : Boxed (W3.alloc (.cells #[.string ⟨(rowL wd cs x.1 wd).toArray⟩] 9)) (w.heap.size + 1) 39 u := (hb.block _ hv.lt).trans hv
            generalize hg9 : W3.heap.size = g9 at *
            generalize W3.alloc (.cells #[.string ⟨(rowL wd cs x.1 wd).toArray⟩] 9) = w1 at *
            have G1 : W1.grownBy w1 none := ⟨hb.os, hb.tape, hb.output, hb.size, fun k hk _ => hb.block k hk⟩
            have hrow1 := hrow.kept G1 (by cases hu : u.ownBlock <;> simp)
            have hsz1 := hb.size
            obtain ⟨i0, hi, hz0, hz1, hz2⟩ := info_parts infoStr
            refine wpAnyIn_ready (rs := [3]) (by kernel_rfl) (by simp) ?_
            refine AllReadyIn.cons rfl (fun K hK => ?_) AllReadyIn.nil
            rw [if_pos (show Region.wanted _ _ = true from rfl)]
            refine wpIn_append_own_at _ (.tmp 25) (.tmp 27) 39 rfl W0.heap.size 9 i0 (.string ⟨#[]⟩) 1 16 Tryd.underlying39 hi hz0 hz1 hz2 rfl (by decide) u pre.length _ rfl hrow1 ⟨g9, 0, none⟩ 1 1 [.string ⟨(rowL wd cs x.1 wd).toArray⟩] rfl rfl (fun j y hj => by
              cases j with
              | zero => simp at hj; subst hj; simp [World.cell?, b9, Addr.add]
              | succ j => simp at hj) (by simp [Value.oneCell']) HM.1 HM.2 (Nat.le_trans hWs hsz1) ?_
            intro v' W2 hown' hgrow
            refine hK _ _ ?_
            clear hK K
            obtain ⟨g', cap', rfl⟩ := ownsRow_succ hown'
            have hv2 : Boxed W2 (w.heap.size + 1) 39 u := hv1.kept hgrow (hv1.not_row (by decide) hrow1)
            have cB := hv2.cell
            have fB := hv2.frozen
            have hrowne : ∀ j, u.ownBlock = some j → W0.heap.size ≤ j ∧ ∃ o : Obj, w1.heap[j]? = some o ∧ o.isCells = true := fun j ej => by
              rcases hrow1.2 with ⟨rfl, _⟩ | ⟨g, cp, cur, rfl, hg, hgb, _⟩
              · simp [Value.ownBlock] at ej
              · obtain rfl : g = j := by simpa [Value.ownBlock] using ej
                exact ⟨hg, _, hgb, rfl⟩
            refine wpAnyIn_ready (rs := [4]) (by kernel_rfl) (by simp) ?_
            refine AllReadyIn.cons rfl (fun K hK => ?_) AllReadyIn.nil
            go_simp
            refine hK _ _ ?_
            clear hK K
            refine wpAnyIn_done (by kernel_rfl) ?_ _
            gi_wp2
            refine ⟨?_, ?_, ⟨⟨_, hv2.set _, ?_, trivial⟩, ?_⟩, ?_⟩
            · exact (((KeepsOthers.of_grownBy G1 (fun j o e _ => by cases e)).trans (KeepsOthers.of_grownBy hgrow fun j o ej hj => by
                obtain ⟨_, o', ho', hc'⟩ := hrowne j ej
                rw [ho'] at hj; cases hj; exact hc')).trans (KeepsOthers.setCell _ _ _)).from _
            · refine ⟨Nat.le_trans hsz1 (Nat.le_trans hgrow.size (by simp)), fun k hk hl => ?_⟩
              have hk1 : k ≠ w.heap.size + 1 := by omega
              refine ((grownBy_setCell' W2 (w.heap.size + 1) _).block k (Nat.lt_of_lt_of_le hl (Nat.le_trans hsz1 hgrow.size)) (fun e => hk1 (by cases e; rfl))).trans ((hgrow.block k (Nat.lt_of_lt_of_le hl hsz1) (fun e => by have := (hrowne k e.symm).1; omega)).trans (hb.block k hl))
            · have := hown'.kept (grownBy_setCell' W2 (w.heap.size + 1) (.slice (some ⟨g', 0, none⟩) (pre.length + 1) cap')) (.inr (hv2.not_row (by decide) hown').symm)
              rw [List.length_append, List.map_append, List.map_singleton]
              exact this
            · exact ((hB1.trans (hb.mono hB1.size)).grown hgrow (Nat.le_trans hB1.size hsz1) (fun k e => by have := (hrowne k e).1; omega)).setCell (p := ⟨w.heap.size + 1, 0, none⟩) (by simp) _
            · exact Nat.le_trans hWs (Nat.le_trans hsz1 (Nat.le_trans hgrow.size (by simp)))
  case done =>
    rintro D ys W hD hys ⟨⟨⟨v, hv, hrow, _⟩, hB1⟩, hWs⟩ hK
    have cO := hv.cell
    have hlen2 : ys.length = h := by
      have := congrArg List.length hys
      simpa using this
    obtain ⟨m, hm⟩ : ∃ m, ys.length = m + 1 := ⟨ys.length - 1, by omega⟩
    have hrow2 := hrow
    rw [hm] at hrow2
    obtain ⟨g, cp, rfl⟩ := ownsRow_succ hrow2
    have hzs : (ys.map fun x => Value.string (rowS wd cs x.1)) = ((List.range h).map (rowS wd cs)).map Value.string := by rw [List.map_map, ← hys, List.map_map]; rfl
    obtain ⟨_, ⟨_, hv0⟩ | ⟨g', cp', cur, he, hbase, hg, hnc, hcm, hcs2, htake⟩⟩ := hrow
    · omega
    rw [hm] at he
    cases he
    rw [hzs, hm] at htake
    have hgne : w.heap.size + 1 ≠ g := by omega
    have hgs : g < W.heap.size := (Array.getElem?_eq_some_iff.1 hg).1
    have hcp : m + 1 ≤ cp := by omega
    have hzl : ((List.range h).map (rowS wd cs)).length = m + 1 := by simp; omega
    have hH : Sort.Holds Value.string W g 0 ((List.range h).map (rowS wd cs)).toArray := fun j hj => by
      have hj' : j < m + 1 := by simpa [hzl] using hj
      have h1 : (cur.toList.take ((m + 1) * 1))[j]? = (((List.range h).map (rowS wd cs)).map Value.string)[j]? := by rw [htake]
      rw [List.getElem?_take_of_lt (by omega), Array.getElem?_toList, List.getElem?_map, List.getElem?_eq_getElem (by omega)] at h1
      refine ⟨?_, ?_⟩
      · unfold World.cell?
        rw [hg, Nat.zero_add]
        show cur[j]? = _
        rw [h1, List.getElem!_toArray, getElem!_pos _ j (by omega)]
        rfl
      · unfold World.frozen?
        rw [hg]
        simp
    have hh2 : h ≤ 1048576 := by
      have : 1 * h ≤ wd * h := Nat.mul_le_mul_right _ hwd.1
      omega
    have hln : ((List.range h).map (rowS wd cs)).length = m + 1 := by simp; omega
    have hR := Tryd.slices_Reverse Value.string (fun _ => rfl) g 0 cp ((List.range h).map (rowS wd cs)) W hH (by simp; omega)
    rw [hln] at hR
    have cO2 : ∀ n, (Sort.putRow Value.string (Sort.ahead W n) g 0 ((List.range h).map (rowS wd cs)).reverse.toArray).cell? ⟨w.heap.size + 1, 0, none⟩ = some (.slice (some ⟨g, 0, none⟩) (m + 1) cp) := fun n => (Sort.cell?_putRow_other _ _ _ _ _ _ (Or.inl hgne)).trans cO
    have hBn : ∀ n, Below w.heap.size w (Sort.putRow Value.string (Sort.ahead W n) g 0 ((List.range h).map (rowS wd cs)).reverse.toArray) := fun n => ⟨hB1.os, hB1.tape, hB1.output, by simp [Sort.putRow, Sort.mapBlock, Sort.ahead]; exact hB1.size, fun k hk => by
      simp only [Sort.putRow, Sort.mapBlock, Sort.ahead, Array.getElem?_modify]
      rw [if_neg (by omega)]
      exact hB1.block k hk⟩
    have hJ : ∀ n, Calls Tryd.prog 48 #[.slice (some ⟨g, 0, none⟩) (m + 1) cp, .string ⟨#[47]⟩] (Sort.putRow Value.string (Sort.ahead W n) g 0 ((List.range h).map (rowS wd cs)).reverse.toArray) fun e w' => e = .returned (.string (joinB ((List.range h).map (rowS wd cs)).reverse ⟨#[47]⟩)) ∧ Below (Sort.putRow Value.string (Sort.ahead W n) g 0 ((List.range h).map (rowS wd cs)).reverse.toArray).heap.size (Sort.putRow Value.string (Sort.ahead W n) g 0 ((List.range h).map (rowS wd cs)).reverse.toArray) w' := fun n => by
      have hj := Tryd.strings_Join g 0 cp ((List.range h).map (rowS wd cs)).reverse ⟨#[47]⟩ (Sort.putRow Value.string (Sort.ahead W n) g 0 ((List.range h).map (rowS wd cs)).reverse.toArray) (fun j x hx => by
        have hlj : j < ((List.range h).map (rowS wd cs)).reverse.toArray.size := by simpa using (List.getElem?_eq_some_iff.1 hx).1
        have h2 := (Sort.holds_putRow Value.string (Sort.ahead W n) g 0 ((List.range h).map (rowS wd cs)).toArray ((List.range h).map (rowS wd cs)).reverse.toArray hH (by simp) j hlj).1
        rw [h2, List.getElem!_toArray, List.getElem!_eq_getElem?_getD, hx]; rfl) (by simp [Sort.putRow, Sort.mapBlock, Sort.ahead]; exact hgs) (by simp; omega) (by simp; omega) hjl
      rw [List.length_reverse, hzl] at hj
      exact hj
    have hDg : D ≠ g := fun e => by rw [e, hg] at hK; cases hK
    have hDl : D < W.heap.size := (Array.getElem?_eq_some_iff.1 hK).1
    have hKn : ∀ n, (Sort.putRow Value.string (Sort.ahead W n) g 0 ((List.range h).map (rowS wd cs)).reverse.toArray).heap[D]? = W.heap[D]? := fun n => by
      simp only [Sort.putRow, Sort.mapBlock, Sort.ahead, Array.getElem?_modify]
      rw [if_neg fun e => hDg e.symm]
    have hzn : ∀ n, (Sort.putRow Value.string (Sort.ahead W n) g 0 ((List.range h).map (rowS wd cs)).reverse.toArray).heap.size = W.heap.size := fun n => by simp [Sort.putRow, Sort.mapBlock, Sort.ahead]
    generalize ((List.range h).map (rowS wd cs)).reverse.toArray = RV at *
    clear hH hrow2 htake hg hzs hcs hbits hlen hln hzl hjl
    gi_wp2_with (first | (refine ⟨trivial, ?_⟩; gi_at_call 39; refine (callsIn_wide.2 hR).mono ?_; rintro e w' ⟨rfl, n, rfl⟩; replace cO2 := cO2 n; replace hJ := hJ n; replace hKn := hKn n; replace hBn := hBn n; replace hzn := hzn n) | (refine ⟨trivial, ?_⟩; gi_at_call 48; refine (callsIn_wide.2 hJ).mono ?_; rintro e w' ⟨rfl, hbl⟩))
    rename_i W9
    have hK' := (hbl.block D (by rw [hzn]; exact hDl)).trans (hKn.trans hK)
    refine ⟨by simp, .inl ⟨_, _, rfl, run_takeDeferred hK', ?_⟩⟩
    exact ⟨_, results_tmp rfl _ _ _, rfl, (hBn.trans (hbl.mono hBn.size)).trans (belowK_b (w := w) (Nat.le_refl _) _ D _ _ (by omega) hK' rfl rfl)⟩
  case stop =>
    rintro D c pre W _ _ h _
    exact h.elim
/-- A number as a byte. -/
def u8N (n : Int) : UInt8 := UInt8.ofNat n.toNat
theorem join_cons2 (x sep : List UInt8) : ∀ r : List (List UInt8), r ≠ [] → Lib.join (x :: r) sep = x ++ (sep ++ Lib.join r sep)
  | [], h => (h rfl).elim
  | y :: r, _ => by rw [Lib.join_cons, Lib.join_cons]; simp [Lib.joinTail]
theorem txt_join (p : TPattern) (h : Nat) (hH : p.fHeight = h) : ∀ r, r ≤ h → (txtB p h).map u8N = (txtB p (h - r)).map u8N ++ Lib.join (((List.range r).map fun (k : Nat) => (rowB p k p.fWidth.toNat).map u8N).reverse) [47]
  | 0, _ => by
    rw [Nat.sub_zero, List.range_zero, List.map_nil, List.reverse_nil, Lib.join_nil, List.append_nil]
  | r + 1, hr => by
    rw [txt_join p h hH r (by omega)]
    obtain ⟨m, hm⟩ : ∃ m, h - r = m + 1 := ⟨h - r - 1, by omega⟩
    have hm2 : h - (r + 1) = m := by omega
    have hmr : p.fHeight - 1 - (m : Int) = (r : Int) := by omega
    rw [hm, hm2, txtB, hmr, List.range_succ]
    simp only [List.map_append, List.reverse_append]
    simp only [List.map_cons, List.map_nil, List.reverse_cons, List.reverse_nil, List.nil_append, List.cons_append, List.append_assoc]
    by_cases h0 : r = 0
    · subst h0
      rw [if_neg (by decide)]
      simp only [List.range_zero, List.map_nil, List.reverse_nil, Lib.join_nil, Lib.join_one, List.append_nil]
    · rw [if_pos (by omega), join_cons2 _ _ _ (fun e => h0 (by simpa using congrArg List.length e))]
      rfl
theorem rowB_eq {p : TPattern} {wd h k : Nat} (hW : p.fWidth = wd) (hl : p.fCells.length = wd * h) (hk : k < h) : rowB p k p.fWidth.toNat = ((p.fCells.drop (wd * k)).take wd).map fun c => 97 + c := by
  have hle : wd * (k + 1) ≤ wd * h := Nat.mul_le_mul_left _ hk
  rw [Nat.mul_succ] at hle
  rw [hW, Int.toNat_natCast]
  unfold rowB
  apply List.ext_getElem?
  intro i
  by_cases hi : i < wd
  · have hc : ((k : Int) * p.fWidth + (i : Int)) = ((wd * k + i : Nat) : Int) := by rw [hW, Int.mul_comm]; simp
    have hin : wd * k + i < p.fCells.length := by omega
    rw [List.getElem?_map, List.getElem?_range hi, List.getElem?_map, List.getElem?_take_of_lt hi, List.getElem?_drop, List.getElem?_eq_getElem hin]
    simp only [Option.map_some]
    rw [hc, Int.toNat_natCast, List.getD, List.getElem?_eq_getElem hin]
    rfl
  · rw [List.getElem?_eq_none (by simp; omega), List.getElem?_eq_none (by simp; omega)]
theorem txt_rows {p : TPattern} {wd h : Nat} (hW : p.fWidth = wd) (hH : p.fHeight = h) (hl : p.fCells.length = wd * h) : (txtB p h).map u8N = Lib.join (((List.range h).map (rowS wd p.fCells)).reverse.map (·.data.toList)) [47] := by
  rw [txt_join p h hH h (Nat.le_refl _), Nat.sub_self, txtB, List.map_nil, List.nil_append, List.map_reverse, List.map_map]
  congr 2
  refine List.map_congr_left fun k hk => ?_
  rw [rowB_eq hW hl (List.mem_range.1 hk)]
  rfl
theorem fPT_join {p : TPattern} (h : okPat p) {wd hh : Nat} (hW : p.fWidth = wd) (hH : p.fHeight = hh) (hl : p.fCells.length = wd * hh) : fPT p = joinB ((List.range hh).map (rowS wd p.fCells)).reverse ⟨#[47]⟩ := by
  rw [show fPT p = bsOf (txtB p p.fHeight.toNat) from if_pos h, hH, Int.toNat_natCast]
  unfold joinB
  rw [← txt_rows hW hH hl]
  rfl
theorem iPatText (p : TPattern) (h : okPat p) : Spec Tryd.prog 23 [.agg (enPattern p)] (oS (fPT p)) := by
  have hok := h
  obtain ⟨hW, hH, hl, hcs⟩ := h
  obtain ⟨wd, hwd⟩ : ∃ n : Nat, p.fWidth = n := ⟨p.fWidth.toNat, by omega⟩
  obtain ⟨hh, hhh⟩ : ∃ n : Nat, p.fHeight = n := ⟨p.fHeight.toNat, by omega⟩
  have hln : p.fCells.length = wd * hh := by
    rw [hwd, hhh] at hl
    have : ((p.fCells.length : Nat) : Int) = ((wd * hh : Nat) : Int) := by rw [hl]; simp
    omega
  have hwh : wd * hh ≤ 10 * 10 := Nat.mul_le_mul (by omega) (by omega)
  have hF := fPT_join hok hwd hhh hln
  have htx := txt_rows hwd hhh hln
  have htl := txtB_len (p := p) (m := hh)
  have htl2 : hh * (p.fWidth.toNat + 1) ≤ 10 * 11 := Nat.mul_le_mul (by omega) (by omega)
  have hjl : (Lib.join (((List.range hh).map (rowS wd p.fCells)).reverse.map (·.data.toList)) [47]).length ≤ 140737488355328 := by
    rw [← htx, List.length_map]
    omega
  have hsz : okI (.string (fPT p)) := by
    rw [hF]
    show ((Lib.join _ _).toArray).size ≤ maxLen
    rw [List.size_toArray]
    unfold maxLen
    exact Nat.le_trans hjl (by decide)
  refine ⟨callFunc_enter Tryd.func23 rfl (by simp [Tryd.f23]), fun w R ι φ vs hR hFs ho => ?_⟩
  cases hFs with | cons h1 h2 =>
  cases h2
  obtain ⟨us, rfl, hus⟩ := h1
  cases hus with | cons u1 hus => cases hus with | cons u2 hus => cases hus with | cons u3 hus =>
  cases hus
  rename_i v1 v2 v
  cases u1; cases u2
  have h1 : RD w R v (.rd kI (ints p.fCells)) := u3
  obtain ⟨a, len, cap, rfl⟩ : ∃ a len cap, v = .slice a len cap := by
    generalize ints p.fCells = xs at h1
    cases h1
    · exact ⟨_, _, _, rfl⟩
    · exact ⟨_, _, _, rfl⟩
  obtain ⟨b, off, hI⟩ : ∃ b off, ISl w w.heap.size (.slice a len cap) p.fCells b off := by
    generalize hxs : ints p.fCells = xs at h1
    cases h1 with
    | nil => exact ⟨0, 0, .inl ⟨List.map_eq_nil_iff.1 hxs, _, _, rfl⟩⟩
    | rd c g0 g1 g2 gR gk gc gr =>
      have hl : xs.length = p.fCells.length := by rw [← hxs]; simp
      refine ⟨_, _, .inr ⟨_, by rw [hl], hR _ gR, by omega, g2, fun i n hn => ?_⟩⟩
      have hx : xs[i]? = some (enI n) := by rw [← hxs, List.getElem?_map, hn]; rfl
      have e1 := gc i _ 0 hx (by decide)
      have e2 := gr i _ 0 _ hx rfl
      generalize c i 0 = u at e1 e2
      cases e2
      have e3 : ∀ o : Nat, o + i * kI.k + 0 = o + i := fun o => by show o + i * 1 + 0 = o + i; omega
      rw [e3] at e1
      exact e1
  have hcalls := callsIn_wide.1 (patText1 _ a len cap rfl p.fCells wd hh b off (by omega) (by omega) hln hcs (by omega) p.fHeight hjl w hI)
  rw [← hwd, ← hF] at hcalls
  refine hcalls.mono ?_
  rintro e w1 ⟨rfl, hbl⟩
  have hn : ∀ o x, frO [] o = some x → False := fun o x h => by simp [frO] at h
  have hO : ObjsOk w1 R ι φ (frO []) := ⟨fun o x h => (hn o x h).elim, fun o x h => (hn o x h).elim, fun o p x y g h => (hn o x h).elim, ho.2.2.2.keep (fun _ h => h) fun b hb => hbl.block b (hR b hb)⟩
  refine ⟨.string (fPT p), rfl, R, ι, φ, BelowM.of_below hbl, fun b h => h, fun b h => Nat.lt_of_lt_of_le (hR b h) hbl.size, fun b h _ => .inl h, RA.of_pv rfl hsz, hO, fun g h => ?_, fun o h => rfl⟩
  obtain ⟨o, x, h, _⟩ := h
  exact (hn o x h).elim
end Go.Proofs.YtnadbadljbfbbaaDoor
