/- The text of damage: the program. -/
import Derived.Test.YtnkfbodolbfjpaaDoorDmA
import Derived.Test.YtnkfbodolbfjpaaDoorCfg1
import Derived.Test.YtnkfbodolbfjpaaDoorCfg2
namespace Go.Proofs.YtnkfbodolbfjpaaDoor
open Go.RowKit
set_option maxRecDepth 100000 in
def S.s33 : SC := (.seq (.reg [⟨(.some 1), .none, .false, (.box 72 (.tmp 0))⟩, ⟨(.some 2), .none, .false, (.mv (.const (Go.Value.bool false)))⟩]) (.seq (.reg [⟨(.some 3), .none, .false, (.ld .true 2 (.tmp 1))⟩, ⟨(.some 4), .none, .false, (.call (.func 34) [(.tmp 3)])⟩, ⟨(.some 5), .none, .false, (.not (.tmp 4))⟩, ⟨(.some 2), .none, .false, (.mv (.tmp 5))⟩]) .ret))
set_option maxRecDepth 100000 in
theorem S.ok33 : stripF Tryd.prog Tryd.f33 = some S.s33 := by kernel_rfl
set_option maxRecDepth 100000
set_option maxHeartbeats 8000000
/-- A contract whose result is data, at a world. -/
theorem spec_call {P : Program} {k : FuncId} {args : List VD} {d : D} (h : Spec P k args (.v (.c (.fz d)))) {W : World} {R : Nat → Prop} {vs : List Value} (hR : ∀ b, R b → b < W.heap.size) (hT : TabW W R) (hF : F2 (RVD W R) vs args) :
    Calls P k vs.toArray W fun e W' => ∃ v, e = .returned v ∧ Below W.heap.size W W' ∧ ∃ R' : Nat → Prop, (∀ b, R b → R' b) ∧ (∀ b, R' b → b < W'.heap.size) ∧ RD W' R' v d := by
  have hF' : ∀ {vs : List Value} {args : List VD}, F2 (RVD W R) vs args → F2 (RV1 W R (fun _ => undef) (domO (frO []))) vs (args.map VD.v1) := fun h => by
    induction h with
    | nil => exact .nil
    | cons h1 _ ih =>
      refine .cons ?_ ih
      rename_i v x _ _ _
      cases x with
      | c y => exact h1
      | agg ys => obtain ⟨us, e, h2⟩ := h1; exact ⟨us, e, F2.map_right (f := B.d) (fun _ _ h => h) h2⟩
  refine (h.2 W R (fun _ => undef) (fun _ => []) vs hR (hF' hF) ⟨fun o x h => (by cases h), fun o x h => (by cases h), fun o p x y g h => (by cases h), hT⟩).mono fun e W' => ?_
  rintro ⟨v, rfl, R', ι', φ', hb, hs, hz, _, hra, _⟩
  exact ⟨v, rfl, hb.below (fun g ⟨o, x, h, _⟩ => by cases h), R', hs, hz, hra⟩
theorem tabW_of {w : World} (h : Tab10 w) : TabW w (· < w.heap.size) := by
  have hp := h.pos
  have hg : Tryd.prog.globalNamed "internal/strconv.uint64pow10" = some 0 := by kernel_rfl
  unfold Tab10 Lib.TabIs World.var? at h
  rw [hg] at h
  simp only [Option.bind_some] at h
  intro x hx
  obtain rfl : x = (0, 0) := by simpa [tabG] using hx
  cases ho : w.heap[0]? with
  | none => rw [ho] at h; cases h
  | some ob =>
    rw [ho] at h
    cases ob <;> first | (cases h; done) | skip
    rename_i cs T p
    exact ⟨hp, cs, T, p, ho, (Option.some.inj h).trans rfl⟩
/-- A point's text, at a world. -/
theorem ptC {p : TPoint} (h : okP p) (w : World) (ht : Tab10 w) : Calls Tryd.prog 36 #[.agg #[.int .i64 p.fX, .int .i64 p.fY]] w fun e w' => e = .returned (.string (bA (ptL p))) ∧ Below w.heap.size w w' := by
  have hx : okI (.int .i64 p.fX) := by
    show (Lit.int .i64 p.fX).wf = true
    rw [wf_iff]
    simp [IntKind.min, IntKind.max, IntKind.signed, IntKind.bits]
    have := (okP_64 h).1
    omega
  have hy : okI (.int .i64 p.fY) := by
    show (Lit.int .i64 p.fY).wf = true
    rw [wf_iff]
    simp [IntKind.min, IntKind.max, IntKind.signed, IntKind.bits]
    have := (okP_64 h).2
    omega
  refine (spec_call (iPointText h) (R := (· < w.heap.size)) (vs := [.agg #[.int .i64 p.fX, .int .i64 p.fY]]) (fun _ h => h) (tabW_of ht) (.cons ⟨[.int .i64 p.fX, .int .i64 p.fY], rfl, .cons (.pv rfl hx) (.cons (.pv rfl hy) .nil)⟩ .nil)).mono fun e w' => ?_
  rintro ⟨v, rfl, hb, R', _, _, hr⟩
  have hr : RD w' R' v (.pv (.string (bA (ptL p)))) := hr
  cases hr
  exact ⟨rfl, hb⟩
theorem Tab10.belowB {w w' : World} {B : Nat} (h : Tab10 w) (hB : 0 < B) (hb : Below B w w') : Tab10 w' := by
  have hg : Tryd.prog.globalNamed "internal/strconv.uint64pow10" = some 0 := by kernel_rfl
  unfold Tab10 Lib.TabIs World.var? at h ⊢
  rw [hg] at h ⊢
  simp only [Option.bind_some] at h ⊢
  rw [hb.block _ hB]
  exact h
/-- Where the points lie. -/
def PtRow (w : World) (a : Option Addr) (gb off : Nat) (l : List TPoint) (B : Nat) : Prop := ∀ (k : Nat) (p : TPoint), l[k]? = some p → a = some ⟨gb, off, none⟩ ∧ gb < B ∧ w.cell? ⟨gb, off + k * 2, none⟩ = some (.int .i64 p.fX) ∧ w.cell? ⟨gb, off + k * 2 + 1, none⟩ = some (.int .i64 p.fY)
theorem ptRow_of {w : World} {R : Nat → Prop} {B : Nat} (hR : ∀ b, R b → b < B) {pv : Value} {l : List TPoint} (h : RD w R pv (.rd kPoint (l.map enPoint))) : ∃ a cap gb off, pv = .slice a l.length cap ∧ PtRow w a gb off l B := by
  generalize hxs : l.map enPoint = xs at h
  cases h with
  | nil =>
    obtain rfl : l = [] := List.map_eq_nil_iff.1 hxs
    exact ⟨_, _, 0, 0, rfl, fun k p hp => by cases hp⟩
  | rd cc g0 g1 g2 gR gk gc gr =>
    have hln : xs.length = l.length := by rw [← hxs]; simp
    rename_i b0 off0 cap0
    refine ⟨some ⟨b0, off0, none⟩, cap0, b0, off0, by rw [hln], fun k p hp => ?_⟩
    have hx : xs[k]? = some (enPoint p) := by rw [← hxs, List.getElem?_map, hp]; rfl
    have e1 := gc k _ 0 hx (by decide)
    have e2 := gc k _ 1 hx (by decide)
    have r1 := gr k _ 0 _ hx rfl
    have r2 := gr k _ 1 _ hx rfl
    generalize cc k 0 = u1 at e1 r1
    generalize cc k 1 = u2 at e2 r2
    cases r1
    cases r2
    exact ⟨rfl, hR _ gR, e1, e2⟩
theorem PtRow.keep {w w' : World} {a : Option Addr} {gb off : Nat} {l : List TPoint} {B : Nat} (h : PtRow w a gb off l B) (hb : Below B w w') : PtRow w' a gb off l B := fun k p hp => by
  obtain ⟨h1, h2, h3, h4⟩ := h k p hp
  exact ⟨h1, h2, (hb.cell (p := ⟨gb, _, none⟩) h2).trans h3, (hb.cell (p := ⟨gb, _, none⟩) h2).trans h4⟩
theorem app32 (x : List UInt8) : (⟨#[32]⟩ : ByteArray) ++ bA x = bA (32 :: x) := by
  rw [show (⟨#[32]⟩ : ByteArray) = bA [32] from rfl, bA_app]
  rfl
theorem wr_lim {bs word : List UInt8} {l : List TPoint} (hbs : bs.length ≤ 200000000) (hwd : word.length ≤ 100) (hal : ∀ p ∈ l, okP p) (hl : l.length ≤ 1048576) (k : Nat) {s : ByteArray} (hs : s.size ≤ 100) : (Lib.byteCells (bs ++ word ++ ptsL (l.take k))).length + s.size ≤ 140737488355328 := by
  have h1 := ptsL_len (l := l.take k) fun p hp => hal p (List.mem_of_mem_take hp)
  have h2 : (l.take k).length ≤ 1048576 := by rw [List.length_take]; omega
  rw [Lib.byteCells_length]
  simp only [List.length_append]
  omega
theorem wr1 (word : List UInt8) (hwd : word.length ≤ 100) (a : Option Addr) (cap gb off : Nat) (l : List TPoint) (hal : ∀ p ∈ l, okP p) (hl : l.length ≤ 1048576) (b B : Nat) (bs : List UInt8) (hbs : bs.length ≤ 200000000) (w : World) (hc : PtRow w a gb off l B) (hT : Tab10 w) (hg : 0 < B) (hI : Lib.IsBuilder 59 5 B b (Lib.byteCells bs) w) (hBw : B ≤ w.heap.size) :
    Calls Tryd.prog 35 #[.string (bA word), .slice a l.length cap, .pointer (some ⟨b, 0, none⟩)] w fun e w' => e = .returned (.tuple #[]) ∧ Lib.BuilderAt 59 5 B b (.pointer (some ⟨b, 0, none⟩)) (Lib.byteCells (bs ++ word ++ ptsL l)) w' ∧ Below B w w' := by
  have Hl0 : Hid ((Lib.byteCells bs).length + (bA word).size ≤ 140737488355328) := Lib.hid (by rw [Lib.byteCells_length, bA_size]; omega)
  go_enter Tryd.func35, Tryd.ntmps35
  go_wp2_with (go_at_call 24; refine (Tryd.Builder_WriteString B b _ _ _ hI Hl0.out hBw).mono ?_; rintro e w1 ⟨rfl, hI1, hb1⟩)
  have hI1 : Lib.BuilderAt 59 5 B b (.pointer (some ⟨b, 0, none⟩)) (Lib.byteCells (bs ++ word ++ ptsL (l.take 0))) w1 := by
    rw [List.take_zero, show ptsL [] = [] from rfl, List.append_nil, ← cells_in (l := bs) (l' := bs ++ word) (s := bA word) rfl rfl]
    exact hI1
  clear hI Hl0
  go_loopw [11] (fun i wr => ∃ k : Nat, k ≤ l.length ∧ i = .int .i64 k ∧ Lib.BuilderAt 59 5 B b (.pointer (some ⟨b, 0, none⟩)) (Lib.byteCells (bs ++ word ++ ptsL (l.take k))) wr ∧ Below B w wr) (fun i _ => (l.length - intOf i).toNat)
  case atStart => exact ⟨0, Nat.zero_le _, rfl, hI1, hb1⟩
  case round =>
    obtain ⟨k, hk, rfl, hIb, hBb⟩ := hrel
    clear hI1 hb1
    by_cases hkl : k < l.length
    · obtain ⟨p, hp⟩ : ∃ p, l[k]? = some p := ⟨_, List.getElem?_eq_getElem hkl⟩
      have hok := hal p (List.mem_of_getElem? hp)
      have hpl := ptL_len hok
      obtain ⟨rfl, hgb, e1, e2⟩ := (hc.keep hBb) k p hp
      have hw3 : RowKit.wrap64 ((k : Int) + 1) = ((k + 1 : Nat) : Int) := IntWalk.wrap64_in _ (by omega)
      have hz1 : ¬ 9223372036854775807 < 1 + (bA (ptL p)).size := by rw [bA_size]; omega
      have Hl1 := Lib.hid (wr_lim hbs hwd hal hl k (s := (⟨#[32]⟩ : ByteArray) ++ bA (ptL p)) (by rw [app32, bA_size, List.length_cons]; omega))
      have hsuc := ptsL_snoc hp
      have hkx := Lib.hid (And.intro hk hkl)
      have hcx := Lib.hid (And.intro hc (And.intro hl hbs))
      clear hc hl hbs hpl hk
      have hBa : Below B w (wr.alloc (.cells #[.int .i64 p.fX, .int .i64 p.fY] 72)) := hBb.alloc (by have := hBb.size; omega) _
      have hTa := hT.belowB hg hBa
      have hIa := BuilderAt.below hIb ((Below.refl _ wr).alloc (Nat.le_refl _) (.cells #[.int .i64 p.fX, .int .i64 p.fY] 72))
      have hP := ptC hok _ hTa
      clear hTa
      go_wp2_with (first
        | (go_at_call 36; refine hP.mono ?_; rintro e w3 ⟨rfl, hb3⟩; have hI3 := BuilderAt.below hIa hb3; have hB3 := hBa.trans (hb3.mono (by have := hBa.size; omega)))
        | (go_at_call 24; refine (Tryd.Builder_WriteString B b _ _ _ (.inr hI3) Hl1.out (by have := hB3.size; omega)).mono ?_; rintro e w4 ⟨rfl, hI4, hb4⟩; have hB4 := hB3.trans hb4))
      have e := cells_in (l := bs ++ word ++ ptsL (l.take k)) (l' := bs ++ word ++ ptsL (l.take (k + 1))) (app32 (ptL p)) (by rw [hsuc]; simp only [List.append_assoc])
      rw [e] at hI4
      go_roundw
      case rel => exact ⟨k + 1, hkx.out.2, by rw [hw3], hI4, hB4⟩
      case measure =>
        show ((l.length : Int) - intOf (Value.int .i64 (RowKit.wrap64 ((k : Int) + 1)))).toNat < ((l.length : Int) - intOf (Value.int .i64 (k : Int))).toNat
        have := hkx.out.2
        rw [intOf_int, intOf_int, hw3]
        clear hw3 hz1 Hl1
        omega
    · obtain rfl : k = l.length := by omega
      rw [List.take_length] at hIb
      go_wp2
      go_end0
      exact ⟨rfl, hIb, hBb⟩
theorem iBadPoint (p : TPoint) : Spec Tryd.prog 33 [.agg (enPoint p)] (oB (!decide (okP p))) := by
  refine Spec.walk T.mixed Tryd.func33 S.ok33 (by simp [Tryd.f33]) fun hk => ?_
  clear hk
  unfold S.s33
  repeat' (first | refine R.mv rfl ?_ | refine R.reg ?_ | refine R.nil ?_ | refine R.seq ?_ | refine R.nseq ?_ | refine R.nblk ?_ | refine R.skip ?_ | refine R.blk ?_ | refine R.exit rfl ?_ | refine R.ldEp rfl rfl (by assumption) rfl rfl ?_ | refine R.ldaEp rfl rfl (by assumption) (Nat.le_of_ble_eq_true rfl) rfl rfl ?_ | refine R.ld rfl rfl rfl ?_ | refine R.lda rfl rfl (Nat.le_of_ble_eq_true rfl) rfl ?_ | refine R.not rfl ?_ | refine R.box rfl rfl rfl ?_ | refine R.condT rfl ?_ | refine R.condF rfl ?_ | refine R.call (bor := false) rfl rfl (iValidPoint _) rfl rfl rfl ?_ | refine R.call (bor := true) rfl rfl (iValidPoint _) rfl rfl rfl ?_ | refine R.fcal (bor := false) rfl rfl (iValidPoint _) rfl rfl rfl ?_ | refine R.fcal (bor := true) rfl rfl (iValidPoint _) rfl rfl rfl ?_ | refine R.cond rfl (fun hc => ?_) (fun hc => ?_) | refine R.condN rfl (fun hc => ?_) (fun hc => ?_) | refine R.condB rfl (fun hc => ?_) (fun hc => ?_))
  all_goals exact R.ret ⟨.inr rfl, R.outB rfl rfl rfl⟩
theorem any_bad {l : List TPoint} : (l.any fun p => !decide (okP p)) = false ↔ ∀ p ∈ l, okP p := by
  rw [List.any_eq_false]
  constructor
  · intro h p hp
    have := h p hp
    simpa using this
  · intro h p hp
    have := h p hp
    simpa using this
/-- Three slices of points in a new row. -/
theorem rd_three {w : World} {R : Nat → Prop} {v1 v2 v3 : Value} {l1 l2 l3 : List TPoint} {T : TypeId} (hR : ∀ b, R b → b < w.heap.size) (h1 : RD w R v1 (.rd kPoint (l1.map enPoint))) (h2 : RD w R v2 (.rd kPoint (l2.map enPoint))) (h3 : RD w R v3 (.rd kPoint (l3.map enPoint))) :
    RD (w.alloc (.cells #[v1, v2, v3] T)) (· < w.heap.size + 1) (.slice (some ⟨w.heap.size, 0, none⟩) 3 3) (.rd kRPt ([l1, l2, l3].map enRPt)) := by
  have hk : ∀ {v : Value} {d : D}, RD w R v d → RD (w.alloc (.cells #[v1, v2, v3] T)) (· < w.heap.size + 1) v d := fun h => h.keep (fun b hb => Nat.lt_succ_of_lt (hR b hb)) fun b hb => Lib.alloc_old _ _ _ (hR b hb)
  refine RD.rd (xs := [l1, l2, l3].map enRPt) (fun i _ => [v1, v2, v3].getD i undef) (by simp) (by simp) (by unfold maxLen; decide) (Nat.lt_succ_self _) (fun i es hi => ?_) (fun i es j hi hj => ?_) (fun i es j d hi hd => ?_)
  · rcases i with _ | _ | _ | i <;> simp at hi <;> subst hi <;> rfl
  · have hj0 : j = 0 := by have : j < 1 := hj; omega
    subst hj0
    have hk1 : kRPt.k = 1 := rfl
    rw [hk1]
    rcases i with _ | _ | _ | i <;> simp at hi <;> exact World.cell?_alloc_new _ _ _ _
  · rcases i with _ | _ | _ | i
    · simp at hi; subst hi
      rcases j with _ | j
      · simp at hd; subst hd; exact hk h1
      · simp at hd
    · simp at hi; subst hi
      rcases j with _ | j
      · simp at hd; subst hd; exact hk h2
      · simp at hd
    · simp at hi; subst hi
      rcases j with _ | j
      · simp at hd; subst hd; exact hk h3
      · simp at hd
    · simp at hi
theorem dm_lim {l : List TPoint} (h : ∀ p ∈ l, okP p) (hl : l.length ≤ 1048576) : (ptsL l).length ≤ 44040192 := by
  have := ptsL_len h
  omega
theorem lim2 {l : List TPoint} (h : (ptsL l).length ≤ 44040192) : ([] ++ wMiss ++ ptsL l).length ≤ 200000000 := by
  simp only [List.length_append, wMiss, List.length_cons, List.length_nil]
  omega
theorem lim3 {l l' : List TPoint} (h : (ptsL l).length ≤ 44040192) (h' : (ptsL l').length ≤ 44040192) : ([] ++ wMiss ++ ptsL l ++ wWrong ++ ptsL l').length ≤ 200000000 := by
  simp only [List.length_append, wMiss, wWrong, List.length_cons, List.length_nil]
  omega
theorem wMiss_len : wMiss.length ≤ 100 := by decide
theorem wWrong_len : wWrong.length ≤ 100 := by decide
theorem wLoose_len : wLoose.length ≤ 100 := by decide
theorem wMiss_eq : bA wMiss = ⟨#[109, 105, 115, 115, 105, 110, 103]⟩ := rfl
theorem wWrong_eq : bA wWrong = ⟨#[32, 119, 114, 111, 110, 103]⟩ := rfl
theorem wLoose_eq : bA wLoose = ⟨#[32, 108, 111, 111, 115, 101]⟩ := rfl
theorem PtRow.go {w w' : World} {a : Option Addr} {gb off : Nat} {l : List TPoint} {B B' : Nat} (h : PtRow w a gb off l B) (hb : Below B w w') (hB : B ≤ B') : PtRow w' a gb off l B' := fun k p hp => by
  obtain ⟨h1, h2, h3, h4⟩ := (h.keep hb) k p hp
  exact ⟨h1, Nat.lt_of_lt_of_le h2 hB, h3, h4⟩
theorem dm1 (v1 v2 v3 : Value) (l1 l2 l3 : List TPoint) (n1 : l1.length ≤ 1048576) (n2 : l2.length ≤ 1048576) (n3 : l3.length ≤ 1048576) (W : World) (R : Nat → Prop) (hR : ∀ b, R b → b < W.heap.size) (h1 : RD W R v1 (.rd kPoint (l1.map enPoint))) (h2 : RD W R v2 (.rd kPoint (l2.map enPoint))) (h3 : RD W R v3 (.rd kPoint (l3.map enPoint))) (hT : Tab10 W) :
    Calls Tryd.prog 14 #[.agg #[v1, v2, v3]] W fun e W' => e = .returned (.string (bA (fDm ⟨l1, l2, l3⟩))) ∧ Below W.heap.size W W' := by
  have h1' := h1
  have h2' := h2
  have h3' := h3
  obtain ⟨a1, c1, g1, o1, rfl, p1⟩ := ptRow_of hR h1
  obtain ⟨a2, c2, g2, o2, rfl, p2⟩ := ptRow_of hR h2
  obtain ⟨a3, c3, g3, o3, rfl, p3⟩ := ptRow_of hR h3
  have hW1 : Below W.heap.size W (W.alloc (.cells #[.slice a1 l1.length c1, .slice a2 l2.length c2, .slice a3 l3.length c3] 38)) := (Below.refl _ W).alloc (Nat.le_refl _) _
  have k0 : (W.alloc (.cells #[.slice a1 l1.length c1, .slice a2 l2.length c2, .slice a3 l3.length c3] 38)).cell? ⟨W.heap.size, 0, none⟩ = some (.slice a1 l1.length c1) := World.cell?_alloc_new _ _ _ _
  have k1 : (W.alloc (.cells #[.slice a1 l1.length c1, .slice a2 l2.length c2, .slice a3 l3.length c3] 38)).cell? ⟨W.heap.size, 1, none⟩ = some (.slice a2 l2.length c2) := World.cell?_alloc_new _ _ _ _
  have k2 : (W.alloc (.cells #[.slice a1 l1.length c1, .slice a2 l2.length c2, .slice a3 l3.length c3] 38)).cell? ⟨W.heap.size, 2, none⟩ = some (.slice a3 l3.length c3) := World.cell?_alloc_new _ _ _ _
  have z1 : (W.alloc (.cells #[.slice a1 l1.length c1, .slice a2 l2.length c2, .slice a3 l3.length c3] 38)).heap.size = W.heap.size + 1 := World.size_alloc _ _
  go_enter Tryd.func14, Tryd.ntmps14
  go_wp2_with fail
  generalize W.alloc (.cells #[.slice a1 l1.length c1, .slice a2 l2.length c2, .slice a3 l3.length c3] 38) = W1 at *
  have e1 : RD W1 (· < W1.heap.size) (.slice a1 l1.length c1) (.rd kPoint (l1.map enPoint)) := h1.keep (fun b hb => by have := hR b hb; omega) fun b hb => hW1.block b (hR b hb)
  have e2 : RD W1 (· < W1.heap.size) (.slice a2 l2.length c2) (.rd kPoint (l2.map enPoint)) := h2.keep (fun b hb => by have := hR b hb; omega) fun b hb => hW1.block b (hR b hb)
  have e3 : RD W1 (· < W1.heap.size) (.slice a3 l3.length c3) (.rd kPoint (l3.map enPoint)) := h3.keep (fun b hb => by have := hR b hb; omega) fun b hb => hW1.block b (hR b hb)
  have hr := rd_three (T := 36) (fun b h => h) e1 e2 e3
  rw [z1] at hr
  have hW2 : Below (W.heap.size + 1) W1 (W1.alloc (.cells #[.slice a1 l1.length c1, .slice a2 l2.length c2, .slice a3 l3.length c3] 36)) := (Below.refl _ W1).alloc (by omega) _
  have z2 : (W1.alloc (.cells #[.slice a1 l1.length c1, .slice a2 l2.length c2, .slice a3 l3.length c3] 36)).heap.size = W.heap.size + 2 := by rw [World.size_alloc, z1]
  generalize W1.alloc (.cells #[.slice a1 l1.length c1, .slice a2 l2.length c2, .slice a3 l3.length c3] 36) = W2 at *
  clear e1 e2 e3 h1 h2 h3 h1' h2' h3'
  have hT2 : Tab10 W2 := hT.below (Nat.le_refl _) (hW1.trans (hW2.mono (by omega)))
  have hgl := hT.pos
  have hr2 : RD W2 (· < W2.heap.size) (.slice (some ⟨W.heap.size + 1, 0, none⟩) 3 3) (.rd kRPt ([l1, l2, l3].map enRPt)) := hr.keep (fun b hb => by rw [z2]; exact hb) fun _ _ => rfl
  have hC := spec_call (iConcatP [l1, l2, l3] (by simp; omega)) (W := W2) (R := (· < W2.heap.size)) (vs := [.slice (some ⟨W.heap.size + 1, 0, none⟩) 3 3]) (fun _ h => h) (tabW_of hT2) (.cons hr2 .nil)
  have hA : ∀ (W3 : World) (R3 : Nat → Prop) (v : Value), (∀ b, b < W2.heap.size → R3 b) → (∀ b, R3 b → b < W3.heap.size) → Below W2.heap.size W2 W3 → RD W3 R3 v (.rd kPoint ([l1, l2, l3].flatten.map enPoint)) → Calls Tryd.prog 31 #[v, .func (.func 33) #[] #[]] W3 fun e W' => e = .returned (.bool ([l1, l2, l3].flatten.any fun p => !decide (okP p))) ∧ Below W3.heap.size W3 W' := fun W3 R3 v hs hz hb hv => by
    refine (spec_call (lib_anyPoint (l := [l1, l2, l3].flatten) (caps := []) (p := fun p => !decide (okP p)) (fun a _ => iBadPoint a)) (W := W3) (R := R3) (vs := [v, .func (.func 33) #[] #[]]) hz ((tabW_of hT2).keep hs fun b hb' => hb.block b hb') (.cons hv (.cons (RD.fn (vs := []) rfl (fun j v d h => by cases h)) .nil))).mono fun e W' => ?_
    rintro ⟨u, rfl, hb', _, _, _, hu⟩
    have hu : RD W' _ u (.pv (.bool ([l1, l2, l3].flatten.any fun p => !decide (okP p)))) := hu
    cases hu
    exact ⟨rfl, hb'⟩
  by_cases hall : allP l1 ∧ allP l2 ∧ allP l3
  case neg =>
    have hany : ([l1, l2, l3].flatten.any fun p => !decide (okP p)) = true := by
      cases h : ([l1, l2, l3].flatten.any fun p => !decide (okP p)) with
      | true => rfl
      | false =>
        have h4 := any_bad.1 h
        refine absurd ⟨fun p hp => h4 p ?_, fun p hp => h4 p ?_, fun p hp => h4 p ?_⟩ hall <;> simp [hp]
    rw [hany] at hA
    have hfd : fDm ⟨l1, l2, l3⟩ = [] := if_neg hall
    go_wp2_with (first
      | (go_at_call 32; refine hC.mono ?_; rintro e W3 ⟨v, rfl, hb3, R3, hs3, hz3, hr3⟩; have hA3 := hA W3 R3 v hs3 hz3 hb3 hr3)
      | (go_at_call 31; refine hA3.mono ?_; rintro e W4 ⟨rfl, hb4⟩))
    exact bodyPost_ret (results_tmp rfl _ _ _) rfl ⟨by rw [hfd]; rfl, (hW1.trans (hW2.mono (by omega))).trans ((hb3.mono (by omega)).trans (hb4.mono (by have := hb3.size; omega)))⟩
  have hany : ([l1, l2, l3].flatten.any fun p => !decide (okP p)) = false := any_bad.2 (fun p hp => by
    simp at hp
    rcases hp with hp | hp | hp
    · exact hall.1 p hp
    · exact hall.2.1 p hp
    · exact hall.2.2 p hp)
  rw [hany] at hA
  have hfd : fDm ⟨l1, l2, l3⟩ = wMiss ++ ptsL l1 ++ wWrong ++ ptsL l2 ++ wLoose ++ ptsL l3 := if_pos hall
  obtain ⟨q1, q2, q3⟩ := hall
  have m1 := dm_lim q1 n1
  have m2 := dm_lim q2 n2
  go_wp2_with (first
    | (go_at_call 32; refine hC.mono ?_; rintro e W3 ⟨v, rfl, hb3, R3, hs3, hz3, hr3⟩; have hA3 := hA W3 R3 v hs3 hz3 hb3 hr3)
    | (go_at_call 31; refine hA3.mono ?_; rintro e W4 ⟨rfl, hb4⟩; have hB4 := (hW2.trans (hb3.mono (by omega))).trans (hb4.mono (by have := hb3.size; omega)); have z4 := hB4.size; have hB5 := hB4.alloc (by omega) (.cells #[.pointer none, .slice none 0 0] 59); have hb5 := hW1.trans (hB5.mono (by omega)); have d0 := (hB5.cell (p := ⟨W.heap.size, 0, none⟩) (Nat.lt_succ_self _)).trans k0; have d1 := (hB5.cell (p := ⟨W.heap.size, 1, none⟩) (Nat.lt_succ_self _)).trans k1; have d2 := (hB5.cell (p := ⟨W.heap.size, 2, none⟩) (Nat.lt_succ_self _)).trans k2; have hT5 := hT.below (Nat.le_refl _) hb5; have hI5 := Lib.fresh_isBuilder 59 5 W4; have r1 := p1.go hb5 (B' := W4.heap.size) (by omega); have r2 := p2.go hb5 (B' := W4.heap.size) (by omega); have r3 := p3.go hb5 (B' := W4.heap.size) (by omega)))
  have z5 : (W4.alloc (.cells #[.pointer none, .slice none 0 0] 59)).heap.size = W4.heap.size + 1 := World.size_alloc _ _
  generalize W4.alloc (.cells #[.pointer none, .slice none 0 0] 59) = W5 at *
  have hb45 : W.heap.size < W4.heap.size := by omega
  generalize W4.heap.size = B at *
  clear hA hA3 hC hr hr2 hr3 hs3 hz3 hb3 hb4 hW2 k0 k1 k2 p1 p2 p3 hany
  have hcall := wr1 wMiss wMiss_len a1 c1 g1 o1 l1 q1 n1 B B [] (Nat.zero_le _) W5 r1 hT5 (by omega) hI5 (by omega)
  rw [wMiss_eq] at hcall
  refine hcall.mono ?_
  clear hcall
  rintro e W6 ⟨rfl, hI6, hb6⟩
  have d61 := (hb6.cell (p := ⟨W.heap.size, 1, none⟩) hb45).trans d1
  have z6 := hb6.size
  go_wp2_with fail
  have hcall := wr1 wWrong wWrong_len a2 c2 g2 o2 l2 q2 n2 B B ([] ++ wMiss ++ ptsL l1) (lim2 m1) W6 (r2.keep hb6) (hT5.belowB (by omega) hb6) (by omega) (.inr hI6) (by omega)
  rw [wWrong_eq] at hcall
  refine hcall.mono ?_
  clear hcall
  rintro e W7 ⟨rfl, hI7, hb7⟩
  have hb67 := hb6.trans hb7
  have d72 := (hb67.cell (p := ⟨W.heap.size, 2, none⟩) hb45).trans d2
  have z7 := hb67.size
  go_wp2_with fail
  have hcall := wr1 wLoose wLoose_len a3 c3 g3 o3 l3 q3 n3 B B ([] ++ wMiss ++ ptsL l1 ++ wWrong ++ ptsL l2) (lim3 m1 m2) W7 (r3.keep hb67) (hT5.belowB (by omega) hb67) (by omega) (.inr hI7) (by omega)
  rw [wLoose_eq] at hcall
  refine hcall.mono ?_
  clear hcall
  rintro e W8 ⟨rfl, hI8, hb8⟩
  have hb68 := hb67.trans hb8
  have z8 := hb68.size
  have hS := Tryd.Builder_String_any B B _ W8 (.inr hI8) (by omega)
  go_wp2_with (go_at_call 26; refine hS.mono ?_; rintro e W9 ⟨rfl, hb9⟩)
  refine bodyPost_ret (results_tmp rfl _ _ _) rfl ⟨?_, hb5.trans ((hb68.trans hb9).mono (by omega))⟩
  rw [hfd]
  exact congrArg (fun z : List UInt8 => Ending.returned (Value.string (bA z))) (by simp only [List.append_assoc])
/-- As a contract. -/
theorem iDamageText (d : TDamage) (hb : bdDamage d) : Spec Tryd.prog 14 [.agg (enDamage d)] (oS (bA (fDm d))) := by
  obtain ⟨b1, b2, b3⟩ := hb
  have b1 : d.fMissing.length ≤ 1048576 := b1
  have b2 : d.fWrong.length ≤ 1048576 := b2
  have b3 : d.fLoose.length ≤ 1048576 := b3
  have hsz : okI (.string (bA (fDm d))) := by
    show (bA (fDm d)).size ≤ maxLen
    rw [bA_size]
    unfold fDm
    split
    · rename_i h
      have l1 := dm_lim h.1 b1
      have l2 := dm_lim h.2.1 b2
      have l3 := dm_lim h.2.2 b3
      simp only [List.length_append, wMiss, wWrong, wLoose, List.length_cons, List.length_nil]
      unfold maxLen
      omega
    · exact Nat.zero_le _
  refine ⟨callFunc_enter Tryd.func14 rfl (by simp [Tryd.f14]), fun w R ι φ vs hR hFs ho => ?_⟩
  cases hFs with | cons h1 h2 =>
  cases h2
  obtain ⟨us, rfl, hus⟩ := h1
  cases hus with | cons u1 hus => cases hus with | cons u2 hus => cases hus with | cons u3 hus =>
  cases hus
  rename_i v1 v2 v3
  have hcalls := dm1 v1 v2 v3 d.fMissing d.fWrong d.fLoose b1 b2 b3 w R hR u1 u2 u3 (tab10 ho.2.2.2)
  refine hcalls.mono ?_
  rintro e w1 ⟨rfl, hbl⟩
  have hn : ∀ o x, frO [] o = some x → False := fun o x h => by simp [frO] at h
  have hO : ObjsOk w1 R ι φ (frO []) := ⟨fun o x h => (hn o x h).elim, fun o x h => (hn o x h).elim, fun o p x y g h => (hn o x h).elim, ho.2.2.2.keep (fun _ h => h) fun b hb => hbl.block b (hR b hb)⟩
  refine ⟨.string (bA (fDm d)), rfl, R, ι, φ, BelowM.of_below hbl, fun b h => h, fun b h => Nat.lt_of_lt_of_le (hR b h) hbl.size, fun b h _ => .inl h, RA.of_pv rfl hsz, hO, fun g h => ?_, fun o h => rfl⟩
  obtain ⟨o, x, h, _⟩ := h
  exact (hn o x h).elim
end Go.Proofs.YtnkfbodolbfjpaaDoor
