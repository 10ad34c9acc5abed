/- The least cover: the reference. -/
import Derived.Test.YtehkaajakapkmaaCovP
namespace Go.Proofs.Ytehkaajakapkmaa
open Go.RowKit
set_option maxRecDepth 100000 in
def S.s28 : SC := (.seq (.reg [⟨(.some 2), .none, .false, (.mv (.const (Go.Value.int Go.IntKind.i64 0)))⟩]) (.seq (.reg [⟨(.some 3), .none, .false, (.mv (.const (Go.Value.int Go.IntKind.i64 0)))⟩]) (.seq (.seq (.reg [⟨(.some 4), .none, .false, (.mv (.const (Go.Value.int Go.IntKind.i64 0)))⟩]) (.block 0 (.loop (.seq (.seq (.reg [⟨(.some 6), .none, .false, (.mv (.tmp 4))⟩, ⟨(.some 7), .none, .false, (.mv (.tmp 0))⟩, ⟨(.some 8), .none, .false, (.len (.tmp 7))⟩, ⟨(.some 9), .none, .false, (.bin .lss (.tmp 6) (.tmp 8))⟩]) (.cond (.tmp 9) .skip (.exit 0))) (.seq (.block 1 (.seq (.reg [⟨(.some 5), .none, .false, (.mv (.const (Go.Value.int Go.IntKind.i64 0)))⟩]) (.block 2 (.loop (.seq (.seq (.reg [⟨(.some 12), .none, .false, (.mv (.tmp 5))⟩, ⟨(.some 13), .none, .false, (.bin .lss (.tmp 12) (.const (Go.Value.int Go.IntKind.i64 4)))⟩]) (.cond (.tmp 13) .skip (.exit 2))) (.seq (.block 3 (.reg [⟨(.some 16), .none, .false, (.mv (.tmp 3))⟩, ⟨(.some 17), .none, .false, (.mv (.tmp 0))⟩, ⟨(.some 18), .none, .false, (.mv (.tmp 4))⟩, ⟨(.some 19), .none, .false, (.ix (.mk 35 2) (.tmp 17) (.tmp 18))⟩, ⟨(.some 20), .none, .false, (.fa 0 (.tmp 19))⟩, ⟨(.some 21), .none, .false, (.ld .false 1 (.tmp 20))⟩, ⟨(.some 22), .none, .false, (.mv (.tmp 5))⟩, ⟨(.some 23), .none, .false, (.bin .shr (.tmp 21) (.tmp 22))⟩, ⟨(.some 24), .none, .false, (.bin .and (.tmp 23) (.const (Go.Value.int Go.IntKind.i64 1)))⟩, ⟨(.some 25), .none, .false, (.bin .add (.tmp 16) (.tmp 24))⟩, ⟨(.some 3), .none, .false, (.mv (.tmp 25))⟩])) (.reg [⟨(.some 14), .none, .false, (.mv (.tmp 5))⟩, ⟨(.some 15), .none, .false, (.bin .add (.tmp 14) (.const (Go.Value.int Go.IntKind.i64 1)))⟩, ⟨(.some 5), .none, .false, (.mv (.tmp 15))⟩]))))))) (.reg [⟨(.some 10), .none, .false, (.mv (.tmp 4))⟩, ⟨(.some 11), .none, .false, (.bin .add (.tmp 10) (.const (Go.Value.int Go.IntKind.i64 1)))⟩, ⟨(.some 4), .none, .false, (.mv (.tmp 11))⟩])))))) (.seq (.reg [⟨(.some 26), .none, .false, (.mv (.tmp 3))⟩, ⟨(.some 2), .none, .false, (.mv (.tmp 26))⟩]) .ret))))
set_option maxRecDepth 100000 in
theorem S.ok28 : stripF Try.prog Try.f28 = some S.s28 := by kernel_rfl
set_option maxRecDepth 10000
set_option maxHeartbeats 4000000
def cubs (ps : List TCube) (x : List Nat) : List TCube := x.map fun k => ps.getD k ⟨0, 0⟩
theorem cubs_len (ps : List TCube) (x : List Nat) : (cubs ps x).length = x.length := by simp [cubs]
theorem cubs_snoc (ps : List TCube) (x : List Nat) (k : Nat) : cubs ps (x ++ [k]) = cubs ps x ++ [ps.getD k ⟨0, 0⟩] := by simp [cubs]
def popT (c : Int) : Nat → Int
  | 0 => 0
  | k + 1 => popT c k + andI (c / 2 ^ k) 1
def litS : List TCube → Int
  | [] => 0
  | c :: l => popI c.fCare + litS l
theorem litS_snoc : ∀ (l : List TCube) (c : TCube), litS (l ++ [c]) = litS l + popI c.fCare
  | [], c => by simp [litS]
  | d :: l, c => by
    rw [List.cons_append, litS, litS_snoc l c, litS]
    omega
theorem litS_cubs (ps : List TCube) : ∀ x : List Nat, litS (cubs ps x) = costQ ps x
  | [] => rfl
  | k :: x => by
    show popI _ + litS (cubs ps x) = popI _ + costQ ps x
    rw [litS_cubs ps x]
theorem litS_bd : ∀ l : List TCube, 0 ≤ litS l ∧ litS l ≤ 4 * l.length
  | [] => by simp [litS]
  | c :: l => by
    have h1 := litS_bd l
    have h2 := popI_bd c.fCare
    rw [litS, List.length_cons]
    omega
def careOk (l : List TCube) : Prop := ∀ c ∈ l, 0 ≤ c.fCare ∧ c.fCare ≤ 15
theorem pT4 : ∀ c : Fin 16, popT (c.val : Nat) 4 = popI (c.val : Nat) := by decide
theorem pT_bd : ∀ c : Fin 16, ∀ k : Fin 5, 0 ≤ popT (c.val : Nat) k.val ∧ popT (c.val : Nat) k.val ≤ 4 := by decide
theorem bit_bd : ∀ c : Fin 16, ∀ k : Fin 4, 0 ≤ andI ((c.val : Nat) / 2 ^ k.val) 1 ∧ andI ((c.val : Nat) / 2 ^ k.val) 1 ≤ 1 := by decide
theorem take_snocC {l : List TCube} {i : Nat} {c : TCube} (h : l[i]? = some c) : l.take (i + 1) = l.take i ++ [c] := take_snoc h
theorem sLits (l : List TCube) (hl : l.length ≤ 10000) (hc : careOk l) : Spec Try.prog 28 [vL kCube (l.map enCube)] (oI (litS l)) := by
  refine Spec.walk T.mixed Try.func28 S.ok28 (by simp [Try.f28]) fun hk => ?_
  clear hk
  unfold S.s28
  repeat' (first | refine R.mv rfl ?_ | refine R.reg ?_ | refine R.nil ?_ | refine R.seq ?_ | refine R.nseq ?_ | refine R.nblk ?_ | refine R.skip ?_ | refine R.blk ?_ | refine R.exit rfl ?_ | refine R.ldEp rfl rfl (by assumption) rfl rfl ?_ | refine R.ldaEp rfl rfl (by assumption) (Nat.le_of_ble_eq_true rfl) rfl rfl ?_ | refine R.ld rfl rfl rfl ?_ | refine R.lda rfl rfl (Nat.le_of_ble_eq_true rfl) rfl ?_ | refine R.fa rfl rfl ?_ | refine R.lenM rfl ?_ | refine R.lenO rfl rfl ?_ | refine R.len rfl rfl ?_ | refine R.lss rfl rfl ?_ | refine R.add rfl rfl (by omega) ?_ | refine R.ixN rfl rfl rfl (by omega) (fun a ha => ?_) | refine R.ixM rfl rfl rfl (by omega) (fun a ha => ?_) | refine R.ixON rfl rfl rfl (by first | omega | (simp; omega)) (fun a' ha' => ?_) | refine R.ixO rfl rfl rfl (by first | omega | (simp; omega)) (fun a' ha' => ?_) | refine R.and rfl rfl ?_ | refine R.shr rfl rfl (by omega) ?_ | refine R.shrU1 rfl rfl ?_ | refine R.shrU rfl rfl (by omega) ?_ | refine R.condT rfl ?_ | refine R.condF rfl ?_ | refine R.cond rfl (fun hc => ?_) (fun hc => ?_) | refine R.condN rfl (fun hc => ?_) (fun hc => ?_) | refine R.condB rfl (fun hc => ?_) (fun hc => ?_))
  refine R.loop (G := Nat) (fun i => [(0, rdA kCube (l.map enCube)), (3, pvA (.int .i64 (litS (l.take i)))), (4, pvA (.int .i64 i))]) (fun _ => []) (fun i => i ≤ l.length) (fun i => l.length - i) 0 (by omega) (Weak.frame _ _ ⟨rfl, rfl, rfl, trivial⟩ trivial rfl rfl) fun i hi => ?_
  have hb := litS_bd (l.take i)
  have htl : (l.take i).length ≤ i := by rw [List.length_take]; omega
  by_cases hil : i < l.length
  · obtain ⟨q, hq⟩ : ∃ q, l[i]? = some q := ⟨_, List.getElem?_eq_getElem hil⟩
    obtain ⟨h0, h15⟩ := hc q (List.mem_of_getElem? hq)
    obtain ⟨c, hcc⟩ : ∃ c : Nat, q.fCare = c := ⟨q.fCare.toNat, by omega⟩
    have hc16 : c < 16 := by omega
    repeat' (first | refine R.mv rfl ?_ | refine R.reg ?_ | refine R.nil ?_ | refine R.seq ?_ | refine R.nseq ?_ | refine R.nblk ?_ | refine R.skip ?_ | refine R.blk ?_ | refine R.exit rfl ?_ | refine R.ldEp rfl rfl (by assumption) rfl rfl ?_ | refine R.ldaEp rfl rfl (by assumption) (Nat.le_of_ble_eq_true rfl) rfl rfl ?_ | refine R.ld rfl rfl rfl ?_ | refine R.lda rfl rfl (Nat.le_of_ble_eq_true rfl) rfl ?_ | refine R.fa rfl rfl ?_ | refine R.lenM rfl ?_ | refine R.lenO rfl rfl ?_ | refine R.len rfl rfl ?_ | refine R.lss rfl rfl ?_ | refine R.add rfl rfl (by omega) ?_ | refine R.ixN rfl rfl rfl (by omega) (fun a ha => ?_) | refine R.ixM rfl rfl rfl (by omega) (fun a ha => ?_) | refine R.ixON rfl rfl rfl (by first | omega | (simp; omega)) (fun a' ha' => ?_) | refine R.ixO rfl rfl rfl (by first | omega | (simp; omega)) (fun a' ha' => ?_) | refine R.and rfl rfl ?_ | refine R.shr rfl rfl (by omega) ?_ | refine R.shrU1 rfl rfl ?_ | refine R.shrU rfl rfl (by omega) ?_ | refine R.condT rfl ?_ | refine R.condF rfl ?_ | refine R.cond rfl (fun hc => ?_) (fun hc => ?_) | refine R.condN rfl (fun hc => ?_) (fun hc => ?_) | refine R.condB rfl (fun hc => ?_) (fun hc => ?_))
    all_goals first | (exfalso; omega) | skip
    refine R.loop (G := Nat) (fun k => [(0, rdA kCube (l.map enCube)), (3, pvA (.int .i64 (litS (l.take i) + popT q.fCare k))), (4, pvA (.int .i64 i)), (5, pvA (.int .i64 k))]) (fun _ => []) (fun k => k ≤ 4) (fun k => 4 - k) 0 (by omega) (Weak.frame _ _ ⟨rfl, by rw [show litS (l.take i) + popT q.fCare 0 = litS (l.take i) by simp [popT]]; rfl, rfl, rfl, trivial⟩ trivial rfl rfl) fun k hk4 => ?_
    have hpb := pT_bd ⟨c, hc16⟩ ⟨k, by omega⟩
    dsimp only at hpb
    rw [← hcc] at hpb
    by_cases hk : k < 4
    · have hbb := bit_bd ⟨c, hc16⟩ ⟨k, hk⟩
      dsimp only at hbb
      rw [← hcc] at hbb
      have hbb2 : 0 ≤ andI (q.fCare / 2 ^ ((k : Nat) : Int).toNat) 1 ∧ andI (q.fCare / 2 ^ ((k : Nat) : Int).toNat) 1 ≤ 1 := by rw [Int.toNat_natCast]; exact hbb
      repeat' (first | refine R.ixK q hq rfl rfl rfl ?_ | refine R.mv rfl ?_ | refine R.reg ?_ | refine R.nil ?_ | refine R.seq ?_ | refine R.nseq ?_ | refine R.nblk ?_ | refine R.skip ?_ | refine R.blk ?_ | refine R.exit rfl ?_ | refine R.ldEp rfl rfl (by assumption) rfl rfl ?_ | refine R.ldaEp rfl rfl (by assumption) (Nat.le_of_ble_eq_true rfl) rfl rfl ?_ | refine R.ld rfl rfl rfl ?_ | refine R.lda rfl rfl (Nat.le_of_ble_eq_true rfl) rfl ?_ | refine R.fa rfl rfl ?_ | refine R.lenM rfl ?_ | refine R.lenO rfl rfl ?_ | refine R.len rfl rfl ?_ | refine R.lss rfl rfl ?_ | refine R.add rfl rfl (by omega) ?_ | refine R.ixN rfl rfl rfl (by omega) (fun a ha => ?_) | refine R.ixM rfl rfl rfl (by omega) (fun a ha => ?_) | refine R.ixON rfl rfl rfl (by first | omega | (simp; omega)) (fun a' ha' => ?_) | refine R.ixO rfl rfl rfl (by first | omega | (simp; omega)) (fun a' ha' => ?_) | refine R.and rfl rfl ?_ | refine R.shr rfl rfl (by omega) ?_ | refine R.shrU1 rfl rfl ?_ | refine R.shrU rfl rfl (by omega) ?_ | refine R.condT rfl ?_ | refine R.condF rfl ?_ | refine R.cond rfl (fun hc => ?_) (fun hc => ?_) | refine R.condN rfl (fun hc => ?_) (fun hc => ?_) | refine R.condB rfl (fun hc => ?_) (fun hc => ?_))
      all_goals first
        | (exfalso; omega)
        | exact R.nloop (R.again (k + 1) (by omega) (by omega) ⟨rfl, by rw [show litS (l.take i) + popT q.fCare (k + 1) = litS (l.take i) + popT q.fCare k + andI (q.fCare / 2 ^ k) 1 by rw [popT]; omega]; rfl, rfl, rfl, trivial⟩ trivial rfl rfl)
        | skip
    obtain rfl : k = 4 := by omega
    have hp4 := pT4 ⟨c, hc16⟩
    dsimp only at hp4
    rw [← hcc] at hp4
    repeat' (first | refine R.mv rfl ?_ | refine R.reg ?_ | refine R.nil ?_ | refine R.seq ?_ | refine R.nseq ?_ | refine R.nblk ?_ | refine R.skip ?_ | refine R.blk ?_ | refine R.exit rfl ?_ | refine R.ldEp rfl rfl (by assumption) rfl rfl ?_ | refine R.ldaEp rfl rfl (by assumption) (Nat.le_of_ble_eq_true rfl) rfl rfl ?_ | refine R.ld rfl rfl rfl ?_ | refine R.lda rfl rfl (Nat.le_of_ble_eq_true rfl) rfl ?_ | refine R.fa rfl rfl ?_ | refine R.lenM rfl ?_ | refine R.lenO rfl rfl ?_ | refine R.len rfl rfl ?_ | refine R.lss rfl rfl ?_ | refine R.add rfl rfl (by omega) ?_ | refine R.ixN rfl rfl rfl (by omega) (fun a ha => ?_) | refine R.ixM rfl rfl rfl (by omega) (fun a ha => ?_) | refine R.ixON rfl rfl rfl (by first | omega | (simp; omega)) (fun a' ha' => ?_) | refine R.ixO rfl rfl rfl (by first | omega | (simp; omega)) (fun a' ha' => ?_) | refine R.and rfl rfl ?_ | refine R.shr rfl rfl (by omega) ?_ | refine R.shrU1 rfl rfl ?_ | refine R.shrU rfl rfl (by omega) ?_ | refine R.condT rfl ?_ | refine R.condF rfl ?_ | refine R.cond rfl (fun hc => ?_) (fun hc => ?_) | refine R.condN rfl (fun hc => ?_) (fun hc => ?_) | refine R.condB rfl (fun hc => ?_) (fun hc => ?_))
    all_goals first
      | (exfalso; omega)
      | exact R.nloop (R.again (i + 1) (by omega) (by omega) ⟨rfl, by rw [take_snocC hq, litS_snoc, ← hp4]; rfl, rfl, trivial⟩ trivial rfl rfl)
      | skip
  obtain rfl : i = l.length := by omega
  rw [List.take_length]
  repeat' (first | refine R.mv rfl ?_ | refine R.reg ?_ | refine R.nil ?_ | refine R.seq ?_ | refine R.nseq ?_ | refine R.nblk ?_ | refine R.skip ?_ | refine R.blk ?_ | refine R.exit rfl ?_ | refine R.ldEp rfl rfl (by assumption) rfl rfl ?_ | refine R.ldaEp rfl rfl (by assumption) (Nat.le_of_ble_eq_true rfl) rfl rfl ?_ | refine R.ld rfl rfl rfl ?_ | refine R.lda rfl rfl (Nat.le_of_ble_eq_true rfl) rfl ?_ | refine R.fa rfl rfl ?_ | refine R.lenM rfl ?_ | refine R.lenO rfl rfl ?_ | refine R.len rfl rfl ?_ | refine R.lss rfl rfl ?_ | refine R.add rfl rfl (by omega) ?_ | refine R.ixN rfl rfl rfl (by omega) (fun a ha => ?_) | refine R.ixM rfl rfl rfl (by omega) (fun a ha => ?_) | refine R.ixON rfl rfl rfl (by first | omega | (simp; omega)) (fun a' ha' => ?_) | refine R.ixO rfl rfl rfl (by first | omega | (simp; omega)) (fun a' ha' => ?_) | refine R.and rfl rfl ?_ | refine R.shr rfl rfl (by omega) ?_ | refine R.shrU1 rfl rfl ?_ | refine R.shrU rfl rfl (by omega) ?_ | refine R.condT rfl ?_ | refine R.condF rfl ?_ | refine R.cond rfl (fun hc => ?_) (fun hc => ?_) | refine R.condN rfl (fun hc => ?_) (fun hc => ?_) | refine R.condB rfl (fun hc => ?_) (fun hc => ?_))
  all_goals first
    | (exfalso; omega)
    | exact R.ret ⟨.inr rfl, R.outI rfl rfl rfl⟩
    | skip
theorem rise_lt : ∀ {l : List Nat} {a b : Nat}, rise a b l → ∀ k ∈ l, k < b
  | [], _, _, _, k, hk => by cases hk
  | x :: l, a, b, ⟨_, h2, h3⟩, k, hk => by
    rcases List.mem_cons.1 hk with rfl | hk
    · exact h2
    · exact rise_lt h3 k hk
theorem rise_len : ∀ {l : List Nat} {a b : Nat}, rise a b l → l.length ≤ b - a
  | [], _, _, _ => by simp
  | x :: l, a, b, ⟨h1, h2, h3⟩ => by
    have := rise_len h3
    rw [List.length_cons]
    omega
theorem anyQ_cubs {ps : List TCube} {i : Nat} : ∀ {x : List Nat}, (∀ k ∈ x, k < ps.length) → anyQ ps x i = (cubs ps x).any fun c => hasQ c i
  | [], _ => rfl
  | k :: x, h => by
    have hk := h k (by simp)
    have ih := anyQ_cubs (ps := ps) (i := i) (x := x) fun k hk => h k (by simp [hk])
    show (ctx ps k i || anyQ ps x i) = (hasQ (ps.getD k ⟨0, 0⟩) i || (cubs ps x).any fun c => hasQ c i)
    rw [ih]
    congr 1
    unfold ctx
    rw [List.getElem?_eq_getElem hk, List.getD_eq_getElem?_getD, List.getElem?_eq_getElem hk]
    rfl
def inJ (q : List TCube) (v : Int) (i j : Nat) : Bool := ((q.take j).any fun c => hasQ c i) || decide (v = 0)
theorem inJ_succ {q : List TCube} {v : Int} {i j : Nat} {c : TCube} (h : q[j]? = some c) : inJ q v i (j + 1) = (inJ q v i j || hasQ c i) := by
  unfold inJ
  rw [take_snocC h, List.any_append]
  simp only [List.any_cons, List.any_nil, Bool.or_false]
  cases ((q.take j).any fun c => hasQ c i) <;> cases decide (v = 0) <;> cases hasQ c i <;> rfl
theorem cubs_ok {ps : List TCube} (h : careOk ps) (x : List Nat) : careOk (cubs ps x) := fun c hc => by
  obtain ⟨k, _, rfl⟩ := List.mem_map.1 hc
  by_cases hk : k < ps.length
  · rw [List.getD_eq_getElem?_getD, List.getElem?_eq_getElem hk]
    exact h _ (List.getElem_mem hk)
  · rw [List.getD_eq_getElem?_getD, List.getElem?_eq_none (by omega)]
    exact ⟨by show (0 : Int) ≤ 0; omega, by show (0 : Int) ≤ 15; omega⟩
abbrev bb (ps : List TCube) (b : Option (List Nat)) : B := .d (.rd kCube ((cubs ps (b.getD [])).map enCube))
abbrev boxT (tb : List Int) (ps : List TCube) (b : Option (List Nat)) : List B := [.d (.rd kI (ints tb)), .d (.rd kCube (ps.map enCube)), bb ps b, .d (.pv (.bool b.isSome))]
/-- Those found are lists of primes. -/
def okB (ps : List TCube) (b : Option (List Nat)) : Prop := ∀ x, b = some x → rise 0 ps.length x
section
variable (cv : List Nat → Prop) [DecidablePred cv] (cs : List Nat → Int)
theorem fin_ok {ps : List TCube} {ch : List Nat} {b r : Option (List Nat)} (hb : okB ps b) (hr : okB ps r) (hc : rise 0 ps.length ch) : okB ps (finB cv cs ch b r) := by
  unfold finB updS
  split
  · split
    · split
      · intro x hx; cases hx; exact hc
      · exact hb
    · exact hr
  · exact hb
theorem loop_ok {ps : List TCube} : ∀ (f a : Nat) (ch : List Nat) (b : Option (List Nat)), a + f = ps.length → rise 0 a ch → okB ps b → okB ps (loopB cv cs f a ch b)
  | 0, _, _, _, _, _, hb => hb
  | f + 1, a, ch, b, hf, hc, hb => by
    have h2 := rise_snoc (b := a + 1) hc (by omega) (by omega)
    exact loop_ok f (a + 1) ch _ (by omega) (rise_up hc (by omega)) (fin_ok cv cs hb (loop_ok f (a + 1) _ b (by omega) h2 hb) (rise_up h2 (by omega)))
theorem try_ok {ps : List TCube} (f a : Nat) (ch : List Nat) (b : Option (List Nat)) (hf : a + f = ps.length) (hc : rise 0 a ch) (hb : okB ps b) : okB ps (tryB cv cs f a ch b) := fin_ok cv cs hb (loop_ok cv cs f a ch b hf hc hb) (rise_up hc (by omega))
end
end Go.Proofs.Ytehkaajakapkmaa
