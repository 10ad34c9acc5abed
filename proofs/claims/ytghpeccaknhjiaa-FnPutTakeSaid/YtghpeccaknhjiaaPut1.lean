/- A tile that is put: the reference's side. -/
import Derived.Test.YtghpeccaknhjiaaAsm3
namespace Go.Proofs.Ytghpeccaknhjiaa
open Go.RowKit
set_option maxRecDepth 100000 in
def S.s27 : SC := (.seq (.reg [⟨(.some 4), .none, .false, (.box 34 (.tmp 1))⟩, ⟨(.some 6), .none, .false, (.al 30 [(Go.Value.slice none 0 0)])⟩]) (.seq (.reg [⟨(.some 10), .none, .false, (.bld [(Go.Value.slice none 0 0)] [(0, 1)] [])⟩, ⟨(.some 7), .none, .false, (.al 30 [(Go.Value.slice none 0 0)])⟩, ⟨.none, .none, .false, (.sto 1 (.tmp 7) (.tmp 10))⟩]) (.seq (.reg [⟨(.some 8), .none, .false, (.mv (.const (Go.Value.bool false)))⟩]) (.seq (.seq (.reg [⟨(.some 9), .none, .false, (.mv (.const (Go.Value.int Go.IntKind.i64 0)))⟩]) (.block 0 (.loop (.seq (.seq (.reg [⟨(.some 11), .none, .false, (.mv (.tmp 9))⟩, ⟨(.some 12), .none, .false, (.mv (.tmp 0))⟩, ⟨(.some 13), .none, .false, (.nc (.tmp 12))⟩, ⟨(.some 14), .none, .false, (.fa 0 (.tmp 13))⟩, ⟨(.some 15), .none, .false, (.ld .false 1 (.tmp 14))⟩, ⟨(.some 16), .none, .false, (.len (.tmp 15))⟩, ⟨(.some 17), .none, .false, (.bin .lss (.tmp 11) (.tmp 16))⟩]) (.cond (.tmp 17) .skip (.exit 0))) (.seq (.block 1 (.seq (.seq (.reg [⟨(.some 20), .none, .true, (.mv (.tmp 8))⟩, ⟨(.some 21), .none, .true, (.not (.tmp 20))⟩, ⟨(.some 22), .none, .true, (.mv (.tmp 21))⟩, ⟨(.some 23), (.some (22, .true)), .true, (.ld .true 2 (.tmp 4))⟩, ⟨(.some 24), (.some (22, .true)), .true, (.mv (.tmp 0))⟩, ⟨(.some 25), (.some (22, .true)), .true, (.nc (.tmp 24))⟩, ⟨(.some 26), (.some (22, .true)), .true, (.fa 0 (.tmp 25))⟩, ⟨(.some 27), (.some (22, .true)), .true, (.ld .false 1 (.tmp 26))⟩, ⟨(.some 28), (.some (22, .true)), .true, (.mv (.tmp 9))⟩, ⟨(.some 29), (.some (22, .true)), .true, (.ix (.mk 50 3) (.tmp 27) (.tmp 28))⟩, ⟨(.some 30), (.some (22, .true)), .true, (.fa 0 (.tmp 29))⟩, ⟨(.some 31), (.some (22, .true)), .true, (.ld .true 2 (.tmp 30))⟩, ⟨(.some 32), (.some (22, .true)), .false, (.call (.func 48) [(.tmp 23), (.tmp 31)])⟩, ⟨(.some 33), .none, .false, (.pick (.tmp 22) (.tmp 32) (.const (Go.Value.bool false)))⟩]) (.cond (.tmp 33) (.seq (.reg [⟨(.some 8), .none, .false, (.mv (.const (Go.Value.bool true)))⟩]) (.reg [⟨(.some 34), .none, .false, (.fa 0 (.tmp 7))⟩, ⟨(.some 35), .none, .false, (.ld .false 1 (.tmp 34))⟩, ⟨(.some 36), .none, .false, (.ld .true 2 (.tmp 4))⟩, ⟨(.some 37), .none, .false, (.mv (.tmp 2))⟩, ⟨(.some 38), .none, .false, (.bld [(Go.Value.int Go.IntKind.i64 0), (Go.Value.int Go.IntKind.i64 0), (Go.Value.int Go.IntKind.i64 0)] [(0, 2), (2, 1)] [(0, (.tmp 36)), (1, (.tmp 37))])⟩, ⟨(.some 39), .none, .false, (.bsl (.mk 50 3) 1 [(0, (.tmp 38))])⟩, ⟨(.some 40), .none, .false, (.app (.mk 50 3) 24 (.tmp 35) (.tmp 39))⟩, ⟨(.some 41), .none, .false, (.fa 0 (.tmp 7))⟩, ⟨.none, .none, .false, (.sto 1 (.tmp 41) (.tmp 40))⟩])) .skip)) (.reg [⟨(.some 42), .none, .true, (.fa 0 (.tmp 7))⟩, ⟨(.some 43), .none, .true, (.ld .false 1 (.tmp 42))⟩, ⟨(.some 44), .none, .true, (.mv (.tmp 0))⟩, ⟨(.some 45), .none, .true, (.nc (.tmp 44))⟩, ⟨(.some 46), .none, .true, (.fa 0 (.tmp 45))⟩, ⟨(.some 47), .none, .true, (.ld .false 1 (.tmp 46))⟩, ⟨(.some 48), .none, .true, (.mv (.tmp 9))⟩, ⟨(.some 49), .none, .true, (.ix (.mk 50 3) (.tmp 47) (.tmp 48))⟩, ⟨(.some 50), .none, .true, (.ld .true 3 (.tmp 49))⟩, ⟨(.some 51), .none, .true, (.bsl (.mk 50 3) 1 [(0, (.tmp 50))])⟩, ⟨(.some 52), .none, .false, (.app (.mk 50 3) 24 (.tmp 43) (.tmp 51))⟩, ⟨(.some 53), .none, .false, (.fa 0 (.tmp 7))⟩, ⟨.none, .none, .false, (.sto 1 (.tmp 53) (.tmp 52))⟩]))) (.reg [⟨(.some 18), .none, .false, (.mv (.tmp 9))⟩, ⟨(.some 19), .none, .false, (.bin .add (.tmp 18) (.const (Go.Value.int Go.IntKind.i64 1)))⟩, ⟨(.some 9), .none, .false, (.mv (.tmp 19))⟩])))))) (.seq (.seq (.reg [⟨(.some 54), .none, .false, (.mv (.tmp 8))⟩, ⟨(.some 55), .none, .false, (.not (.tmp 54))⟩]) (.cond (.tmp 55) (.reg [⟨(.some 56), .none, .false, (.fa 0 (.tmp 7))⟩, ⟨(.some 57), .none, .false, (.ld .false 1 (.tmp 56))⟩, ⟨(.some 58), .none, .false, (.ld .true 2 (.tmp 4))⟩, ⟨(.some 59), .none, .false, (.mv (.tmp 2))⟩, ⟨(.some 60), .none, .false, (.bld [(Go.Value.int Go.IntKind.i64 0), (Go.Value.int Go.IntKind.i64 0), (Go.Value.int Go.IntKind.i64 0)] [(0, 2), (2, 1)] [(0, (.tmp 58)), (1, (.tmp 59))])⟩, ⟨(.some 61), .none, .false, (.bsl (.mk 50 3) 1 [(0, (.tmp 60))])⟩, ⟨(.some 62), .none, .false, (.app (.mk 50 3) 24 (.tmp 57) (.tmp 61))⟩, ⟨(.some 63), .none, .false, (.fa 0 (.tmp 7))⟩, ⟨.none, .none, .false, (.sto 1 (.tmp 63) (.tmp 62))⟩]) .skip)) (.seq (.reg [⟨(.some 64), .none, .false, (.ld .true 1 (.tmp 7))⟩, ⟨.none, .none, .false, (.sto 1 (.tmp 6) (.tmp 64))⟩]) .ret))))))
set_option maxRecDepth 100000 in
theorem S.ok27 : stripF Try.prog Try.f27 = some S.s27 := by kernel_rfl
set_option maxRecDepth 10000
set_option maxHeartbeats 4000000
/-- A tile at its place. -/
def putP : List TPlaced → TPlaced → List TPlaced
  | [], q => [q]
  | x :: xs, q => if ltP q.fAt x.fAt then q :: x :: xs else x :: putP xs q
theorem putP_none {q : TPlaced} : ∀ {l : List TPlaced}, (∀ x ∈ l, ¬ ltP q.fAt x.fAt) → putP l q = l ++ [q]
  | [], _ => rfl
  | x :: xs, h => by
    rw [putP, if_neg (h x (by simp)), putP_none fun y hy => h y (by simp [hy])]
    rfl
theorem putP_first {q x : TPlaced} (hx : ltP q.fAt x.fAt) : ∀ {l : List TPlaced}, (∀ y ∈ l, ¬ ltP q.fAt y.fAt) → putP (l ++ [x]) q = l ++ [q, x]
  | [], _ => by
    show putP [x] q = _
    rw [putP, if_pos hx]
    rfl
  | y :: ys, h => by
    rw [List.cons_append, putP, if_neg (h y (by simp)), putP_first hx fun z hz => h z (by simp [hz])]
    rfl
theorem putP_later {q x : TPlaced} : ∀ {l : List TPlaced}, (∃ y ∈ l, ltP q.fAt y.fAt) → putP (l ++ [x]) q = putP l q ++ [x]
  | [], ⟨_, hy, _⟩ => by cases hy
  | z :: zs, ⟨y, hy, hn⟩ => by
    rw [List.cons_append, putP, putP]
    by_cases h1 : ltP q.fAt z.fAt
    · rw [if_pos h1, if_pos h1]; rfl
    · have hy2 : y ∈ zs := by
        rcases List.mem_cons.1 hy with rfl | hy
        · exact absurd hn h1
        · exact hy
      rw [if_neg h1, if_neg h1, putP_later ⟨y, hy2, hn⟩]
      rfl
theorem putP_len {q : TPlaced} : ∀ {l : List TPlaced}, (putP l q).length = l.length + 1
  | [] => rfl
  | x :: xs => by
    rw [putP]
    split
    · rfl
    · rw [List.length_cons, putP_len, List.length_cons]
theorem putP_go {l : List TPlaced} {q v : TPlaced} {i : Nat} (hv : l[i]? = some v) : putP (l.take (i + 1)) q = if (∀ y ∈ l.take i, ¬ ltP q.fAt y.fAt) then (if ltP q.fAt v.fAt then l.take i ++ [q, v] else l.take i ++ [v] ++ [q]) else putP (l.take i) q ++ [v] := by
  rw [take_snoc hv]
  split
  · rename_i h
    split
    · rename_i hn
      exact putP_first hn h
    · rename_i hn
      refine putP_none fun y hy => ?_
      rcases List.mem_append.1 hy with hy | hy
      · exact h y hy
      · rw [List.mem_singleton.1 hy]; exact hn
  · rename_i h
    refine putP_later ?_
    simp only [Classical.not_forall] at h
    obtain ⟨y, hy, hn⟩ := h
    exact ⟨y, hy, Classical.not_not.1 hn⟩
open Classical in
noncomputable def dnQ (l : List TPlaced) (q : TPlaced) (i : Nat) : Bool := if (∀ y ∈ l.take i, ¬ ltP q.fAt y.fAt) then false else true
open Classical in
noncomputable def outQ (l : List TPlaced) (q : TPlaced) (i : Nat) : List TPlaced := if (∀ y ∈ l.take i, ¬ ltP q.fAt y.fAt) then l.take i else putP (l.take i) q
theorem outQ_len {l : List TPlaced} {q : TPlaced} {i : Nat} : (outQ l q i).length ≤ l.length + 1 := by
  unfold outQ
  split
  · rw [List.length_take]; omega
  · rw [putP_len, List.length_take]; omega
theorem sL03Put (A : TAssembly) (p : TPoint) (t : Int) (hl : A.fTiles.length ≤ 1048576) : Spec Try.prog 27 [vP (enAssembly A), .agg (enPoint p), vI t] (.v (.agg [.nw kPlaced ((putP A.fTiles ⟨p, t⟩).map enPlaced)])) := by
  refine Spec.walk T.mixed Try.func27 S.ok27 (by simp [Try.f27]) fun hk => ?_
  clear hk
  unfold S.s27
  have hQ0 : outQ A.fTiles ⟨p, t⟩ 0 = [] := by unfold outQ; rw [if_pos (by simp)]; rfl
  repeat' (first | refine R.mv rfl ?_ | refine R.reg ?_ | refine R.nil ?_ | refine R.seq ?_ | refine R.nseq ?_ | refine R.nblk ?_ | refine R.skip ?_ | refine R.blk ?_ | refine R.exit rfl ?_ | refine R.gRun rfl ?_ | refine R.gSkip rfl ?_ | refine R.gSkip0 rfl ?_ | refine R.gUndef rfl ?_ | refine R.gUndef0 rfl ?_ | refine R.ldEp rfl rfl (by assumption) rfl rfl ?_ | refine R.ldaEp rfl rfl (by assumption) (Nat.le_of_ble_eq_true rfl) rfl rfl ?_ | refine R.ld rfl rfl rfl ?_ | refine R.lda rfl rfl (Nat.le_of_ble_eq_true rfl) rfl ?_ | refine R.fa rfl rfl ?_ | refine R.lenM rfl ?_ | refine R.lenO rfl rfl ?_ | refine R.len rfl rfl ?_ | refine R.lss rfl rfl ?_ | refine R.add rfl rfl (by omega) ?_ | refine R.ixN rfl rfl rfl (by omega) (fun a ha => ?_) | refine R.ixM rfl rfl rfl (by omega) (fun a ha => ?_) | refine R.ixON rfl rfl rfl (by first | omega | (simp; omega)) (fun a' ha' => ?_) | refine R.ixO rfl rfl rfl (by first | omega | (simp; omega)) (fun a' ha' => ?_) | refine R.pickT rfl rfl ?_ | refine R.pickF rfl rfl ?_ | refine R.not rfl ?_ | refine R.nc rfl rfl ?_ | refine R.nc0 rfl rfl ?_ | refine R.al rfl ?_ | refine R.box rfl rfl rfl ?_ | refine R.stoB rfl rfl rfl rfl ⟨rfl, rfl, Nat.le_of_ble_eq_true rfl⟩ rfl ?_ | refine R.stoE _ rfl rfl rfl rfl rfl (by assumption) rfl ⟨rfl, rfl, Nat.le_of_ble_eq_true rfl⟩ ?_ | refine R.bld rfl rfl ?_ | refine R.condT rfl ?_ | refine R.condF rfl ?_ | refine R.cond rfl (fun hc => ?_) (fun hc => ?_) | refine R.condN rfl (fun hc => ?_) (fun hc => ?_) | refine R.condB rfl (fun hc => ?_) (fun hc => ?_) | refine R.gP rfl (fun hc => ?_) (fun hc => ?_) | refine R.gN rfl (fun hc => ?_) (fun hc => ?_) | refine R.gB rfl (fun hc => ?_) (fun hc => ?_))
  refine R.loop (G := Nat) (fun i => [(0, .v (.c (.d (.rp (enAssembly A))))), (2, pvA (.int .i64 t)), (4, .v (.c (.ptr 4 0))), (6, .v (.c (.ptr 6 0))), (7, .v (.c (.ptr 7 0))), (8, pvA (.bool (dnQ A.fTiles ⟨p, t⟩ i))), (9, pvA (.int .i64 i))]) (fun i => [(4, .box 34 ((enPoint p).map B.d)), (6, .box 30 [nilB]), (7, .box 30 [.own 10000]), (10000, .arr kPlaced ((outQ A.fTiles ⟨p, t⟩ i).map enPlaced) [])]) (fun i => i ≤ A.fTiles.length) (fun i => A.fTiles.length - i) 0 (by omega) (Weak.trans (Weak.reifyBox 7 0 10000 kPlaced rfl rfl rfl) (Weak.frame _ _ ⟨rfl, rfl, rfl, rfl, rfl, by unfold dnQ; rw [if_pos (by simp)]; rfl, rfl, trivial⟩ ⟨rfl, rfl, rfl, by rw [hQ0]; rfl, trivial⟩ rfl rfl)) fun i hi => ?_
  have hog := outQ_len (l := A.fTiles) (q := ⟨p, t⟩) (i := i)
  by_cases hil : i < A.fTiles.length
  · obtain ⟨v, hv⟩ : ∃ v, A.fTiles[i]? = some v := ⟨_, List.getElem?_eq_getElem hil⟩
    have hgo := putP_go (q := ⟨p, t⟩) hv
    have hL := sLessPoint p v.fAt
    have hlt : (A.fTiles.take i).length = i := by rw [List.length_take]; omega
    by_cases hall : ∀ y ∈ A.fTiles.take i, ¬ ltP p y.fAt
    · have hdn : dnQ A.fTiles ⟨p, t⟩ i = false := if_pos hall
      rw [if_pos hall] at hgo
      have ho1 : outQ A.fTiles ⟨p, t⟩ i = A.fTiles.take i := if_pos hall
      by_cases hnv : ltP p v.fAt
      · have hall2 : ¬ ∀ y ∈ A.fTiles.take (i + 1), ¬ ltP p y.fAt := fun h => h v (by rw [take_snoc hv]; simp) hnv
        have hd2 : dnQ A.fTiles ⟨p, t⟩ (i + 1) = true := if_neg hall2
        have ho2 : outQ A.fTiles ⟨p, t⟩ (i + 1) = putP (A.fTiles.take (i + 1)) ⟨p, t⟩ := if_neg hall2
        rw [if_pos hnv] at hgo
        rw [hgo] at ho2
        rw [decide_eq_true hnv] at hL
        repeat' (first | refine R.ixK v hv rfl rfl rfl ?_ | refine R.mv rfl ?_ | refine R.reg ?_ | refine R.nil ?_ | refine R.seq ?_ | refine R.nseq ?_ | refine R.nblk ?_ | refine R.skip ?_ | refine R.blk ?_ | refine R.exit rfl ?_ | refine R.gRun rfl ?_ | refine R.gSkip rfl ?_ | refine R.gSkip0 rfl ?_ | refine R.gUndef rfl ?_ | refine R.gUndef0 rfl ?_ | refine R.ldEp rfl rfl (by assumption) rfl rfl ?_ | refine R.ldaEp rfl rfl (by assumption) (Nat.le_of_ble_eq_true rfl) rfl rfl ?_ | refine R.ld rfl rfl rfl ?_ | refine R.lda rfl rfl (Nat.le_of_ble_eq_true rfl) rfl ?_ | refine R.fa rfl rfl ?_ | refine R.lenM rfl ?_ | refine R.lenO rfl rfl ?_ | refine R.len rfl rfl ?_ | refine R.lss rfl rfl ?_ | refine R.add rfl rfl (by omega) ?_ | refine R.ixN rfl rfl rfl (by omega) (fun a ha => ?_) | refine R.ixM rfl rfl rfl (by omega) (fun a ha => ?_) | refine R.ixON rfl rfl rfl (by first | omega | (simp; omega)) (fun a' ha' => ?_) | refine R.ixO rfl rfl rfl (by first | omega | (simp; omega)) (fun a' ha' => ?_) | refine R.pickT rfl rfl ?_ | refine R.pickF rfl rfl ?_ | refine R.not rfl ?_ | refine R.nc rfl rfl ?_ | refine R.nc0 rfl rfl ?_ | refine R.al rfl ?_ | refine R.box rfl rfl rfl ?_ | refine R.stoB rfl rfl rfl rfl ⟨rfl, rfl, Nat.le_of_ble_eq_true rfl⟩ rfl ?_ | refine R.stoE _ rfl rfl rfl rfl rfl (by assumption) rfl ⟨rfl, rfl, Nat.le_of_ble_eq_true rfl⟩ ?_ | refine R.bld rfl rfl ?_ | refine R.condT rfl ?_ | refine R.condF rfl ?_ | refine R.call (bor := false) rfl rfl (hL) rfl rfl rfl ?_ | refine R.call (bor := true) rfl rfl (hL) rfl rfl rfl ?_ | refine R.fcal (bor := false) rfl rfl (hL) rfl rfl rfl ?_ | refine R.fcal (bor := true) rfl rfl (hL) rfl rfl rfl ?_ | refine R.bsl (f := enPlaced) [⟨p, t⟩] rfl rfl rfl rfl rfl ?_ | refine R.bsl (f := enPlaced) [v] rfl rfl rfl rfl rfl ?_ | refine R.bslF (f := enPlaced) [v] rfl rfl rfl rfl ?_ | refine R.app (f := enPlaced) (fun _ => rfl) rfl rfl rfl rfl rfl ⟨by simp only [ho1, hlt, List.length_append, List.length_singleton]; omega, by simp only [ho1, hlt, List.length_append, List.length_singleton]; omega⟩ ?_ | refine R.cond rfl (fun hc => ?_) (fun hc => ?_) | refine R.condN rfl (fun hc => ?_) (fun hc => ?_) | refine R.condB rfl (fun hc => ?_) (fun hc => ?_) | refine R.gP rfl (fun hc => ?_) (fun hc => ?_) | refine R.gN rfl (fun hc => ?_) (fun hc => ?_) | refine R.gB rfl (fun hc => ?_) (fun hc => ?_))
        all_goals first
          | (exfalso; omega)
          | (exfalso; simp_all; done)
          | exact R.nloop (R.again (i + 1) (by omega) (by omega) ⟨rfl, rfl, rfl, rfl, rfl, by rw [hd2]; rfl, rfl, trivial⟩ ⟨rfl, rfl, rfl, arr_eq (by rw [ho1, ho2]; simp), trivial⟩ rfl rfl)
          | skip
      · have hall2 : ∀ y ∈ A.fTiles.take (i + 1), ¬ ltP p y.fAt := fun y hy => by
          rw [take_snoc hv] at hy
          rcases List.mem_append.1 hy with hy | hy
          · exact hall y hy
          · rw [List.mem_singleton.1 hy]; exact hnv
        have hd2 : dnQ A.fTiles ⟨p, t⟩ (i + 1) = false := if_pos hall2
        have ho2 : outQ A.fTiles ⟨p, t⟩ (i + 1) = A.fTiles.take (i + 1) := if_pos hall2
        rw [decide_eq_false hnv] at hL
        repeat' (first | refine R.ixK v hv rfl rfl rfl ?_ | refine R.mv rfl ?_ | refine R.reg ?_ | refine R.nil ?_ | refine R.seq ?_ | refine R.nseq ?_ | refine R.nblk ?_ | refine R.skip ?_ | refine R.blk ?_ | refine R.exit rfl ?_ | refine R.gRun rfl ?_ | refine R.gSkip rfl ?_ | refine R.gSkip0 rfl ?_ | refine R.gUndef rfl ?_ | refine R.gUndef0 rfl ?_ | refine R.ldEp rfl rfl (by assumption) rfl rfl ?_ | refine R.ldaEp rfl rfl (by assumption) (Nat.le_of_ble_eq_true rfl) rfl rfl ?_ | refine R.ld rfl rfl rfl ?_ | refine R.lda rfl rfl (Nat.le_of_ble_eq_true rfl) rfl ?_ | refine R.fa rfl rfl ?_ | refine R.lenM rfl ?_ | refine R.lenO rfl rfl ?_ | refine R.len rfl rfl ?_ | refine R.lss rfl rfl ?_ | refine R.add rfl rfl (by omega) ?_ | refine R.ixN rfl rfl rfl (by omega) (fun a ha => ?_) | refine R.ixM rfl rfl rfl (by omega) (fun a ha => ?_) | refine R.ixON rfl rfl rfl (by first | omega | (simp; omega)) (fun a' ha' => ?_) | refine R.ixO rfl rfl rfl (by first | omega | (simp; omega)) (fun a' ha' => ?_) | refine R.pickT rfl rfl ?_ | refine R.pickF rfl rfl ?_ | refine R.not rfl ?_ | refine R.nc rfl rfl ?_ | refine R.nc0 rfl rfl ?_ | refine R.al rfl ?_ | refine R.box rfl rfl rfl ?_ | refine R.stoB rfl rfl rfl rfl ⟨rfl, rfl, Nat.le_of_ble_eq_true rfl⟩ rfl ?_ | refine R.stoE _ rfl rfl rfl rfl rfl (by assumption) rfl ⟨rfl, rfl, Nat.le_of_ble_eq_true rfl⟩ ?_ | refine R.bld rfl rfl ?_ | refine R.condT rfl ?_ | refine R.condF rfl ?_ | refine R.call (bor := false) rfl rfl (hL) rfl rfl rfl ?_ | refine R.call (bor := true) rfl rfl (hL) rfl rfl rfl ?_ | refine R.fcal (bor := false) rfl rfl (hL) rfl rfl rfl ?_ | refine R.fcal (bor := true) rfl rfl (hL) rfl rfl rfl ?_ | refine R.bsl (f := enPlaced) [v] rfl rfl rfl rfl rfl ?_ | refine R.bslF (f := enPlaced) [v] rfl rfl rfl rfl ?_ | refine R.app (f := enPlaced) (fun _ => rfl) rfl rfl rfl rfl rfl ⟨by simp only [List.length_singleton]; omega, by simp only [List.length_singleton]; omega⟩ ?_ | refine R.cond rfl (fun hc => ?_) (fun hc => ?_) | refine R.condN rfl (fun hc => ?_) (fun hc => ?_) | refine R.condB rfl (fun hc => ?_) (fun hc => ?_) | refine R.gP rfl (fun hc => ?_) (fun hc => ?_) | refine R.gN rfl (fun hc => ?_) (fun hc => ?_) | refine R.gB rfl (fun hc => ?_) (fun hc => ?_))
        all_goals first
          | (exfalso; omega)
          | (exfalso; simp_all; done)
          | exact R.nloop (R.again (i + 1) (by omega) (by omega) ⟨rfl, rfl, rfl, rfl, rfl, by rw [hd2, ← hdn]; rfl, rfl, trivial⟩ ⟨rfl, rfl, rfl, arr_eq (by rw [ho1, ho2, take_snoc hv]), trivial⟩ rfl rfl)
          | skip
    · have hdn : dnQ A.fTiles ⟨p, t⟩ i = true := if_neg hall
      rw [if_neg hall] at hgo
      have ho1 : outQ A.fTiles ⟨p, t⟩ i = putP (A.fTiles.take i) ⟨p, t⟩ := if_neg hall
      have hall2 : ¬ ∀ y ∈ A.fTiles.take (i + 1), ¬ ltP p y.fAt := fun h => hall fun y hy => h y (by rw [take_snoc hv]; simp [hy])
      have hd2 : dnQ A.fTiles ⟨p, t⟩ (i + 1) = true := if_neg hall2
      have ho2 : outQ A.fTiles ⟨p, t⟩ (i + 1) = putP (A.fTiles.take (i + 1)) ⟨p, t⟩ := if_neg hall2
      repeat' (first | refine R.ixK v hv rfl rfl rfl ?_ | refine R.mv rfl ?_ | refine R.reg ?_ | refine R.nil ?_ | refine R.seq ?_ | refine R.nseq ?_ | refine R.nblk ?_ | refine R.skip ?_ | refine R.blk ?_ | refine R.exit rfl ?_ | refine R.gRun rfl ?_ | refine R.gSkip rfl ?_ | refine R.gSkip0 rfl ?_ | refine R.gUndef rfl ?_ | refine R.gUndef0 rfl ?_ | refine R.ldEp rfl rfl (by assumption) rfl rfl ?_ | refine R.ldaEp rfl rfl (by assumption) (Nat.le_of_ble_eq_true rfl) rfl rfl ?_ | refine R.ld rfl rfl rfl ?_ | refine R.lda rfl rfl (Nat.le_of_ble_eq_true rfl) rfl ?_ | refine R.fa rfl rfl ?_ | refine R.lenM rfl ?_ | refine R.lenO rfl rfl ?_ | refine R.len rfl rfl ?_ | refine R.lss rfl rfl ?_ | refine R.add rfl rfl (by omega) ?_ | refine R.ixN rfl rfl rfl (by omega) (fun a ha => ?_) | refine R.ixM rfl rfl rfl (by omega) (fun a ha => ?_) | refine R.ixON rfl rfl rfl (by first | omega | (simp; omega)) (fun a' ha' => ?_) | refine R.ixO rfl rfl rfl (by first | omega | (simp; omega)) (fun a' ha' => ?_) | refine R.pickT rfl rfl ?_ | refine R.pickF rfl rfl ?_ | refine R.not rfl ?_ | refine R.nc rfl rfl ?_ | refine R.nc0 rfl rfl ?_ | refine R.al rfl ?_ | refine R.box rfl rfl rfl ?_ | refine R.stoB rfl rfl rfl rfl ⟨rfl, rfl, Nat.le_of_ble_eq_true rfl⟩ rfl ?_ | refine R.stoE _ rfl rfl rfl rfl rfl (by assumption) rfl ⟨rfl, rfl, Nat.le_of_ble_eq_true rfl⟩ ?_ | refine R.bld rfl rfl ?_ | refine R.condT rfl ?_ | refine R.condF rfl ?_ | refine R.call (bor := false) rfl rfl (hL) rfl rfl rfl ?_ | refine R.call (bor := true) rfl rfl (hL) rfl rfl rfl ?_ | refine R.fcal (bor := false) rfl rfl (hL) rfl rfl rfl ?_ | refine R.fcal (bor := true) rfl rfl (hL) rfl rfl rfl ?_ | refine R.bsl (f := enPlaced) [v] rfl rfl rfl rfl rfl ?_ | refine R.bslF (f := enPlaced) [v] rfl rfl rfl rfl ?_ | refine R.app (f := enPlaced) (fun _ => rfl) rfl rfl rfl rfl rfl ⟨by simp only [List.length_singleton]; omega, by simp only [List.length_singleton]; omega⟩ ?_ | refine R.cond rfl (fun hc => ?_) (fun hc => ?_) | refine R.condN rfl (fun hc => ?_) (fun hc => ?_) | refine R.condB rfl (fun hc => ?_) (fun hc => ?_) | refine R.gP rfl (fun hc => ?_) (fun hc => ?_) | refine R.gN rfl (fun hc => ?_) (fun hc => ?_) | refine R.gB rfl (fun hc => ?_) (fun hc => ?_))
      all_goals first
        | (exfalso; omega)
        | (exfalso; simp_all; done)
        | exact R.nloop (R.again (i + 1) (by omega) (by omega) ⟨rfl, rfl, rfl, rfl, rfl, by rw [hd2, ← hdn]; rfl, rfl, trivial⟩ ⟨rfl, rfl, rfl, arr_eq (by rw [ho1, ho2, hgo]), trivial⟩ rfl rfl)
        | skip
  obtain rfl : i = A.fTiles.length := by omega
  by_cases hall : ∀ y ∈ A.fTiles, ¬ ltP p y.fAt
  · have hdn : dnQ A.fTiles ⟨p, t⟩ A.fTiles.length = false := if_pos (by rw [List.take_length]; exact hall)
    have ho1 : outQ A.fTiles ⟨p, t⟩ A.fTiles.length = A.fTiles := by unfold outQ; rw [List.take_length]; exact if_pos hall
    have hpn := putP_none (q := ⟨p, t⟩) hall
    repeat' (first | refine R.mv rfl ?_ | refine R.reg ?_ | refine R.nil ?_ | refine R.seq ?_ | refine R.nseq ?_ | refine R.nblk ?_ | refine R.skip ?_ | refine R.blk ?_ | refine R.exit rfl ?_ | refine R.gRun rfl ?_ | refine R.gSkip rfl ?_ | refine R.gSkip0 rfl ?_ | refine R.gUndef rfl ?_ | refine R.gUndef0 rfl ?_ | refine R.ldEp rfl rfl (by assumption) rfl rfl ?_ | refine R.ldaEp rfl rfl (by assumption) (Nat.le_of_ble_eq_true rfl) rfl rfl ?_ | refine R.ld rfl rfl rfl ?_ | refine R.lda rfl rfl (Nat.le_of_ble_eq_true rfl) rfl ?_ | refine R.fa rfl rfl ?_ | refine R.lenM rfl ?_ | refine R.lenO rfl rfl ?_ | refine R.len rfl rfl ?_ | refine R.lss rfl rfl ?_ | refine R.add rfl rfl (by omega) ?_ | refine R.ixN rfl rfl rfl (by omega) (fun a ha => ?_) | refine R.ixM rfl rfl rfl (by omega) (fun a ha => ?_) | refine R.ixON rfl rfl rfl (by first | omega | (simp; omega)) (fun a' ha' => ?_) | refine R.ixO rfl rfl rfl (by first | omega | (simp; omega)) (fun a' ha' => ?_) | refine R.pickT rfl rfl ?_ | refine R.pickF rfl rfl ?_ | refine R.not rfl ?_ | refine R.nc rfl rfl ?_ | refine R.nc0 rfl rfl ?_ | refine R.al rfl ?_ | refine R.box rfl rfl rfl ?_ | refine R.stoB rfl rfl rfl rfl ⟨rfl, rfl, Nat.le_of_ble_eq_true rfl⟩ rfl ?_ | refine R.stoE _ rfl rfl rfl rfl rfl (by assumption) rfl ⟨rfl, rfl, Nat.le_of_ble_eq_true rfl⟩ ?_ | refine R.bld rfl rfl ?_ | refine R.condT rfl ?_ | refine R.condF rfl ?_ | refine R.bsl (f := enPlaced) [⟨p, t⟩] rfl rfl rfl rfl rfl ?_ | refine R.app (f := enPlaced) (fun _ => rfl) rfl rfl rfl rfl rfl ⟨by simp only [List.length_singleton]; omega, by simp only [List.length_singleton]; omega⟩ ?_ | refine R.cond rfl (fun hc => ?_) (fun hc => ?_) | refine R.condN rfl (fun hc => ?_) (fun hc => ?_) | refine R.condB rfl (fun hc => ?_) (fun hc => ?_) | refine R.gP rfl (fun hc => ?_) (fun hc => ?_) | refine R.gN rfl (fun hc => ?_) (fun hc => ?_) | refine R.gB rfl (fun hc => ?_) (fun hc => ?_))
    all_goals first
      | (exfalso; omega)
      | (exfalso; simp_all; done)
      | (rw [show putP A.fTiles ⟨p, t⟩ = outQ A.fTiles ⟨p, t⟩ A.fTiles.length ++ [⟨p, t⟩] by rw [ho1, hpn]]; exact R.ret ⟨.inr rfl, R.outR rfl (.cons (R.cell rfl rfl T.ty30 (Nat.le_of_ble_eq_true rfl) rfl) .nil) rfl rfl rfl rfl⟩)
      | skip
  · have hdn : dnQ A.fTiles ⟨p, t⟩ A.fTiles.length = true := if_neg (by rw [List.take_length]; exact hall)
    have ho1 : outQ A.fTiles ⟨p, t⟩ A.fTiles.length = putP A.fTiles ⟨p, t⟩ := by unfold outQ; rw [List.take_length]; exact if_neg hall
    repeat' (first | refine R.mv rfl ?_ | refine R.reg ?_ | refine R.nil ?_ | refine R.seq ?_ | refine R.nseq ?_ | refine R.nblk ?_ | refine R.skip ?_ | refine R.blk ?_ | refine R.exit rfl ?_ | refine R.gRun rfl ?_ | refine R.gSkip rfl ?_ | refine R.gSkip0 rfl ?_ | refine R.gUndef rfl ?_ | refine R.gUndef0 rfl ?_ | refine R.ldEp rfl rfl (by assumption) rfl rfl ?_ | refine R.ldaEp rfl rfl (by assumption) (Nat.le_of_ble_eq_true rfl) rfl rfl ?_ | refine R.ld rfl rfl rfl ?_ | refine R.lda rfl rfl (Nat.le_of_ble_eq_true rfl) rfl ?_ | refine R.fa rfl rfl ?_ | refine R.lenM rfl ?_ | refine R.lenO rfl rfl ?_ | refine R.len rfl rfl ?_ | refine R.lss rfl rfl ?_ | refine R.add rfl rfl (by omega) ?_ | refine R.ixN rfl rfl rfl (by omega) (fun a ha => ?_) | refine R.ixM rfl rfl rfl (by omega) (fun a ha => ?_) | refine R.ixON rfl rfl rfl (by first | omega | (simp; omega)) (fun a' ha' => ?_) | refine R.ixO rfl rfl rfl (by first | omega | (simp; omega)) (fun a' ha' => ?_) | refine R.pickT rfl rfl ?_ | refine R.pickF rfl rfl ?_ | refine R.not rfl ?_ | refine R.nc rfl rfl ?_ | refine R.nc0 rfl rfl ?_ | refine R.al rfl ?_ | refine R.box rfl rfl rfl ?_ | refine R.stoB rfl rfl rfl rfl ⟨rfl, rfl, Nat.le_of_ble_eq_true rfl⟩ rfl ?_ | refine R.stoE _ rfl rfl rfl rfl rfl (by assumption) rfl ⟨rfl, rfl, Nat.le_of_ble_eq_true rfl⟩ ?_ | refine R.bld rfl rfl ?_ | refine R.condT rfl ?_ | refine R.condF rfl ?_ | refine R.cond rfl (fun hc => ?_) (fun hc => ?_) | refine R.condN rfl (fun hc => ?_) (fun hc => ?_) | refine R.condB rfl (fun hc => ?_) (fun hc => ?_) | refine R.gP rfl (fun hc => ?_) (fun hc => ?_) | refine R.gN rfl (fun hc => ?_) (fun hc => ?_) | refine R.gB rfl (fun hc => ?_) (fun hc => ?_))
    all_goals first
      | (exfalso; omega)
      | (exfalso; simp_all; done)
      | (rw [← ho1]; exact R.ret ⟨.inr rfl, R.outR rfl (.cons (R.cell rfl rfl T.ty30 (Nat.le_of_ble_eq_true rfl) rfl) .nil) rfl rfl rfl rfl⟩)
      | skip
open Classical in
noncomputable def fPut (A : TAssembly) (p : TPoint) (t : Int) : List TPlaced × Int :=
  if okA A.fTiles then (if okP p ∧ 0 ≤ t ∧ t ≤ 159 then (if 0 ≤ tileAt A.fTiles p then ([], 7) else if A.fTiles.length = 500 then ([], 4) else (putP A.fTiles ⟨p, t⟩, 0)) else ([], 2)) else ([], 1)
end Go.Proofs.Ytghpeccaknhjiaa
