/- A rule's rectangle: the program's contract. -/
import Derived.Test.YtnkfbodolbfjpaaRul6
namespace Go.Proofs.Ytnkfbodolbfjpaa
open Go.RowKit
set_option maxRecDepth 100000
set_option maxHeartbeats 2000000
theorem rws_row (st : Int) (tb west south : List Int) : ∀ (y : Nat) (l : List Int), l ∈ rws st tb west south y → l.length = south.length
  | 0, l, hl => by cases hl
  | y + 1, l, hl => by
    rw [rws] at hl
    rcases List.mem_append.1 hl with hl | hl
    · exact rws_row st tb west south y l hl
    · rw [List.mem_singleton.1 hl, stp_len]
theorem fRR_bd (r : TRule) (w s : List Int) : (fRR r w s).1.length ≤ 15 ∧ ∀ l ∈ (fRR r w s).1, l.length ≤ 15 := by
  unfold fRR
  split
  · split
    · rename_i _ h
      have h1 := h.1.1
      have h2 := h.2.1
      refine ⟨?_, fun l hl => ?_⟩
      · show (rws r.fStates r.fTable w s w.length).length ≤ 15
        rw [rws_len]
        omega
      · have := rws_row _ _ _ _ _ l hl
        omega
    · exact ⟨by simp, fun l hl => by simp at hl⟩
  · exact ⟨by simp, fun l hl => by simp at hl⟩
theorem fRR_code (r : TRule) (w s : List Int) : okI (.int .i64 (fRR r w s).2) := by
  unfold fRR
  split
  · split
    · exact okI_small ⟨by show (-1000 : Int) ≤ _; simp, by simp⟩
    · exact okI_small ⟨by show (-1000 : Int) ≤ _; simp, by simp⟩
  · exact okI_small ⟨by show (-1000 : Int) ≤ _; simp, by simp⟩
theorem flat_rows7 : ∀ rows : List (List Int), (rows.map enR).flatten = rows.map fun l => D.rd kI (ints l)
  | [] => rfl
  | l :: rows => by
    show [D.rd kI (ints l)] ++ (rows.map enR).flatten = _
    rw [flat_rows7 rows]
    rfl
theorem iRunRule (r : TRule) (w s : List Int) : Spec Try.prog 57 [.agg (enRule r), vL kI (ints w), vL kI (ints s)] (.tup [cN kR ((fRR r w s).1.map enR), cI (fRR r w s).2]) := by
  refine ⟨callFunc_enter Try.func57 rfl (by simp [Try.f57]), fun W R ι φ vs hR hF ho => ?_⟩
  cases hF with | cons q1 hF => cases hF with | cons q2 hF => cases hF with | cons q3 hF =>
  cases hF
  rename_i v1 v2 v3
  have q2 : RD W R v2 (.rd kI (ints w)) := q2
  have q3 : RD W R v3 (.rd kI (ints s)) := q3
  obtain ⟨us, rfl, q1⟩ := q1
  have q1 : F2 (RB W R ι (domO (frO []))) us [.d (iD r.fStates), .d (.rd kI (ints r.fTable))] := q1
  cases q1 with | cons p1 q1 => cases q1 with | cons p2 q1 =>
  cases q1
  rename_i u1 u2
  have p1 : RD W R u1 (iD r.fStates) := p1
  have p2 : RD W R u2 (.rd kI (ints r.fTable)) := p2
  cases p1 with | pv _ hok =>
  refine (run57 r w s u2 v2 v3 W R hR hok p2 q2 q3).mono ?_
  rintro e w1 ⟨v, rfl, hbl, us, S, h1, h2, h3, h4⟩
  have hlt := h1.lt
  generalize hrs : fRR r w s = rs at *
  have hg : ∀ o x, frO ([(0, Ob.arr kR (rs.1.map enR) [])]) o = some x → o = 0 ∧ x = .arr kR (rs.1.map enR) [] := fun o x hf => by
    simp only [frO, upd] at hf
    split at hf
    · cases hf; exact ⟨by assumption, rfl⟩
    · cases hf
  have hown : ∀ g ∈ v.ownBlock.toList ++ S, W.heap.size ≤ g ∧ g < w1.heap.size := fun g hg => by
    rcases List.mem_append.1 hg with hg | hg
    · exact hlt g (by simpa using hg)
    · exact h4 g hg
  refine ⟨_, rfl, R, upd ι 0 v, upd φ 0 (v.ownBlock.toList ++ S), BelowM.of_below hbl, fun b h => h, fun b h => Nat.lt_of_lt_of_le (hR b h) hbl.size, fun b h _ => .inl h, ?_, ⟨fun o x hf => ?_, fun o x hf g hgm => ?_, fun o p x y g hf hf' _ _ => (hg o x hf).1.trans (hg p y hf').1.symm, ho.2.2.2.keep (fun _ h => h) fun b hb => hbl.block b (hR b hb)⟩, fun g hf => ?_, fun o hf => upd_ne _ _ (fun e => by subst e; exact absurd hf (by decide))⟩
  · exact ⟨[v, .int .i64 rs.2], rfl, .cons ⟨⟨_, upd_same _ _ _⟩, (upd_same _ _ _).symm⟩ (.cons (RD.pv rfl (by rw [← hrs]; exact fRR_code r w s)) .nil)⟩
  · obtain ⟨rfl, rfl⟩ := hg o x hf
    rw [upd_same, upd_same]
    refine ⟨fun es he => ?_, us, S, ?_, EH.of_ET ?_, rfl, h3⟩
    · obtain ⟨n, _, rfl⟩ := List.mem_map.1 he
      rfl
    · rw [List.length_map]
      exact ⟨h1.1, h1.2.imp id fun ⟨g, cp, cur, q1, q2, q3⟩ => ⟨g, cp, cur, q1, Nat.zero_le _, q3⟩⟩
    · rw [flat_rows7]
      exact h2
  · obtain ⟨rfl, rfl⟩ := hg o x hf
    rw [upd_same] at hgm
    have := hown g hgm
    exact ⟨fun hr => by have := hR g hr; omega, this.2⟩
  · obtain ⟨o, x, hf, hgm⟩ := hf
    obtain ⟨rfl, rfl⟩ := hg o x hf
    rw [upd_same] at hgm
    exact .inr (hown g hgm).1
end Go.Proofs.Ytnkfbodolbfjpaa
