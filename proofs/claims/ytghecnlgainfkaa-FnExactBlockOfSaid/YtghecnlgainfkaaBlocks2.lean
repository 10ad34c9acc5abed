/- Contracts of BlockOf, and the law on it. -/
import Derived.Test.YtghecnlgainfkaaBlocks
namespace Go.Proofs.Ytghecnlgainfkaa
open Go.RowKit
set_option maxHeartbeats 1600000 in
theorem specBlockOf (x y k : Int) (w : World) : Calls Try.prog 28 #[ptV x y, .int .i64 k] w (Either (BlockAsk x y k) (.tuple #[ptV (x / k) (y / k), ptV (x % k) (y % k), .int .i64 0]) (.tuple #[ptV 0 0, ptV 0 0, .int .i64 2]) w) := by
  by_cases H : BlockAsk x y k
  · have H' := H
    unfold BlockAsk PtOk at H'
    go_enter Try.func28, Try.ntmps28
    go_wp2_with (first | (go_at_call 65; refine (sPt _ _ _).mono ?_; rintro e w1 ⟨hb, ⟨h1, rfl⟩ | ⟨h1, rfl⟩⟩ <;> unfold PtOk at h1 <;> (try (exfalso; omega)) <;> (obtain ⟨hc, hf⟩ := bcell hb; have hz := hb.size; have ht := below_lt hb; (try simp at hz); (try have z0 : w.heap.size < w1.heap.size := by omega); (try have z1 : w.heap.size + 1 < w1.heap.size := by omega); (try have z2 : w.heap.size + 1 + 1 < w1.heap.size := by omega); (try have z3 : w.heap.size + 1 + 1 + 1 < w1.heap.size := by omega); (try have z4 : w.heap.size + 1 + 1 + 1 + 1 < w1.heap.size := by omega))) | (go_at_call 58; refine (sIn _ _ _ _).mono ?_; rintro e w' ⟨rfl, ⟨h1, rfl⟩ | ⟨h1, rfl⟩⟩ <;> try (exfalso; omega)) | (go_at_call 73; refine (sBlock _ _ _ (by omega) (by omega) (by omega) _).mono ?_; rintro e w1 ⟨rfl, hb⟩; (obtain ⟨hc, hf⟩ := bcell hb; have hz := hb.size; have ht := below_lt hb; (try simp at hz); (try have z0 : w.heap.size < w1.heap.size := by omega); (try have z1 : w.heap.size + 1 < w1.heap.size := by omega); (try have z2 : w.heap.size + 1 + 1 < w1.heap.size := by omega); (try have z3 : w.heap.size + 1 + 1 + 1 < w1.heap.size := by omega); (try have z4 : w.heap.size + 1 + 1 + 1 + 1 < w1.heap.size := by omega))))
    refine wp_named ?_; intro w0 hb0 hcw0 hfw0 hsz0
    have q0 : w0.cell? ⟨w.heap.size + 1, 0, none⟩ = some (.int .i64 0) := by rw [hcw0]; go_simp
    have p0 : w0.frozen? ⟨w.heap.size + 1, 0, none⟩ = false := by rw [hfw0]; go_simp
    have q1 : w0.cell? ⟨w.heap.size + 1, 1, none⟩ = some (.int .i64 0) := by rw [hcw0]; go_simp
    have p1 : w0.frozen? ⟨w.heap.size + 1, 1, none⟩ = false := by rw [hfw0]; go_simp
    have q2 : w0.cell? ⟨w.heap.size + 1 + 1, 0, none⟩ = some (.int .i64 0) := by rw [hcw0]; go_simp
    have p2 : w0.frozen? ⟨w.heap.size + 1 + 1, 0, none⟩ = false := by rw [hfw0]; go_simp
    have q3 : w0.cell? ⟨w.heap.size + 1 + 1, 1, none⟩ = some (.int .i64 0) := by rw [hcw0]; go_simp
    have p3 : w0.frozen? ⟨w.heap.size + 1 + 1, 1, none⟩ = false := by rw [hfw0]; go_simp
    have q4 : w0.cell? ⟨w1.heap.size, 0, none⟩ = some (.int .i64 (x / k)) := by rw [hcw0]; go_simp
    have q5 : w0.cell? ⟨w1.heap.size, 1, none⟩ = some (.int .i64 (y / k)) := by rw [hcw0]; go_simp
    have q6 : w0.cell? ⟨w1.heap.size + 1, 0, none⟩ = some (.int .i64 (x % k)) := by rw [hcw0]; go_simp
    have q7 : w0.cell? ⟨w1.heap.size + 1, 1, none⟩ = some (.int .i64 (y % k)) := by rw [hcw0]; go_simp
    have l0 : w1.heap.size + 2 ≤ w0.heap.size := by rw [hsz0]; simp
    have l1 : w.heap.size + 3 ≤ w1.heap.size := by omega
    have hbb : Below w.heap.size w w0 := (by repeat (first | exact Below.refl _ _ | refine Below.setCell ?_ (by first | omega | (simp; done) | (simp; omega)) _ | refine Below.alloc ?_ (by first | omega | (simp; done) | (simp; omega)) _ | refine Below.drew ?_ | refine Below.trans ?_ (Below.mono (by assumption) (by first | omega | (simp; done) | (simp; omega)))))
    clear hcw0 hfw0 hsz0 hb0
    go_region
    all_goals
      go_wp2_with fail
      refine bodyPost_ret (v := .tuple #[ptV (x / k) (y / k), ptV (x % k) (y % k), .int .i64 0]) ?_ rfl (.yes (by repeat (first | exact Below.refl _ _ | refine Below.setCell ?_ (by first | omega | (simp; done) | (simp; omega)) _ | refine Below.alloc ?_ (by first | omega | (simp; done) | (simp; omega)) _ | refine Below.drew ?_ | refine Below.trans ?_ (Below.mono (by assumption) (by first | omega | (simp; done) | (simp; omega))))) H)
      simp only [results, Try.results28]; go_simp
  · have H' := H
    unfold BlockAsk PtOk at H'
    go_enter Try.func28, Try.ntmps28
    go_wp2_with (first | (go_at_call 65; refine (sPt _ _ _).mono ?_; rintro e w1 ⟨hb, ⟨h1, rfl⟩ | ⟨h1, rfl⟩⟩ <;> unfold PtOk at h1 <;> (try (exfalso; omega)) <;> (obtain ⟨hc, hf⟩ := bcell hb; have hz := hb.size; have ht := below_lt hb; (try simp at hz); (try have z0 : w.heap.size < w1.heap.size := by omega); (try have z1 : w.heap.size + 1 < w1.heap.size := by omega); (try have z2 : w.heap.size + 1 + 1 < w1.heap.size := by omega); (try have z3 : w.heap.size + 1 + 1 + 1 < w1.heap.size := by omega); (try have z4 : w.heap.size + 1 + 1 + 1 + 1 < w1.heap.size := by omega))) | (go_at_call 58; refine (sIn _ _ _ _).mono ?_; rintro e w' ⟨rfl, ⟨h1, rfl⟩ | ⟨h1, rfl⟩⟩ <;> try (exfalso; omega)))
    all_goals
      refine bodyPost_ret (v := .tuple #[ptV 0 0, ptV 0 0, .int .i64 2]) ?_ rfl (.no (by repeat (first | exact Below.refl _ _ | refine Below.setCell ?_ (by first | omega | (simp; done) | (simp; omega)) _ | refine Below.alloc ?_ (by first | omega | (simp; done) | (simp; omega)) _ | refine Below.drew ?_ | refine Below.trans ?_ (Below.mono (by assumption) (by first | omega | (simp; done) | (simp; omega))))) H)
      simp only [results, Try.results28]; go_simp
set_option maxHeartbeats 1600000 in
theorem implBlockOf (x y k : Int) (w : World) : Calls Try.prog 29 #[ptV x y, .int .i64 k] w (Either (BlockAsk x y k) (.tuple #[ptV (x / k) (y / k), ptV (x % k) (y % k), .int .i64 0]) (.tuple #[ptV 0 0, ptV 0 0, .int .i64 2]) w) := by
  by_cases H : BlockAsk x y k
  · have H' := H
    unfold BlockAsk PtOk at H'
    go_enter Try.func29, Try.ntmps29
    go_wp2_with (first | (go_at_call 68; refine (iPt _ _ _).mono ?_; rintro e w1 ⟨hb, ⟨h1, rfl⟩ | ⟨h1, rfl⟩⟩ <;> unfold PtOk at h1 <;> (try (exfalso; omega)) <;> (obtain ⟨hc, hf⟩ := bcell hb; have hz := hb.size; have ht := below_lt hb; (try simp at hz); (try have z0 : w.heap.size < w1.heap.size := by omega); (try have z1 : w.heap.size + 1 < w1.heap.size := by omega); (try have z2 : w.heap.size + 1 + 1 < w1.heap.size := by omega); (try have z3 : w.heap.size + 1 + 1 + 1 < w1.heap.size := by omega); (try have z4 : w.heap.size + 1 + 1 + 1 + 1 < w1.heap.size := by omega))) | (go_at_call 67; refine (bsOk _ _).mono ?_; rintro e w' ⟨rfl, ⟨h1, rfl⟩ | ⟨h1, rfl⟩⟩ <;> try (exfalso; omega)) | (go_at_call 74; refine (iBlock _ _ _ (by omega) (by omega) (by omega) _).mono ?_; rintro e w1 ⟨rfl, hb⟩; (obtain ⟨hc, hf⟩ := bcell hb; have hz := hb.size; have ht := below_lt hb; (try simp at hz); (try have z0 : w.heap.size < w1.heap.size := by omega); (try have z1 : w.heap.size + 1 < w1.heap.size := by omega); (try have z2 : w.heap.size + 1 + 1 < w1.heap.size := by omega); (try have z3 : w.heap.size + 1 + 1 + 1 < w1.heap.size := by omega); (try have z4 : w.heap.size + 1 + 1 + 1 + 1 < w1.heap.size := by omega))))
    refine wp_named ?_; intro w0 hb0 hcw0 hfw0 hsz0
    have q0 : w0.cell? ⟨w.heap.size + 1, 0, none⟩ = some (.int .i64 0) := by rw [hcw0]; go_simp
    have p0 : w0.frozen? ⟨w.heap.size + 1, 0, none⟩ = false := by rw [hfw0]; go_simp
    have q1 : w0.cell? ⟨w.heap.size + 1, 1, none⟩ = some (.int .i64 0) := by rw [hcw0]; go_simp
    have p1 : w0.frozen? ⟨w.heap.size + 1, 1, none⟩ = false := by rw [hfw0]; go_simp
    have q2 : w0.cell? ⟨w.heap.size + 1 + 1, 0, none⟩ = some (.int .i64 0) := by rw [hcw0]; go_simp
    have p2 : w0.frozen? ⟨w.heap.size + 1 + 1, 0, none⟩ = false := by rw [hfw0]; go_simp
    have q3 : w0.cell? ⟨w.heap.size + 1 + 1, 1, none⟩ = some (.int .i64 0) := by rw [hcw0]; go_simp
    have p3 : w0.frozen? ⟨w.heap.size + 1 + 1, 1, none⟩ = false := by rw [hfw0]; go_simp
    have q4 : w0.cell? ⟨w1.heap.size, 0, none⟩ = some (.int .i64 (x / k)) := by rw [hcw0]; go_simp
    have q5 : w0.cell? ⟨w1.heap.size, 1, none⟩ = some (.int .i64 (y / k)) := by rw [hcw0]; go_simp
    have q6 : w0.cell? ⟨w1.heap.size + 1, 0, none⟩ = some (.int .i64 (x % k)) := by rw [hcw0]; go_simp
    have q7 : w0.cell? ⟨w1.heap.size + 1, 1, none⟩ = some (.int .i64 (y % k)) := by rw [hcw0]; go_simp
    have l0 : w1.heap.size + 2 ≤ w0.heap.size := by rw [hsz0]; simp
    have l1 : w.heap.size + 3 ≤ w1.heap.size := by omega
    have hbb : Below w.heap.size w w0 := (by repeat (first | exact Below.refl _ _ | refine Below.setCell ?_ (by first | omega | (simp; done) | (simp; omega)) _ | refine Below.alloc ?_ (by first | omega | (simp; done) | (simp; omega)) _ | refine Below.drew ?_ | refine Below.trans ?_ (Below.mono (by assumption) (by first | omega | (simp; done) | (simp; omega)))))
    clear hcw0 hfw0 hsz0 hb0
    go_region
    all_goals
      go_wp2_with fail
      refine bodyPost_ret (v := .tuple #[ptV (x / k) (y / k), ptV (x % k) (y % k), .int .i64 0]) ?_ rfl (.yes (by repeat (first | exact Below.refl _ _ | refine Below.setCell ?_ (by first | omega | (simp; done) | (simp; omega)) _ | refine Below.alloc ?_ (by first | omega | (simp; done) | (simp; omega)) _ | refine Below.drew ?_ | refine Below.trans ?_ (Below.mono (by assumption) (by first | omega | (simp; done) | (simp; omega))))) H)
      simp only [results, Try.results29]; go_simp
  · have H' := H
    unfold BlockAsk PtOk at H'
    go_enter Try.func29, Try.ntmps29
    go_wp2_with (first | (go_at_call 68; refine (iPt _ _ _).mono ?_; rintro e w1 ⟨hb, ⟨h1, rfl⟩ | ⟨h1, rfl⟩⟩ <;> unfold PtOk at h1 <;> (try (exfalso; omega)) <;> (obtain ⟨hc, hf⟩ := bcell hb; have hz := hb.size; have ht := below_lt hb; (try simp at hz); (try have z0 : w.heap.size < w1.heap.size := by omega); (try have z1 : w.heap.size + 1 < w1.heap.size := by omega); (try have z2 : w.heap.size + 1 + 1 < w1.heap.size := by omega); (try have z3 : w.heap.size + 1 + 1 + 1 < w1.heap.size := by omega); (try have z4 : w.heap.size + 1 + 1 + 1 + 1 < w1.heap.size := by omega))) | (go_at_call 67; refine (bsOk _ _).mono ?_; rintro e w' ⟨rfl, ⟨h1, rfl⟩ | ⟨h1, rfl⟩⟩ <;> try (exfalso; omega)))
    all_goals
      refine bodyPost_ret (v := .tuple #[ptV 0 0, ptV 0 0, .int .i64 2]) ?_ rfl (.no (by repeat (first | exact Below.refl _ _ | refine Below.setCell ?_ (by first | omega | (simp; done) | (simp; omega)) _ | refine Below.alloc ?_ (by first | omega | (simp; done) | (simp; omega)) _ | refine Below.drew ?_ | refine Below.trans ?_ (Below.mono (by assumption) (by first | omega | (simp; done) | (simp; omega))))) H)
      simp only [results, Try.results29]; go_simp
end Go.Proofs.Ytghecnlgainfkaa
