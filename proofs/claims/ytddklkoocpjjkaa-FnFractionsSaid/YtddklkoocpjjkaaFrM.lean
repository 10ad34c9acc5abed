/- Fractions: plain arithmetic. -/
import Derived.Test.YtddklkoocpjjkaaBase
namespace Go.Proofs.Ytddklkoocpjjkaa
def redN (num den : Int) : Int := if den < 0 then (-num) / (Int.gcd num den : Int) else num / (Int.gcd num den : Int)
def redD (num den : Int) : Int := if den < 0 then (-den) / (Int.gcd num den : Int) else den / (Int.gcd num den : Int)
theorem dvd_cop {an ad x : Int} (hg : Int.gcd an ad = 1) (h : ad ∣ an * x) : ad ∣ x := by
  have h1 : ad.natAbs ∣ an.natAbs * x.natAbs := by rw [← Int.natAbs_mul]; exact Int.natAbs_dvd_natAbs.2 h
  have h2 : Nat.Coprime ad.natAbs an.natAbs := by
    unfold Nat.Coprime
    rw [Nat.gcd_comm]
    exact hg
  exact Int.natAbs_dvd_natAbs.1 (Nat.Coprime.dvd_of_dvd_mul_left h2 h1)
theorem red_pos {num den an ad : Int} (hd : 0 < den) (had : 0 < ad) (hg : Int.gcd an ad = 1) (h : num * ad = an * den) : redN num den = an ∧ redD num den = ad := by
  have hdv : ad ∣ den := by
    have h1 : ad ∣ an * den := ⟨num, by rw [← h]; exact Int.mul_comm _ _⟩
    exact dvd_cop hg h1
  obtain ⟨k, hk⟩ := hdv
  have hk0 : 0 < k := by
    rcases Int.lt_trichotomy k 0 with hk0 | hk0 | hk0
    · have := Int.mul_neg_of_pos_of_neg had hk0
      omega
    · rw [hk0] at hk; omega
    · exact hk0
  have hn : num = an * k := by
    have h2 : num * ad = an * k * ad := by rw [h, hk]; grind
    exact Int.eq_of_mul_eq_mul_right (by omega) h2
  have hgk : (Int.gcd num den : Int) = k := by
    rw [hn, hk, Int.gcd_mul_right, hg]
    simp
    omega
  unfold redN redD
  rw [if_neg (by omega), if_neg (by omega), hgk, hn, hk]
  exact ⟨Int.mul_ediv_cancel _ (by omega), Int.mul_ediv_cancel _ (by omega)⟩
theorem redN_neg {num den : Int} (h : den ≠ 0) : redN (-num) (-den) = redN num den ∧ redD (-num) (-den) = redD num den := by
  unfold redN redD
  rw [Int.gcd_neg, Int.neg_gcd]
  by_cases hd : den < 0
  · rw [if_neg (by omega), if_pos hd, if_neg (by omega), if_pos hd]
    exact ⟨rfl, rfl⟩
  · rw [if_pos (by omega), if_neg hd, if_pos (by omega), if_neg hd, Int.neg_neg, Int.neg_neg]
    exact ⟨rfl, rfl⟩
theorem red_eq {num den an ad : Int} (hd : den ≠ 0) (had : 0 < ad) (hg : Int.gcd an ad = 1) (h : num * ad = an * den) : redN num den = an ∧ redD num den = ad := by
  rcases Int.lt_or_gt_of_ne hd with hd2 | hd2
  · have h1 := redN_neg (num := num) hd
    rw [← h1.1, ← h1.2]
    exact red_pos (by omega) had hg (by rw [Int.neg_mul, h, Int.mul_neg])
  · exact red_pos hd2 had hg h
/-- What a reduced fraction is. -/
theorem red_spec {num den : Int} (hd : den ≠ 0) : 0 < redD num den ∧ Int.gcd (redN num den) (redD num den) = 1 ∧ redN num den * den = num * redD num den := by
  have hpos : ∀ {num den : Int}, 0 < den → 0 < redD num den ∧ Int.gcd (redN num den) (redD num den) = 1 ∧ redN num den * den = num * redD num den := by
    intro num den hd
    have hg0 : 0 < Int.gcd num den := Int.gcd_pos_of_ne_zero_right _ (by omega)
    obtain ⟨x, hx⟩ : (Int.gcd num den : Int) ∣ num := Int.gcd_dvd_left ..
    obtain ⟨y, hy⟩ : (Int.gcd num den : Int) ∣ den := Int.gcd_dvd_right ..
    have hN : redN num den = x := by
      unfold redN
      rw [if_neg (by omega)]
      exact Int.ediv_eq_of_eq_mul_right (by omega) hx
    have hD : redD num den = y := by
      unfold redD
      rw [if_neg (by omega)]
      exact Int.ediv_eq_of_eq_mul_right (by omega) hy
    rw [hN, hD]
    generalize hg : Int.gcd num den = g at hg0 hx hy
    refine ⟨?_, ?_, ?_⟩
    · rcases Int.lt_trichotomy y 0 with h | h | h
      · have := Int.mul_neg_of_pos_of_neg (a := (g : Int)) (by omega) h
        omega
      · rw [h] at hy; omega
      · exact h
    · rw [hx, hy, Int.gcd_mul_left] at hg
      simp at hg
      have : g * Int.gcd x y = g * 1 := by omega
      exact Nat.eq_of_mul_eq_mul_left hg0 this
    · rw [hx, hy]; grind
  rcases Int.lt_or_gt_of_ne hd with hd2 | hd2
  · have h1 := redN_neg (num := num) hd
    have h2 := hpos (num := -num) (den := -den) (by omega)
    rw [h1.1, h1.2] at h2
    refine ⟨h2.1, h2.2.1, ?_⟩
    have := h2.2.2
    rw [Int.mul_neg, Int.neg_mul] at this
    omega
  · exact hpos hd2

theorem gcd_step {a b : Int} : Int.gcd b (a.tmod b) = Int.gcd a b := by
  unfold Int.gcd
  rw [Int.natAbs_tmod, Nat.gcd_comm, ← Nat.gcd_rec, Nat.gcd_comm]
def okQ (f : Int × Int) : Prop := (-1000000000 ≤ f.1 ∧ f.1 ≤ 1000000000) ∧ (1 ≤ f.2 ∧ f.2 ≤ 1000000000) ∧ Int.gcd f.1 f.2 = 1
def inQ (f : Int × Int) : Prop := (-1000000000 ≤ f.1 ∧ f.1 ≤ 1000000000) ∧ f.2 ≤ 1000000000
open Classical in
noncomputable def fRed (num den : Int) : (Int × Int) × Int := if inQ (redN num den, redD num den) then ((redN num den, redD num den), 0) else ((0, 0), 4)
theorem inQ_ok {num den : Int} (hd : den ≠ 0) : inQ (redN num den, redD num den) ↔ okQ (redN num den, redD num den) := by
  have h := red_spec (num := num) hd
  exact ⟨fun ⟨h1, h2⟩ => ⟨h1, ⟨by have := h.1; show 1 ≤ redD num den; omega, h2⟩, h.2.1⟩, fun ⟨h1, h2, _⟩ => ⟨h1, h2.2⟩⟩
theorem fRed_eq {num den : Int} {f : Int × Int} (hd : den ≠ 0) (hf : okQ f) (h : num * f.2 = f.1 * den) : fRed num den = (f, 0) := by
  have h1 := red_eq hd (by have := hf.2.1.1; omega) hf.2.2 h
  unfold fRed
  rw [h1.1, h1.2]
  exact if_pos ⟨hf.1, hf.2.1.2⟩
theorem fRed_0 {num den : Int} {f : Int × Int} (hd : den ≠ 0) (h : fRed num den = (f, 0)) : okQ f ∧ f.1 * den = num * f.2 := by
  unfold fRed at h
  split at h
  · rename_i hq
    have h1 : (redN num den, redD num den) = f := congrArg Prod.fst h
    rw [← h1]
    exact ⟨(inQ_ok hd).1 hq, (red_spec hd).2.2⟩
  · have h2 : (4 : Int) = 0 := congrArg Prod.snd h
    omega
theorem fRed_code (num den : Int) : (fRed num den).2 = 0 ∨ (fRed num den).2 = 4 := by
  unfold fRed
  split
  · exact .inl rfl
  · exact .inr rfl
open Classical in
noncomputable def fAdd (a b : Int × Int) : (Int × Int) × Int := if okQ a ∧ okQ b then fRed (a.1 * b.2 + b.1 * a.2) (a.2 * b.2) else ((0, 0), 1)
open Classical in
noncomputable def fMul (a b : Int × Int) : (Int × Int) × Int := if okQ a ∧ okQ b then fRed (a.1 * b.1) (a.2 * b.2) else ((0, 0), 1)
open Classical in
noncomputable def fDiv (a b : Int × Int) : (Int × Int) × Int := if okQ a ∧ okQ b then if b.1 = 0 then ((0, 0), 2) else fRed (a.1 * b.2) (a.2 * b.1) else ((0, 0), 1)
def sgn (n : Int) : Int := if n < 0 then -1 else if n = 0 then 0 else 1
open Classical in
noncomputable def fCmp (a b : Int × Int) : Int × Int := if okQ a ∧ okQ b then (sgn (a.1 * b.2 - b.1 * a.2), 0) else (0, 1)
theorem fAdd_comm (a b : Int × Int) : fAdd a b = fAdd b a := by
  unfold fAdd
  rw [Int.add_comm, Int.mul_comm a.2]
  by_cases h : okQ a ∧ okQ b
  · rw [if_pos h, if_pos h.symm]
  · rw [if_neg h, if_neg fun k => h k.symm]
theorem okQ_neg {b : Int × Int} (h : okQ b) : okQ (-b.1, b.2) := ⟨⟨by have := h.1; show _ ≤ -b.1; omega, by have := h.1; show -b.1 ≤ _; omega⟩, h.2.1, by show Int.gcd (-b.1) b.2 = 1; rw [Int.neg_gcd]; exact h.2.2⟩
theorem den_ne {a b : Int × Int} (ha : okQ a) (hb : okQ b) : a.2 * b.2 ≠ 0 := Int.mul_ne_zero (by have := ha.2.1; omega) (by have := hb.2.1; omega)
/-- The sum, when there is one: it is valid; adding the opposite leads back; how it compares. -/
theorem fAdd_ok {a b f : Int × Int} (h : fAdd a b = (f, 0)) : (okQ a ∧ okQ b ∧ okQ f) ∧ fAdd f (-b.1, b.2) = (a, 0) ∧ fCmp f a = (sgn b.1, 0) := by
  unfold fAdd at h
  split at h
  · rename_i hq
    obtain ⟨ha, hb⟩ := hq
    obtain ⟨hf, he⟩ := fRed_0 (den_ne ha hb) h
    refine ⟨⟨ha, hb, hf⟩, ?_, ?_⟩
    · unfold fAdd
      rw [if_pos ⟨hf, okQ_neg hb⟩]
      refine fRed_eq (den_ne hf (okQ_neg hb)) ha ?_
      show (f.1 * b.2 + -b.1 * f.2) * a.2 = a.1 * (f.2 * b.2)
      grind
    · unfold fCmp
      rw [if_pos ⟨hf, ha⟩]
      have h1 : (f.1 * a.2 - a.1 * f.2) * b.2 = b.1 * (f.2 * a.2) := by grind
      have h2 : sgn (f.1 * a.2 - a.1 * f.2) = sgn b.1 := by
        generalize f.1 * a.2 - a.1 * f.2 = x at h1
        have hp1 := hb.2.1.1
        have hp2 : 0 < f.2 * a.2 := Int.mul_pos (by have := hf.2.1; omega) (by have := ha.2.1; omega)
        generalize f.2 * a.2 = y at h1 hp2
        generalize b.2 = z at h1 hp1
        generalize b.1 = u at h1
        unfold sgn
        rcases Int.lt_trichotomy u 0 with hu | hu | hu
        · have := Int.mul_neg_of_neg_of_pos hu hp2
          have hx : x < 0 := by
            rcases Int.lt_trichotomy x 0 with hx | hx | hx
            · exact hx
            · rw [hx, Int.zero_mul] at h1; omega
            · have := Int.mul_pos hx (show 0 < z by omega); omega
          rw [if_pos hx, if_pos hu]
        · rw [hu, Int.zero_mul] at h1
          have hx : x = 0 := by
            rcases Int.mul_eq_zero.1 h1 with hx | hx
            · exact hx
            · omega
          rw [hx, hu]
        · have := Int.mul_pos hu hp2
          have hx : 0 < x := by
            rcases Int.lt_trichotomy x 0 with hx | hx | hx
            · have := Int.mul_neg_of_neg_of_pos hx (show 0 < z by omega); omega
            · rw [hx, Int.zero_mul] at h1; omega
            · exact hx
          rw [if_neg (by omega), if_neg (by omega), if_neg (by omega), if_neg (by omega)]
      rw [h2]
  · have h2 : (1 : Int) = 0 := congrArg Prod.snd h
    omega
theorem fMul_code {a b : Int × Int} (ha : okQ a) (hb : okQ b) : (fMul a b).2 = 0 ∨ (fMul a b).2 = 4 := by
  unfold fMul
  rw [if_pos ⟨ha, hb⟩]
  exact fRed_code _ _
theorem fMul_ok {a b f : Int × Int} (ha : okQ a) (hb : okQ b) (h0 : b.1 ≠ 0) (h : fMul a b = (f, 0)) : okQ f ∧ fDiv f b = (a, 0) := by
  unfold fMul at h
  rw [if_pos ⟨ha, hb⟩] at h
  obtain ⟨hf, he⟩ := fRed_0 (den_ne ha hb) h
  refine ⟨hf, ?_⟩
  unfold fDiv
  rw [if_pos ⟨hf, hb⟩, if_neg h0]
  refine fRed_eq (Int.mul_ne_zero (by have := hf.2.1; omega) h0) ha ?_
  grind
theorem sgn_pos (n : Int) : decide (sgn n > 0) = decide (n > 0) := by
  unfold sgn
  split
  · simp; omega
  · split
    · simp; omega
    · simp; omega
theorem sgn_zero (n : Int) : decide (sgn n = 0) = decide (n = 0) := by
  unfold sgn
  split
  · simp; omega
  · split
    · simp; omega
    · simp; omega
end Go.Proofs.Ytddklkoocpjjkaa
