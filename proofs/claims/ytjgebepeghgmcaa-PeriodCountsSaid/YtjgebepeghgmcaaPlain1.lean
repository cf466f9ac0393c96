/-
  Plain facts on the simplest fraction.
-/
import Derived.Test.YtjgebepeghgmcaaPer12
namespace Go.Proofs.Ytjgebepeghgmcaa

/-- No fraction within the bounds has a smaller denominator, nor a smaller numerator. -/
theorem simpF_spec : ∀ (k : Nat) (a b : Int × Int), SOk a b → (a.2 + b.2).toNat < k →
    a.1 * (simpF k a b).2 ≤ (simpF k a b).1 * a.2 ∧ (simpF k a b).1 * b.2 ≤ b.1 * (simpF k a b).2 ∧
      ∀ p q : Int, 1 ≤ q → 0 ≤ p → a.1 * q ≤ p * a.2 → p * b.2 ≤ b.1 * q → (simpF k a b).2 ≤ q ∧ (simpF k a b).1 ≤ p
  | 0, a, b, _, hk => by omega
  | k + 1, a, b, h, hk => by
    unfold simpF
    by_cases hu : upR a * b.2 ≤ b.1
    · rw [if_pos hu]
      obtain ⟨x, y⟩ := a
      obtain ⟨u, v⟩ := b
      obtain ⟨h1, h2, h3, h4, h5, h6, h7, h8, h9⟩ := h
      dsimp only [upR] at *
      have e1 : x ≤ (x + y - 1) / y * y := by
        have := Int.mul_ediv_add_emod (x + y - 1) y
        have := Int.emod_lt_of_pos (x + y - 1) (by omega : 0 < y)
        rw [Int.mul_comm]
        omega
      refine ⟨by omega, by omega, fun p q hq hp g1 g2 => ⟨hq, ?_⟩⟩
      have hpx : x ≤ p * y := by
        have : x * 1 ≤ x * q := Int.mul_le_mul_of_nonneg_left hq h1
        omega
      have : (x + y - 1) / y < p + 1 := Int.ediv_lt_of_lt_mul (by omega) (by rw [Int.add_mul]; omega)
      omega
    · rw [if_neg hu]
      obtain ⟨hs, l1, l2⟩ := sok_next h hu
      obtain ⟨m1, m2, m3⟩ := simpF_spec k _ _ hs (by have := h.b2; have := h.a2; dsimp only; omega)
      have hr := hs.a2
      have hr' := hs.b2
      have hn : 0 ≤ a.1 / a.2 := Int.ediv_nonneg h.a1 (by have := h.a2; omega)
      have hy := h.a2
      generalize simpF k _ _ = r at *
      obtain ⟨x, y⟩ := a
      obtain ⟨u, v⟩ := b
      obtain ⟨r1, r2⟩ := r
      dsimp only at *
      generalize x / y = n at *
      refine ⟨by clear m3; grind, by clear m3; grind, fun p q hq hp g1 g2 => ?_⟩
      have hpos : 0 < (p - n * q) * y := by
        have : 1 * 1 ≤ (x - n * y) * q := Int.mul_le_mul hr' hq (by omega) (by omega)
        clear m3
        grind
      have hs1 : 1 ≤ p - n * q := by
        have := Int.pos_of_mul_pos_left (b := y) (a := p - n * q) hpos (by omega)
        omega
      obtain ⟨z1, z2⟩ := m3 q (p - n * q) hs1 (by omega) (by clear m3; grind) (by clear m3; grind)
      refine ⟨z2, ?_⟩
      have : n * r1 ≤ n * q := Int.mul_le_mul_of_nonneg_left z2 hn
      omega

/-- It is reduced. -/
theorem simpF_red {k : Nat} {a b : Int × Int} (h : SOk a b) (hk : (a.2 + b.2).toNat < k) : redR (simpF k a b) = simpF k a b := by
  obtain ⟨m1, m2, m3⟩ := simpF_spec k a b h hk
  obtain ⟨b1, b2, b3, b4, b5, b6, b7⟩ := simpF_bound k a b h hk
  generalize simpF k a b = r at *
  obtain ⟨p, q⟩ := r
  have ha := h.a2
  have hb := h.b2
  dsimp only at *
  have hg : 0 < gcdI p q := by
    unfold gcdI
    have : 0 < Int.gcd p q := Int.gcd_pos_of_ne_zero_right _ (by omega)
    omega
  have d1 : gcdI p q ∣ p := Int.gcd_dvd_left ..
  have d2 : gcdI p q ∣ q := Int.gcd_dvd_right ..
  unfold redR
  dsimp only
  generalize gcdI p q = g at *
  obtain ⟨p', rfl⟩ := d1
  obtain ⟨q', rfl⟩ := d2
  rw [Int.mul_ediv_cancel_left _ (by omega), Int.mul_ediv_cancel_left _ (by omega)]
  have hq' : 0 < q' := Int.pos_of_mul_pos_right (a := g) (by omega) (by omega)
  have hp' : 0 ≤ p' := Int.nonneg_of_mul_nonneg_right (a := g) b1 hg
  obtain ⟨z1, z2⟩ := m3 p' q' (by omega) hp' (Int.le_of_mul_le_mul_left (a := g) (by clear m3; grind) hg) (Int.le_of_mul_le_mul_left (a := g) (by clear m3; grind) hg)
  have g1 : g * q' ≤ 1 * q' := by omega
  have : g ≤ 1 := Int.le_of_mul_le_mul_right g1 hq'
  obtain rfl : g = 1 := by omega
  simp

end Go.Proofs.Ytjgebepeghgmcaa
