/-
  The integer square root, bit by bit: plain.
-/
import Derived.Test.YtlbhnicengolfaaData
namespace Go.Proofs.Ytlbhnicengolfaa
open Go.RowKit

def rtF : Nat → Int → Int → Int
  | 0, n, _ => n
  | k + 1, n, s => if (n + 2 ^ k) * (n + 2 ^ k) ≤ s then rtF k (n + 2 ^ k) s else rtF k n s
/-- The greatest integer whose square is not greater. -/
def rt (s : Int) : Int := rtF 26 0 s

theorem pow_pos2 (k : Nat) : (0 : Int) < 2 ^ k := Int.pow_pos (by decide)
theorem rtF_spec : ∀ (k : Nat) (n s : Int), 0 ≤ n → n * n ≤ s → s < (n + 2 ^ k) * (n + 2 ^ k) → 0 ≤ rtF k n s ∧ rtF k n s * rtF k n s ≤ s ∧ s < (rtF k n s + 1) * (rtF k n s + 1)
  | 0, n, s, h0, h1, h2 => ⟨h0, h1, by simpa [rtF] using h2⟩
  | k + 1, n, s, h0, h1, h2 => by
    have hp := pow_pos2 k
    have e : (2 : Int) ^ (k + 1) = 2 ^ k + 2 ^ k := by rw [Int.pow_succ]; omega
    rw [e] at h2
    unfold rtF
    split
    · rename_i h
      exact rtF_spec k (n + 2 ^ k) s (by omega) h (by rw [Int.add_assoc]; exact h2)
    · rename_i h
      exact rtF_spec k n s h0 h1 (by omega)
theorem sq_mono {a b : Int} (h0 : 0 ≤ a) (h : a ≤ b) : a * a ≤ b * b := Int.mul_le_mul h h h0 (by omega)
theorem rt_spec {s : Int} (h0 : 0 ≤ s) (h1 : s ≤ 1125899906842624) : 0 ≤ rt s ∧ rt s * rt s ≤ s ∧ s < (rt s + 1) * (rt s + 1) :=
  rtF_spec 26 0 s (Int.le_refl _) (by omega) (by have : ((0 : Int) + 2 ^ 26) * (0 + 2 ^ 26) = 4503599627370496 := by decide
                                                 omega)
theorem rt_uniq {s r q : Int} (r0 : 0 ≤ r) (q0 : 0 ≤ q) (r1 : r * r ≤ s) (r2 : s < (r + 1) * (r + 1)) (q1 : q * q ≤ s) (q2 : s < (q + 1) * (q + 1)) : r = q := by
  rcases Int.lt_trichotomy r q with h | h | h
  · have := sq_mono (a := r + 1) (b := q) (by omega) (by omega)
    omega
  · exact h
  · have := sq_mono (a := q + 1) (b := r) (by omega) (by omega)
    omega
theorem rt_le {s : Int} (h0 : 0 ≤ s) (h1 : s ≤ 1125899906842624) : rt s ≤ 33554432 := by
  obtain ⟨a, b, c⟩ := rt_spec h0 h1
  rcases Int.lt_or_le 33554432 (rt s) with h | h
  · have := sq_mono (a := 33554433) (b := rt s) (by omega) (by omega)
    omega
  · exact h
/-- The smallest integer from 0 on whose square is not smaller. -/
def rtUp (s : Int) : Int := if rt s * rt s < s then rt s + 1 else rt s
/-- What Root returns. -/
def rootR (s : Int) : (Int × Int) × Int := if s < 0 ∨ 1125899906842624 < s then ((0, 0), 1) else ((rt s, rtUp s), 0)

/-- The bits in turn: 2^25 to 1, then 0. -/
def pw : Nat → Int
  | 0 => 0
  | k + 1 => 2 ^ k
theorem pw_half (k : Nat) : pw (k + 1) / 2 = pw k := by
  cases k with
  | zero => rfl
  | succ k =>
    show (2 : Int) ^ (k + 1) / 2 = 2 ^ k
    rw [Int.pow_succ]
    omega

end Go.Proofs.Ytlbhnicengolfaa
