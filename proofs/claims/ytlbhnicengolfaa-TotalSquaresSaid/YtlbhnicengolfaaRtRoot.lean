/-
  The integer square root, bit by bit: plain. Package total: root, Root.
-/
import Derived.Test.YtlbhnicengolfaaData
import Derived.Test.YtlbhnicengolfaaHead
import Derived.Test.YtlbhnicengolfaaBlk
import Derived.Test.YtlbhnicengolfaaProg
import Derived.WalkSpells
import Derived.WalkLawsBesides
import Derived.BigQuiet
import Derived.IntWalk
import Derived.Outline
import Derived.Laws.BitsLemmas
/-! ## Rt: The integer square root, bit by bit: plain. -/
namespace Go.Proofs.Ytlbhnicengolfaa
open Go.RowKit

def rtF : Nat → Int → Int → Int
  | 0, n, _ => n
  | k + 1, n, s => if (n + 2 ^ k) * (n + 2 ^ k) ≤ s then rtF k (n + 2 ^ k) s else rtF k n s
/-- The greatest integer whose square is not greater. -/
def rt (s : Int) : Int := rtF 26 0 s

theorem pow_pos2 (k : Nat) : (0 : Int) < 2 ^ k := Int.pow_pos (by decide)
theorem rtF_spec : ∀ (k : Nat) (n s : Int), 0 ≤ n → n * n ≤ s → s < (n + 2 ^ k) * (n + 2 ^ k) → 0 ≤ rtF k n s ∧ rtF k n s * rtF k n s ≤ s ∧ s < (rtF k n s + 1) * (rtF k n s + 1)
  | 0, n, s, h0, h1, h2 => ⟨h0, h1, by simpa [rtF] using h2⟩
  | k + 1, n, s, h0, h1, h2 => by
    have hp := pow_pos2 k
    have e : (2 : Int) ^ (k + 1) = 2 ^ k + 2 ^ k := by rw [Int.pow_succ]; omega
    rw [e] at h2
    unfold rtF
    split
    · rename_i h
      exact rtF_spec k (n + 2 ^ k) s (by omega) h (by rw [Int.add_assoc]; exact h2)
    · rename_i h
      exact rtF_spec k n s h0 h1 (by omega)
theorem sq_mono {a b : Int} (h0 : 0 ≤ a) (h : a ≤ b) : a * a ≤ b * b := Int.mul_le_mul h h h0 (by omega)
theorem rt_spec {s : Int} (h0 : 0 ≤ s) (h1 : s ≤ 1125899906842624) : 0 ≤ rt s ∧ rt s * rt s ≤ s ∧ s < (rt s + 1) * (rt s + 1) :=
  rtF_spec 26 0 s (Int.le_refl _) (by omega) (by have : ((0 : Int) + 2 ^ 26) * (0 + 2 ^ 26) = 4503599627370496 := by decide
                                                 omega)
theorem rt_uniq {s r q : Int} (r0 : 0 ≤ r) (q0 : 0 ≤ q) (r1 : r * r ≤ s) (r2 : s < (r + 1) * (r + 1)) (q1 : q * q ≤ s) (q2 : s < (q + 1) * (q + 1)) : r = q := by
  rcases Int.lt_trichotomy r q with h | h | h
  · have := sq_mono (a := r + 1) (b := q) (by omega) (by omega)
    omega
  · exact h
  · have := sq_mono (a := q + 1) (b := r) (by omega) (by omega)
    omega
theorem rt_le {s : Int} (h0 : 0 ≤ s) (h1 : s ≤ 1125899906842624) : rt s ≤ 33554432 := by
  obtain ⟨a, b, c⟩ := rt_spec h0 h1
  rcases Int.lt_or_le 33554432 (rt s) with h | h
  · have := sq_mono (a := 33554433) (b := rt s) (by omega) (by omega)
    omega
  · exact h
/-- The smallest integer from 0 on whose square is not smaller. -/
def rtUp (s : Int) : Int := if rt s * rt s < s then rt s + 1 else rt s
/-- What Root returns. -/
def rootR (s : Int) : (Int × Int) × Int := if s < 0 ∨ 1125899906842624 < s then ((0, 0), 1) else ((rt s, rtUp s), 0)

/-- The bits in turn: 2^25 to 1, then 0. -/
def pw : Nat → Int
  | 0 => 0
  | k + 1 => 2 ^ k
theorem pw_half (k : Nat) : pw (k + 1) / 2 = pw k := by
  cases k with
  | zero => rfl
  | succ k =>
    show (2 : Int) ^ (k + 1) / 2 = 2 ^ k
    rw [Int.pow_succ]
    omega

end Go.Proofs.Ytlbhnicengolfaa

/-! ## Root: Package total: root, Root. -/
namespace Go.Proofs.Ytlbhnicengolfaa
open Go.RowKit
set_option linter.unusedVariables false
set_option linter.unusedSimpArgs false

theorem or_pow {x : Int} {k : Nat} (h0 : 0 ≤ x) (hx : x % 2 ^ (k + 1) = 0) (h1 : x < 2 ^ 40) (hk : k < 40) : bits .or .i64 x (2 ^ k) = x + 2 ^ k := by
  have hp := pow_pos2 k
  have h2 : (2 : Int) ^ k < 2 ^ (k + 1) := by rw [Int.pow_succ]; omega
  have h3 : (2 : Int) ^ (k + 1) ≤ 2 ^ 40 := by exact_mod_cast Nat.pow_le_pow_right (by decide) hk
  refine bits_join .i64 40 (by decide) (fun n h0 h1 => ?_) (k + 1) x (2 ^ k) h0 hx h1 (by omega) h2 (by omega)
  rw [IntKind.wrap_i64]
  have : (2 : Int) ^ 40 = 1099511627776 := by decide
  omega

theorem root_any (s : Int) (w : World) (h0 : 0 ≤ s) (h1 : s ≤ 1125899906842624) :
    Calls Try.prog 45 #[.int .i64 s] w fun e w' => e = .returned (.int .i64 (rt s)) ∧ w = w' := by
  go_enter Try.func45, Try.ntmps45
  go_wp2
  go_loop [3, 4] (fun n b => ∃ (k : Nat) (m : Int), k ≤ 26 ∧ n = .int .i64 m ∧ b = .int .i64 (pw k) ∧ 0 ≤ m ∧ (∃ c : Int, m = 2 ^ k * c) ∧ m + 2 ^ k ≤ 2 ^ 26 ∧ rtF k m s = rt s) (fun _ b => (intOf b).toNat)
  case atStart => exact ⟨26, 0, by omega, rfl, rfl, by omega, ⟨0, rfl⟩, by omega, rfl⟩
  case round =>
    obtain ⟨k, m, hk, rfl, rfl, hm0, hmk, hm1, hr⟩ := hrel
    cases k with
    | zero =>
      have HR := hide hr
      clear hr
      rw [show pw 0 = 0 from rfl]
      go_wp2
      go_ret
      exact ⟨by rw [← HR.out]; rfl, rfl⟩
    | succ k =>
      have hh := pw_half k
      have hp := pow_pos2 k
      have e2 : (2 : Int) ^ (k + 1) = 2 ^ k + 2 ^ k := by rw [Int.pow_succ]; omega
      have h26 : (2 : Int) ^ 26 = 67108864 := by decide
      have h40 : (2 : Int) ^ 40 = 1099511627776 := by decide
      have hor : bits .or .i64 m (pw (k + 1)) = m + 2 ^ k := or_pow hm0 (by obtain ⟨c, rfl⟩ := hmk; exact Int.mul_emod_right _ _) (by omega) (by omega)
      have hB : pw (k + 1) = 2 ^ k := rfl
      have HREL : Hid ((∃ c : Int, m + 2 ^ k = 2 ^ k * c) ∧ (∃ c : Int, m = 2 ^ k * c) ∧ rt s = if (m + 2 ^ k) * (m + 2 ^ k) ≤ s then rtF k (m + 2 ^ k) s else rtF k m s) := hide ⟨by
          obtain ⟨c, rfl⟩ := hmk
          exact ⟨2 * c + 1, by rw [Int.pow_succ, Int.mul_add, Int.mul_one, Int.mul_assoc]⟩, by
          obtain ⟨c, rfl⟩ := hmk
          exact ⟨2 * c, by rw [Int.pow_succ, Int.mul_assoc]⟩, by rw [← hr]; rfl⟩
      rw [e2] at hm1
      have hq : 0 ≤ (m + 2 ^ k) * (m + 2 ^ k) ∧ (m + 2 ^ k) * (m + 2 ^ k) ≤ 67108864 * 67108864 := ⟨Int.mul_nonneg (by omega) (by omega), Int.mul_le_mul (by omega) (by omega) (by omega) (by omega)⟩
      have HB := hide hB
      rw [hB] at hh hor ⊢
      rw [h26] at hm1
      clear hmk e2 h40 h26 hr hB
      generalize hBe : (2 : Int) ^ k = B at *
      have HBE := hide hBe
      clear hBe
      have hk' : k ≤ 26 := by omega
      obtain ⟨q1, q2⟩ := hq
      by_cases hle : (m + B) * (m + B) ≤ s
      · have hd : decide ((m + B) * (m + B) ≤ s) = true := decide_eq_true hle
        have HR2 := hide (show rt s = rtF k (m + B) s by rw [HREL.out.2.2, if_pos hle])
        go_wp2
        go_round
        case rel => exact ⟨k, _, hk', rfl, rfl, by omega, by rw [HBE.out]; exact HREL.out.1, by rw [HBE.out]; omega, HR2.out.symm⟩
        case measure => simp [intOf]; omega
      · have hd : decide ((m + B) * (m + B) ≤ s) = false := decide_eq_false hle
        have HR2 := hide (show rt s = rtF k m s by rw [HREL.out.2.2, if_neg hle])
        go_wp2
        go_round
        case rel => exact ⟨k, _, hk', rfl, rfl, by omega, by rw [HBE.out]; exact HREL.out.2.1, by rw [HBE.out]; omega, HR2.out.symm⟩
        case measure => simp [intOf]; omega

theorem rootF_any (s : Int) (w : World) :
    Calls Try.prog 17 #[.int .i64 s] w fun e w' => e = .returned (.tuple #[.int .i64 (rootR s).1.1, .int .i64 (rootR s).1.2, .int .i64 (rootR s).2]) ∧ w = w' := by
  by_cases h0 : s < 0
  · have HR : Hid (rootR s = ((0, 0), 1)) := hide (by unfold rootR; rw [if_pos (.inl h0)])
    go_enter Try.func17, Try.ntmps17
    go_wp2
    go_ret3
    rw [HR.out]
    exact ⟨rfl, rfl⟩
  · have h0' : decide (s < 0) = false := decide_eq_false h0
    by_cases h1 : 1125899906842624 < s
    · have HR : Hid (rootR s = ((0, 0), 1)) := hide (by unfold rootR; rw [if_pos (.inr h1)])
      clear h0
      go_enter Try.func17, Try.ntmps17
      go_wp2
      go_ret3
      rw [HR.out]
      exact ⟨rfl, rfl⟩
    · have h1' : decide (1125899906842624 < s) = false := decide_eq_false h1
      have HR : Hid (rootR s = ((rt s, rtUp s), 0)) := hide (by unfold rootR; rw [if_neg (by omega)])
      have H := hide (root_any s w (by omega) (by omega))
      have hle := rt_le (s := s) (by omega) (by omega)
      have hge := (rt_spec (s := s) (by omega) (by omega)).1
      have hsq : 0 ≤ rt s * rt s ∧ rt s * rt s ≤ 33554432 * 33554432 := ⟨Int.mul_nonneg hge hge, Int.mul_le_mul hle hle hge (by omega)⟩
      obtain ⟨q1, q2⟩ := hsq
      have HU : Hid (rtUp s = if rt s * rt s < s then rt s + 1 else rt s) := hide rfl
      clear h0 h1
      generalize rtUp s = U at *
      generalize rt s = R at *
      go_enter Try.func17, Try.ntmps17
      by_cases hlt : R * R < s
      · have hd : decide (R * R < s) = true := decide_eq_true hlt
        have HU2 : Hid (U = R + 1) := hide (by rw [HU.out, if_pos hlt])
        go_wp2_with (go_at_call 45; refine H.out.mono ?_; rintro e w' ⟨rfl, rfl⟩)
        go_ret3
        rw [HR.out, HU2.out]
        exact ⟨rfl, rfl⟩
      · have hd : decide (R * R < s) = false := decide_eq_false hlt
        have HU2 : Hid (U = R) := hide (by rw [HU.out, if_neg hlt])
        go_wp2_with (go_at_call 45; refine H.out.mono ?_; rintro e w' ⟨rfl, rfl⟩)
        go_ret3
        rw [HR.out, HU2.out]
        exact ⟨rfl, rfl⟩

end Go.Proofs.Ytlbhnicengolfaa
