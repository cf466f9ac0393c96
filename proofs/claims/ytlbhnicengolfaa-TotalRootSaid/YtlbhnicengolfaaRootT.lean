/-
  TotalRoot: the walk.
-/
import Derived.Test.YtlbhnicengolfaaWorks
namespace Go.Proofs.Ytlbhnicengolfaa
open Go.RowKit
set_option linter.unusedVariables false
set_option linter.unusedSimpArgs false

theorem rootR_sq {n : Int} (h0 : 0 ≤ n) (h1 : n < 33554432) : rootR (n * n) = ((n, n), 0) := by
  have hb := sq_mono (a := n) (b := 33554431) h0 (by omega)
  have hp := Int.mul_nonneg h0 h0
  have hr : rt (n * n) = n := by
    obtain ⟨a, b, c⟩ := rt_spec (s := n * n) hp (by omega)
    exact rt_uniq a h0 b c (Int.le_refl _) (by have e : (n + 1) * (n + 1) = n * n + n + n + 1 := by rw [Int.add_mul, Int.mul_add]; omega
                                               omega)
  unfold rootR rtUp
  rw [if_neg (by omega), hr, if_neg (by omega)]
theorem rootR_sq1 {n : Int} (h0 : 1 ≤ n) (h1 : n < 33554432) : rootR (n * n + 1) = ((n, n + 1), 0) := by
  have hb := sq_mono (a := n) (b := 33554431) (by omega) (by omega)
  have hp := Int.mul_nonneg (a := n) (b := n) (by omega) (by omega)
  have e : (n + 1) * (n + 1) = n * n + n + n + 1 := by rw [Int.add_mul, Int.mul_add]; omega
  have hr : rt (n * n + 1) = n := by
    obtain ⟨a, b, c⟩ := rt_spec (s := n * n + 1) (by omega) (by omega)
    exact rt_uniq a (by omega) b c (by omega) (by omega)
  unfold rootR rtUp
  rw [if_neg (by omega), hr, if_pos (by omega)]
theorem rootR_is {m : Int} (h0 : 0 ≤ m) (h1 : m < 4294967296) : ∃ g h : Int, rootR m = ((g, h), 0) ∧ 0 ≤ g ∧ g ≤ 65536 ∧ g * g ≤ m ∧ m < (g + 1) * (g + 1) ∧ ((h = g ∧ g * g = m) ∨ (h = g + 1 ∧ g * g < m)) := by
  obtain ⟨a, b, c⟩ := rt_spec (s := m) h0 (by omega)
  have hg : rt m ≤ 65536 := by
    rcases Int.lt_or_le 65536 (rt m) with h | h
    · have := sq_mono (a := 65537) (b := rt m) (by omega) (by omega)
      omega
    · exact h
  refine ⟨rt m, rtUp m, by unfold rootR; rw [if_neg (by omega)], a, hg, b, c, ?_⟩
  unfold rtUp
  split
  · rename_i h; exact .inr ⟨rfl, h⟩
  · rename_i h; exact .inl ⟨rfl, by omega⟩

set_option maxRecDepth 100000 in
set_option maxHeartbeats 8000000 in
theorem troot_any (m : Nat) (hm : m < 4294967296) (w : World) : Calls Try.prog 13 #[.int .u32 (m : Int)] w fun e w' => e = .returned (.bool true) ∧ Below w.heap.size w w' := by
  obtain ⟨n, hn, hn0, hn1⟩ : ∃ n : Int, (m : Int).tmod 33554432 = n ∧ 0 ≤ n ∧ n < 33554432 := ⟨_, rfl, by rw [Int.tmod_eq_emod_of_nonneg (by omega)]; omega, by rw [Int.tmod_eq_emod_of_nonneg (by omega)]; omega⟩
  obtain ⟨g, h, hR, hg0, hg1, hgg, hgm, hcase⟩ := rootR_is (m := (m : Int)) (by omega) (by omega)
  have hq := rootR_sq hn0 hn1
  have HR := hide hR
  have HQ := hide hq
  have hb := sq_mono (a := n) (b := 33554431) hn0 (by omega)
  have hp := Int.mul_nonneg hn0 hn0
  have hbg := sq_mono (a := g) (b := 65536) hg0 hg1
  have hbg1 := sq_mono (a := g + 1) (b := 65537) (by omega) (by omega)
  have hpg := Int.mul_nonneg hg0 hg0
  have hpg1 := Int.mul_nonneg (a := g + 1) (b := g + 1) (by omega) (by omega)
  clear hR hq
  go_enter Try.func13, Try.ntmps13
  go_wp2_with fail
  refine (rootF_any _ _).mono ?_
  rintro e W1 ⟨rfl, rfl⟩
  rw [HQ.out]
  obtain ⟨c, d, hcd, hcc⟩ : ∃ c d : Int, rootR (n * n + 1) = ((c, d), 0) ∧ n ≤ c ∧ d = n + 1 ∧ (c = n ∨ (n = 0 ∧ c = 1)) := by
    by_cases h0 : n = 0
    · subst h0
      exact ⟨1, 1, by decide +kernel, by omega, by omega, .inr ⟨rfl, rfl⟩⟩
    · exact ⟨n, n + 1, rootR_sq1 (by omega) hn1, Int.le_refl _, rfl, .inl rfl⟩
  have HCD := hide hcd
  clear hcd
  go_wp2_with fail
  refine (rootF_any _ _).mono ?_
  rintro e W1 ⟨rfl, rfl⟩
  rw [HCD.out]
  go_wp2_with fail
  refine (rootF_any _ _).mono ?_
  rintro e W1 ⟨rfl, rfl⟩
  rw [HR.out]
  obtain ⟨hc1, hd, hc2⟩ := hcc
  subst hd
  have f1 : decide (n ≤ c) = true := decide_eq_true hc1
  have f2 : decide (g < 0) = false := decide_eq_false (by omega)
  have f3 : decide (131072 < g) = false := decide_eq_false (by omega)
  have f4 : decide (h < g) = false := decide_eq_false (by omega)
  have f5 : decide (g + 1 < h) = false := decide_eq_false (by omega)
  have f6 : decide (g * g ≤ (m : Int)) = true := decide_eq_true hgg
  have f7 : decide ((m : Int) < (g + 1) * (g + 1)) = true := decide_eq_true hgm
  have f8 : ((h == g) == (g * g == (m : Int))) = true := by
    rcases hcase with ⟨a, b⟩ | ⟨a, b⟩
    · have h1 : (h == g) = true := beq_iff_eq.2 a
      have h2 : (g * g == (m : Int)) = true := beq_iff_eq.2 b
      rw [h1, h2]; rfl
    · have h1 : (h == g) = false := beq_eq_false_iff_ne.2 (by omega)
      have h2 : (g * g == (m : Int)) = false := beq_eq_false_iff_ne.2 (by omega)
      rw [h1, h2]; rfl
  have HF : Hid ((h == g) = (g * g == (m : Int))) := hide (by simpa using f8)
  clear HR HCD HQ hcase hn f8
  rcases hc2 with hc2 | ⟨hn2, hc2⟩
  · have f9 : (c == n) = true := beq_iff_eq.2 hc2
    clear hc2 hc1
    go_wp2_with fail
    refine (works_any _).mono ?_
    rintro e W5 ⟨rfl, hb5⟩
    go_wp2_with fail
    go_ret
    exact ⟨rfl, hb5⟩
  · have f9 : (c == n) = false := beq_eq_false_iff_ne.2 (by omega)
    have f10 : (n == 0) = true := beq_iff_eq.2 hn2
    have f11 : (c == 1) = true := beq_iff_eq.2 hc2
    clear hc2 hc1 hn2
    go_wp2_with fail
    refine (works_any _).mono ?_
    rintro e W5 ⟨rfl, hb5⟩
    go_wp2_with fail
    go_ret
    exact ⟨rfl, hb5⟩

end Go.Proofs.Ytlbhnicengolfaa
