/-
  Package agonicref03: is, floor, ceiling, Root.
-/
import Derived.Test.YtlbhnicengolfaaRtRoot
namespace Go.Proofs.Ytlbhnicengolfaa
open Go.RowKit
set_option linter.unusedVariables false
set_option linter.unusedSimpArgs false

theorem is1_any (n lo hi : Int) (w : World) : Calls Try.prog 63 #[.int .i64 n, .int .i64 lo, .int .i64 hi] w fun e w' => e = .returned (.bool (decide (lo ≤ n) && decide (n ≤ hi))) ∧ w = w' := by
  by_cases h1 : lo ≤ n
  · have e1 : decide (lo ≤ n) = true := decide_eq_true h1
    rw [e1]
    clear h1
    go_enter Try.func63, Try.ntmps63
    go_wp2
    go_ret
    exact ⟨by simp, rfl⟩
  · have e1 : decide (lo ≤ n) = false := decide_eq_false h1
    rw [e1]
    clear h1
    go_enter Try.func63, Try.ntmps63
    go_wp2
    go_ret
    exact ⟨by simp, rfl⟩
theorem is_any (n lo hi : Int) (w : World) : Calls Try.prog 46 #[.int .i64 n, .int .i64 lo, .int .i64 hi] w fun e w' => e = .returned (.bool (decide (lo ≤ n) && decide (n ≤ hi))) ∧ w = w' := by
  have H := hide (is1_any n lo hi w)
  generalize (decide (lo ≤ n) && decide (n ≤ hi)) = b at *
  go_enter Try.func46, Try.ntmps46
  go_wp2_with fail
  refine H.out.mono ?_
  rintro e w' ⟨rfl, rfl⟩
  go_wp2_with fail
  go_ret
  exact ⟨rfl, rfl⟩

set_option maxRecDepth 100000 in
set_option maxHeartbeats 4000000 in
theorem floor_any (s : Int) (h0 : 0 ≤ s) (h1 : s ≤ 1125899906842624) (w : World) : Calls Try.prog 47 #[.int .i64 s] w fun e w' => e = .returned (.int .i64 (rt s)) ∧ w = w' := by
  have HS := hide (rt_spec h0 h1)
  have hs : s < (67108864 + 1) * (67108864 + 1) := by omega
  go_enter Try.func47, Try.ntmps47
  go_wp2
  go_loop [3, 4, 5] (fun lo hi _ => ∃ a b : Int, lo = .int .i64 a ∧ hi = .int .i64 b ∧ 0 ≤ a ∧ a ≤ b ∧ b ≤ 67108864 ∧ a * a ≤ s ∧ s < (b + 1) * (b + 1)) (fun lo hi _ => (intOf hi - intOf lo).toNat)
  case atStart => exact ⟨0, 67108864, rfl, rfl, by omega, by omega, by omega, by omega, hs⟩
  case round =>
    obtain ⟨a, b, rfl, rfl, h2, h3, h4, h5, h6⟩ := hrel
    by_cases hlt : a < b
    · obtain ⟨m, hm, hm1, hm2⟩ : ∃ m : Int, (a + b + 1).tdiv 2 = m ∧ a + 1 ≤ m ∧ m ≤ b := ⟨_, rfl, by rw [Int.tdiv_eq_ediv_of_nonneg (by omega)]; omega, by rw [Int.tdiv_eq_ediv_of_nonneg (by omega)]; omega⟩
      have hmm := sq_mono (a := m) (b := 67108864) (by omega) (by omega)
      have hm0 := Int.mul_nonneg (a := m) (b := m) (by omega) (by omega)
      by_cases hc : m * m ≤ s
      · have d : decide (m * m ≤ s) = true := decide_eq_true hc
        go_wp2
        exact ⟨⟨m, b, rfl, rfl, by omega, by omega, h4, hc, h6⟩, by simp [intOf]; omega⟩
      · have d : decide (m * m ≤ s) = false := decide_eq_false hc
        go_wp2
        exact ⟨⟨a, m - 1, rfl, rfl, h2, by omega, by omega, h5, by rw [Int.sub_add_cancel]; omega⟩, by simp [intOf]; omega⟩
    · have hab : a = b := by omega
      subst hab
      have hr : rt s = a := by
        obtain ⟨x, y, z⟩ := HS.out
        exact rt_uniq x h2 y z h5 h6
      clear h5 h6 hs
      go_wp2
      exact bodyPost_ret (v := .int .i64 a) (by simp [results, Try.results47, go_sem]) rfl ⟨by first | rfl | rw [hr], rfl⟩

theorem ceiling_any (s : Int) (h0 : 0 ≤ s) (h1 : s ≤ 1125899906842624) (w : World) : Calls Try.prog 48 #[.int .i64 s] w fun e w' => e = .returned (.int .i64 (rtUp s)) ∧ w = w' := by
  have HF := hide (floor_any s h0 h1 w)
  have HU : Hid (rtUp s = if rt s * rt s < s then rt s + 1 else rt s) := hide rfl
  have hle := rt_le h0 h1
  obtain ⟨hr0, hrs, _⟩ := rt_spec h0 h1
  have hrr := Int.mul_nonneg hr0 hr0
  generalize rt s = r at *
  go_enter Try.func48, Try.ntmps48
  go_wp2_with fail
  refine HF.out.mono ?_
  rintro e w' ⟨rfl, rfl⟩
  by_cases hc : r * r < s
  · have d : decide (r * r < s) = true := decide_eq_true hc
    have HV : Hid (rtUp s = r + 1) := hide (by rw [HU.out, if_pos hc])
    clear hc
    go_wp2_with fail
    exact bodyPost_ret (v := .int .i64 (r + 1)) (by simp [results, Try.results48, go_sem]) rfl ⟨by rw [HV.out], rfl⟩
  · have d : decide (r * r < s) = false := decide_eq_false hc
    have HV : Hid (rtUp s = r) := hide (by rw [HU.out, if_neg hc])
    clear hc
    go_wp2_with fail
    exact bodyPost_ret (v := .int .i64 r) (by simp [results, Try.results48, go_sem]) rfl ⟨by rw [HV.out], rfl⟩

theorem refRoot_any (s : Int) (w : World) : Calls Try.prog 18 #[.int .i64 s] w fun e w' => e = .returned (.tuple #[.int .i64 (rootR s).1.1, .int .i64 (rootR s).1.2, .int .i64 (rootR s).2]) ∧ w = w' := by
  have HI := hide (is_any s 0 1125899906842624 w)
  by_cases h : 0 ≤ s ∧ s ≤ 1125899906842624
  · have HR : Hid (rootR s = ((rt s, rtUp s), 0)) := hide (by unfold rootR; rw [if_neg (by omega)])
    have HF := hide (floor_any s h.1 h.2 w)
    have HC := hide (ceiling_any s h.1 h.2 w)
    have hb : (decide (0 ≤ s) && decide (s ≤ 1125899906842624)) = true := by simp [h]
    rw [hb] at HI
    rw [HR.out]
    clear h hb HR
    generalize rt s = r at *
    generalize rtUp s = u at *
    go_enter Try.func18, Try.ntmps18
    go_wp2_with fail
    refine HI.out.mono ?_
    rintro e w' ⟨rfl, rfl⟩
    go_wp2_with fail
    refine HF.out.mono ?_
    rintro e w' ⟨rfl, rfl⟩
    go_wp2_with fail
    refine HC.out.mono ?_
    rintro e w' ⟨rfl, rfl⟩
    go_wp2_with fail
    exact bodyPost_ret (v := .tuple #[.int .i64 r, .int .i64 u, .int .i64 0]) (by simp [results, Try.results18, go_sem]) rfl ⟨rfl, rfl⟩
  · have HR : Hid (rootR s = ((0, 0), 1)) := hide (by unfold rootR; rw [if_pos (by omega)])
    have hb : (decide (0 ≤ s) && decide (s ≤ 1125899906842624)) = false := by
      rw [Bool.and_eq_false_iff]
      by_cases h0 : 0 ≤ s
      · exact .inr (decide_eq_false (by omega))
      · exact .inl (decide_eq_false h0)
    rw [hb] at HI
    rw [HR.out]
    clear h hb HR
    go_enter Try.func18, Try.ntmps18
    go_wp2_with fail
    refine HI.out.mono ?_
    rintro e w' ⟨rfl, rfl⟩
    go_wp2_with fail
    exact bodyPost_ret (v := .tuple #[.int .i64 0, .int .i64 0, .int .i64 1]) (by simp [results, Try.results18, go_sem]) rfl ⟨rfl, rfl⟩

end Go.Proofs.Ytlbhnicengolfaa
