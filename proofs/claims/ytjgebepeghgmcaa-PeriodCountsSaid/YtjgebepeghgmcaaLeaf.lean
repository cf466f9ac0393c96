/-
  Leaf functions of package period, and of the law's own file: what each computes.
-/
import Derived.Test.YtjgebepeghgmcaaData
import Derived.Test.YtjgebepeghgmcaaHead
import Derived.Test.YtjgebepeghgmcaaProg
import Derived.WalkSpells
import Derived.WalkLawsBesides
import Derived.BigQuiet
namespace Go.Proofs.Ytjgebepeghgmcaa
open Go.RowKit
set_option linter.unusedVariables false
set_option linter.unusedSimpArgs false

def Small (B x : Int) : Prop := -B ≤ x ∧ x ≤ B
theorem mul_small {a b A B : Int} (ha : Small A a) (hb : Small B b) : Small (A * B) (a * b) := by
  unfold Small at *
  obtain ⟨a1, a2⟩ := ha
  obtain ⟨b1, b2⟩ := hb
  have hA : 0 ≤ A := by omega
  have hB : 0 ≤ B := by omega
  have h1 : (a * b).natAbs ≤ (A * B).natAbs := by
    rw [Int.natAbs_mul, Int.natAbs_mul]
    exact Nat.mul_le_mul (by omega) (by omega)
  have h2 : 0 ≤ A * B := Int.mul_nonneg hA hB
  omega

/-- whole. -/
theorem whole_any (n : Int) (w : World) :
    Calls Try.prog 66 #[.int .i64 n] w fun e w' => e = .returned (.agg #[.int .i64 n, .int .i64 1]) ∧ Below w.heap.size w w' := by
  go_enter Try.func66, Try.ntmps66
  go_wp2
  refine bodyPost_ret (v := .agg #[.int .i64 n, .int .i64 1]) (by simp [results, Try.results66, go_sem]) rfl ⟨rfl, ?_⟩
  exact (Below.refl _ _).alloc (Nat.le_refl _) _

def bet (lo n hi : Int) : Bool := decide (lo ≤ n ∧ n ≤ hi)
theorem bet_true {lo n hi : Int} (h : bet lo n hi = true) : lo ≤ n ∧ n ≤ hi := by simpa [bet] using h
theorem bet_false {lo n hi : Int} (h : bet lo n hi = false) : ¬ (lo ≤ n ∧ n ≤ hi) := by simpa [bet] using h

theorem between_any (lo n hi : Int) (w : World) :
    Calls Try.prog 55 #[.int .i64 lo, .int .i64 n, .int .i64 hi] w fun e w' => e = .returned (.bool (bet lo n hi)) ∧ w = w' := by
  by_cases h1 : lo ≤ n
  · by_cases h2 : n ≤ hi
    · have e : bet lo n hi = true := by simp [bet, h1, h2]
      have E := hide e
      clear e
      go_enter Try.func55, Try.ntmps55
      go_wp2
      go_ret
      exact ⟨by rw [E.out]; rfl, rfl⟩
    · have e : bet lo n hi = false := by simp [bet, h2]
      have E := hide e
      have h2' : decide (n ≤ hi) = false := by simp [h2]
      clear e h2
      go_enter Try.func55, Try.ntmps55
      go_wp2
      go_ret
      exact ⟨by rw [E.out]; rfl, rfl⟩
  · have e : bet lo n hi = false := by simp [bet, h1]
    have E := hide e
    have h1' : decide (lo ≤ n) = false := by simp [h1]
    clear e h1
    go_enter Try.func55, Try.ntmps55
    go_wp2
    go_ret
    exact ⟨by rw [E.out]; rfl, rfl⟩

theorem compare_wrap (a b c d : Int) (w : World) :
    Calls Try.prog 47 #[.agg #[.int .i64 a, .int .i64 b], .agg #[.int .i64 c, .int .i64 d]] w fun e w' => e = .returned (.int .i64 (wrap64 (wrap64 (a * d) - wrap64 (c * b)))) ∧ Below w.heap.size w w' := by
  go_enter Try.func47, Try.ntmps47
  go_wp2
  go_ret
  exact ⟨rfl, ((Below.refl _ _).alloc (Nat.le_refl _) _).alloc (by simp) _⟩

theorem compare_any (a b c d : Int) (w : World) (ha : Small 2000000000 a) (hb : Small 2000000000 b) (hc : Small 2000000000 c) (hd : Small 2000000000 d) :
    Calls Try.prog 47 #[.agg #[.int .i64 a, .int .i64 b], .agg #[.int .i64 c, .int .i64 d]] w fun e w' => e = .returned (.int .i64 (a * d - c * b)) ∧ Below w.heap.size w w' := by
  have h1 := mul_small ha hd
  have h2 := mul_small hc hb
  have e : wrap64 (wrap64 (a * d) - wrap64 (c * b)) = a * d - c * b := by
    unfold Small at *
    generalize a * d = x at *
    generalize c * b = y at *
    unfold wrap64
    omega
  rw [← e]
  exact compare_wrap a b c d w

/-! ### sums -/
def sumW (xs : List Int) : Int := xs.foldl (fun a x => wrap64 (a + x)) 0
theorem sumW_snoc (xs : List Int) (x : Int) : sumW (xs ++ [x]) = wrap64 (sumW xs + x) := by simp [sumW]

set_option maxHeartbeats 400000 in
theorem sum_any (xs : List Int) (a : Option Addr) (n cap B : Nat) (w : World) (hn : n = xs.length) (hl : n ≤ 1000000) (h : Row w B a (ints xs)) :
    Calls Try.prog 44 #[.slice a n cap] w fun e w' => e = .returned (.int .i64 (sumW xs)) ∧ w = w' := by
  go_enter Try.func44, Try.ntmps44
  have HN := hide hn
  clear hn
  go_wp2
  go_loop [3, 5, 8] (fun s _ i => ∃ k : Nat, k ≤ n ∧ i = .int .i64 k ∧ s = .int .i64 (sumW (xs.take k))) (fun _ _ i => n - (intOf i).toNat)
  case atStart => exact ⟨0, Nat.zero_le _, rfl, rfl⟩
  case round =>
    obtain ⟨k, hk, rfl, rfl⟩ := hrel
    by_cases hlt : k < n
    · have hkl : k < xs.length := by rw [← HN.out]; exact hlt
      obtain ⟨b, off, rfl, hb, hc⟩ := h.int (by omega)
      have hcell := hc k hkl
      have HS := hide (take_snoc xs k hkl)
      clear hc h hkl
      go_wp2
      go_round
      case rel => exact ⟨k + 1, by omega, by go_num, by rw [HS.out, sumW_snoc]⟩
      case measure => simp [intOf]; omega
    · go_wp2
      go_ret
      exact ⟨by rw [List.take_of_length_le (by rw [← HN.out]; omega)]; rfl, rfl⟩

theorem sumW_eq (xs : List Int) (hl : xs.length ≤ 1000000) (h : ∀ x ∈ xs, 0 ≤ x ∧ x ≤ 1000000) : sumW xs = xs.sum ∧ 0 ≤ xs.sum ∧ xs.sum ≤ 1000000 * xs.length := by
  have key : ∀ k, k ≤ xs.length → sumW (xs.take k) = (xs.take k).sum ∧ 0 ≤ (xs.take k).sum ∧ (xs.take k).sum ≤ 1000000 * (k : Int) := by
    intro k
    induction k with
    | zero => intro _; simp [sumW]
    | succ k ih =>
      intro hk
      obtain ⟨h1, h2, h3⟩ := ih (by omega)
      have hx := h (xs[k]) (List.getElem_mem (by omega))
      rw [take_snoc xs k (by omega), sumW_snoc, h1, List.sum_append, List.sum_singleton, iat_eq xs k (by omega)]
      refine ⟨?_, by omega, by omega⟩
      unfold wrap64
      omega
  have := key xs.length (Nat.le_refl _)
  rwa [List.take_length] at this

end Go.Proofs.Ytjgebepeghgmcaa
