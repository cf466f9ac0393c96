/-
  Package period: checks; reduced forms.
-/
import Derived.Test.YtjgebepeghgmcaaPer2
namespace Go.Proofs.Ytjgebepeghgmcaa
open Go.RowKit
set_option linter.unusedVariables false
set_option linter.unusedSimpArgs false

theorem counted1_any (x : Int) (w : World) :
    Calls Try.prog 73 #[.int .i64 x] w fun e w' => e = .returned (.bool (!bet 1 x 1000000)) ∧ w = w' := by
  go_enter Try.func73, Try.ntmps73
  go_wp2_with (go_at_call 55; refine (between_any _ _ _ _).mono ?_; rintro e w' ⟨rfl, rfl⟩)
  go_ret
  exact ⟨rfl, rfl⟩

theorem follow1_any (x : Int) (w : World) :
    Calls Try.prog 54 #[.int .i64 x] w fun e w' => e = .returned (.bool (!bet 0 x 1000000)) ∧ w = w' := by
  go_enter Try.func54, Try.ntmps54
  go_wp2_with (go_at_call 55; refine (between_any _ _ _ _).mono ?_; rintro e w' ⟨rfl, rfl⟩)
  go_ret
  exact ⟨rfl, rfl⟩

def validR (r : Int × Int) : Bool := bet 0 r.1 1000000 && bet 1 r.2 1000000
theorem valid_any (r : Int × Int) (w : World) :
    Calls Try.prog 46 #[.agg #[.int .i64 r.1, .int .i64 r.2]] w fun e w' => e = .returned (.bool (validR r)) ∧ Below w.heap.size w w' := by
  obtain ⟨a, b⟩ := r
  cases h : bet 0 a 1000000 with
  | true =>
    have E : Hid (validR (a, b) = bet 1 b 1000000) := hide (by simp [validR, h])
    go_enter Try.func46, Try.ntmps46
    go_wp2_with (go_at_call 55; refine (between_any _ _ _ _).mono ?_; rintro e w' ⟨rfl, rfl⟩)
    go_ret
    exact ⟨by rw [E.out]; rfl, (Below.refl _ _).alloc (Nat.le_refl _) _⟩
  | false =>
    have E : Hid (validR (a, b) = false) := hide (by simp [validR, h])
    go_enter Try.func46, Try.ntmps46
    go_wp2_with (go_at_call 55; refine (between_any _ _ _ _).mono ?_; rintro e w' ⟨rfl, rfl⟩)
    go_ret
    exact ⟨by rw [E.out]; rfl, (Below.refl _ _).alloc (Nat.le_refl _) _⟩

/-! ### reduced -/
/-- Euclid's steps, the second number as the measure. -/
def gcdN : Nat → Int → Int → Int
  | 0, a, _ => a
  | k + 1, a, b => if 0 < b then gcdN k b (a % b) else a
theorem gcdN_enough : ∀ (k : Nat) (a b : Int), 0 ≤ a → 0 ≤ b → b.toNat < k → gcdN k a b = (Nat.gcd b.toNat a.toNat : Int)
  | 0, a, b, _, _, h => by omega
  | k + 1, a, b, ha, hb, h => by
    unfold gcdN
    by_cases h0 : 0 < b
    · rw [if_pos h0]
      have h1 : 0 ≤ a % b := Int.emod_nonneg _ (by omega)
      have h2 : a % b < b := Int.emod_lt_of_pos _ h0
      rw [gcdN_enough k b (a % b) hb h1 (by omega)]
      congr 1
      rw [Nat.gcd_rec b.toNat a.toNat]
      congr 1
      obtain ⟨m, rfl⟩ := Int.eq_ofNat_of_zero_le ha
      obtain ⟨n, rfl⟩ := Int.eq_ofNat_of_zero_le hb
      simp [← Int.natCast_emod]
    · rw [if_neg h0]
      have : b = 0 := by omega
      subst this
      simp
      omega
def gcdI (a b : Int) : Int := (Int.gcd a b : Int)
def redR (r : Int × Int) : Int × Int := (r.1 / gcdI r.1 r.2, r.2 / gcdI r.1 r.2)

theorem gcd_mod (a b : Int) : Int.gcd a (b % a) = Int.gcd a b := by
  have : b % a = b + (-(b / a)) * a := by rw [Int.emod_def, Int.neg_mul, Int.mul_comm a (b / a)]; omega
  rw [this, Int.gcd_add_mul_right_right]

set_option maxRecDepth 100000 in
set_option maxHeartbeats 1000000 in
theorem reduced_any (r : Int × Int) (w : World) (h1 : 0 ≤ r.1) (h2 : r.1 ≤ 2000000000) (h3 : 1 ≤ r.2) (h4 : r.2 ≤ 2000000000) :
    Calls Try.prog 49 #[.agg #[.int .i64 r.1, .int .i64 r.2]] w fun e w' => e = .returned (.agg #[.int .i64 (redR r).1, .int .i64 (redR r).2]) ∧ Below w.heap.size w w' := by
  obtain ⟨x, y⟩ := r
  dsimp only at *
  go_enter Try.func49, Try.ntmps49
  go_wp2
  generalize hW : World.alloc (World.alloc w _) _ = W
  have hB : Below w.heap.size w W := by rw [← hW]; exact ((Below.refl _ _).alloc (Nat.le_refl _) _).alloc (by simp) _
  have hz : w.heap.size + 1 < W.heap.size := by rw [← hW]; simp
  have z0 : w.heap.size < W.heap.size := by omega
  have c0 : W.cell? ⟨w.heap.size, 0, none⟩ = some (.int .i64 x) := by subst hW; go_simp
  have c1 : W.cell? ⟨w.heap.size, 1, none⟩ = some (.int .i64 y) := by subst hW; go_simp
  have r0 : W.cell? ⟨w.heap.size + 1, 0, none⟩ = some (.int .i64 0) := by subst hW; go_simp
  have r1 : W.cell? ⟨w.heap.size + 1, 1, none⟩ = some (.int .i64 0) := by subst hW; go_simp
  have r2 : W.frozen? ⟨w.heap.size + 1, 0, none⟩ = false := by subst hW; go_simp
  have r3 : W.frozen? ⟨w.heap.size + 1, 1, none⟩ = false := by subst hW; go_simp
  clear hW
  go_quiet (fail)
  go_wp2
  go_loopw [3, 4] (fun a b wr => ∃ p q : Int, a = .int .i64 p ∧ b = .int .i64 q ∧ 0 ≤ p ∧ p ≤ 2000000000 ∧ 0 ≤ q ∧ q ≤ 2000000000 ∧ 0 < p + q ∧ Int.gcd p q = Int.gcd x y ∧ ∃ m, wr = W.drewN m) (fun _ b _ => (intOf b).toNat)
  case atStart => exact ⟨x, y, rfl, rfl, by omega, by omega, by omega, by omega, by omega, rfl, _, rfl⟩
  case round =>
    obtain ⟨p, q, rfl, rfl, p0, p1, q0, q1, pq, hg, m, rfl⟩ := hrel
    have HG := hide hg
    clear hg
    by_cases hq : 0 < q
    · have m1 : 0 ≤ p % q := Int.emod_nonneg _ (by omega)
      have m2 : p % q < q := Int.emod_lt_of_pos _ hq
      have m3 : Hid (Int.gcd q (p % q) = Int.gcd x y) := hide (by rw [← HG.out, ← Int.gcd_comm q p]; exact gcd_mod q p)
      have hqz : (q == 0) = false := by simp; omega
      go_wp2
      go_quiet (fail)
      go_wp2
      go_roundw
      case rel => exact ⟨q, p % q, rfl, rfl, by omega, by omega, by omega, by omega, by omega, m3.out, _, by rw [World.drewN_drewN]⟩
      case measure => simp [intOf]; omega
    · have hq0 : q = 0 := by omega
      have EP : Hid (p = gcdI x y) := by
        have := HG.out
        rw [hq0] at this
        show p = gcdI x y
        unfold gcdI
        rw [← this, Int.gcd_zero_right]
        omega
      have hpz : ¬ p = 0 := by omega
      have p2 : 1 ≤ p := by omega
      have ER : Hid (redR (x, y) = (x / p, y / p)) := by
        show redR (x, y) = _
        unfold redR
        rw [EP.out]
      clear hq0
      go_wp2
      refine wp_region_head (fun k : Nat => W.drewN k) 9 (by kernel_rfl) (by kernel_rfl) ⟨m + 1, by rw [← World.drewN_drewN]; rfl⟩ ?_
      simp only [List.take_succ_cons, List.take_zero, List.drop_succ_cons, List.drop_zero]
      repeat (quiet_step (fail))
      refine wpQuiet_nil ?_
      intro k
      go_wp2
      rw [ER.out]
      refine bodyPost_ret (v := .agg #[.int .i64 (x / p), .int .i64 (y / p)]) (by simp [results, Try.results49, go_sem, r0, r1]) rfl ⟨rfl, ?_⟩
      exact ((below_drewN hB k).setCell (p := ⟨w.heap.size + 1, 0, none⟩) (Nat.le_succ _) _).setCell (p := ⟨w.heap.size + 1, 1, none⟩) (Nat.le_succ _) _

end Go.Proofs.Ytjgebepeghgmcaa
