/-
  Package period: whether two numbers are a pair of passages; the check of a log.
-/
import Derived.Test.YtjgebepeghgmcaaPer3
namespace Go.Proofs.Ytjgebepeghgmcaa
open Go.RowKit
set_option linter.unusedVariables false
set_option linter.unusedSimpArgs false

/-- == of two [2]int. -/
theorem arr2_eq (a b c d : Int) (w : World) : (Op.equalIn 10000 60 (.agg #[.int .i64 a, .int .i64 b]) (.agg #[.int .i64 c, .int .i64 d])).run Try.prog w = .ok (a == c && b == d) w := by
  have u3 := Try.underlying3
  have a3 := Try.isAgg3
  have z3 := Try.sizeOf3
  rw [show (10000 : Nat) = 9999 + 1 from rfl, Op.equalIn]
  simp only [Sem.run_bind, run_underlying Try.underlying60, Result.andThen_ok]
  simp only [Std.Legacy.Range.forIn_eq_forIn_range', Std.Legacy.Range.size, Nat.sub_zero, Nat.add_sub_cancel, Nat.div_one, List.range'_succ, List.range'_zero, List.forIn_cons, List.forIn_nil]
  go_simp
  by_cases h1 : a = c <;> by_cases h2 : b = d <;> simp [h1, h2]

def pairOk (p : Int × Int) (n : Nat) : Bool := decide (0 ≤ p.1 ∧ p.1 < p.2 ∧ p.2 < n)

set_option maxRecDepth 100000 in
set_option maxHeartbeats 1000000 in
theorem pair_any (l : PLog) (a : Option Addr) (n cap : Nat) (p : Int × Int) (w : World) (hn : n ≤ 1000000) :
    Calls Try.prog 63 #[.agg #[.int .i64 l.lo, .int .i64 l.hi, .slice a n cap], .agg #[.int .i64 p.1, .int .i64 p.2]] w fun e w' => e = .returned (.bool (pairOk p n)) ∧ Below w.heap.size w w' := by
  obtain ⟨lo, hi, ps⟩ := l
  obtain ⟨x, y⟩ := p
  dsimp only
  have heq := arr2_eq x y 0 0
  by_cases h0 : x = 0 ∧ y = 0
  · have E : Hid (pairOk (x, y) n = false) := hide (by simp [pairOk]; omega)
    have g0 : (x == 0 && y == 0) = true := by simp [h0.1, h0.2]
    have g : ∀ w, (Op.equalIn 10000 60 (.agg #[.int .i64 x, .int .i64 y]) (.agg #[.int .i64 0, .int .i64 0])).run Try.prog w = .ok true w := fun w => by rw [heq, g0]
    clear heq g0 h0
    go_enter Try.func63, Try.ntmps63
    go_wp2
    go_ret
    exact ⟨by rw [E.out]; rfl, ((Below.refl _ _).alloc (Nat.le_refl _) _).alloc (by simp) _⟩
  have g0 : (x == 0 && y == 0) = false := by
    cases e : (x == 0 && y == 0) with
    | false => rfl
    | true => simp at e; exact absurd e h0
  have g : ∀ w, (Op.equalIn 10000 60 (.agg #[.int .i64 x, .int .i64 y]) (.agg #[.int .i64 0, .int .i64 0])).run Try.prog w = .ok false w := fun w => by rw [heq, g0]
  clear heq g0 h0
  by_cases h1 : 0 ≤ x
  · by_cases h2 : x < y
    · by_cases h3 : y < n
      · have E : Hid (pairOk (x, y) n = true) := hide (by simp [pairOk]; omega)
        go_enter Try.func63, Try.ntmps63
        go_wp2
        go_ret
        exact ⟨by rw [E.out]; rfl, ((Below.refl _ _).alloc (Nat.le_refl _) _).alloc (by simp) _⟩
      · have E : Hid (pairOk (x, y) n = false) := hide (by simp [pairOk]; omega)
        have h3' : decide (y < n) = false := by simp; omega
        clear h3
        go_enter Try.func63, Try.ntmps63
        go_wp2
        go_ret
        exact ⟨by rw [E.out]; rfl, ((Below.refl _ _).alloc (Nat.le_refl _) _).alloc (by simp) _⟩
    · have E : Hid (pairOk (x, y) n = false) := hide (by simp [pairOk]; omega)
      have h2' : decide (x < y) = false := by simp; omega
      clear h2
      go_enter Try.func63, Try.ntmps63
      go_wp2
      go_ret
      exact ⟨by rw [E.out]; rfl, ((Below.refl _ _).alloc (Nat.le_refl _) _).alloc (by simp) _⟩
  · have E : Hid (pairOk (x, y) n = false) := hide (by simp [pairOk]; omega)
    have h1' : decide (0 ≤ x) = false := by simp; omega
    clear h1
    go_enter Try.func63, Try.ntmps63
    go_wp2
    go_ret
    exact ⟨by rw [E.out]; rfl, ((Below.refl _ _).alloc (Nat.le_refl _) _).alloc (by simp) _⟩

set_option maxRecDepth 100000 in
set_option maxHeartbeats 2000000 in
theorem check_any (l : PLog) (a : Option Addr) (n cap : Nat) (w : World) (hn : n = l.ps.length) (hm : n ≤ 100000000000) (hp : Row w w.heap.size a (spans l.ps)) :
    Calls Try.prog 37 #[.agg #[.int .i64 l.lo, .int .i64 l.hi, .slice a n cap]] w fun e w' => e = .returned (.int .i64 (checkL l)) ∧ Below w.heap.size w w' := by
  obtain ⟨lo, hi, ps⟩ := l
  dsimp only at *
  have HN := hide hn
  clear hn
  have fin0 : ∀ c : Int, checkL ⟨lo, hi, ps⟩ = c → Ending.returned (.int .i64 c) = Ending.returned (.int .i64 (checkL ⟨lo, hi, ps⟩)) := fun c h => by rw [h]
  cases h1 : bet 1 lo hi with
  | false =>
    have E : Hid (checkL ⟨lo, hi, ps⟩ = 1) := hide (by have := bet_false h1; unfold checkL; rw [if_pos]; left; exact this)
    clear fin0
    go_enter Try.func37, Try.ntmps37
    go_wp2_with (go_at_call 55; refine (between_any _ _ _ _).mono ?_; rintro e w' ⟨rfl, rfl⟩)
    go_ret
    exact ⟨by rw [E.out]; rfl, (Below.refl _ _).alloc (Nat.le_refl _) _⟩
  | true =>
  by_cases h2 : 10000 < hi
  · have E : Hid (checkL ⟨lo, hi, ps⟩ = 1) := hide (by unfold checkL; rw [if_pos]; right; exact h2)
    clear fin0
    go_enter Try.func37, Try.ntmps37
    go_wp2_with (go_at_call 55; refine (between_any _ _ _ _).mono ?_; rintro e w' ⟨rfl, rfl⟩)
    go_ret
    exact ⟨by rw [E.out]; rfl, (Below.refl _ _).alloc (Nat.le_refl _) _⟩
  have hb := bet_true h1
  by_cases h3 : n < 2
  · have E : Hid (checkL ⟨lo, hi, ps⟩ = 2) := hide (by unfold checkL; rw [if_neg (by simp; omega), if_pos (by rw [← HN.out]; exact h3)])
    have h2' : decide (10000 < hi) = false := by simp; omega
    clear fin0 hb h2
    go_enter Try.func37, Try.ntmps37
    go_wp2_with (go_at_call 55; refine (between_any _ _ _ _).mono ?_; rintro e w' ⟨rfl, rfl⟩)
    go_ret
    exact ⟨by rw [E.out]; rfl, (Below.refl _ _).alloc (Nat.le_refl _) _⟩
  by_cases h4 : 8 < n
  · have E : Hid (checkL ⟨lo, hi, ps⟩ = 3) := hide (by unfold checkL; rw [if_neg (by simp; omega), if_neg (by rw [← HN.out]; exact h3), if_pos (by rw [← HN.out]; exact h4)])
    have h2' : decide (10000 < hi) = false := by simp; omega
    have h3' : decide ((n : Int) < 2) = false := by simp; omega
    clear fin0 hb h2 h3
    go_enter Try.func37, Try.ntmps37
    go_wp2_with (go_at_call 55; refine (between_any _ _ _ _).mono ?_; rintro e w' ⟨rfl, rfl⟩)
    go_ret
    exact ⟨by rw [E.out]; rfl, (Below.refl _ _).alloc (Nat.le_refl _) _⟩
  have E : Hid (checkL ⟨lo, hi, ps⟩ = checkPs (-1) ps) := hide (by unfold checkL; rw [if_neg (by simp; omega), if_neg (by rw [← HN.out]; exact h3), if_neg (by rw [← HN.out]; exact h4)])
  obtain ⟨b, off, rfl, hbb, hcell⟩ := hp.span (by rw [← HN.out]; omega)
  have h2' : decide (10000 < hi) = false := by simp; omega
  have h3' : decide ((n : Int) < 2) = false := by simp; omega
  have h4' : decide (8 < (n : Int)) = false := by simp; omega
  have HC := hide hcell
  clear fin0 hb h2 hcell hp
  go_enter Try.func37, Try.ntmps37
  go_wp2_with (go_at_call 55; refine (between_any _ _ _ _).mono ?_; rintro e w' ⟨rfl, rfl⟩)
  go_loopw [3, 5, 34] (fun lv _ i wr => ∃ (k : Nat) (last : Int), k ≤ n ∧ i = .int .i64 k ∧ lv = .int .i64 last ∧ checkPs (-1) ps = checkPs last (ps.drop k) ∧ Below w.heap.size w wr) (fun _ _ i _ => n - (intOf i).toNat)
  case atStart => exact ⟨0, -1, Nat.zero_le _, rfl, rfl, rfl, (Below.refl _ _).alloc (Nat.le_refl _) _⟩
  case round =>
    obtain ⟨k, last, hk, rfl, rfl, hck, hB⟩ := hrel
    have CK := hide hck
    clear hck
    by_cases hlt : k < n
    · have hkl : k < ps.length := by rw [← HN.out]; exact hlt
      have e0 := (hB.cell (p := ⟨b, off + k * 2, none⟩) hbb).trans (HC.out k hkl).1
      have e1 := (hB.cell (p := ⟨b, off + k * 2 + 1, none⟩) hbb).trans (HC.out k hkl).2
      have hs := hB.size
      have D := hide (drop_span ps k hkl)
      clear hkl
      generalize los ps k = x at *
      generalize his ps k = y at *
      cases hb0 : bet 0 x y with
      | false =>
        have EE : Hid (checkL ⟨lo, hi, ps⟩ = 1) := hide (by have := bet_false hb0; rw [E.out, CK.out, D.out]; unfold checkPs; rw [if_pos]; left; exact this)
        go_wp2_with (go_at_call 55; refine (between_any _ _ _ _).mono ?_; rintro e w' ⟨rfl, rfl⟩)
        go_ret
        exact ⟨by rw [EE.out]; rfl, hB.alloc hs _⟩
      | true =>
      have hbb0 := bet_true hb0
      by_cases hy : 1000000 < y
      · have EE : Hid (checkL ⟨lo, hi, ps⟩ = 1) := hide (by rw [E.out, CK.out, D.out]; unfold checkPs; rw [if_pos]; right; exact hy)
        go_wp2_with (go_at_call 55; refine (between_any _ _ _ _).mono ?_; rintro e w' ⟨rfl, rfl⟩)
        go_ret
        exact ⟨by rw [EE.out]; rfl, hB.alloc hs _⟩
      by_cases hx : x ≤ last
      · have EE : Hid (checkL ⟨lo, hi, ps⟩ = 5) := hide (by rw [E.out, CK.out, D.out]; unfold checkPs; rw [if_neg (by simp; omega), if_pos hx])
        have hy' : decide (1000000 < y) = false := by simp; omega
        clear hy
        go_wp2_with (go_at_call 55; refine (between_any _ _ _ _).mono ?_; rintro e w' ⟨rfl, rfl⟩)
        go_ret
        exact ⟨by rw [EE.out]; rfl, hB.alloc hs _⟩
      · have EE : Hid (checkPs (-1) ps = checkPs y (ps.drop (k + 1))) := hide (by rw [CK.out, D.out]; conv => lhs; unfold checkPs; rw [if_neg (by simp; omega), if_neg hx])
        have hy' : decide (1000000 < y) = false := by simp; omega
        have hx' : decide (x ≤ last) = false := by simp; omega
        clear hy hx
        go_wp2_with (go_at_call 55; refine (between_any _ _ _ _).mono ?_; rintro e w' ⟨rfl, rfl⟩)
        go_roundw
        case rel => exact ⟨k + 1, y, by omega, by go_num, rfl, EE.out, hB.alloc hs _⟩
        case measure => simp [intOf]; omega
    · have EE : Hid (checkL ⟨lo, hi, ps⟩ = 0) := hide (by rw [E.out, CK.out, List.drop_of_length_le (by rw [← HN.out]; omega)]; rfl)
      go_wp2
      go_ret
      exact ⟨by rw [EE.out]; rfl, hB⟩

end Go.Proofs.Ytjgebepeghgmcaa
