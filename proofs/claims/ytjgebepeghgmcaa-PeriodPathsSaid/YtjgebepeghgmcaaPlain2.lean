/-
  Plain facts on paths: moves, runs, fractions.
-/
import Derived.Test.YtjgebepeghgmcaaFrac
namespace Go.Proofs.Ytjgebepeghgmcaa

/-- The fraction that a path in runs leads to (runs from number i on). -/
def valOf : Nat → List Int → Int × Int
  | _, [] => (1, 1)
  | i, n :: r => if i % 2 = 1 then ((valOf (i + 1) r).1, (valOf (i + 1) r).2 + n * (valOf (i + 1) r).1) else ((valOf (i + 1) r).1 + n * (valOf (i + 1) r).2, (valOf (i + 1) r).2)
/-- The moves of a path in runs. -/
def movesOf : Nat → List Int → List Bool
  | _, [] => []
  | i, n :: r => List.replicate n.toNat (decide (i % 2 = 0)) ++ movesOf (i + 1) r
/-- The moves towards a fraction. -/
def subG : Nat → Int → Int → List Bool
  | 0, _, _ => []
  | k + 1, y, x => if y = x then [] else if x < y then true :: subG k (y - x) x else false :: subG k y (x - y)

/-- Runs as they should be: none is negative, only the first one may be 0, and that only if another one follows. -/
structure Runs (l : List Int) : Prop where
  nn : ∀ x ∈ l, 0 ≤ x
  tl : ∀ x ∈ l.drop 1, 1 ≤ x
  one : l ≠ [0]

theorem valOf_pos : ∀ (i : Nat) (l : List Int), (∀ x ∈ l, 0 ≤ x) → 1 ≤ (valOf i l).1 ∧ 1 ≤ (valOf i l).2
  | _, [], _ => by simp [valOf]
  | i, n :: r, h => by
    obtain ⟨h1, h2⟩ := valOf_pos (i + 1) r fun x hx => h x (by simp [hx])
    have h0 := h n (by simp)
    unfold valOf
    split
    · have : 0 ≤ n * (valOf (i + 1) r).1 := Int.mul_nonneg h0 (by omega)
      exact ⟨h1, by dsimp only; omega⟩
    · have : 0 ≤ n * (valOf (i + 1) r).2 := Int.mul_nonneg h0 (by omega)
      exact ⟨by dsimp only; omega, h2⟩

theorem subG_fuel : ∀ (k k' : Nat) (y x : Int), 1 ≤ y → 1 ≤ x → (y + x).toNat ≤ k → (y + x).toNat ≤ k' → subG k y x = subG k' y x
  | 0, _, _, _, _, _, h, _ => by omega
  | _ + 1, 0, _, _, _, _, _, h => by omega
  | k + 1, k' + 1, y, x, hy, hx, h, h' => by
    unfold subG
    by_cases e : y = x
    · rw [if_pos e, if_pos e]
    · rw [if_neg e, if_neg e]
      split
      · rw [subG_fuel k k' (y - x) x (by omega) hx (by omega) (by omega)]
      · rw [subG_fuel k k' y (x - y) hy (by omega) (by omega) (by omega)]

/-- The moves, with as much fuel as they need. -/
def sub (y x : Int) : List Bool := subG (y + x).toNat y x
theorem sub_eq {y x : Int} (hy : 1 ≤ y) (hx : 1 ≤ x) : sub y x = if y = x then [] else if x < y then true :: sub (y - x) x else false :: sub y (x - y) := by
  unfold sub
  obtain ⟨k, hk⟩ : ∃ k, (y + x).toNat = k + 1 := ⟨(y + x).toNat - 1, by omega⟩
  rw [hk]
  conv => lhs; unfold subG
  by_cases e : y = x
  · rw [if_pos e, if_pos e]
  · rw [if_neg e, if_neg e]
    split
    · rw [subG_fuel k (y - x + x).toNat (y - x) x (by omega) hx (by omega) (by omega)]
    · rw [subG_fuel k (y + (x - y)).toNat y (x - y) hy (by omega) (by omega) (by omega)]

theorem sub_addR {y x : Int} (hy : 1 ≤ y) (hx : 1 ≤ x) : ∀ n : Nat, sub (y + n * x) x = List.replicate n true ++ sub y x
  | 0 => by simp
  | n + 1 => by
    have hp : 0 ≤ (n : Int) * x := Int.mul_nonneg (by omega) (by omega)
    have e : ((n + 1 : Nat) : Int) * x = n * x + x := by rw [Int.natCast_add, Int.add_mul]; simp
    rw [e, sub_eq (by omega) hx, if_neg (by omega), if_pos (by omega), show y + (↑n * x + x) - x = y + ↑n * x by omega, sub_addR hy hx n]
    rfl
theorem sub_addL {y x : Int} (hy : 1 ≤ y) (hx : 1 ≤ x) : ∀ n : Nat, sub y (x + n * y) = List.replicate n false ++ sub y x
  | 0 => by simp
  | n + 1 => by
    have hp : 0 ≤ (n : Int) * y := Int.mul_nonneg (by omega) (by omega)
    have e : ((n + 1 : Nat) : Int) * y = n * y + y := by rw [Int.natCast_add, Int.add_mul]; simp
    rw [e, sub_eq hy (by omega), if_neg (by omega), if_neg (by omega), show x + (↑n * y + y) - y = x + ↑n * y by omega, sub_addL hy hx n]
    rfl
theorem sub_valOf : ∀ (i : Nat) (l : List Int), (∀ x ∈ l, 0 ≤ x) → sub (valOf i l).1 (valOf i l).2 = movesOf i l
  | _, [], _ => by simp [valOf, movesOf, sub_eq]
  | i, n :: r, h => by
    have hr := fun x (hx : x ∈ r) => h x (List.mem_cons_of_mem _ hx)
    obtain ⟨h1, h2⟩ := valOf_pos (i + 1) r hr
    have ih := sub_valOf (i + 1) r hr
    have h0 := h n List.mem_cons_self
    obtain ⟨m, rfl⟩ := Int.eq_ofNat_of_zero_le h0
    unfold valOf movesOf
    split
    · rename_i hp
      rw [sub_addL h1 h2, ih]
      simp [hp]
    · rename_i hp
      rw [sub_addR h1 h2, ih]
      have : i % 2 = 0 := by omega
      simp [this]

/-- Multiplied, the same moves. -/
theorem sub_scale : ∀ (k : Nat) (g y x : Int), 1 ≤ g → 1 ≤ y → 1 ≤ x → (y + x).toNat ≤ k → sub (g * y) (g * x) = sub y x
  | 0, _, y, x, _, hy, hx, h => by omega
  | k + 1, g, y, x, hg, hy, hx, h => by
    have p1 : 1 * 1 ≤ g * y := Int.mul_le_mul hg hy (by omega) (by omega)
    have p2 : 1 * 1 ≤ g * x := Int.mul_le_mul hg hx (by omega) (by omega)
    rw [sub_eq (by omega) (by omega), sub_eq hy hx]
    by_cases e : y = x
    · rw [if_pos (by rw [e]), if_pos e]
    · have e' : ¬ g * y = g * x := fun h => e (Int.eq_of_mul_eq_mul_left (by omega) h)
      rw [if_neg e', if_neg e]
      by_cases hl : x < y
      · rw [if_pos hl, if_pos ((Int.mul_lt_mul_left (by omega)).2 hl), ← Int.mul_sub, sub_scale k g (y - x) x hg (by omega) hx (by omega)]
      · rw [if_neg hl, if_neg (fun h => hl ((Int.mul_lt_mul_left (by omega)).1 h)), ← Int.mul_sub, sub_scale k g y (x - y) hg hy (by omega) (by omega)]

/-- Upside down, the other moves. -/
theorem sub_flip : ∀ (k : Nat) (y x : Int), 1 ≤ y → 1 ≤ x → (y + x).toNat ≤ k → sub x y = (sub y x).map (!·)
  | 0, y, x, hy, hx, h => by omega
  | k + 1, y, x, hy, hx, h => by
    rw [sub_eq hx hy, sub_eq hy hx]
    by_cases e : y = x
    · rw [if_pos e.symm, if_pos e]; rfl
    · rw [if_neg (fun h => e h.symm), if_neg e]
      by_cases hl : x < y
      · rw [if_pos hl, if_neg (by omega), sub_flip k (y - x) x (by omega) hx (by omega)]; rfl
      · rw [if_neg hl, if_pos (by omega), sub_flip k y (x - y) hy (by omega) (by omega)]; rfl

/-- What is between two fractions has the beginning that both have. -/
theorem sub_prefix : ∀ (k : Nat) (y x u v : Int), 1 ≤ y → 1 ≤ x → 1 ≤ u → 1 ≤ v → (y + x).toNat ≤ k →
    ∀ (i : Nat) (b : Bool), (∀ j, j < i → (sub y x)[j]? = (sub u v)[j]?) → (sub y x)[i]? = some b → (sub u v)[i]? = some b → (sub (y + u) (x + v))[i]? = some b
  | 0, y, x, u, v, hy, hx, _, _, h => by omega
  | k + 1, y, x, u, v, hy, hx, hu, hv, h => by
    intro i b hpre h1 h2
    have e1 := sub_eq hy hx
    have e2 := sub_eq hu hv
    have e3 := sub_eq (y := y + u) (x := x + v) (by omega) (by omega)
    by_cases c1 : y = x
    · rw [if_pos c1] at e1; rw [e1] at h1; simp at h1
    · by_cases c2 : u = v
      · rw [if_pos c2] at e2; rw [e2] at h2; simp at h2
      · rw [if_neg c1] at e1
        rw [if_neg c2] at e2
        by_cases d1 : x < y
        · rw [if_pos d1] at e1
          by_cases d2 : v < u
          · rw [if_pos d2] at e2
            rw [if_neg (by omega), if_pos (by omega)] at e3
            rw [e1] at h1; rw [e2] at h2; rw [e3]
            cases i with
            | zero => simpa using h1
            | succ i =>
              simp only [List.getElem?_cons_succ] at h1 h2 ⊢
              rw [show y + u - (x + v) = (y - x) + (u - v) by omega]
              exact sub_prefix k (y - x) x (u - v) v (by omega) hx (by omega) hv (by omega) i b (fun j hj => by have := hpre (j + 1) (by omega); rw [e1, e2] at this; simpa using this) h1 h2
          · rw [if_neg d2] at e2
            cases i with
            | zero => rw [e1] at h1; rw [e2] at h2; simp at h1 h2; rw [h1] at h2; cases h2
            | succ i => have := hpre 0 (by omega); rw [e1, e2] at this; simp at this
        · rw [if_neg d1] at e1
          by_cases d2 : v < u
          · rw [if_pos d2] at e2
            cases i with
            | zero => rw [e1] at h1; rw [e2] at h2; simp at h1 h2; rw [h1] at h2; cases h2
            | succ i => have := hpre 0 (by omega); rw [e1, e2] at this; simp at this
          · rw [if_neg d2] at e2
            rw [if_neg (by omega), if_neg (by omega)] at e3
            rw [e1] at h1; rw [e2] at h2; rw [e3]
            cases i with
            | zero => simpa using h1
            | succ i =>
              simp only [List.getElem?_cons_succ] at h1 h2 ⊢
              rw [show x + v - (y + u) = (x - y) + (v - u) by omega]
              exact sub_prefix k y (x - y) u (v - u) hy (by omega) hu (by omega) (by omega) i b (fun j hj => by have := hpre (j + 1) (by omega); rw [e1, e2] at this; simpa using this) h1 h2

theorem sub_len : ∀ (k : Nat) (y x : Int), 1 ≤ y → 1 ≤ x → (y + x).toNat ≤ k → ((sub y x).length : Int) < max y x
  | 0, y, x, hy, hx, h => by omega
  | k + 1, y, x, hy, hx, h => by
    rw [sub_eq hy hx]
    split
    · simp; omega
    · split
      · have := sub_len k (y - x) x (by omega) hx (by omega)
        simp only [List.length_cons]; omega
      · have := sub_len k y (x - y) hy (by omega) (by omega)
        simp only [List.length_cons]; omega

/-- The path's runs lead to the fraction. -/
theorem pq_runs : ∀ (k : Nat) (x r : Int), 0 ≤ r → r < x → r.toNat < k → (∀ g : Int, 0 < g → g ∣ x → g ∣ r → g = 1) → r ≠ 0 →
    (∀ z ∈ lastLess (pq x r), 1 ≤ z) ∧ lastLess (pq x r) ≠ [] ∧ ∀ i : Nat, valOf i (lastLess (pq x r)) = if i % 2 = 1 then (r, x) else (x, r)
  | 0, _, r, _, _, h, _, _ => by omega
  | k + 1, x, r, h0, h1, hk, hg, hr => by
    have hr1 : 0 < r := by omega
    rw [pq_pos hr1]
    have m1 : 0 ≤ x % r := Int.emod_nonneg _ (by omega)
    have m2 : x % r < r := Int.emod_lt_of_pos _ hr1
    have me := Int.mul_ediv_add_emod x r
    have hd : 1 ≤ x / r := Int.le_ediv_of_mul_le hr1 (by omega)
    by_cases hz : x % r = 0
    · have hr' : r = 1 := hg r hr1 (Int.dvd_of_emod_eq_zero hz) (Int.dvd_refl _)
      subst hr'
      have e : pq 1 (x % 1) = [] := by rw [hz]; rfl
      have e2 : x / 1 = x := Int.ediv_one x
      rw [e, e2]
      have e3 : lastLess [x] = [x - 1] := by unfold lastLess; simp; omega
      rw [e3]
      refine ⟨by simp; omega, by simp, fun i => ?_⟩
      simp only [valOf]
      split <;> simp <;> omega
    · have hg' : ∀ g : Int, 0 < g → g ∣ r → g ∣ x % r → g = 1 := fun g hp d1 d2 => hg g hp (by
        rw [← me]
        exact Int.dvd_add (Int.dvd_mul_of_dvd_left d1) d2) d1
      obtain ⟨i1, i2, i3⟩ := pq_runs k r (x % r) m1 m2 (by omega) hg' hz
      have hne := pq_ne (y := r) (x := x % r) (by omega)
      have e4 : lastLess (x / r :: pq r (x % r)) = x / r :: lastLess (pq r (x % r)) := by
        have := lastLess_add (x / r) 0 (pq r (x % r)) hne
        rwa [addHead_zero] at this
      rw [e4]
      refine ⟨fun z hz => ?_, by simp, fun i => ?_⟩
      · rcases List.mem_cons.1 hz with rfl | hz
        · exact hd
        · exact i1 z hz
      · simp only [valOf]
        rw [i3 (i + 1)]
        have hc : x / r * r = r * (x / r) := Int.mul_comm _ _
        by_cases hi : i % 2 = 1
        · rw [if_pos hi, if_pos hi, if_neg (by omega)]
          simp only [Prod.mk.injEq, true_and]
          omega
        · rw [if_neg hi, if_neg hi, if_pos (by omega)]
          simp only [Prod.mk.injEq, and_true]
          omega

theorem path_runs {y x : Int} (hy : 1 ≤ y) (hx : 1 ≤ x) (hg : ∀ g : Int, 0 < g → g ∣ y → g ∣ x → g = 1) : Runs (lastLess (pq y x)) ∧ valOf 0 (lastLess (pq y x)) = (y, x) := by
  rw [pq_pos (by omega)]
  have m1 : 0 ≤ y % x := Int.emod_nonneg _ (by omega)
  have m2 : y % x < x := Int.emod_lt_of_pos _ (by omega)
  have me := Int.mul_ediv_add_emod y x
  have hd : 0 ≤ y / x := Int.ediv_nonneg (by omega) (by omega)
  by_cases hz : y % x = 0
  · have hx' : x = 1 := hg x (by omega) (Int.dvd_of_emod_eq_zero hz) (Int.dvd_refl _)
    subst hx'
    have e : pq 1 (y % 1) = [] := by rw [hz]; rfl
    have e2 : y / 1 = y := Int.ediv_one y
    rw [e, e2]
    by_cases h1 : y = 1
    · subst h1
      have e3 : lastLess [1] = [] := by decide
      rw [e3]
      exact ⟨⟨by simp, by simp, by simp⟩, rfl⟩
    · have e3 : lastLess [y] = [y - 1] := by unfold lastLess; simp; omega
      rw [e3]
      exact ⟨⟨by simp; omega, by simp, by simp; omega⟩, by simp [valOf]; omega⟩
  · have hg' : ∀ g : Int, 0 < g → g ∣ x → g ∣ y % x → g = 1 := fun g hp d1 d2 => hg g hp (by
      rw [← me]
      exact Int.dvd_add (Int.dvd_mul_of_dvd_left d1) d2) d1
    obtain ⟨i1, i2, i3⟩ := pq_runs ((y % x).toNat + 1) x (y % x) m1 m2 (by omega) hg' hz
    have hne := pq_ne (y := x) (x := y % x) (by omega)
    have e4 : lastLess (y / x :: pq x (y % x)) = y / x :: lastLess (pq x (y % x)) := by
      have := lastLess_add (y / x) 0 (pq x (y % x)) hne
      rwa [addHead_zero] at this
    rw [e4]
    refine ⟨⟨fun z hz => ?_, fun z hz => i1 z (by simpa using hz), fun h => i2 (by simpa using (List.cons_eq_cons.1 h).2)⟩, ?_⟩
    · rcases List.mem_cons.1 hz with rfl | hz
      · exact hd
      · have := i1 z hz; omega
    · simp only [valOf]
      rw [i3 1]
      have hc : y / x * x = x * (y / x) := Int.mul_comm _ _
      simp only [Nat.zero_mod, Nat.reduceMod, if_true, if_false, Nat.zero_ne_one, Prod.mk.injEq, and_true]
      omega

/-! ### Follow -/
theorem folGo_val : ∀ (l : List Int) (i : Nat) (s : FS), (∀ x ∈ l, 0 ≤ x) → 0 ≤ s.1.1 → 0 ≤ s.1.2 → 0 ≤ s.2.1 → 0 ≤ s.2.2 →
    (valOf i l).2 * s.1.1 + (valOf i l).1 * s.2.1 ≤ 1000000 → (valOf i l).2 * s.1.2 + (valOf i l).1 * s.2.2 ≤ 1000000 →
    folGo i s l = (((valOf i l).2 * s.1.1 + (valOf i l).1 * s.2.1, (valOf i l).2 * s.1.2 + (valOf i l).1 * s.2.2), 0)
  | [], i, s, _, _, _, _, _, _, _ => by simp [folGo, valOf]
  | n :: r, i, s, h, h1, h2, h3, h4, b1, b2 => by
    have hr := fun x (hx : x ∈ r) => h x (List.mem_cons_of_mem _ hx)
    have h0 := h n List.mem_cons_self
    obtain ⟨p1, p2⟩ := valOf_pos (i + 1) r hr
    obtain ⟨⟨s1, s2⟩, ⟨s3, s4⟩⟩ := s
    dsimp only at h1 h2 h3 h4
    have q1 : 0 ≤ n * s3 := Int.mul_nonneg h0 h3
    have q2 : 0 ≤ n * s4 := Int.mul_nonneg h0 h4
    have q3 : 0 ≤ n * s1 := Int.mul_nonneg h0 h1
    have q4 : 0 ≤ n * s2 := Int.mul_nonneg h0 h2
    unfold valOf at b1 b2 ⊢
    unfold folGo folStep
    have ih := fun s => folGo_val r (i + 1) s hr
    generalize valOf (i + 1) r = v at *
    obtain ⟨v1, v2⟩ := v
    dsimp only at p1 p2 ih
    by_cases hi : i % 2 = 1
    · rw [if_pos hi] at b1 b2 ⊢
      rw [if_pos hi]
      dsimp only at b1 b2 ⊢
      have g1 : (v2 + n * v1) * s1 + v1 * s3 = v2 * s1 + v1 * (s3 + n * s1) := by grind
      have g2 : (v2 + n * v1) * s2 + v1 * s4 = v2 * s2 + v1 * (s4 + n * s2) := by grind
      rw [g1] at b1 ⊢
      rw [g2] at b2 ⊢
      have e1 : 1 * s1 ≤ v2 * s1 := Int.mul_le_mul_of_nonneg_right p2 h1
      have e2 : 1 * (s3 + n * s1) ≤ v1 * (s3 + n * s1) := Int.mul_le_mul_of_nonneg_right p1 (by omega)
      have e3 : 1 * s2 ≤ v2 * s2 := Int.mul_le_mul_of_nonneg_right p2 h2
      have e4 : 1 * (s4 + n * s2) ≤ v1 * (s4 + n * s2) := Int.mul_le_mul_of_nonneg_right p1 (by omega)
      rw [if_neg (by simp [folOver]; omega)]
      exact ih ((s1, s2), (s3 + n * s1, s4 + n * s2)) h1 h2 (by dsimp only; omega) (by dsimp only; omega) b1 b2
    · rw [if_neg hi] at b1 b2 ⊢
      rw [if_neg hi]
      dsimp only at b1 b2 ⊢
      have g1 : v2 * s1 + (v1 + n * v2) * s3 = v2 * (s1 + n * s3) + v1 * s3 := by grind
      have g2 : v2 * s2 + (v1 + n * v2) * s4 = v2 * (s2 + n * s4) + v1 * s4 := by grind
      rw [g1] at b1 ⊢
      rw [g2] at b2 ⊢
      have e1 : 1 * (s1 + n * s3) ≤ v2 * (s1 + n * s3) := Int.mul_le_mul_of_nonneg_right p2 (by omega)
      have e2 : 1 * s3 ≤ v1 * s3 := Int.mul_le_mul_of_nonneg_right p1 h3
      have e3 : 1 * (s2 + n * s4) ≤ v2 * (s2 + n * s4) := Int.mul_le_mul_of_nonneg_right p2 (by omega)
      have e4 : 1 * s4 ≤ v1 * s4 := Int.mul_le_mul_of_nonneg_right p1 h4
      rw [if_neg (by simp [folOver]; omega)]
      exact ih ((s1 + n * s3, s2 + n * s4), (s3, s4)) (by dsimp only; omega) (by dsimp only; omega) h3 h4 b1 b2

theorem runs_small : ∀ (l : List Int) (i : Nat), (∀ x ∈ l, 0 ≤ x) → ∀ x ∈ l, x ≤ max (valOf i l).1 (valOf i l).2
  | [], _, _, x, hx => by cases hx
  | n :: r, i, h, x, hx => by
    have hr := fun x (hx : x ∈ r) => h x (List.mem_cons_of_mem _ hx)
    have h0 := h n List.mem_cons_self
    obtain ⟨p1, p2⟩ := valOf_pos (i + 1) r hr
    have ih := runs_small r (i + 1) hr
    unfold valOf
    generalize valOf (i + 1) r = v at *
    obtain ⟨v1, v2⟩ := v
    dsimp only at *
    have e1 : n * 1 ≤ n * v1 := Int.mul_le_mul_of_nonneg_left p1 h0
    have e2 : n * 1 ≤ n * v2 := Int.mul_le_mul_of_nonneg_left p2 h0
    rcases List.mem_cons.1 hx with rfl | hx
    · split <;> dsimp only <;> omega
    · have := ih x hx
      split <;> dsimp only <;> omega

theorem follow_val {l : List Int} (hr : Runs l) (hl : l.length ≤ 40) (h1 : (valOf 0 l).1 ≤ 1000000) (h2 : (valOf 0 l).2 ≤ 1000000) : followR l = (valOf 0 l, 0) := by
  have hany : l.any (fun n => !bet 0 n 1000000) = false := by
    rw [List.any_eq_false]
    intro x hx
    have a1 := hr.nn x hx
    have a2 := runs_small l 0 hr.nn x hx
    simp [bet]
    omega
  have hbad : folBad l = false := by
    unfold folBad
    rw [Bool.or_eq_false_iff]
    refine ⟨by simpa using hr.one, ?_⟩
    cases decide (1 < l.length) with
    | false => rfl
    | true =>
      rw [Bool.true_and, List.any_eq_false]
      intro x hx
      have := hr.tl x hx
      simp
      omega
  unfold followR
  rw [if_neg (by omega), hany, hbad]
  have := folGo_val l 0 ((0, 1), (1, 0)) hr.nn (by decide) (by decide) (by decide) (by decide) (by dsimp only; omega) (by dsimp only; omega)
  simp only [Bool.false_eq_true, if_false]
  rw [this]
  simp

/-! ### the path of a fraction -/
theorem quoF_log : ∀ (k f : Nat) (p q : Int), 0 ≤ p → 0 ≤ q → q < 2 ^ k → (quoF f p q).length ≤ 2 * k
  | _, 0, _, _, _, _, _ => by simp [quoF]
  | k, f + 1, p, q, hp, h0, h => by
    unfold quoF
    by_cases hq : 0 < q
    · rw [if_pos hq]
      obtain ⟨k, rfl⟩ : ∃ j, k = j + 1 := ⟨k - 1, by
        have : k ≠ 0 := by intro e; subst e; simp at h; omega
        omega⟩
      have m1 : 0 ≤ p % q := Int.emod_nonneg _ (by omega)
      have m2 : p % q < q := Int.emod_lt_of_pos _ hq
      generalize p % q = r at *
      cases f with
      | zero => simp [quoF]; omega
      | succ f =>
        unfold quoF
        by_cases hr : 0 < r
        · rw [if_pos hr]
          have n1 : 0 ≤ q % r := Int.emod_nonneg _ (by omega)
          have n2 : q % r < r := Int.emod_lt_of_pos _ hr
          have n3 := Int.mul_ediv_add_emod q r
          have n4 : 1 ≤ q / r := Int.le_ediv_of_mul_le hr (by omega)
          have n5 : r * 1 ≤ r * (q / r) := Int.mul_le_mul_of_nonneg_left n4 (by omega)
          have hp2 : (2 : Int) ^ (k + 1) = 2 ^ k * 2 := Int.pow_succ 2 k
          have := quoF_log k f r (q % r) (by omega) n1 (by omega)
          simp only [List.length_cons]
          omega
        · rw [if_neg hr]; simp; omega
    · rw [if_neg hq]; simp

/-- All that is needed of the path of a fraction of small numbers. -/
theorem path_facts {y x : Int} (hy : 1 ≤ y) (hy2 : y ≤ 512) (hx : 1 ≤ x) (hx2 : x ≤ 512) :
    ∃ l, pathR (y, x) = (l, 0) ∧ Runs l ∧ l.length ≤ 40 ∧ movesOf 0 l = sub y x ∧ valOf 0 l = redR (y, x) ∧ ((movesOf 0 l).length : Int) ≤ 511 := by
  have hva : validR (y, x) = true := by simp [validR, bet]; omega
  have hin := red_in hva (by dsimp only; omega)
  have hone := red_one (r := (y, x)) (by dsimp only; omega) hx
  rw [pathR_pq hva (by dsimp only; omega)]
  have hg : 0 < gcdI y x := by
    unfold gcdI
    have : 0 < Int.gcd y x := Int.gcd_pos_of_ne_zero_left _ (by omega)
    omega
  have d1 : gcdI y x ∣ y := Int.gcd_dvd_left ..
  have d2 : gcdI y x ∣ x := Int.gcd_dvd_right ..
  have e1 : gcdI y x * (redR (y, x)).1 = y := Int.mul_ediv_cancel' d1
  have e2 : gcdI y x * (redR (y, x)).2 = x := Int.mul_ediv_cancel' d2
  generalize gcdI y x = g at *
  generalize redR (y, x) = r at *
  obtain ⟨a, b⟩ := r
  dsimp only at *
  have f1 : 1 * a ≤ g * a := Int.mul_le_mul_of_nonneg_right (by omega) (by omega)
  have f2 : 1 * b ≤ g * b := Int.mul_le_mul_of_nonneg_right (by omega) (by omega)
  obtain ⟨p1, p2⟩ := path_runs hin.1 hin.2.2.1 hone
  have hm : movesOf 0 (lastLess (pq a b)) = sub y x := by
    rw [← sub_valOf 0 _ p1.nn, p2, ← e1, ← e2]
    exact (sub_scale _ g a b (by omega) hin.1 hin.2.2.1 (Nat.le_refl _)).symm
  refine ⟨_, rfl, p1, ?_, hm, p2, ?_⟩
  · have := lastLess_len (pq a b)
    have h10 : (2 : Int) ^ 10 = 1024 := by decide
    have := quoF_log 10 (b.toNat + 1) a b (by omega) (by omega) (by omega)
    unfold pq at *
    omega
  · rw [hm]
    have := sub_len _ y x hy hx (Nat.le_refl _)
    omega

end Go.Proofs.Ytjgebepeghgmcaa
