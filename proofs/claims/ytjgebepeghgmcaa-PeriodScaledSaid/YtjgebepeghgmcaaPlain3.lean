/-
  Plain facts: the ends of the period of counts; a period that fits all passages.
-/
import Derived.Test.YtjgebepeghgmcaaWatch3
namespace Go.Proofs.Ytjgebepeghgmcaa

/-- Fractions, compared crosswise. -/
theorem cross_trans {a b c d e f : Int} (hb : 0 < b) (hd : 0 < d) (hf : 0 < f) (h1 : a * d ≤ c * b) (h2 : c * f ≤ e * d) : a * f ≤ e * b := by
  have g1 : a * d * f ≤ c * b * f := Int.mul_le_mul_of_nonneg_right h1 (by omega)
  have g2 : c * f * b ≤ e * d * b := Int.mul_le_mul_of_nonneg_right h2 (by omega)
  have g3 : (a * f) * d ≤ (e * b) * d := by grind
  exact Int.le_of_mul_le_mul_right g3 hd

theorem pick_best {α : Type} (f : α → Int × Int) : ∀ (xs : List α) (o : Option α) (b : α), (∀ x ∈ xs, 0 < (f x).2) → (∀ x, o = some x → 0 < (f x).2) →
    xs.foldl (pick fun x y => decide (0 < cmpR (f x) (f y))) o = some b → (∀ x, o = some x → cmpR (f x) (f b) ≤ 0) ∧ ∀ x ∈ xs, cmpR (f x) (f b) ≤ 0
  | [], o, b, _, _, h => by
    simp at h
    subst h
    refine ⟨fun x hx => ?_, fun x hx => (by cases hx)⟩
    cases hx
    unfold cmpR
    omega
  | y :: ys, o, b, hp, ho, h => by
    rw [List.foldl_cons] at h
    have hy := hp y List.mem_cons_self
    have hpk : ∀ x, pick (fun x y => decide (0 < cmpR (f x) (f y))) o y = some x → 0 < (f x).2 := fun x hx => by
      rcases pick_mem _ o y x hx with rfl | h'
      · exact hy
      · exact ho x h'
    obtain ⟨h1, h2⟩ := pick_best f ys _ b (fun x hx => hp x (List.mem_cons_of_mem _ hx)) hpk h
    have hb2 : 0 < (f b).2 := by
      rcases foldl_pick_mem _ ys _ b h with hm | hm
      · exact hp b (List.mem_cons_of_mem _ hm)
      · exact hpk b hm
    cases o with
    | none =>
      refine ⟨fun x hx => (by cases hx), fun x hx => ?_⟩
      rcases List.mem_cons.1 hx with rfl | hx
      · exact h1 _ rfl
      · exact h2 x hx
    | some z =>
      have hz := ho z rfl
      by_cases hc : 0 < cmpR (f y) (f z)
      · have e : pick (fun x y => decide (0 < cmpR (f x) (f y))) (some z) y = some y := by simp [pick, hc]
        have g := h1 y e
        refine ⟨fun x hx => ?_, fun x hx => ?_⟩
        · cases hx
          unfold cmpR at *
          have := cross_trans (a := (f z).1) (b := (f z).2) (c := (f y).1) (d := (f y).2) (e := (f b).1) (f := (f b).2) hz hy hb2 (by omega) (by omega)
          omega
        · rcases List.mem_cons.1 hx with rfl | hx
          · exact g
          · exact h2 x hx
      · have e : pick (fun x y => decide (0 < cmpR (f x) (f y))) (some z) y = some z := by simp [pick, hc]
        have g := h1 z e
        refine ⟨fun x hx => (by cases hx; exact g), fun x hx => ?_⟩
        rcases List.mem_cons.1 hx with rfl | hx
        · unfold cmpR at *
          have := cross_trans (a := (f x).1) (b := (f x).2) (c := (f z).1) (d := (f z).2) (e := (f b).1) (f := (f b).2) hy hz hb2 (by omega) (by omega)
          omega
        · exact h2 x hx

/-- The same for the least one. -/
theorem pick_least {α : Type} (f : α → Int × Int) (xs : List α) (b : α) (hp : ∀ x ∈ xs, 0 < (f x).2) (h : firstBy (fun x y => decide (cmpR (f x) (f y) < 0)) xs = some b) : ∀ x ∈ xs, cmpR (f b) (f x) ≤ 0 := by
  have e : (fun x y => decide (cmpR (f x) (f y) < 0)) = fun x y => decide (0 < cmpR ((fun x => (-(f x).1, (f x).2)) x) ((fun x => (-(f x).1, (f x).2)) y)) := by
    funext x y
    refine decide_eq_decide.2 ?_
    unfold cmpR
    dsimp only
    rw [Int.neg_mul, Int.neg_mul]
    omega
  rw [e] at h
  have := (pick_best (fun x => (-(f x).1, (f x).2)) xs none b hp (fun x hx => (by cases hx)) h).2
  intro x hx
  have g := this x hx
  simp only [cmpR, Int.neg_mul] at g
  unfold cmpR
  omega

structure LowIs (l : PLog) (cs : List Int) : Prop where
  pos : 1 ≤ (lowEnd l cs).2
  lo : l.lo * (lowEnd l cs).2 ≤ (lowEnd l cs).1
  pair : ∀ i k, i < k → k ≤ cs.length → (bel l.ps cs (i, k)).1 * (lowEnd l cs).2 ≤ (lowEnd l cs).1 * (bel l.ps cs (i, k)).2
  is : lowEnd l cs = (l.lo, 1) ∨ ∃ i k, i < k ∧ k ≤ cs.length ∧ lowEnd l cs = bel l.ps cs (i, k)
structure HighIs (l : PLog) (cs : List Int) : Prop where
  pos : 1 ≤ (highEnd l cs).2
  hi : (highEnd l cs).1 ≤ l.hi * (highEnd l cs).2
  pair : ∀ i k, i < k → k ≤ cs.length → (highEnd l cs).1 * (abv l.ps cs (i, k)).2 ≤ (abv l.ps cs (i, k)).1 * (highEnd l cs).2
  is : highEnd l cs = (l.hi, 1) ∨ ∃ i k, i < k ∧ k ≤ cs.length ∧ highEnd l cs = abv l.ps cs (i, k)

theorem low_best {l : PLog} {cs : List Int} (hl : LOk l) (hc : COk l cs) (h0 : 0 < cs.length) (i k : Nat) (hik : i < k) (hk : k ≤ cs.length) : cmpR (bel l.ps cs (i, k)) (bel l.ps cs (lowOf l.ps cs)) ≤ 0 := by
  have hne : firstBy (lowBetter l.ps cs) (pairsOf (cs.length + 1)) ≠ none := firstBy_some _ _ (by
    have : (0, 1) ∈ pairsOf (cs.length + 1) := mem_pairsOf.2 ⟨by decide, by simp; omega⟩
    intro h
    rw [h] at this
    cases this)
  unfold lowOf
  cases hb : firstBy (lowBetter l.ps cs) (pairsOf (cs.length + 1)) with
  | none => exact absurd hb hne
  | some b =>
    have := (pick_best (bel l.ps cs) (pairsOf (cs.length + 1)) none b (fun x hx => by
      have := mem_pairsOf.1 hx
      have := (bel_small hl hc this.1 (by omega)).2.1
      omega) (fun x hx => (by cases hx)) hb).2 (i, k) (mem_pairsOf.2 ⟨hik, by dsimp only; omega⟩)
    exact this
theorem high_best {l : PLog} {cs : List Int} (hl : LOk l) (hc : COk l cs) (h0 : 0 < cs.length) (i k : Nat) (hik : i < k) (hk : k ≤ cs.length) : cmpR (abv l.ps cs (highOf l.ps cs)) (abv l.ps cs (i, k)) ≤ 0 := by
  have hne : firstBy (highBetter l.ps cs) (pairsOf (cs.length + 1)) ≠ none := firstBy_some _ _ (by
    have : (0, 1) ∈ pairsOf (cs.length + 1) := mem_pairsOf.2 ⟨by decide, by simp; omega⟩
    intro h
    rw [h] at this
    cases this)
  unfold highOf
  cases hb : firstBy (highBetter l.ps cs) (pairsOf (cs.length + 1)) with
  | none => exact absurd hb hne
  | some b =>
    exact pick_least (abv l.ps cs) (pairsOf (cs.length + 1)) b (fun x hx => by
      have := mem_pairsOf.1 hx
      have := bel_small hl hc this.1 (by omega)
      omega) hb (i, k) (mem_pairsOf.2 ⟨hik, by dsimp only; omega⟩)

theorem low_is {l : PLog} {cs : List Int} (hl : LOk l) (hc : COk l cs) : LowIs l cs := by
  have e := ends_pos hl hc
  by_cases h0 : cs.length = 0
  · have el : lowEnd l cs = (l.lo, 1) := by unfold lowEnd; rw [if_pos h0]
    rw [el] at e
    exact ⟨by rw [el]; exact Int.le_refl 1, by rw [el]; simp, fun i k h1 h2 => by omega, .inl el⟩
  · have hm := lowOf_mem (ps := l.ps) (cs := cs) (by omega)
    have hp := (bel_small hl hc hm.1 hm.2).2.1
    have hbest := fun i k h1 h2 => low_best hl hc (by omega) i k h1 h2
    by_cases hcmp : 0 < cmpR (bel l.ps cs (lowOf l.ps cs)) (l.lo, 1)
    · have el : lowEnd l cs = bel l.ps cs (lowOf l.ps cs) := by unfold lowEnd; rw [if_neg h0, if_pos hcmp]
      unfold cmpR at hcmp hbest
      dsimp only at hcmp
      exact ⟨by rw [el]; exact hp, by rw [el]; omega, fun i k h1 h2 => by rw [el]; have := hbest i k h1 h2; omega, .inr ⟨_, _, hm.1, hm.2, el⟩⟩
    · have el : lowEnd l cs = (l.lo, 1) := by unfold lowEnd; rw [if_neg h0, if_neg hcmp]
      unfold cmpR at hcmp hbest
      dsimp only at hcmp
      refine ⟨by rw [el]; exact Int.le_refl 1, by rw [el]; simp, fun i k h1 h2 => ?_, .inl el⟩
      rw [el]
      have hb := hbest i k h1 h2
      have hq := (bel_small hl hc (p := (i, k)) h1 h2).2.1
      have := cross_trans (a := (bel l.ps cs (i, k)).1) (b := (bel l.ps cs (i, k)).2) (c := (bel l.ps cs (lowOf l.ps cs)).1) (d := (bel l.ps cs (lowOf l.ps cs)).2) (e := l.lo) (f := 1) (by omega) (by omega) (by decide) (by omega) (by omega)
      dsimp only
      omega
theorem high_is {l : PLog} {cs : List Int} (hl : LOk l) (hc : COk l cs) : HighIs l cs := by
  by_cases h0 : cs.length = 0
  · have el : highEnd l cs = (l.hi, 1) := by unfold highEnd; rw [if_pos h0]
    exact ⟨by rw [el]; exact Int.le_refl 1, by rw [el]; simp, fun i k h1 h2 => by omega, .inl el⟩
  · have hm := highOf_mem (ps := l.ps) (cs := cs) (by omega)
    have hp := bel_small hl hc hm.1 hm.2
    have hbest := fun i k h1 h2 => high_best hl hc (by omega) i k h1 h2
    by_cases hcmp : cmpR (abv l.ps cs (highOf l.ps cs)) (l.hi, 1) < 0
    · have el : highEnd l cs = abv l.ps cs (highOf l.ps cs) := by unfold highEnd; rw [if_neg h0, if_pos hcmp]
      unfold cmpR at hcmp hbest
      dsimp only at hcmp
      exact ⟨by rw [el]; omega, by rw [el]; omega, fun i k h1 h2 => by rw [el]; have := hbest i k h1 h2; omega, .inr ⟨_, _, hm.1, hm.2, el⟩⟩
    · have el : highEnd l cs = (l.hi, 1) := by unfold highEnd; rw [if_neg h0, if_neg hcmp]
      unfold cmpR at hcmp hbest
      dsimp only at hcmp
      refine ⟨by rw [el]; exact Int.le_refl 1, by rw [el]; simp, fun i k h1 h2 => ?_, .inl el⟩
      rw [el]
      have hb := hbest i k h1 h2
      have hq := bel_small hl hc (p := (i, k)) h1 h2
      have := cross_trans (a := l.hi) (b := 1) (c := (abv l.ps cs (highOf l.ps cs)).1) (d := (abv l.ps cs (highOf l.ps cs)).2) (e := (abv l.ps cs (i, k)).1) (f := (abv l.ps cs (i, k)).2) (by decide) (by omega) (by omega) (by omega) (by omega)
      dsimp only
      omega

end Go.Proofs.Ytjgebepeghgmcaa
