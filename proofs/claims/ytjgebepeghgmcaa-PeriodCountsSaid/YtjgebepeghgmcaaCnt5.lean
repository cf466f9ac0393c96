/-
  The chapter's reference: all counts, as a plain list.
-/
import Derived.Test.YtjgebepeghgmcaaCnt4
import Derived.Test.YtjgebepeghgmcaaCModel
namespace Go.Proofs.Ytjgebepeghgmcaa
open Go.RowKit Go.Shelf
set_option linter.unusedVariables false
set_option linter.unusedSimpArgs false

/-! ### the model -/
/-- What the reference's walk through the counts may answer. -/
structure AllOk (k : Nat) (l : PLog) (cs : List Int) (xs : List (List Int)) : Prop where
  val : xs = cntAll k l cs ∨ (500 < xs.length ∧ 500 < (cntAll k l cs).length)
  len : xs.length ≤ 500 * k + 1
/-- The same between two rounds, ahead of n. -/
structure RestOk (k : Nat) (l : PLog) (cs : List Int) (n : Int) (xs : List (List Int)) : Prop where
  val : xs ++ cntRest k l cs n = cntAll (k + 1) l cs ∨ (500 < xs.length ∧ 500 < (cntAll (k + 1) l cs).length)
  len : xs.length ≤ 500 * (k + 1) + 1
theorem AllOk.leaf (l : PLog) (cs : List Int) : AllOk 0 l cs [cs] := ⟨.inl rfl, by simp⟩
theorem RestOk.start (k : Nat) (l : PLog) (cs : List Int) : RestOk k l cs (firstN l cs) [] := ⟨.inl rfl, by simp⟩
theorem RestOk.yes {k : Nat} {l : PLog} {cs : List Int} {n : Int} {xs ys : List (List Int)} (h : RestOk k l cs n xs) (h5 : xs.length ≤ 500) (hn : n ≤ lastN l cs) (hp : possible l (cs ++ [n]) = true) (ha : AllOk k l (cs ++ [n]) ys) :
    RestOk k l cs (n + 1) (xs ++ ys) := by
  obtain ⟨h1, h2⟩ := h
  obtain ⟨a1, a2⟩ := ha
  refine ⟨?_, by rw [List.length_append]; omega⟩
  rcases h1 with h1 | h1
  · rw [cntRest_yes hn hp] at h1
    rcases a1 with rfl | ⟨a1, a3⟩
    · left; rw [List.append_assoc]; exact h1
    · right
      rw [← h1]
      simp only [List.length_append]
      omega
  · omega
theorem RestOk.no {k : Nat} {l : PLog} {cs : List Int} {n : Int} {xs : List (List Int)} (h : RestOk k l cs n xs) (hn : n ≤ lastN l cs) (hp : possible l (cs ++ [n]) = false) : RestOk k l cs (n + 1) xs := by
  obtain ⟨h1, h2⟩ := h
  rw [cntRest_no hn hp] at h1
  exact ⟨h1, h2⟩
theorem RestOk.done {k : Nat} {l : PLog} {cs : List Int} {n : Int} {xs : List (List Int)} (h : RestOk k l cs n xs) (hn : lastN l cs < n) : AllOk (k + 1) l cs xs := by
  obtain ⟨h1, h2⟩ := h
  rw [cntRest_done hn, List.append_nil] at h1
  exact ⟨h1, h2⟩
theorem RestOk.stop {k : Nat} {l : PLog} {cs : List Int} {n : Int} {xs : List (List Int)} (h : RestOk k l cs n xs) (h5 : 500 < xs.length) : AllOk (k + 1) l cs xs := by
  obtain ⟨h1, h2⟩ := h
  refine ⟨.inr ⟨h5, ?_⟩, h2⟩
  rcases h1 with h1 | h1
  · rw [← h1, List.length_append]; omega
  · exact h1.2

/-! ### the ends -/
def rLo (l : PLog) (cs : List Int) : Int × Int := if cs.length = 0 then (l.lo, 1) else refLo l cs
def rHi (l : PLog) (cs : List Int) : Int × Int := if cs.length = 0 then (l.hi, 1) else refHi l cs
/-- Two fractions of one value. -/
def SameR (a b : Int × Int) : Prop := a = b ∨ (b.2 = 1 ∧ a.1 = b.1 * a.2)
theorem rLo_same (l : PLog) (cs : List Int) : SameR (rLo l cs) (lowEnd l cs) := by
  unfold rLo
  by_cases h : cs.length = 0
  · rw [if_pos h]; left; unfold lowEnd; rw [if_pos h]
  · rw [if_neg h]
    have h1 : 1 ≤ cs.length := by omega
    rcases refLo_eq (l := l) h1 with e | ⟨_, e2, e3⟩
    · exact .inl e
    · rw [e2]; exact .inr ⟨rfl, e3⟩
theorem rHi_same (l : PLog) (cs : List Int) : SameR (rHi l cs) (highEnd l cs) := by
  unfold rHi
  by_cases h : cs.length = 0
  · rw [if_pos h]; left; unfold highEnd; rw [if_pos h]
  · rw [if_neg h]
    have h1 : 1 ≤ cs.length := by omega
    rcases refHi_eq (l := l) h1 with e | ⟨_, e2, e3⟩
    · exact .inl e
    · rw [e2]; exact .inr ⟨rfl, e3⟩
theorem rLo_small {l : PLog} {cs : List Int} (hl : LOk l) (hcs : COk l cs) : Small 2000000 (rLo l cs).1 ∧ 1 ≤ (rLo l cs).2 ∧ (rLo l cs).2 ≤ 8000000 := by
  have := hl.lo1; have := hl.lohi; have := hl.hi1
  unfold rLo
  split
  · exact ⟨by unfold Small; dsimp only; omega, by simp, by simp⟩
  · exact refLo_small hl hcs (by omega)
theorem rHi_small {l : PLog} {cs : List Int} (hl : LOk l) (hcs : COk l cs) : Small 2000000 (rHi l cs).1 ∧ 1 ≤ (rHi l cs).2 ∧ (rHi l cs).2 ≤ 8000000 ∧ 1 ≤ (rHi l cs).1 := by
  have := hl.lo1; have := hl.lohi; have := hl.hi1
  unfold rHi
  split
  · exact ⟨by unfold Small; dsimp only; omega, by simp, by simp, by dsimp only; omega⟩
  · exact refHi_small hl hcs (by omega)
theorem first_ref {l : PLog} {cs : List Int} (hl : LOk l) (hcs : COk l cs) : max 1 (gapLo l cs.length * (rHi l cs).2 / (rHi l cs).1) = firstN l cs := by
  have hs := rHi_small hl hcs
  unfold firstN
  rcases rHi_same l cs with e | ⟨e1, e2⟩
  · rw [e]
  · rw [e2, e1, Int.mul_ediv_mul_of_pos_left _ _ (by omega), Int.mul_one]
theorem last_ref {l : PLog} {cs : List Int} (hl : LOk l) (hcs : COk l cs) (n : Int) : n * (rLo l cs).1 ≤ gapHi l cs.length * (rLo l cs).2 ↔ n ≤ lastN l cs := by
  have hs := rLo_small hl hcs
  rw [← le_lastN hl hcs]
  rcases rLo_same l cs with e | ⟨e1, e2⟩
  · rw [e]
  · rw [e2, e1, ← Int.mul_assoc, Int.mul_one]
    exact ⟨fun h => Int.le_of_mul_le_mul_right h (by omega), fun h => Int.mul_le_mul_of_nonneg_right h (by omega)⟩
theorem poss_ref {l : PLog} {cs : List Int} (hl : LOk l) (hcs : COk l cs) (h : 1 ≤ cs.length) : (!lessR (refHi l cs) (refLo l cs)) = possible l cs := by
  have s1 := refLo_small hl hcs h
  have s2 := refHi_small hl hcs h
  have e1 : SameR (refLo l cs) (lowEnd l cs) := by have := rLo_same l cs; unfold rLo at this; rwa [if_neg (by omega)] at this
  have e2 : SameR (refHi l cs) (highEnd l cs) := by have := rHi_same l cs; unfold rHi at this; rwa [if_neg (by omega)] at this
  have ep := ends_pos hl hcs
  unfold possible lessR cmpR
  generalize refLo l cs = a at *
  generalize refHi l cs = b at *
  generalize lowEnd l cs = c at *
  generalize highEnd l cs = d at *
  have key : ¬ (b.1 * a.2 < a.1 * b.2) ↔ c.1 * d.2 - d.1 * c.2 ≤ 0 := by
    rcases e1 with rfl | ⟨p1, p2⟩ <;> rcases e2 with rfl | ⟨q1, q2⟩
    · omega
    · rw [q1, q2]
      have e : d.1 * b.2 * a.2 = d.1 * a.2 * b.2 := by grind
      rw [e]
      exact ⟨fun h => by have := Int.le_of_mul_le_mul_right (Int.not_lt.1 h) (by omega : 0 < b.2); omega, fun h => Int.not_lt.2 (Int.mul_le_mul_of_nonneg_right (by omega) (by omega))⟩
    · rw [p1, p2]
      have e : c.1 * a.2 * b.2 = c.1 * b.2 * a.2 := by grind
      rw [e]
      exact ⟨fun h => by have := Int.le_of_mul_le_mul_right (Int.not_lt.1 h) (by omega : 0 < a.2); omega, fun h => Int.not_lt.2 (Int.mul_le_mul_of_nonneg_right (by omega) (by omega))⟩
    · rw [p1, q1, p2, q2]
      have e : c.1 * a.2 * b.2 = c.1 * (b.2 * a.2) := by grind
      have e' : d.1 * b.2 * a.2 = d.1 * (b.2 * a.2) := by grind
      have pp : 0 < b.2 * a.2 := Int.mul_pos (by omega) (by omega)
      rw [e, e']
      exact ⟨fun h => by have := Int.le_of_mul_le_mul_right (Int.not_lt.1 h) pp; omega, fun h => Int.not_lt.2 (Int.mul_le_mul_of_nonneg_right (by omega) (by omega))⟩
  by_cases hh : b.1 * a.2 < a.1 * b.2
  · rw [decide_eq_true hh, decide_eq_false (fun h => (key.2 h) hh)]; rfl
  · rw [decide_eq_false hh, decide_eq_true (key.1 hh)]; rfl

end Go.Proofs.Ytjgebepeghgmcaa
