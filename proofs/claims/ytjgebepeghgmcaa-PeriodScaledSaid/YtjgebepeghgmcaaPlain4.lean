/-
  Plain facts: when a period fits a log and its counts: below every upper end and above every lower end.
-/
import Derived.Test.YtjgebepeghgmcaaPlain3
namespace Go.Proofs.Ytjgebepeghgmcaa

theorem fF_le (ps : List (Int × Int)) (cs : List Int) (p z : Int) : ∀ k, (fF ps cs p k ≤ z ↔ -1099511627776 ≤ z ∧ ∀ i, i < k → 60 * los ps i - csum cs 0 i * p ≤ z)
  | 0 => by
    unfold fF
    exact ⟨fun h => ⟨h, fun i hi => by omega⟩, fun h => h.1⟩
  | k + 1 => by
    have ih := fF_le ps cs p z k
    unfold fF stepMax
    constructor
    · intro h
      have h1 : fF ps cs p k ≤ z := by split at h <;> omega
      have h2 : 60 * los ps k - csum cs 0 k * p ≤ z := by split at h <;> omega
      refine ⟨(ih.1 h1).1, fun i hi => ?_⟩
      by_cases e : i = k
      · rw [e]; exact h2
      · exact (ih.1 h1).2 i (by omega)
    · intro h
      have h1 := ih.2 ⟨h.1, fun i hi => h.2 i (by omega)⟩
      have h2 := h.2 k (by omega)
      split <;> omega
theorem le_lL (ps : List (Int × Int)) (cs : List Int) (p z : Int) : ∀ k, (z ≤ lL ps cs p k ↔ z ≤ 1099511627776 ∧ ∀ i, i < k → z ≤ 60 * his ps i - csum cs 0 i * p)
  | 0 => by
    unfold lL
    exact ⟨fun h => ⟨h, fun i hi => by omega⟩, fun h => h.1⟩
  | k + 1 => by
    have ih := le_lL ps cs p z k
    unfold lL stepMin
    constructor
    · intro h
      have h1 : z ≤ lL ps cs p k := by split at h <;> omega
      have h2 : z ≤ 60 * his ps k - csum cs 0 k * p := by split at h <;> omega
      refine ⟨(ih.1 h1).1, fun i hi => ?_⟩
      by_cases e : i = k
      · rw [e]; exact h2
      · exact (ih.1 h1).2 i (by omega)
    · intro h
      have h1 := ih.2 ⟨h.1, fun i hi => h.2 i (by omega)⟩
      have h2 := h.2 k (by omega)
      split <;> omega

/-- All bounds on the start are compatible, two by two. -/
theorem works60_iff {ps : List (Int × Int)} {cs : List Int} {p : Int} (hw : WOk ps cs p) (hp : p ≤ 100000) :
    works60R ps cs p = true ↔ ∀ i j, i < ps.length → j < ps.length → 60 * los ps i - csum cs 0 i * p ≤ 60 * his ps j - csum cs 0 j * p := by
  unfold works60R
  rw [decide_eq_true_iff, fF_le]
  have hs : ∀ k, k < ps.length → 0 ≤ csum cs 0 k * p ∧ csum cs 0 k * p ≤ 8000000 * 100000 := fun k hk => by
    have h1 := hw.sum k hk
    have h2 := hw.p0
    have h8 := hw.l8
    exact ⟨Int.mul_nonneg h1.1 h2, Int.mul_le_mul (by omega) hp h2 (by omega)⟩
  constructor
  · intro h i j hi hj
    exact ((le_lL ps cs p _ _).1 (h.2 i hi)).2 j hj
  · intro h
    refine ⟨(le_lL ps cs p _ _).2 ⟨by decide, fun j hj => ?_⟩, fun i hi => (le_lL ps cs p _ _).2 ⟨?_, fun j hj => h i j hi hj⟩⟩
    · have := hs j hj
      have := hw.hi j hj
      omega
    · have := hs i hi
      have := hw.lo i hi
      omega

theorem csum_sub (cs : List Int) (i k : Nat) (h : i ≤ k) : csum cs i k = csum cs 0 k - csum cs 0 i := by
  unfold csum
  rw [List.drop_zero, Nat.sub_zero, Nat.sub_zero]
  have e : cs.take k = cs.take i ++ (cs.drop i).take (k - i) := by
    rw [List.take_drop, show i + (k - i) = k by omega]
    conv => lhs; rw [← List.take_append_drop i (cs.take k)]
    rw [List.take_take, Nat.min_eq_left h]
  rw [e, List.sum_append]
  omega

/-- Within the bounds of the log: a period fits exactly between the two ends. -/
theorem works_ends {l : PLog} {cs : List Int} {p : Int} (hl : LOk l) (hc : COk l cs) (hw : WOk l.ps cs p) (hp : p ≤ 100000) (h1 : 60 * l.lo ≤ p) (h2 : p ≤ 60 * l.hi) :
    works60R l.ps cs p = true ↔ 60 * (lowEnd l cs).1 ≤ p * (lowEnd l cs).2 ∧ p * (highEnd l cs).2 ≤ 60 * (highEnd l cs).1 := by
  have hlen := hw.len
  have L := low_is hl hc
  have H := high_is hl hc
  rw [works60_iff hw hp]
  constructor
  · intro h
    constructor
    · rcases L.is with e | ⟨i, k, hik, hk, e⟩
      · rw [e]; dsimp only; omega
      · rw [e]
        have := h k i (by omega) (by omega)
        unfold bel
        dsimp only
        rw [csum_sub cs i k (by omega)]
        grind
    · rcases H.is with e | ⟨i, k, hik, hk, e⟩
      · rw [e]; dsimp only; omega
      · rw [e]
        have := h i k (by omega) (by omega)
        unfold abv
        dsimp only
        rw [csum_sub cs i k (by omega)]
        grind
  · rintro ⟨ha, hb⟩ i j hi hj
    have La := L.pos
    have Hb := H.pos
    rcases Nat.lt_trichotomy i j with hij | hij | hij
    · have g := H.pair i j hij (by omega)
      have gp := (bel_small hl hc (p := (i, j)) hij (by dsimp only; omega)).2.1
      have gp' : 0 < (abv l.ps cs (i, j)).2 := by unfold abv; unfold bel at gp; exact gp
      have := cross_trans (a := p) (b := 60) (c := (highEnd l cs).1) (d := (highEnd l cs).2) (e := (abv l.ps cs (i, j)).1) (f := (abv l.ps cs (i, j)).2) (by decide) (by omega) gp' (by omega) g
      unfold abv at this
      dsimp only at this
      rw [csum_sub cs i j (by omega)] at this
      grind
    · rw [hij]
      have := (hl.inb j hj).2.1
      omega
    · have g := L.pair j i hij (by omega)
      have gp := (bel_small hl hc (p := (j, i)) hij (by dsimp only; omega)).2.1
      have := cross_trans (a := (bel l.ps cs (j, i)).1) (b := (bel l.ps cs (j, i)).2) (c := (lowEnd l cs).1) (d := (lowEnd l cs).2) (e := p) (f := 60) (by omega) (by omega) (by decide) g (by omega)
      unfold bel at this
      dsimp only at this
      rw [csum_sub cs j i (by omega)] at this
      grind

end Go.Proofs.Ytjgebepeghgmcaa
