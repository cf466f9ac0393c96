/-
  Plain facts: where all sums of counts are at most six, what is tried in sixtieths is the ends of the period.
-/
import Derived.Test.YtjgebepeghgmcaaPlain4
namespace Go.Proofs.Ytjgebepeghgmcaa

/-- An end in sixtieths. -/
def in60 (r : Int × Int) : Int := r.1 * (60 / r.2)
theorem in60_is {r : Int × Int} (h1 : 1 ≤ r.2) (h6 : r.2 ≤ 6) : in60 r * r.2 = 60 * r.1 := by
  have h : r.2 = 1 ∨ r.2 = 2 ∨ r.2 = 3 ∨ r.2 = 4 ∨ r.2 = 5 ∨ r.2 = 6 := by omega
  unfold in60
  rcases h with e | e | e | e | e | e <;> rw [e] <;> omega
theorem in60_le {r : Int × Int} (h1 : 1 ≤ r.2) (h6 : r.2 ≤ 6) (p : Int) : in60 r ≤ p ↔ 60 * r.1 ≤ p * r.2 := by
  rw [← in60_is h1 h6]
  exact ⟨fun h => Int.mul_le_mul_of_nonneg_right h (by omega), fun h => Int.le_of_mul_le_mul_right h (by omega)⟩
theorem le_in60 {r : Int × Int} (h1 : 1 ≤ r.2) (h6 : r.2 ≤ 6) (p : Int) : p ≤ in60 r ↔ p * r.2 ≤ 60 * r.1 := by
  rw [← in60_is h1 h6]
  exact ⟨fun h => Int.mul_le_mul_of_nonneg_right h (by omega), fun h => Int.le_of_mul_le_mul_right h (by omega)⟩

/-- All sums of counts are at most six. -/
structure Six (l : PLog) (cs : List Int) : Prop where
  lok : LOk l
  cok : COk l cs
  hi : l.hi ≤ 1000
  w : ∀ p, 0 ≤ p → p ≤ 1000000 → WOk l.ps cs p
  six : ∀ i k, i < k → k ≤ cs.length → csum cs i k ≤ 6

theorem Six.dens {l : PLog} {cs : List Int} (h : Six l cs) : (1 ≤ (lowEnd l cs).2 ∧ (lowEnd l cs).2 ≤ 6) ∧ (1 ≤ (highEnd l cs).2 ∧ (highEnd l cs).2 ≤ 6) := by
  have L := low_is h.lok h.cok
  have H := high_is h.lok h.cok
  refine ⟨⟨L.pos, ?_⟩, ⟨H.pos, ?_⟩⟩
  · rcases L.is with e | ⟨i, k, hik, hk, e⟩
    · rw [e]; dsimp only; omega
    · rw [e]; exact h.six i k hik hk
  · rcases H.is with e | ⟨i, k, hik, hk, e⟩
    · rw [e]; dsimp only; omega
    · rw [e]; exact h.six i k hik hk
theorem Six.ends {l : PLog} {cs : List Int} (h : Six l cs) : 60 * l.lo ≤ in60 (lowEnd l cs) ∧ in60 (highEnd l cs) ≤ 60 * l.hi := by
  have L := low_is h.lok h.cok
  have H := high_is h.lok h.cok
  obtain ⟨⟨a1, a2⟩, b1, b2⟩ := h.dens
  constructor
  · rw [le_in60 a1 a2]
    have := L.lo
    grind
  · rw [in60_le b1 b2]
    have := H.hi
    grind
theorem Six.works {l : PLog} {cs : List Int} (h : Six l cs) {p : Int} (h1 : 60 * l.lo ≤ p) (h2 : p ≤ 60 * l.hi) : works60R l.ps cs p = true ↔ in60 (lowEnd l cs) ≤ p ∧ p ≤ in60 (highEnd l cs) := by
  obtain ⟨⟨a1, a2⟩, b1, b2⟩ := h.dens
  have := h.lok.lo1
  have := h.hi
  rw [works_ends h.lok h.cok (h.w p (by omega) (by omega)) (by omega) h1 h2, in60_le a1 a2, le_in60 b1 b2]
theorem Six.poss {l : PLog} {cs : List Int} (h : Six l cs) : Go.Proofs.Ytjgebepeghgmcaa.possible l cs = true ↔ in60 (lowEnd l cs) ≤ in60 (highEnd l cs) := by
  obtain ⟨⟨a1, a2⟩, b1, b2⟩ := h.dens
  have ea := in60_is a1 a2
  have eb := in60_is b1 b2
  rw [in60_le a1 a2]
  unfold Go.Proofs.Ytjgebepeghgmcaa.possible cmpR
  rw [decide_eq_true_iff]
  have e3 : in60 (highEnd l cs) * (lowEnd l cs).2 * (highEnd l cs).2 = 60 * ((highEnd l cs).1 * (lowEnd l cs).2) := by
    rw [Int.mul_right_comm, eb, Int.mul_assoc]
  have e4 : 60 * (lowEnd l cs).1 * (highEnd l cs).2 = 60 * ((lowEnd l cs).1 * (highEnd l cs).2) := Int.mul_assoc _ _ _
  constructor
  · intro g
    have g1 : 60 * (lowEnd l cs).1 * (highEnd l cs).2 ≤ in60 (highEnd l cs) * (lowEnd l cs).2 * (highEnd l cs).2 := by omega
    exact Int.le_of_mul_le_mul_right g1 (by omega)
  · intro g
    have g1 : 60 * (lowEnd l cs).1 * (highEnd l cs).2 ≤ in60 (highEnd l cs) * (lowEnd l cs).2 * (highEnd l cs).2 := Int.mul_le_mul_of_nonneg_right g (by omega)
    omega
/-- What is tried finds just the ends. -/
theorem Six.found {l : PLog} {cs : List Int} (h : Six l cs) {a g : Int} {f : Bool} (ht : TI (works60R l.ps cs) (60 * l.lo) (60 * l.hi + 1) a g f) :
    f = Go.Proofs.Ytjgebepeghgmcaa.possible l cs ∧ (f = true → a = in60 (lowEnd l cs) ∧ g = in60 (highEnd l cs)) := by
  obtain ⟨e1, e2⟩ := h.ends
  have hyes : f = true → in60 (lowEnd l cs) ≤ in60 (highEnd l cs) ∧ a = in60 (lowEnd l cs) ∧ g = in60 (highEnd l cs) := fun hf => by
    obtain ⟨h1, h2, h3, h4, h5, h6, h7⟩ := ht.yes hf
    have w1 := (h.works h1 (by omega)).1 h3
    have w2 := (h.works h4 (by omega)).1 h6
    have w3 := h7 (in60 (lowEnd l cs)) e1 (by omega) ((h.works e1 (by omega)).2 ⟨by omega, by omega⟩)
    have w4 := h7 (in60 (highEnd l cs)) (by omega) (by omega) ((h.works (by omega) e2).2 ⟨by omega, by omega⟩)
    exact ⟨by omega, by omega, by omega⟩
  refine ⟨?_, fun hf => (hyes hf).2⟩
  cases hf : f with
  | true => exact (h.poss.2 (hyes hf).1).symm
  | false =>
    have hno := (ht.no hf).2.2
    cases hp : Go.Proofs.Ytjgebepeghgmcaa.possible l cs with
    | false => rfl
    | true =>
      have hle := h.poss.1 hp
      have := hno (in60 (lowEnd l cs)) e1 (by omega)
      rw [(h.works e1 (by omega)).2 ⟨by omega, hle⟩] at this
      cases this

end Go.Proofs.Ytjgebepeghgmcaa
