/-
  Plain facts: a log around times that are whole multiples of a true period: the counts are possible, and the period lies within its bounds.
-/
import Derived.Test.YtjgebepeghgmcaaWatchL
import Derived.Test.YtjgebepeghgmcaaSimp
namespace Go.Proofs.Ytjgebepeghgmcaa
set_option linter.unusedVariables false
set_option linter.unusedSimpArgs false

/-- What is true: six times the period, the first time, counts, and how wide the spans are. -/
structure TNum where
  p : Int
  at0 : Int
  ns : List Int
  w : Nat → Int
structure TNum.Ok (y : TNum) : Prop where
  p : 60 ≤ y.p ∧ y.p ≤ 315
  at0 : 0 ≤ y.at0 ∧ y.at0 ≤ 255
  ns : ∀ n ∈ y.ns, 1 ≤ n ∧ n ≤ 30
  len : y.ns.length ≤ 4
  w : ∀ i, 0 ≤ y.w i ∧ y.w i ≤ 3
def TNum.at (y : TNum) (i : Nat) : Int := y.at0 + csum y.ns 0 i * y.p
def TNum.span (y : TNum) (i : Nat) : Int × Int := (max 0 (y.at i / 6 - y.w i / 2), (y.at i + 5) / 6 + y.w i - y.w i / 2)
def TNum.ps (y : TNum) (k : Nat) : List (Int × Int) := (List.range k).map y.span
def TNum.log (y : TNum) : PLog := ⟨y.p / 6 - 2, y.p / 6 + 3, y.ps (y.ns.length + 1)⟩

theorem TNum.ps_len (y : TNum) (k : Nat) : (y.ps k).length = k := by simp [TNum.ps]
theorem TNum.ps_succ (y : TNum) (k : Nat) : y.ps (k + 1) = y.ps k ++ [y.span k] := by simp [TNum.ps, List.range_succ]
theorem TNum.get (y : TNum) {k i : Nat} (h : i < k) : los (y.ps k) i = (y.span i).1 ∧ his (y.ps k) i = (y.span i).2 := by
  have e : (y.ps k).getD i (0, 0) = y.span i := by
    unfold TNum.ps
    simp [List.getD, h]
  unfold los his
  rw [e]
  exact ⟨rfl, rfl⟩
theorem TNum.at_step (y : TNum) {i : Nat} (hi : i < y.ns.length) : y.at (i + 1) = y.at i + iat y.ns i * y.p := by
  unfold TNum.at
  rw [csum_snoc y.ns i hi, Int.add_mul]
  omega
theorem TNum.at_zero (y : TNum) : y.at 0 = y.at0 := by
  unfold TNum.at
  rw [csum_zero]
  simp
theorem TNum.iat_ok {y : TNum} (h : y.Ok) {i : Nat} (hi : i < y.ns.length) : 1 ≤ iat y.ns i ∧ iat y.ns i ≤ 30 := by
  rw [iat_eq _ _ hi]
  exact h.ns _ (List.getElem_mem hi)
theorem TNum.at_bound {y : TNum} (h : y.Ok) : ∀ i, i ≤ y.ns.length → 0 ≤ y.at i ∧ y.at i ≤ 255 + 9450 * (i : Int)
  | 0, _ => by
    rw [y.at_zero]
    have := h.at0
    omega
  | i + 1, hi => by
    have ih := TNum.at_bound h i (by omega)
    have hn := y.iat_ok h (by omega : i < y.ns.length)
    have hp := h.p
    have g1 : iat y.ns i * y.p ≤ 30 * 315 := Int.mul_le_mul hn.2 hp.2 (by omega) (by omega)
    have g2 : 0 ≤ iat y.ns i * y.p := Int.mul_nonneg (by omega) (by omega)
    rw [y.at_step (by omega)]
    omega
theorem TNum.span_ok {y : TNum} (h : y.Ok) {i : Nat} (hi : i ≤ y.ns.length) : 0 ≤ (y.span i).1 ∧ (y.span i).1 ≤ (y.span i).2 ∧ (y.span i).2 ≤ 10000 ∧ 6 * (y.span i).1 ≤ y.at i ∧ y.at i ≤ 6 * (y.span i).2 := by
  have ha := TNum.at_bound h i hi
  have hw := h.w i
  have hl := h.len
  unfold TNum.span
  dsimp only
  omega
theorem TNum.span_inc {y : TNum} (h : y.Ok) {i : Nat} (hi : i < y.ns.length) : (y.span i).2 < (y.span (i + 1)).1 := by
  have ha := TNum.at_bound h i (by omega)
  have hn := y.iat_ok h hi
  have hw := h.w i
  have hw' := h.w (i + 1)
  have hp := h.p
  have g : 1 * 60 ≤ iat y.ns i * y.p := Int.mul_le_mul hn.1 hp.1 (by omega) (by omega)
  unfold TNum.span
  rw [y.at_step hi]
  dsimp only
  omega
theorem TNum.lok {y : TNum} (h : y.Ok) (h1 : 1 ≤ y.ns.length) : LOk y.log := by
  have hp := h.p
  have hl := h.len
  have hpl : y.log.ps.length = y.ns.length + 1 := y.ps_len _
  refine ⟨by show 1 ≤ y.p / 6 - 2; omega, by show y.p / 6 - 2 ≤ y.p / 6 + 3; omega, by show y.p / 6 + 3 ≤ 10000; omega, by omega, by omega, fun i hi => ?_, fun i hi => ?_⟩
  · rw [hpl] at hi
    obtain ⟨e1, e2⟩ := y.get hi
    show 0 ≤ los (y.ps (y.ns.length + 1)) i ∧ los (y.ps (y.ns.length + 1)) i ≤ his (y.ps (y.ns.length + 1)) i ∧ his (y.ps (y.ns.length + 1)) i ≤ 1000000
    rw [e1, e2]
    have := TNum.span_ok h (by omega : i ≤ y.ns.length)
    omega
  · rw [hpl] at hi
    obtain ⟨e1, _⟩ := y.get (by omega : i + 1 < y.ns.length + 1)
    obtain ⟨_, e2⟩ := y.get (by omega : i < y.ns.length + 1)
    show his (y.ps (y.ns.length + 1)) i < los (y.ps (y.ns.length + 1)) (i + 1)
    rw [e1, e2]
    exact TNum.span_inc h (by omega)
theorem TNum.cok {y : TNum} (h : y.Ok) : COk y.log y.ns := by
  have hpl : y.log.ps.length = y.ns.length + 1 := y.ps_len _
  refine ⟨by omega, fun x hx => ?_⟩
  have := h.ns x hx
  omega
theorem TNum.diff (y : TNum) {i k : Nat} (h : i ≤ k) : csum y.ns i k * y.p = y.at k - y.at i := by
  unfold TNum.at
  rw [csum_sub y.ns i k h, Int.sub_mul]
  omega
/-- The true period lies between the ends. -/
theorem TNum.within {y : TNum} (h : y.Ok) (h1 : 1 ≤ y.ns.length) : (lowEnd y.log y.ns).1 * 6 ≤ y.p * (lowEnd y.log y.ns).2 ∧ y.p * (highEnd y.log y.ns).2 ≤ (highEnd y.log y.ns).1 * 6 := by
  have hl := TNum.lok h h1
  have hc := TNum.cok h
  have L := low_is hl hc
  have H := high_is hl hc
  have hp := h.p
  constructor
  · rcases L.is with e | ⟨i, k, hik, hk, e⟩
    · rw [e]
      show (y.p / 6 - 2) * 6 ≤ y.p * 1
      omega
    · rw [e]
      obtain ⟨e1, _⟩ := y.get (by omega : k < y.ns.length + 1)
      obtain ⟨_, e2⟩ := y.get (by omega : i < y.ns.length + 1)
      show (los (y.ps (y.ns.length + 1)) k - his (y.ps (y.ns.length + 1)) i) * 6 ≤ y.p * csum y.ns i k
      rw [e1, e2, Int.mul_comm y.p, y.diff (by omega)]
      have s1 := TNum.span_ok h (by omega : i ≤ y.ns.length)
      have s2 := TNum.span_ok h hk
      omega
  · rcases H.is with e | ⟨i, k, hik, hk, e⟩
    · rw [e]
      show y.p * 1 ≤ (y.p / 6 + 3) * 6
      omega
    · rw [e]
      obtain ⟨_, e1⟩ := y.get (by omega : k < y.ns.length + 1)
      obtain ⟨e2, _⟩ := y.get (by omega : i < y.ns.length + 1)
      show y.p * csum y.ns i k ≤ (his (y.ps (y.ns.length + 1)) k - los (y.ps (y.ns.length + 1)) i) * 6
      rw [e1, e2, Int.mul_comm y.p, y.diff (by omega)]
      have s1 := TNum.span_ok h (by omega : i ≤ y.ns.length)
      have s2 := TNum.span_ok h hk
      omega
theorem TNum.poss {y : TNum} (h : y.Ok) (h1 : 1 ≤ y.ns.length) : possible y.log y.ns = true := by
  have hl := TNum.lok h h1
  have hc := TNum.cok h
  obtain ⟨a, b⟩ := TNum.within h h1
  rw [possible_le]
  have L := low_is hl hc
  have H := high_is hl hc
  exact cross_trans (c := y.p) (d := 6) (by have := L.pos; omega) (by decide) (by have := H.pos; omega) (by omega) (by omega)

theorem periodYes {l : PLog} {cs : List Int} (h : countedL l cs = 0) (hp : possible l cs = true) : periodR l cs = (redR (lowEnd l cs), redR (highEnd l cs), 0) := by
  unfold periodR
  rw [if_neg (by rw [h]; simp), if_pos hp]
/-- What the tests of PeriodTrue ask of the ends. -/
structure TEnds (y : TNum) (A B : Int × Int) : Prop where
  is : periodR y.log y.ns = (A, B, 0)
  a2 : 1 ≤ A.2 ∧ A.2 ≤ 1000
  b2 : 1 ≤ B.2 ∧ B.2 ≤ 1000
  sa : Small 2000000000 A.1 ∧ Small 2000000000 A.2
  sb : Small 2000000000 B.1 ∧ Small 2000000000 B.2
  lo : lessR (y.p, 6) A = false
  hi : lessR B (y.p, 6) = false
theorem csum_30 {y : TNum} (h : y.Ok) (i k : Nat) : csum y.ns i k ≤ 120 := by
  have hs := csum_le (cs := y.ns) (fun c hc => (h.ns c hc).1) i k
  have key : ∀ xs : List Int, (∀ x ∈ xs, x ≤ 30) → xs.sum ≤ 30 * (xs.length : Int) := by
    intro xs
    induction xs with
    | nil => intro _; simp
    | cons x xs ih =>
      intro hx
      have h1 := hx x (by simp)
      have h2 := ih fun z hz => hx z (by simp [hz])
      simp only [List.sum_cons, List.length_cons]
      omega
  have := key y.ns (fun x hx => (h.ns x hx).2)
  have := h.len
  omega
theorem TNum.ends {y : TNum} (h : y.Ok) (h1 : 1 ≤ y.ns.length) : ∃ A B, TEnds y A B := by
  have hl := TNum.lok h h1
  have hc := TNum.cok h
  have hpl : y.log.ps.length = y.ns.length + 1 := y.ps_len _
  obtain ⟨a, b⟩ := TNum.within h h1
  have E := ends_pos hl hc
  have L := low_is hl hc
  have H := high_is hl hc
  have S := ends_small hl hc
  obtain ⟨g, hg, e1, e2, a1, a2, a3, a4⟩ := red_is E.2.1 (by omega)
  obtain ⟨k, hk, f1, f2, b1, b2, b3, b4⟩ := red_is E.2.2.2 (by omega)
  have l2 : (lowEnd y.log y.ns).2 ≤ 120 := by
    rcases L.is with e | ⟨i, k, hik, hk, e⟩
    · rw [e]; dsimp only; omega
    · rw [e]; exact csum_30 h i k
  have h2 : (highEnd y.log y.ns).2 ≤ 120 := by
    rcases H.is with e | ⟨i, k, hik, hk, e⟩
    · rw [e]; dsimp only; omega
    · rw [e]; exact csum_30 h i k
  unfold Small at S
  refine ⟨redR (lowEnd y.log y.ns), redR (highEnd y.log y.ns), periodYes (countedL_of hl hc (by omega)) (TNum.poss h h1), ⟨a1, by omega⟩, ⟨b1, by omega⟩, by unfold Small; omega, by unfold Small; omega, ?_, ?_⟩
  · unfold lessR
    refine decide_eq_false ?_
    rw [← e1, ← e2] at a
    have : g * ((redR (lowEnd y.log y.ns)).1 * 6) ≤ g * (y.p * (redR (lowEnd y.log y.ns)).2) := by
      have q1 : g * ((redR (lowEnd y.log y.ns)).1 * 6) = g * (redR (lowEnd y.log y.ns)).1 * 6 := by grind
      have q2 : g * (y.p * (redR (lowEnd y.log y.ns)).2) = y.p * (g * (redR (lowEnd y.log y.ns)).2) := by grind
      omega
    have := Int.le_of_mul_le_mul_left this (by omega)
    dsimp only
    omega
  · unfold lessR
    refine decide_eq_false ?_
    rw [← f1, ← f2] at b
    have : k * (y.p * (redR (highEnd y.log y.ns)).2) ≤ k * ((redR (highEnd y.log y.ns)).1 * 6) := by
      have q1 : k * ((redR (highEnd y.log y.ns)).1 * 6) = k * (redR (highEnd y.log y.ns)).1 * 6 := by grind
      have q2 : k * (y.p * (redR (highEnd y.log y.ns)).2) = y.p * (k * (redR (highEnd y.log y.ns)).2) := by grind
      omega
    have := Int.le_of_mul_le_mul_left this (by omega)
    dsimp only
    omega
/-- What Counts returns. -/
theorem TNum.counts {y : TNum} (h : y.Ok) (h1 : 1 ≤ y.ns.length) : (countsR y.log = ([], 16)) ∨ (countsR y.log = (allC y.log, 0) ∧ y.ns ∈ allC y.log ∧ (allC y.log).length ≤ 500) := by
  have hl := TNum.lok h h1
  have hpl : y.log.ps.length = y.ns.length + 1 := y.ps_len _
  unfold countsR
  rw [if_neg (by rw [checkL_of hl]; simp)]
  by_cases h5 : 500 < (allC y.log).length
  · rw [if_pos h5]
    exact .inl rfl
  · rw [if_neg h5]
    exact .inr ⟨rfl, (mem_allC hl _).2 ⟨by omega, TNum.cok h, TNum.poss h h1⟩, by omega⟩
theorem TNum.none {y : TNum} (h : y.Ok) (h1 : y.ns = []) : countsR y.log = ([], 2) := by
  have hp := h.p
  have hpl : y.log.ps.length = 1 := by
    have := y.ps_len (y.ns.length + 1)
    rw [h1] at this
    show (y.ps (y.ns.length + 1)).length = 1
    rw [h1]
    exact this
  have hc : checkL y.log = 2 := by
    unfold checkL
    rw [if_neg (by show ¬(¬(1 ≤ y.p / 6 - 2 ∧ y.p / 6 - 2 ≤ y.p / 6 + 3) ∨ 10000 < y.p / 6 + 3); omega), if_pos (by omega)]
  unfold countsR
  rw [if_pos (by rw [hc]; decide), hc]

/-- Before, as the program tells it. -/
def beforeR : List Int → List Int → Bool
  | a :: r, b :: t => if a ≠ b then decide (a < b) else beforeR r t
  | _, _ => false
theorem before_lex : ∀ {a b : List Int}, lexlt a b → beforeR a b = true
  | [], b, h => h.elim
  | a :: r, [], h => h.elim
  | a :: r, b :: t, h => by
    unfold beforeR
    rcases h with h | ⟨rfl, h⟩
    · rw [if_pos (by omega)]
      exact decide_eq_true h
    · rw [if_neg (by simp)]
      exact before_lex h
theorem all_before {l : PLog} {i : Nat} {a b : List Int} (h1 : (allC l)[i]? = some a) (h2 : (allC l)[i + 1]? = some b) : beforeR a b = true := by
  refine before_lex ?_
  have := List.pairwise_iff_getElem.1 (allC_sorted l)
  obtain ⟨k1, e1⟩ := List.getElem?_eq_some_iff.1 h1
  obtain ⟨k2, e2⟩ := List.getElem?_eq_some_iff.1 h2
  have := this i (i + 1) k1 k2 (by omega)
  rw [e1, e2] at this
  exact this

end Go.Proofs.Ytjgebepeghgmcaa
