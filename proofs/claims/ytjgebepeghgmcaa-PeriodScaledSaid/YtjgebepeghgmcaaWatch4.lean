/-
  The log of a watch is valid; counts for it.
-/
import Derived.Test.YtjgebepeghgmcaaPlain6
namespace Go.Proofs.Ytjgebepeghgmcaa

theorem WNum.los_ps (x : WNum) {k i : Nat} (h : i < k) : los (x.ps k) i = (x.span i).1 ∧ his (x.ps k) i = (x.span i).2 := by
  have e : (x.ps k).getD i (0, 0) = x.span i := by
    unfold WNum.ps
    simp [List.getD, h]
  unfold los his
  rw [e]
  exact ⟨rfl, rfl⟩
theorem WNum.n_is (x : WNum) : x.n = 2 ∨ x.n = 3 := by
  unfold WNum.n
  split
  · exact .inl rfl
  · exact .inr rfl
theorem WNum.span_bound {x : WNum} (h : x.Ok) (k : Nat) (hk : k < 3) : 0 ≤ (x.span k).1 ∧ (x.span k).1 ≤ (x.span k).2 ∧ (x.span k).2 ≤ 20 ∧ (x.span k).2 < (x.span (k + 1)).1 := by
  have h1 := h.t (2 * k)
  have h2 := h.t (2 * k + 1)
  have h3 := h.t (2 * (k + 1))
  have h4 := x.at_bound h k
  simp only [WNum.span, WNum.at]
  omega
theorem WNum.lo_hi {x : WNum} (h : x.Ok) : 3 ≤ x.lo ∧ x.lo ≤ x.hi ∧ x.hi ≤ 8 := by
  have := h.p0
  have := h.p1
  simp only [WNum.hi, WNum.lo]
  omega
theorem WNum.lok {x : WNum} (h : x.Ok) : LOk x.log := by
  have hn := x.n_is
  obtain ⟨h1, h2, h3⟩ := x.lo_hi h
  refine ⟨?_, ?_, ?_, ?_, ?_, ?_, ?_⟩
  · show 1 ≤ x.lo; omega
  · exact h2
  · show x.hi ≤ 10000; omega
  · show 2 ≤ (x.ps x.n).length; rw [x.ps_len]; omega
  · show (x.ps x.n).length ≤ 8; rw [x.ps_len]; omega
  · intro i hi
    have hi' : i < x.n := by have : i < (x.ps x.n).length := hi; rwa [x.ps_len] at this
    obtain ⟨e1, e2⟩ := x.los_ps hi'
    show 0 ≤ los (x.ps x.n) i ∧ los (x.ps x.n) i ≤ his (x.ps x.n) i ∧ his (x.ps x.n) i ≤ 1000000
    rw [e1, e2]
    have := x.span_bound h i (by omega)
    omega
  · intro i hi
    have hi' : i + 1 < x.n := by have : i + 1 < (x.ps x.n).length := hi; rwa [x.ps_len] at this
    obtain ⟨e1, e2⟩ := x.los_ps (by omega : i < x.n)
    obtain ⟨e3, e4⟩ := x.los_ps hi'
    show his (x.ps x.n) i < los (x.ps x.n) (i + 1)
    rw [e2, e3]
    exact (x.span_bound h i (by omega)).2.2.2

/-- Counts for a watch: one or two, together at most six. -/
structure CSix (x : WNum) (cs : List Int) : Prop where
  len : cs.length + 1 = x.n
  pos : ∀ c ∈ cs, 1 ≤ c
  six : cs.sum ≤ 6

theorem sum_le_of_pos : ∀ (cs : List Int), (∀ c ∈ cs, 1 ≤ c) → 0 ≤ cs.sum ∧ ∀ c ∈ cs, c ≤ cs.sum
  | [], _ => ⟨by simp, fun c hc => by cases hc⟩
  | y :: ys, h => by
    obtain ⟨h1, h2⟩ := sum_le_of_pos ys fun c hc => h c (List.mem_cons_of_mem _ hc)
    have hy := h y List.mem_cons_self
    rw [List.sum_cons]
    refine ⟨by omega, fun c hc => ?_⟩
    rcases List.mem_cons.1 hc with rfl | hc
    · omega
    · have := h2 c hc; omega
theorem sum_append_pos (a b : List Int) (h : ∀ c ∈ a ++ b, 1 ≤ c) : a.sum ≤ (a ++ b).sum ∧ b.sum ≤ (a ++ b).sum := by
  have h1 := (sum_le_of_pos a fun c hc => h c (List.mem_append_left _ hc)).1
  have h2 := (sum_le_of_pos b fun c hc => h c (List.mem_append_right _ hc)).1
  rw [List.sum_append]
  omega
theorem csum_le {cs : List Int} (h : ∀ c ∈ cs, 1 ≤ c) (i k : Nat) : csum cs i k ≤ cs.sum := by
  unfold csum
  have e1 := (sum_append_pos ((cs.drop i).take (k - i)) ((cs.drop i).drop (k - i)) (by rw [List.take_append_drop]; exact fun c hc => h c (List.mem_of_mem_drop hc))).1
  rw [List.take_append_drop] at e1
  have e2 := (sum_append_pos (cs.take i) (cs.drop i) (by rw [List.take_append_drop]; exact h)).2
  rw [List.take_append_drop] at e2
  omega

theorem CSix.six_ok {x : WNum} {cs : List Int} (hx : x.Ok) (h : CSix x cs) : Six x.log cs := by
  have hl := x.lok hx
  have hn := x.n_is
  have hlen := h.len
  have hs := sum_le_of_pos cs h.pos
  have h6 := h.six
  have hpl : x.log.ps.length = x.n := x.ps_len _
  have hc : ∀ c ∈ cs, 1 ≤ c ∧ c ≤ 1000000 := fun c hc => ⟨h.pos c hc, by have := hs.2 c hc; omega⟩
  refine ⟨hl, ⟨by omega, hc⟩, ?_, fun p hp0 hp1 => ?_, fun i k _ _ => ?_⟩
  · have := (x.lo_hi hx).2.2
    show x.hi ≤ 1000
    omega
  · refine ⟨hp0, hp1, by omega, by omega, fun k hk => ?_, fun k hk => ?_, fun c h' => ?_⟩
    · have := hl.inb k hk; omega
    · have := hl.inb k hk; omega
    · have := hc c h'; omega
  · have := csum_le h.pos i k
    omega

theorem checkPs_of : ∀ (ps : List (Int × Int)) (last : Int), (∀ i, i < ps.length → 0 ≤ los ps i ∧ los ps i ≤ his ps i ∧ his ps i ≤ 1000000) → (∀ i, i + 1 < ps.length → his ps i < los ps (i + 1)) → (0 < ps.length → last < los ps 0) → checkPs last ps = 0
  | [], _, _, _, _ => rfl
  | p :: r, last, h1, h2, h3 => by
    have a := h1 0 (by simp)
    have b := h3 (by simp)
    simp only [los, his, List.getD_cons_zero] at a b
    unfold checkPs
    rw [if_neg (by omega), if_neg (by omega)]
    refine checkPs_of r p.2 (fun i hi => ?_) (fun i hi => ?_) (fun h0 => ?_)
    · have := h1 (i + 1) (by simp; omega)
      simpa [los, his] using this
    · have := h2 (i + 1) (by simp; omega)
      simpa [los, his] using this
    · have := h2 0 (by simp; omega)
      simpa [los, his] using this
theorem checkL_of {l : PLog} (h : LOk l) : checkL l = 0 := by
  have h1 := h.lo1
  have h2 := h.lohi
  have h3 := h.hi1
  have h4 := h.len2
  have h5 := h.len8
  unfold checkL
  rw [if_neg (by omega), if_neg (by omega), if_neg (by omega)]
  exact checkPs_of l.ps (-1) h.inb h.inc (fun h0 => by have := h.inb 0 h0; omega)
theorem countedL_of {l : PLog} {cs : List Int} (h : LOk l) (hc : COk l cs) (hlen : cs.length + 1 = l.ps.length) : countedL l cs = 0 := by
  unfold countedL
  rw [if_neg (by rw [checkL_of h]; simp), if_neg (by omega), if_neg]
  simp only [List.any_eq_true, not_exists, not_and]
  intro c hcm
  have := hc.inb c hcm
  simp [this]

end Go.Proofs.Ytjgebepeghgmcaa
