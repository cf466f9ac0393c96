/-
  Plain facts: the counts of a watch are those that are possible among all of a sum of at most six, in order; the sums.
-/
import Derived.Test.YtjgebepeghgmcaaPlain7
namespace Go.Proofs.Ytjgebepeghgmcaa
set_option linter.unusedVariables false
set_option linter.unusedSimpArgs false

/-- What the inner loop tries from b on. -/
def restB (two : Bool) (a b : Int) : List (List Int) := if two then (nsFrom b 1).map fun _ => [a] else (nsFrom b (6 - a)).map fun b => [a, b]
/-- What the outer loop tries from a on. -/
def restA (two : Bool) (a : Int) : List (List Int) := (nsFrom a 6).flatMap fun a => restB two a 1

theorem restA_lt {two : Bool} {a : Int} (h : a ≤ 6) : restA two a = restB two a 1 ++ restA two (a + 1) := by
  unfold restA
  rw [nsFrom_lt h, List.flatMap_cons]
theorem restA_ge {two : Bool} {a : Int} (h : 6 < a) : restA two a = [] := by
  unfold restA
  rw [nsFrom_ge h]
  rfl
theorem restB_two {a b : Int} (h : b ≤ 1) : restB true a b = [a] :: restB true a (b + 1) := by
  unfold restB
  rw [if_pos rfl, if_pos rfl, nsFrom_lt h]
  rfl
theorem restB_two_no {a b : Int} (h : 1 < b) : restB true a b = [] := by
  unfold restB
  rw [if_pos rfl, nsFrom_ge h]
  rfl
theorem restB_three {a b : Int} (h : a + b ≤ 6) : restB false a b = [a, b] :: restB false a (b + 1) := by
  unfold restB
  rw [if_neg (by simp), if_neg (by simp), nsFrom_lt (by omega)]
  rfl
theorem restB_three_no {a b : Int} (h : 6 < a + b) : restB false a b = [] := by
  unfold restB
  rw [if_neg (by simp), nsFrom_ge (by omega)]
  rfl

theorem mem_restA {two : Bool} {c : List Int} : c ∈ restA two 1 ↔ c.length = (if two then 1 else 2) ∧ (∀ x ∈ c, 1 ≤ x) ∧ c.sum ≤ 6 := by
  unfold restA restB
  rw [List.mem_flatMap]
  cases two with
  | true =>
    simp only [if_true]
    constructor
    · rintro ⟨a, ha, hc⟩
      obtain ⟨b, hb, rfl⟩ := List.mem_map.1 hc
      rw [mem_nsFrom] at ha
      simp
      omega
    · rintro ⟨h1, h2, h3⟩
      match c, h1 with
      | [a], _ =>
        have := h2 a (by simp)
        simp at h3
        exact ⟨a, mem_nsFrom.2 ⟨this, h3⟩, List.mem_map.2 ⟨1, mem_nsFrom.2 ⟨by omega, by omega⟩, rfl⟩⟩
  | false =>
    simp only [Bool.false_eq_true, if_false]
    constructor
    · rintro ⟨a, ha, hc⟩
      obtain ⟨b, hb, rfl⟩ := List.mem_map.1 hc
      rw [mem_nsFrom] at ha hb
      simp
      omega
    · rintro ⟨h1, h2, h3⟩
      match c, h1 with
      | [a, b], _ =>
        have := h2 a (by simp)
        have := h2 b (by simp)
        simp at h3
        exact ⟨a, mem_nsFrom.2 ⟨by omega, by omega⟩, List.mem_map.2 ⟨b, mem_nsFrom.2 ⟨by omega, by omega⟩, rfl⟩⟩
theorem restA_sorted (two : Bool) : (restA two 1).Pairwise lexlt := by
  unfold restA
  refine pair_flat (fun a _ => ?_) ((nsFrom_sorted _ _).imp fun {n m} hnm c hc d hd => ?_)
  · unfold restB
    split
    · rw [show nsFrom 1 1 = [1] by decide]
      exact List.pairwise_singleton _ _
    · rw [List.pairwise_map]
      exact (nsFrom_sorted _ _).imp fun h => Or.inr ⟨rfl, Or.inl h⟩
  · unfold restB at hc hd
    split at hc
    · rename_i h2
      obtain ⟨_, _, rfl⟩ := List.mem_map.1 hc
      rw [if_pos h2] at hd
      obtain ⟨_, _, rfl⟩ := List.mem_map.1 hd
      exact Or.inl hnm
    · rename_i h2
      obtain ⟨_, _, rfl⟩ := List.mem_map.1 hc
      rw [if_neg h2] at hd
      obtain ⟨_, _, rfl⟩ := List.mem_map.1 hd
      exact Or.inl hnm

/-- The sum of possible counts of a watch. -/
theorem watch_six {x : WNum} (hx : x.Ok) {c : List Int} (hlen : c.length + 1 = x.n) (hc : COk x.log c) (hp : possible x.log c = true) : c.sum ≤ 6 := by
  have hl := x.lok hx
  have H := high_is hl hc
  have L := low_is hl hc
  have hn := x.n_is
  have hlh := x.lo_hi hx
  rw [possible_le] at hp
  have e := H.pair 0 c.length (by omega) (Nat.le_refl _)
  unfold abv at e
  dsimp only at e
  have hs : csum c 0 c.length = c.sum := by unfold csum; rw [List.drop_zero, Nat.sub_zero, List.take_length]
  have hcs := csum_bound hc 0 c.length (by omega) (Nat.le_refl _)
  rw [hs] at e hcs
  have g0 := L.lo
  have g1 := cross_trans (a := x.log.lo) (b := 1) (c := (lowEnd x.log c).1) (d := (lowEnd x.log c).2) (e := (highEnd x.log c).1) (f := (highEnd x.log c).2) (by decide) (by have := L.pos; omega) (by have := H.pos; omega) (by omega) hp
  have g2 := cross_trans (by decide) (by have := H.pos; omega) (by omega) g1 e
  have e1 : los x.log.ps 0 = (x.span 0).1 := (x.los_ps (by omega : 0 < x.n)).1
  have e2 : his x.log.ps c.length = (x.span c.length).2 := (x.los_ps (by omega : c.length < x.n)).2
  rw [e1, e2] at g2
  have h0 := x.span_bound hx 0 (by omega)
  have t0 := hx.t 0
  have t1 := hx.t 1
  have t2 := hx.t 2
  have t3 := hx.t 3
  have t4 := hx.t 4
  have t5 := hx.t 5
  have hend : (x.span c.length).2 ≤ 17 := by
    rcases (by omega : c.length = 1 ∨ c.length = 2) with h | h <;> rw [h] <;> simp only [WNum.span, WNum.at] <;> omega
  have hlo : x.log.lo = x.lo := rfl
  rw [hlo] at g2
  by_cases h6 : c.sum ≤ 6
  · exact h6
  · have : x.lo * 7 ≤ x.lo * c.sum := Int.mul_le_mul_of_nonneg_left (by omega) (by omega)
    omega

/-- The counts of a watch. -/
theorem watch_counts {x : WNum} (hx : x.Ok) : allC x.log = (restA x.two 1).filter (possible x.log) := by
  have hl := x.lok hx
  have hpl : x.log.ps.length = x.n := x.ps_len _
  have hn : x.n = if x.two then 2 else 3 := rfl
  refine sorted_ext lexlt_irrefl lexlt_trans _ _ (allC_sorted _) ((restA_sorted _).filter _) fun c => ?_
  rw [mem_allC hl, List.mem_filter, mem_restA, hpl]
  constructor
  · rintro ⟨h1, h2, h3⟩
    refine ⟨⟨?_, fun y hy => (h2.inb y hy).1, watch_six hx h1 h2 h3⟩, h3⟩
    rw [hn] at h1
    split at h1 <;> simp_all
  · rintro ⟨⟨h1, h2, h3⟩, h4⟩
    have hlen : c.length + 1 = x.n := by
      rw [hn, h1]
      split <;> rfl
    refine ⟨hlen, ⟨by omega, fun y hy => ⟨h2 y hy, ?_⟩⟩, h4⟩
    have := (sum_le_of_pos c h2).2 y hy
    omega

/-- How few there are. -/
theorem watch_few {x : WNum} (hx : x.Ok) : (allC x.log).length ≤ 500 := by
  rw [watch_counts hx]
  refine Nat.le_trans (List.length_filter_le _ _) ?_
  cases x.two <;> decide
theorem watch_countsR {x : WNum} (hx : x.Ok) : countsR x.log = (allC x.log, 0) := by
  unfold countsR
  rw [if_neg (by rw [checkL_of (x.lok hx)]; simp), if_neg (by have := watch_few hx; omega)]

/-- The smallest and the greatest sum of what has been met. -/
structure SumI (pre : List (List Int)) (lo hi : Int) : Prop where
  all : ∀ c ∈ pre, lo ≤ c.sum ∧ c.sum ≤ hi
  some : pre ≠ [] → (∃ c ∈ pre, c.sum = lo) ∧ ∃ c ∈ pre, c.sum = hi
  none : pre = [] → lo = 100 ∧ hi = 0
theorem SumI.start : SumI [] 100 0 := ⟨fun _ h => (by cases h), fun h => absurd rfl h, fun _ => ⟨rfl, rfl⟩⟩
theorem SumI.more {pre : List (List Int)} {lo hi : Int} (h : SumI pre lo hi) (c : List Int) (h0 : 0 ≤ c.sum) (h1 : c.sum ≤ 100) : SumI (pre ++ [c]) (min lo c.sum) (max hi c.sum) := by
  refine ⟨fun d hd => ?_, fun _ => ?_, fun h => by simp at h⟩
  · rcases List.mem_append.1 hd with hd | hd
    · have := h.all d hd
      omega
    · obtain rfl := List.mem_singleton.1 hd
      omega
  · by_cases hp : pre = []
    · obtain ⟨rfl, rfl⟩ := h.none hp
      exact ⟨⟨c, by simp, by omega⟩, ⟨c, by simp, by omega⟩⟩
    · obtain ⟨⟨a, ha, ea⟩, b, hb, eb⟩ := h.some hp
      constructor
      · by_cases hl : lo ≤ c.sum
        · exact ⟨a, List.mem_append_left _ ha, by omega⟩
        · exact ⟨c, by simp, by omega⟩
      · by_cases hl : c.sum ≤ hi
        · exact ⟨b, List.mem_append_left _ hb, by omega⟩
        · exact ⟨c, by simp, by omega⟩
theorem sums_small {cs : List Int} (h : ∀ x ∈ cs, 1 ≤ x) (h6 : cs.sum ≤ 6) (hl : cs.length ≤ 8) : sumW cs = cs.sum := by
  have := (sum_le_of_pos cs h)
  exact (sumW_eq cs (by omega) (fun x hx => ⟨by have := h x hx; omega, by have := this.2 x hx; omega⟩)).1

theorem least_is {cs : List (List Int)} (hne : cs ≠ []) : leastC cs ∈ cs ∧ ∀ c ∈ cs, sumW (leastC cs) ≤ sumW c := by
  unfold leastC
  cases hb : firstBy (fun x y => decide (sumW x < sumW y)) cs with
  | none => exact absurd hb (firstBy_some _ _ hne)
  | some b =>
    refine ⟨firstBy_mem _ _ _ hb, fun c hc => ?_⟩
    have := pick_least (fun c => (sumW c, 1)) cs b (fun _ _ => Int.zero_lt_one) (by
      rw [← hb]
      congr 1
      funext x y
      refine decide_eq_decide.2 ?_
      unfold cmpR
      dsimp only
      omega) c hc
    unfold cmpR at this
    dsimp only at this
    show sumW b ≤ _
    omega
theorem most_is {cs : List (List Int)} (hne : cs ≠ []) : mostC cs ∈ cs ∧ ∀ c ∈ cs, sumW c ≤ sumW (mostC cs) := by
  unfold mostC
  cases hb : firstBy (fun x y => decide (sumW y < sumW x)) cs with
  | none => exact absurd hb (firstBy_some _ _ hne)
  | some b =>
    refine ⟨firstBy_mem _ _ _ hb, fun c hc => ?_⟩
    have := (pick_best (fun c => (sumW c, 1)) cs none b (fun _ _ => Int.zero_lt_one) (fun x h => by cases h) (by
      rw [← hb]
      unfold firstBy
      congr 1
      funext x y
      congr 1
      funext x y
      refine decide_eq_decide.2 ?_
      unfold cmpR
      dsimp only
      omega)).2 c hc
    unfold cmpR at this
    dsimp only at this
    show _ ≤ sumW b
    omega

/-- What Total returns for a watch. -/
theorem watch_total {x : WNum} (hx : x.Ok) {lo hi : Int} (h : SumI (allC x.log) lo hi) : (allC x.log = [] → totalR x.log = ((0, 0), 13)) ∧ (allC x.log ≠ [] → totalR x.log = ((lo, hi), 0)) := by
  have hl := x.lok hx
  have hpl : x.log.ps.length = x.n := x.ps_len _
  have hn := x.n_is
  have hsm : ∀ c ∈ allC x.log, sumW c = c.sum := fun c hc => by
    obtain ⟨h1, h2, h3⟩ := (mem_allC hl c).1 hc
    exact sums_small (fun y hy => (h2.inb y hy).1) (watch_six hx (by omega) h2 h3) (by omega)
  unfold totalR
  rw [watch_countsR hx]
  dsimp only
  constructor
  · intro e
    rw [if_neg (by simp), if_pos (by rw [e]; rfl)]
  · intro e
    obtain ⟨⟨a, ha, ea⟩, b, hb, eb⟩ := h.some e
    rw [if_neg (by simp), if_neg (by simpa using e)]
    obtain ⟨l1, l2⟩ := least_is e
    obtain ⟨m1, m2⟩ := most_is e
    have p1 := l2 a ha
    have p2 := m2 b hb
    have q1 := (h.all _ l1).1
    have q2 := (h.all _ m1).2
    rw [hsm _ l1, hsm a ha] at p1
    rw [hsm _ m1, hsm b hb] at p2
    rw [hsm _ l1, hsm _ m1]
    exact Prod.ext (Prod.ext (by dsimp only; omega) (by dsimp only; omega)) rfl

end Go.Proofs.Ytjgebepeghgmcaa
