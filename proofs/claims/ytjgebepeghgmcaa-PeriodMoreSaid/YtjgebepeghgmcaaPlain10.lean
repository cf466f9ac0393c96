/-
  Plain facts: within wider bounds, and with fewer passages, the same counts are possible, with a wider period.
-/
import Derived.Test.YtjgebepeghgmcaaWatchL
import Derived.Test.YtjgebepeghgmcaaTried
import Derived.Test.YtjgebepeghgmcaaScaled
import Derived.Test.YtjgebepeghgmcaaSimp
import Derived.Lib.SmallJoins
namespace Go.Proofs.Ytjgebepeghgmcaa
set_option linter.unusedVariables false
set_option linter.unusedSimpArgs false

/-- The log o is wider than the log l, as far as d, a beginning of c, asks. -/
structure Wd (l o : PLog) (c d : List Int) : Prop where
  lo : o.lo ≤ l.lo
  hi : l.hi ≤ o.hi
  ext : ∃ es, c = d ++ es
  ps : ∀ i, i ≤ d.length → los o.ps i ≤ los l.ps i ∧ his l.ps i ≤ his o.ps i
theorem Wd.pairs {l o : PLog} {c d : List Int} (h : Wd l o c d) (i k : Nat) (hik : i < k) (hk : k ≤ d.length) :
    (bel o.ps d (i, k)).1 ≤ (bel l.ps c (i, k)).1 ∧ (bel o.ps d (i, k)).2 = (bel l.ps c (i, k)).2 ∧ (abv l.ps c (i, k)).1 ≤ (abv o.ps d (i, k)).1 ∧ (abv o.ps d (i, k)).2 = (abv l.ps c (i, k)).2 := by
  obtain ⟨es, rfl⟩ := h.ext
  have h1 := h.ps i (by omega)
  have h2 := h.ps k hk
  unfold bel abv
  dsimp only
  rw [csum_app d es i k hk]
  omega
theorem Wd.ends {l o : PLog} {c d : List Int} (h : Wd l o c d) (hl : LOk l) (ho : LOk o) (hc : COk l c) (hd : COk o d) :
    (lowEnd o d).1 * (lowEnd l c).2 ≤ (lowEnd l c).1 * (lowEnd o d).2 ∧ (highEnd l c).1 * (highEnd o d).2 ≤ (highEnd o d).1 * (highEnd l c).2 := by
  have L := low_is hl hc
  have H := high_is hl hc
  have L' := low_is ho hd
  have H' := high_is ho hd
  have hcd : d.length ≤ c.length := by
    obtain ⟨es, rfl⟩ := h.ext
    simp
  constructor
  · rcases L'.is with e | ⟨i, k, hik, hk, e⟩
    · rw [e]
      have := L.lo
      dsimp only
      have g : o.lo * (lowEnd l c).2 ≤ l.lo * (lowEnd l c).2 := Int.mul_le_mul_of_nonneg_right h.lo (by have := L.pos; omega)
      omega
    · have p := L.pair i k hik (by omega)
      obtain ⟨q1, q2, _, _⟩ := h.pairs i k hik hk
      rw [e, q2]
      have g : (bel o.ps d (i, k)).1 * (lowEnd l c).2 ≤ (bel l.ps c (i, k)).1 * (lowEnd l c).2 := Int.mul_le_mul_of_nonneg_right q1 (by have := L.pos; omega)
      omega
  · rcases H'.is with e | ⟨i, k, hik, hk, e⟩
    · rw [e]
      have := H.hi
      dsimp only
      have g : l.hi * (highEnd l c).2 ≤ o.hi * (highEnd l c).2 := Int.mul_le_mul_of_nonneg_right h.hi (by have := H.pos; omega)
      omega
    · have p := H.pair i k hik (by omega)
      obtain ⟨_, _, q3, q4⟩ := h.pairs i k hik hk
      rw [e, q4]
      have g : (abv l.ps c (i, k)).1 * (highEnd l c).2 ≤ (abv o.ps d (i, k)).1 * (highEnd l c).2 := Int.mul_le_mul_of_nonneg_right q3 (by have := H.pos; omega)
      omega
theorem Wd.possible {l o : PLog} {c d : List Int} (h : Wd l o c d) (hl : LOk l) (ho : LOk o) (hc : COk l c) (hd : COk o d) (hp : Go.Proofs.Ytjgebepeghgmcaa.possible l c = true) : Go.Proofs.Ytjgebepeghgmcaa.possible o d = true := by
  obtain ⟨e1, e2⟩ := h.ends hl ho hc hd
  have L := low_is hl hc
  have H := high_is hl hc
  have L' := low_is ho hd
  have H' := high_is ho hd
  rw [possible_le] at hp ⊢
  have g1 := cross_trans (a := (lowEnd o d).1) (b := (lowEnd o d).2) (c := (lowEnd l c).1) (d := (lowEnd l c).2) (e := (highEnd l c).1) (f := (highEnd l c).2) (by have := L'.pos; omega) (by have := L.pos; omega) (by have := H.pos; omega) e1 hp
  exact cross_trans (by have := L'.pos; omega) (by have := H.pos; omega) (by have := H'.pos; omega) g1 e2

/-- Reduced forms keep their order. -/
theorem red_le {r s : Int × Int} (hr : 1 ≤ r.2 ∧ 0 ≤ r.1) (hs : 1 ≤ s.2 ∧ 0 ≤ s.1) (h : r.1 * s.2 ≤ s.1 * r.2) : (redR r).1 * (redR s).2 ≤ (redR s).1 * (redR r).2 := by
  obtain ⟨g, hg, e1, e2, _⟩ := red_is hr.1 hr.2
  obtain ⟨k, hk, f1, f2, _⟩ := red_is hs.1 hs.2
  rw [← e1, ← e2, ← f1, ← f2] at h
  generalize redR r = p at *
  generalize redR s = q at *
  have h' : (p.1 * q.2) * (g * k) ≤ (q.1 * p.2) * (g * k) := by
    have a1 : (p.1 * q.2) * (g * k) = g * p.1 * (k * q.2) := by grind
    have a2 : (q.1 * p.2) * (g * k) = k * q.1 * (g * p.2) := by grind
    rw [a1, a2]
    exact h
  exact Int.le_of_mul_le_mul_right h' (Int.mul_pos (by omega) (by omega))
theorem less_red {r s : Int × Int} (hr : 1 ≤ r.2 ∧ 0 ≤ r.1) (hs : 1 ≤ s.2 ∧ 0 ≤ s.1) (h : r.1 * s.2 ≤ s.1 * r.2) : lessR (redR s) (redR r) = false := by
  have := red_le hr hs h
  unfold lessR
  exact decide_eq_false (by omega)

/-! ### the wider log of PeriodMore -/
/-- By how much the end of passage i is moved. -/
def moreD (x : WNum) (t : Nat → Int) (i : Nat) : Int := if i + 1 = x.n ∨ (x.span i).2 + 1 < (x.span (i + 1)).1 then t (1 + i) % 2 else 0
def moreP (x : WNum) (t : Nat → Int) (i : Nat) : Int × Int := ((x.span i).1, (x.span i).2 + moreD x t i)
/-- The spans, the first k of which have been moved. -/
def morePs (x : WNum) (t : Nat → Int) (k : Nat) : List (Int × Int) := (List.range x.n).map fun i => if i < k then moreP x t i else x.span i
def moreL (x : WNum) (t : Nat → Int) : PLog := ⟨x.lo - t 0 % 2, x.hi + t 0 / 64, morePs x t x.n⟩
def shortL (x : WNum) : PLog := ⟨x.lo, x.hi, (x.ps x.n).take (x.n - 1)⟩
theorem more_at (x : WNum) (t : Nat → Int) (k i : Nat) (hi : i < x.n) : (los (morePs x t k) i, his (morePs x t k) i) = if i < k then moreP x t i else x.span i := by
  unfold los his morePs
  simp [List.getD, hi]
theorem more_len (x : WNum) (t : Nat → Int) (k : Nat) : (morePs x t k).length = x.n := by simp [morePs]
theorem more_0 (x : WNum) (t : Nat → Int) : morePs x t 0 = x.ps x.n := by
  unfold morePs WNum.ps
  simp
structure TOk (t : Nat → Int) : Prop where
  t : ∀ i, 0 ≤ t i ∧ t i ≤ 255
theorem more_d (x : WNum) {t : Nat → Int} (ht : TOk t) (i : Nat) : 0 ≤ moreD x t i ∧ moreD x t i ≤ 1 := by
  unfold moreD
  have := ht.t (1 + i)
  split <;> omega
theorem more_is {x : WNum} (hx : x.Ok) {t : Nat → Int} (ht : TOk t) {i : Nat} (hi : i < x.n) : los (moreL x t).ps i = (x.span i).1 ∧ his (moreL x t).ps i = (x.span i).2 + moreD x t i := by
  have := more_at x t x.n i hi
  rw [if_pos hi] at this
  unfold moreP at this
  have h1 := congrArg Prod.fst this
  have h2 := congrArg Prod.snd this
  exact ⟨h1, h2⟩
theorem span_small {x : WNum} (hx : x.Ok) {i : Nat} (hi : i < 3) : 0 ≤ (x.span i).1 ∧ (x.span i).1 ≤ (x.span i).2 ∧ (x.span i).2 ≤ 17 := by
  have h := x.span_bound hx i hi
  have t0 := hx.t 0
  have t1 := hx.t 1
  have t2 := hx.t 2
  have t3 := hx.t 3
  have t4 := hx.t 4
  have t5 := hx.t 5
  refine ⟨h.1, h.2.1, ?_⟩
  rcases (by omega : i = 0 ∨ i = 1 ∨ i = 2) with h | h | h <;> rw [h] <;> simp only [WNum.span, WNum.at] <;> omega
theorem more_ok {x : WNum} (hx : x.Ok) {t : Nat → Int} (ht : TOk t) : LOk (moreL x t) := by
  have hn := x.n_is
  have hlh := x.lo_hi hx
  have t0 := ht.t 0
  have hl : (moreL x t).ps.length = x.n := more_len x t _
  refine ⟨?_, ?_, ?_, by rw [hl]; omega, by rw [hl]; omega, fun i hi => ?_, fun i hi => ?_⟩
  · show 1 ≤ x.lo - t 0 % 2; omega
  · show x.lo - t 0 % 2 ≤ x.hi + t 0 / 64; omega
  · show x.hi + t 0 / 64 ≤ 10000; omega
  · rw [hl] at hi
    obtain ⟨e1, e2⟩ := more_is hx ht hi
    rw [e1, e2]
    have := span_small hx (by omega : i < 3)
    have := more_d x ht i
    omega
  · rw [hl] at hi
    obtain ⟨e1, _⟩ := more_is hx ht hi
    obtain ⟨_, e2⟩ := more_is hx ht (by omega : i < x.n)
    rw [e1, e2]
    have h2 := (x.span_bound hx i (by omega)).2.2.2
    have h3 := ht.t (1 + i)
    unfold moreD
    split
    · rename_i hc
      rcases hc with hc | hc <;> omega
    · omega
theorem short_ok {x : WNum} (hx : x.Ok) (h3 : x.n = 3) : LOk (shortL x) := by
  have hl := x.lok hx
  have hpl : (x.ps x.n).length = x.n := x.ps_len _
  have hsl : (shortL x).ps.length = 2 := by
    show ((x.ps x.n).take (x.n - 1)).length = 2
    rw [List.length_take, hpl]
    omega
  have hget : ∀ i, i < 2 → los (shortL x).ps i = los x.log.ps i ∧ his (shortL x).ps i = his x.log.ps i := fun i hi => by
    show los ((x.ps x.n).take (x.n - 1)) i = los (x.ps x.n) i ∧ his ((x.ps x.n).take (x.n - 1)) i = his (x.ps x.n) i
    unfold los his
    rw [Go.Joins.getD_take_lt _ _ _ _ (by omega)]
    exact ⟨rfl, rfl⟩
  refine ⟨hl.lo1, hl.lohi, hl.hi1, by omega, by omega, fun i hi => ?_, fun i hi => ?_⟩
  · obtain ⟨e1, e2⟩ := hget i (by omega)
    rw [e1, e2]
    exact hl.inb i (by show i < (x.ps x.n).length; omega)
  · obtain ⟨e1, _⟩ := hget (i + 1) (by omega)
    obtain ⟨_, e2⟩ := hget i (by omega)
    rw [e1, e2]
    exact hl.inc i (by show i + 1 < (x.ps x.n).length; omega)
theorem short_get {x : WNum} (h3 : x.n = 3) {i : Nat} (hi : i < 2) : los (shortL x).ps i = los x.log.ps i ∧ his (shortL x).ps i = his x.log.ps i := by
  have hpl : (x.ps x.n).length = x.n := x.ps_len _
  show los ((x.ps x.n).take (x.n - 1)) i = los (x.ps x.n) i ∧ his ((x.ps x.n).take (x.n - 1)) i = his (x.ps x.n) i
  unfold los his
  rw [Go.Joins.getD_take_lt _ _ _ _ (by omega)]
  exact ⟨rfl, rfl⟩
theorem more_wd {x : WNum} (hx : x.Ok) {t : Nat → Int} (ht : TOk t) {c : List Int} (hc : c.length + 1 = x.n) : Wd x.log (moreL x t) c c := by
  have hlh := x.lo_hi hx
  have t0 := ht.t 0
  refine ⟨by show x.lo - t 0 % 2 ≤ x.lo; omega, by show x.hi ≤ x.hi + t 0 / 64; omega, ⟨[], by simp⟩, fun i hi => ?_⟩
  obtain ⟨e1, e2⟩ := more_is hx ht (by omega : i < x.n)
  obtain ⟨f1, f2⟩ := x.los_ps (by omega : i < x.n)
  have := more_d x ht i
  rw [e1, e2]
  show (x.span i).1 ≤ los (x.ps x.n) i ∧ his (x.ps x.n) i ≤ (x.span i).2 + moreD x t i
  rw [f1, f2]
  omega
theorem short_wd {x : WNum} (hx : x.Ok) (h3 : x.n = 3) {c : List Int} (hc : c.length + 1 = x.n) : Wd x.log (shortL x) c (c.take 1) := by
  have hl : (c.take 1).length = 1 := by simp; omega
  refine ⟨Int.le_refl _, Int.le_refl _, ⟨c.drop 1, (List.take_append_drop 1 c).symm⟩, fun i hi => ?_⟩
  obtain ⟨e1, e2⟩ := short_get h3 (by omega : i < 2)
  rw [e1, e2]
  omega

/-- All counts up to nine, in order. -/
def cands9 (two : Bool) : List (List Int) := (nsFrom 1 9).flatMap fun a => if two then [[a]] else (nsFrom 1 9).map fun b => [a, b]
theorem cands9_sorted (two : Bool) : (cands9 two).Pairwise lexlt := by
  unfold cands9
  refine pair_flat (fun a _ => ?_) ((nsFrom_sorted _ _).imp fun {n m} hnm c hc d hd => ?_)
  · split
    · exact List.pairwise_singleton _ _
    · rw [List.pairwise_map]
      exact (nsFrom_sorted _ _).imp fun h => Or.inr ⟨rfl, Or.inl h⟩
  · split at hc
    · rename_i h2
      rw [if_pos h2] at hd
      obtain rfl := List.mem_singleton.1 hc
      obtain rfl := List.mem_singleton.1 hd
      exact Or.inl hnm
    · rename_i h2
      rw [if_neg h2] at hd
      obtain ⟨_, _, rfl⟩ := List.mem_map.1 hc
      obtain ⟨_, _, rfl⟩ := List.mem_map.1 hd
      exact Or.inl hnm
theorem mem_cands9 {two : Bool} {c : List Int} (h1 : c.length = if two then 1 else 2) (h2 : ∀ x ∈ c, 1 ≤ x ∧ x ≤ 9) : c ∈ cands9 two := by
  unfold cands9
  rw [List.mem_flatMap]
  cases two with
  | true =>
    match c, h1 with
    | [a], _ => exact ⟨a, mem_nsFrom.2 (h2 a (by simp)), by simp⟩
  | false =>
    match c, h1 with
    | [a, b], _ => exact ⟨a, mem_nsFrom.2 (h2 a (by simp)), List.mem_map.2 ⟨b, mem_nsFrom.2 (h2 b (by simp)), rfl⟩⟩
theorem more_nine {x : WNum} (hx : x.Ok) {t : Nat → Int} (ht : TOk t) {c : List Int} (hlen : c.length + 1 = x.n) (hc : COk (moreL x t) c) (hp : possible (moreL x t) c = true) : ∀ y ∈ c, 1 ≤ y ∧ y ≤ 9 := by
  have hl := more_ok hx ht
  have H := high_is hl hc
  have L := low_is hl hc
  have hn := x.n_is
  have hlh := x.lo_hi hx
  have t0 := ht.t 0
  rw [possible_le] at hp
  have e := H.pair 0 c.length (by omega) (Nat.le_refl _)
  unfold abv at e
  dsimp only at e
  have hs : csum c 0 c.length = c.sum := by unfold csum; rw [List.drop_zero, Nat.sub_zero, List.take_length]
  have hcs := csum_bound hc 0 c.length (by omega) (Nat.le_refl _)
  rw [hs] at e hcs
  have g0 := L.lo
  have g1 := cross_trans (a := (moreL x t).lo) (b := 1) (c := (lowEnd (moreL x t) c).1) (d := (lowEnd (moreL x t) c).2) (e := (highEnd (moreL x t) c).1) (f := (highEnd (moreL x t) c).2) (by decide) (by have := L.pos; omega) (by have := H.pos; omega) (by omega) hp
  have g2 := cross_trans (by decide) (by have := H.pos; omega) (by omega) g1 e
  obtain ⟨e1, _⟩ := more_is hx ht (by omega : 0 < x.n)
  obtain ⟨_, e2⟩ := more_is hx ht (by omega : c.length < x.n)
  rw [e1, e2] at g2
  have h0 := span_small hx (by omega : 0 < 3)
  have h1 := span_small hx (by omega : c.length < 3)
  have h2 := more_d x ht c.length
  have hlo : 2 ≤ (moreL x t).lo := by show 2 ≤ x.lo - t 0 % 2; omega
  have hs9 : c.sum ≤ 9 := by
    by_cases h9 : c.sum ≤ 9
    · exact h9
    · have : 2 * c.sum ≤ (moreL x t).lo * c.sum := Int.mul_le_mul_of_nonneg_right hlo (by omega)
      omega
  intro y hy
  have := (sum_le_of_pos c fun z hz => (hc.inb z hz).1).2 y hy
  exact ⟨(hc.inb y hy).1, by omega⟩
theorem more_counts {x : WNum} (hx : x.Ok) {t : Nat → Int} (ht : TOk t) : allC (moreL x t) = (cands9 x.two).filter fun c => decide (c ∈ allC (moreL x t)) := by
  have hl := more_ok hx ht
  have hpl : (moreL x t).ps.length = x.n := more_len x t _
  have hn : x.n = if x.two then 2 else 3 := rfl
  refine sorted_ext lexlt_irrefl lexlt_trans _ _ (allC_sorted _) ((cands9_sorted _).filter _) fun c => ?_
  rw [List.mem_filter, decide_eq_true_iff]
  refine ⟨fun h => ⟨?_, h⟩, fun h => h.2⟩
  obtain ⟨h1, h2, h3⟩ := (mem_allC hl c).1 h
  rw [hpl] at h1
  refine mem_cands9 ?_ (more_nine hx ht h1 h2 h3)
  rw [hn] at h1
  split at h1 <;> simp_all
theorem more_few {x : WNum} (hx : x.Ok) {t : Nat → Int} (ht : TOk t) : (allC (moreL x t)).length ≤ 500 := by
  rw [more_counts hx ht]
  refine Nat.le_trans (List.length_filter_le _ _) ?_
  cases x.two <;> decide
theorem more_countsR {x : WNum} (hx : x.Ok) {t : Nat → Int} (ht : TOk t) : countsR (moreL x t) = (allC (moreL x t), 0) := by
  unfold countsR
  rw [if_neg (by rw [checkL_of (more_ok hx ht)]; simp), if_neg (by have := more_few hx ht; omega)]
theorem more_mem {x : WNum} (hx : x.Ok) {t : Nat → Int} (ht : TOk t) {c : List Int} (hc : c ∈ allC x.log) : c ∈ allC (moreL x t) ∧ COk (moreL x t) c := by
  obtain ⟨h1, h2, h3, _⟩ := watch_ends hx hc
  have hpl : (moreL x t).ps.length = x.n := more_len x t _
  have hcm : COk (moreL x t) c := ⟨by omega, h2.inb⟩
  exact ⟨(mem_allC (more_ok hx ht) c).2 ⟨by omega, hcm, (more_wd hx ht h1).possible (x.lok hx) (more_ok hx ht) h2 hcm h3⟩, hcm⟩

end Go.Proofs.Ytjgebepeghgmcaa
