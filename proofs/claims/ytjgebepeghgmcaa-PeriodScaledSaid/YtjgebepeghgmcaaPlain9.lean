/-
  Plain facts: where all differences of times and both ends of the period are multiplied by the same number, the same counts are possible, with multiplied ends.
-/
import Derived.Test.YtjgebepeghgmcaaPlain8
namespace Go.Proofs.Ytjgebepeghgmcaa
set_option linter.unusedVariables false
set_option linter.unusedSimpArgs false

theorem foldl_pick_congr {α : Type} {bt bt' : α → α → Bool} (S : α → Prop) (h : ∀ x y, S x → S y → bt x y = bt' x y) : ∀ (xs : List α) (o : Option α), (∀ x ∈ xs, S x) → (∀ x, o = some x → S x) → xs.foldl (pick bt) o = xs.foldl (pick bt') o
  | [], _, _, _ => rfl
  | x :: xs, o, h1, h2 => by
    have hx := h1 x List.mem_cons_self
    have e : pick bt o x = pick bt' o x := by
      cases o with
      | none => rfl
      | some b => simp only [pick]; rw [h x b hx (h2 b rfl)]
    rw [List.foldl_cons, List.foldl_cons, e]
    refine foldl_pick_congr S h xs _ (fun y hy => h1 y (List.mem_cons_of_mem _ hy)) fun y hy => ?_
    rcases pick_mem bt' o x y hy with rfl | hy
    · exact hx
    · exact h2 y hy
theorem firstBy_congr {α : Type} {bt bt' : α → α → Bool} (S : α → Prop) (h : ∀ x y, S x → S y → bt x y = bt' x y) (xs : List α) (h1 : ∀ x ∈ xs, S x) : firstBy bt xs = firstBy bt' xs :=
  foldl_pick_congr S h xs none h1 fun x hx => (by cases hx)

/-- All differences, and both ends of the period, are n times as great. -/
structure Sc (n : Int) (l l' : PLog) : Prop where
  n1 : 1 ≤ n
  lo : l'.lo = n * l.lo
  hi : l'.hi = n * l.hi
  len : l'.ps.length = l.ps.length
  dif : ∀ i k, i < k → k < l.ps.length → los l'.ps k - his l'.ps i = n * (los l.ps k - his l.ps i) ∧ his l'.ps k - los l'.ps i = n * (his l.ps k - los l.ps i)

theorem cmp_scaled (n : Int) (r o : Int × Int) : cmpR (n * r.1, r.2) (n * o.1, o.2) = n * cmpR r o := by
  unfold cmpR
  dsimp only
  rw [Int.mul_sub, Int.mul_assoc, Int.mul_assoc]
theorem pos_scaled {n x : Int} (hn : 1 ≤ n) : (0 < n * x ↔ 0 < x) ∧ (n * x < 0 ↔ x < 0) ∧ (n * x ≤ 0 ↔ x ≤ 0) := by
  have h : 0 < n := by omega
  refine ⟨⟨fun g => ?_, fun g => Int.mul_pos h g⟩, ⟨fun g => ?_, fun g => Int.mul_neg_of_pos_of_neg h g⟩, ⟨fun g => ?_, fun g => Int.mul_nonpos_of_nonneg_of_nonpos (by omega) g⟩⟩
  · by_cases hx : 0 < x
    · exact hx
    · have := Int.mul_nonpos_of_nonneg_of_nonpos (by omega : 0 ≤ n) (by omega : x ≤ 0); omega
  · by_cases hx : x < 0
    · exact hx
    · have := Int.mul_nonneg (by omega : 0 ≤ n) (by omega : 0 ≤ x); omega
  · by_cases hx : x ≤ 0
    · exact hx
    · have := Int.mul_pos h (by omega : 0 < x); omega

theorem Sc.bel {n : Int} {l l' : PLog} (h : Sc n l l') (cs : List Int) {p : Nat × Nat} (h1 : p.1 < p.2) (h2 : p.2 < l.ps.length) :
    Go.Proofs.Ytjgebepeghgmcaa.bel l'.ps cs p = (n * (Go.Proofs.Ytjgebepeghgmcaa.bel l.ps cs p).1, (Go.Proofs.Ytjgebepeghgmcaa.bel l.ps cs p).2) ∧ abv l'.ps cs p = (n * (abv l.ps cs p).1, (abv l.ps cs p).2) := by
  obtain ⟨e1, e2⟩ := h.dif p.1 p.2 h1 h2
  unfold Go.Proofs.Ytjgebepeghgmcaa.bel abv
  rw [e1, e2]
  exact ⟨rfl, rfl⟩
theorem Sc.picks {n : Int} {l l' : PLog} (h : Sc n l l') {cs : List Int} (hlen : cs.length + 1 ≤ l.ps.length) : lowOf l'.ps cs = lowOf l.ps cs ∧ highOf l'.ps cs = highOf l.ps cs := by
  have hm : ∀ p ∈ pairsOf (cs.length + 1), p.1 < p.2 ∧ p.2 < l.ps.length := fun p hp => by
    have := mem_pairsOf.1 hp
    omega
  have n1 := h.n1
  constructor
  · unfold lowOf
    rw [firstBy_congr (bt := lowBetter l'.ps cs) (bt' := lowBetter l.ps cs) (fun p => p.1 < p.2 ∧ p.2 < l.ps.length) (fun x y hx hy => ?_) _ hm]
    unfold lowBetter
    rw [(h.bel cs hx.1 hx.2).1, (h.bel cs hy.1 hy.2).1, cmp_scaled]
    exact decide_eq_decide.2 (pos_scaled n1).1
  · unfold highOf
    rw [firstBy_congr (bt := highBetter l'.ps cs) (bt' := highBetter l.ps cs) (fun p => p.1 < p.2 ∧ p.2 < l.ps.length) (fun x y hx hy => ?_) _ hm]
    unfold highBetter
    rw [(h.bel cs hx.1 hx.2).2, (h.bel cs hy.1 hy.2).2, cmp_scaled]
    exact decide_eq_decide.2 (pos_scaled n1).2.1
theorem Sc.ends {n : Int} {l l' : PLog} (h : Sc n l l') {cs : List Int} (hlen : cs.length + 1 ≤ l.ps.length) :
    lowEnd l' cs = (n * (lowEnd l cs).1, (lowEnd l cs).2) ∧ highEnd l' cs = (n * (highEnd l cs).1, (highEnd l cs).2) := by
  obtain ⟨e1, e2⟩ := h.picks hlen
  have n1 := h.n1
  by_cases h0 : cs.length = 0
  · unfold lowEnd highEnd
    rw [if_pos h0, if_pos h0, if_pos h0, if_pos h0, h.lo, h.hi]
    exact ⟨rfl, rfl⟩
  · have a1 := lowOf_mem (ps := l.ps) (cs := cs) (by omega)
    have a2 := highOf_mem (ps := l.ps) (cs := cs) (by omega)
    have b1 := (h.bel cs a1.1 (by omega)).1
    have b2 := (h.bel cs a2.1 (by omega)).2
    unfold lowEnd highEnd
    rw [if_neg h0, if_neg h0, if_neg h0, if_neg h0, e1, e2, b1, b2, h.lo, h.hi]
    have c1 := cmp_scaled n (Go.Proofs.Ytjgebepeghgmcaa.bel l.ps cs (lowOf l.ps cs)) (l.lo, 1)
    have c2 := cmp_scaled n (abv l.ps cs (highOf l.ps cs)) (l.hi, 1)
    dsimp only at c1 c2
    rw [c1, c2]
    constructor
    · by_cases hh : 0 < cmpR (Go.Proofs.Ytjgebepeghgmcaa.bel l.ps cs (lowOf l.ps cs)) (l.lo, 1)
      · rw [if_pos ((pos_scaled n1).1.2 hh), if_pos hh]
      · rw [if_neg (fun g => hh ((pos_scaled n1).1.1 g)), if_neg hh]
    · by_cases hh : cmpR (abv l.ps cs (highOf l.ps cs)) (l.hi, 1) < 0
      · rw [if_pos ((pos_scaled n1).2.1.2 hh), if_pos hh]
      · rw [if_neg (fun g => hh ((pos_scaled n1).2.1.1 g)), if_neg hh]
theorem Sc.possible {n : Int} {l l' : PLog} (h : Sc n l l') {cs : List Int} (hlen : cs.length + 1 ≤ l.ps.length) : Go.Proofs.Ytjgebepeghgmcaa.possible l' cs = Go.Proofs.Ytjgebepeghgmcaa.possible l cs := by
  obtain ⟨e1, e2⟩ := h.ends hlen
  unfold Go.Proofs.Ytjgebepeghgmcaa.possible
  rw [e1, e2, cmp_scaled]
  exact decide_eq_decide.2 (pos_scaled h.n1).2.2
theorem Sc.cok {n : Int} {l l' : PLog} (h : Sc n l l') {cs : List Int} : COk l' cs ↔ COk l cs :=
  ⟨fun c => ⟨by rw [← h.len]; exact c.len, c.inb⟩, fun c => ⟨by rw [h.len]; exact c.len, c.inb⟩⟩
theorem Sc.allC {n : Int} {l l' : PLog} (h : Sc n l l') (hl : LOk l) (hl' : LOk l') : Go.Proofs.Ytjgebepeghgmcaa.allC l' = Go.Proofs.Ytjgebepeghgmcaa.allC l := by
  refine sorted_ext lexlt_irrefl lexlt_trans _ _ (allC_sorted _) (allC_sorted _) fun c => ?_
  rw [mem_allC hl, mem_allC hl', h.cok, h.len]
  constructor
  · rintro ⟨h1, h2, h3⟩
    exact ⟨h1, h2, by rw [← h.possible (by omega)]; exact h3⟩
  · rintro ⟨h1, h2, h3⟩
    exact ⟨h1, h2, by rw [h.possible (by omega)]; exact h3⟩

/-- Reduced forms of a multiplied fraction. -/
theorem red_is {r : Int × Int} (h2 : 1 ≤ r.2) (h1 : 0 ≤ r.1) : ∃ g, 1 ≤ g ∧ g * (redR r).1 = r.1 ∧ g * (redR r).2 = r.2 ∧ 1 ≤ (redR r).2 ∧ (redR r).2 ≤ r.2 ∧ 0 ≤ (redR r).1 ∧ (redR r).1 ≤ r.1 := by
  have hg : 0 < gcdI r.1 r.2 := by
    unfold gcdI
    have : 0 < Int.gcd r.1 r.2 := Int.gcd_pos_of_ne_zero_right _ (by omega)
    omega
  have e1 : gcdI r.1 r.2 * (redR r).1 = r.1 := Int.mul_ediv_cancel' (Int.gcd_dvd_left ..)
  have e2 : gcdI r.1 r.2 * (redR r).2 = r.2 := Int.mul_ediv_cancel' (Int.gcd_dvd_right ..)
  generalize gcdI r.1 r.2 = g at *
  generalize (redR r).1 = a at *
  generalize (redR r).2 = b at *
  have hb : 1 ≤ b := by
    by_cases h : 1 ≤ b
    · exact h
    · have : g * b ≤ g * 0 := Int.mul_le_mul_of_nonneg_left (by omega) (by omega)
      omega
  have ha : 0 ≤ a := by
    by_cases h : 0 ≤ a
    · exact h
    · have : g * a ≤ g * (-1) := Int.mul_le_mul_of_nonneg_left (by omega) (by omega)
      omega
  have hb6 : 1 * b ≤ g * b := Int.mul_le_mul_of_nonneg_right (by omega) (by omega)
  have ha6 : 1 * a ≤ g * a := Int.mul_le_mul_of_nonneg_right (by omega) (by omega)
  exact ⟨g, by omega, e1, e2, hb, by omega, ha, by omega⟩
theorem red_scaled {n : Int} {r : Int × Int} (hn : 1 ≤ n) (h2 : 1 ≤ r.2) (h1 : 0 ≤ r.1) : (redR (n * r.1, r.2)).1 * (redR r).2 = n * (redR r).1 * (redR (n * r.1, r.2)).2 := by
  obtain ⟨g, hg, e1, e2, _⟩ := red_is h2 h1
  obtain ⟨k, hk, f1, f2, _⟩ := red_is (r := (n * r.1, r.2)) h2 (Int.mul_nonneg (by omega) h1)
  dsimp only at f1 f2
  generalize redR r = p at *
  generalize redR (n * r.1, r.2) = q at *
  obtain ⟨p1, p2⟩ := p
  obtain ⟨q1, q2⟩ := q
  dsimp only at *
  have : (g * k) * (q1 * p2) = (g * k) * (n * p1 * q2) := by
    have a1 : (g * k) * (q1 * p2) = (k * q1) * (g * p2) := by grind
    have a2 : (g * k) * (n * p1 * q2) = n * (g * p1) * (k * q2) := by grind
    rw [a1, a2, f1, e2, e1, f2]
  exact Int.eq_of_mul_eq_mul_left (by have := Int.mul_pos (by omega : 0 < g) (by omega : 0 < k); omega) this

/-! ### the two logs of PeriodScaled -/
def scaleP (n : Int) (p : Int × Int) : Int × Int := (n * p.1, n * p.2)
def shiftP (d : Int) (p : Int × Int) : Int × Int := (p.1 + d, p.2 + d)
def scaleL (n : Int) (l : PLog) : PLog := ⟨n * l.lo, n * l.hi, l.ps.map (scaleP n)⟩
def shiftL (d : Int) (l : PLog) : PLog := ⟨l.lo, l.hi, l.ps.map (shiftP d)⟩
theorem los_map (f : Int × Int → Int × Int) (ps : List (Int × Int)) (k : Nat) (hk : k < ps.length) : los (ps.map f) k = (f (los ps k, his ps k)).1 ∧ his (ps.map f) k = (f (los ps k, his ps k)).2 := by
  unfold los his
  simp [List.getD, hk]
theorem scale_sc {n : Int} (hn : 1 ≤ n) (l : PLog) : Sc n l (scaleL n l) := by
  refine ⟨hn, rfl, rfl, by simp [scaleL], fun i k hik hk => ?_⟩
  obtain ⟨a1, a2⟩ := los_map (scaleP n) l.ps i (by omega)
  obtain ⟨b1, b2⟩ := los_map (scaleP n) l.ps k hk
  unfold scaleL
  dsimp only
  rw [a1, a2, b1, b2]
  unfold scaleP
  dsimp only
  rw [Int.mul_sub, Int.mul_sub]
  exact ⟨rfl, rfl⟩
theorem shift_sc (d : Int) (l : PLog) : Sc 1 l (shiftL d l) := by
  refine ⟨by omega, by simp [shiftL], by simp [shiftL], by simp [shiftL], fun i k hik hk => ?_⟩
  obtain ⟨a1, a2⟩ := los_map (shiftP d) l.ps i (by omega)
  obtain ⟨b1, b2⟩ := los_map (shiftP d) l.ps k hk
  unfold shiftL
  dsimp only
  rw [a1, a2, b1, b2]
  unfold shiftP
  dsimp only
  omega
theorem WNum.small {x : WNum} (hx : x.Ok) {i : Nat} (hi : i < x.n) : 0 ≤ los x.log.ps i ∧ los x.log.ps i ≤ his x.log.ps i ∧ his x.log.ps i ≤ 20 := by
  obtain ⟨e1, e2⟩ := x.los_ps hi
  have hn := x.n_is
  have := x.span_bound hx i (by omega)
  show 0 ≤ los (x.ps x.n) i ∧ los (x.ps x.n) i ≤ his (x.ps x.n) i ∧ his (x.ps x.n) i ≤ 20
  rw [e1, e2]
  omega
theorem scale_ok {x : WNum} (hx : x.Ok) {n : Int} (hn : 1 ≤ n) (hn4 : n ≤ 40) : LOk (scaleL n x.log) := by
  have hl := x.lok hx
  have hlh := x.lo_hi hx
  have hpl : x.log.ps.length = x.n := x.ps_len _
  have h1 : n * x.lo ≤ n * x.hi := Int.mul_le_mul_of_nonneg_left hlh.2.1 (by omega)
  have h2 : n * x.hi ≤ 40 * 8 := Int.mul_le_mul hn4 hlh.2.2 (by omega) (by omega)
  have h3 : 1 * 3 ≤ n * x.lo := Int.mul_le_mul hn hlh.1 (by omega) (by omega)
  refine ⟨by show 1 ≤ n * x.lo; omega, h1, by show n * x.hi ≤ 10000; omega, by simpa [scaleL] using hl.len2, by simpa [scaleL] using hl.len8, fun i hi => ?_, fun i hi => ?_⟩
  · have hi' : i < x.log.ps.length := by simpa [scaleL] using hi
    obtain ⟨a1, a2⟩ := los_map (scaleP n) x.log.ps i hi'
    have hs := x.small hx (by rw [← hpl]; exact hi')
    show 0 ≤ los (x.log.ps.map (scaleP n)) i ∧ los (x.log.ps.map (scaleP n)) i ≤ his (x.log.ps.map (scaleP n)) i ∧ his (x.log.ps.map (scaleP n)) i ≤ 1000000
    rw [a1, a2]
    unfold scaleP
    dsimp only
    have g1 : n * los x.log.ps i ≤ n * his x.log.ps i := Int.mul_le_mul_of_nonneg_left hs.2.1 (by omega)
    have g2 : n * his x.log.ps i ≤ 40 * 20 := Int.mul_le_mul hn4 hs.2.2 (by omega) (by omega)
    have g3 : 0 ≤ n * los x.log.ps i := Int.mul_nonneg (by omega) hs.1
    omega
  · have hi' : i + 1 < x.log.ps.length := by simpa [scaleL] using hi
    obtain ⟨_, a2⟩ := los_map (scaleP n) x.log.ps i (by omega)
    obtain ⟨b1, _⟩ := los_map (scaleP n) x.log.ps (i + 1) hi'
    show his (x.log.ps.map (scaleP n)) i < los (x.log.ps.map (scaleP n)) (i + 1)
    rw [a2, b1]
    exact Int.mul_lt_mul_of_pos_left (hl.inc i hi') (by omega)
theorem shift_ok {x : WNum} (hx : x.Ok) {d : Int} (hd : 0 ≤ d) (hd4 : d ≤ 255) : LOk (shiftL d x.log) := by
  have hl := x.lok hx
  have hpl : x.log.ps.length = x.n := x.ps_len _
  refine ⟨hl.lo1, hl.lohi, hl.hi1, by simpa [shiftL] using hl.len2, by simpa [shiftL] using hl.len8, fun i hi => ?_, fun i hi => ?_⟩
  · have hi' : i < x.log.ps.length := by simpa [shiftL] using hi
    obtain ⟨a1, a2⟩ := los_map (shiftP d) x.log.ps i hi'
    have hs := x.small hx (by rw [← hpl]; exact hi')
    show 0 ≤ los (x.log.ps.map (shiftP d)) i ∧ los (x.log.ps.map (shiftP d)) i ≤ his (x.log.ps.map (shiftP d)) i ∧ his (x.log.ps.map (shiftP d)) i ≤ 1000000
    rw [a1, a2]
    unfold shiftP
    dsimp only
    omega
  · have hi' : i + 1 < x.log.ps.length := by simpa [shiftL] using hi
    obtain ⟨_, a2⟩ := los_map (shiftP d) x.log.ps i (by omega)
    obtain ⟨b1, _⟩ := los_map (shiftP d) x.log.ps (i + 1) hi'
    show his (x.log.ps.map (shiftP d)) i < los (x.log.ps.map (shiftP d)) (i + 1)
    rw [a2, b1]
    have := hl.inc i hi'
    unfold shiftP
    dsimp only
    omega

end Go.Proofs.Ytjgebepeghgmcaa
