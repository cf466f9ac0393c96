/-
  All counts, as a plain list.
-/
import Derived.Test.YtjgebepeghgmcaaPer10
namespace Go.Proofs.Ytjgebepeghgmcaa
open Go.RowKit
set_option linter.unusedVariables false

def gapLo (l : PLog) (i : Nat) : Int := los l.ps (i + 1) - his l.ps i
def gapHi (l : PLog) (i : Nat) : Int := his l.ps (i + 1) - los l.ps i
def firstN (l : PLog) (cs : List Int) : Int := max 1 (gapLo l cs.length * (highEnd l cs).2 / (highEnd l cs).1)
def lastN (l : PLog) (cs : List Int) : Int := gapHi l cs.length * (lowEnd l cs).2 / (lowEnd l cs).1
def nsFrom (n last : Int) : List Int := (List.range (last + 1 - n).toNat).map fun j : Nat => n + (j : Int)
def cntAll : Nat → PLog → List Int → List (List Int)
  | 0, _, cs => [cs]
  | k + 1, l, cs => (nsFrom (firstN l cs) (lastN l cs)).flatMap fun n => if possible l (cs ++ [n]) then cntAll k l (cs ++ [n]) else []
/-- What is still to come, from n on. -/
def cntRest (k : Nat) (l : PLog) (cs : List Int) (n : Int) : List (List Int) := (nsFrom n (lastN l cs)).flatMap fun n => if possible l (cs ++ [n]) then cntAll k l (cs ++ [n]) else []

theorem nsFrom_lt {n last : Int} (h : n ≤ last) : nsFrom n last = n :: nsFrom (n + 1) last := by
  unfold nsFrom
  rw [show (last + 1 - n).toNat = (last + 1 - (n + 1)).toNat + 1 by omega, List.range_succ_eq_map, List.map_cons, List.map_map]
  refine List.cons_eq_cons.2 ⟨by simp, List.map_congr_left fun j _ => ?_⟩
  simp only [Function.comp]
  omega
theorem nsFrom_ge {n last : Int} (h : last < n) : nsFrom n last = [] := by
  unfold nsFrom
  rw [show (last + 1 - n).toNat = 0 by omega]
  rfl
theorem cntRest_yes {k : Nat} {l : PLog} {cs : List Int} {n : Int} (h : n ≤ lastN l cs) (hp : possible l (cs ++ [n]) = true) : cntRest k l cs n = cntAll k l (cs ++ [n]) ++ cntRest k l cs (n + 1) := by
  unfold cntRest
  rw [nsFrom_lt h, List.flatMap_cons, if_pos hp]
theorem cntRest_no {k : Nat} {l : PLog} {cs : List Int} {n : Int} (h : n ≤ lastN l cs) (hp : possible l (cs ++ [n]) = false) : cntRest k l cs n = cntRest k l cs (n + 1) := by
  conv => lhs; unfold cntRest
  rw [nsFrom_lt h, List.flatMap_cons, if_neg (by simp [hp])]
  rfl
theorem cntRest_done {k : Nat} {l : PLog} {cs : List Int} {n : Int} (h : lastN l cs < n) : cntRest k l cs n = [] := by
  unfold cntRest
  rw [nsFrom_ge h]
  rfl

theorem low_ge {l : PLog} {cs : List Int} (hl : LOk l) (hcs : COk l cs) : (lowEnd l cs).2 ≤ (lowEnd l cs).1 := by
  have h1 := hl.lo1
  unfold lowEnd
  split
  · exact h1
  · rename_i h
    split
    · rename_i hh
      have a1 := lowOf_mem (ps := l.ps) (cs := cs) (by omega)
      have s1 := bel_small hl hcs a1.1 a1.2
      unfold cmpR at hh
      have : 1 * (bel l.ps cs (lowOf l.ps cs)).2 ≤ l.lo * (bel l.ps cs (lowOf l.ps cs)).2 := Int.mul_le_mul_of_nonneg_right h1 (by omega)
      dsimp only at hh
      omega
    · exact h1
theorem high_ge {l : PLog} {cs : List Int} (hl : LOk l) (hcs : COk l cs) (hp : possible l cs = true) : (highEnd l cs).2 ≤ (highEnd l cs).1 := by
  have h1 := low_ge hl hcs
  have h2 := ends_pos hl hcs
  unfold possible at hp
  simp only [decide_eq_true_eq] at hp
  unfold cmpR at hp
  generalize lowEnd l cs = a at *
  generalize highEnd l cs = b at *
  have h3 : a.2 * b.2 ≤ a.1 * b.2 := Int.mul_le_mul_of_nonneg_right h1 (by omega)
  have h4 : b.2 * a.2 ≤ b.1 * a.2 := by rw [Int.mul_comm b.2 a.2]; omega
  exact Int.le_of_mul_le_mul_right h4 (by omega)
theorem possible_nil {l : PLog} (hl : LOk l) : possible l [] = true := by
  have := hl.lohi
  simp [possible, lowEnd, highEnd, cmpR]
  omega

structure CBound (l : PLog) (cs : List Int) : Prop where
  g1 : 1 ≤ gapLo l cs.length
  g2 : gapLo l cs.length ≤ 1000000
  g3 : 1 ≤ gapHi l cs.length
  g4 : gapHi l cs.length ≤ 1000000
  f1 : 1 ≤ firstN l cs
  f2 : firstN l cs ≤ 1000000
  l2 : lastN l cs ≤ 1000000
  q1 : 0 ≤ gapLo l cs.length * (highEnd l cs).2
  q2 : 0 ≤ gapLo l cs.length * (highEnd l cs).2 / (highEnd l cs).1
  q3 : gapLo l cs.length * (highEnd l cs).2 / (highEnd l cs).1 ≤ 1000000

theorem div_le_of_le {g p q : Int} (hg : 0 ≤ g) (hq : 1 ≤ q) (h : p ≤ q) (hp : 0 ≤ p) : g * p / q ≤ g := by
  have h1 : g * p ≤ g * q := Int.mul_le_mul_of_nonneg_left h hg
  have : g * p / q ≤ g * q / q := Int.ediv_le_ediv (by omega) h1
  rwa [Int.mul_ediv_cancel _ (by omega)] at this

theorem cbound {l : PLog} {cs : List Int} (hl : LOk l) (hcs : COk l cs) (hp : possible l cs = true) (hlen : cs.length + 1 < l.ps.length) : CBound l cs := by
  have h1 := hl.inb cs.length (by omega)
  have h2 := hl.inb (cs.length + 1) (by omega)
  have h3 := hl.inc cs.length hlen
  have e := ends_pos hl hcs
  have q0 := low_ge hl hcs
  have q1 := high_ge hl hcs hp
  have g1 : 1 ≤ gapLo l cs.length := by unfold gapLo; omega
  have g2 : gapLo l cs.length ≤ 1000000 := by unfold gapLo; omega
  have g3 : 1 ≤ gapHi l cs.length := by unfold gapHi; omega
  have g4 : gapHi l cs.length ≤ 1000000 := by unfold gapHi; omega
  have r1 : 0 ≤ gapLo l cs.length * (highEnd l cs).2 := Int.mul_nonneg (by omega) (by omega)
  have r2 : 0 ≤ gapLo l cs.length * (highEnd l cs).2 / (highEnd l cs).1 := Int.ediv_nonneg r1 (by omega)
  have r3 := div_le_of_le (g := gapLo l cs.length) (p := (highEnd l cs).2) (q := (highEnd l cs).1) (by omega) (by omega) q1 (by omega)
  have r4 := div_le_of_le (g := gapHi l cs.length) (p := (lowEnd l cs).2) (q := (lowEnd l cs).1) (by omega) (by omega) q0 (by omega)
  refine ⟨g1, g2, g3, g4, ?_, ?_, ?_, r1, r2, by omega⟩
  · unfold firstN; omega
  · unfold firstN; omega
  · unfold lastN; omega

theorem le_lastN {l : PLog} {cs : List Int} (hl : LOk l) (hcs : COk l cs) (n : Int) : n * (lowEnd l cs).1 ≤ gapHi l cs.length * (lowEnd l cs).2 ↔ n ≤ lastN l cs := by
  have e := ends_pos hl hcs
  unfold lastN
  exact (Int.le_ediv_iff_mul_le (by omega)).symm

theorem cok_snoc {l : PLog} {cs : List Int} (hcs : COk l cs) {n : Int} (h1 : 1 ≤ n) (h2 : n ≤ 1000000) (hlen : cs.length + 1 < l.ps.length) : COk l (cs ++ [n]) :=
  ⟨by simp; omega, fun x hx => by
    rcases List.mem_append.1 hx with h | h
    · exact hcs.inb x h
    · simp at h; omega⟩

end Go.Proofs.Ytjgebepeghgmcaa
