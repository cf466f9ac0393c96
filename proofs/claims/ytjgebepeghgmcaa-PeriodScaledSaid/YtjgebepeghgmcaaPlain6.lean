/-
  Plain facts: two pairs that contradict each other prove that counts are not possible; the pairs of the ends do just where they are not.
-/
import Derived.Test.YtjgebepeghgmcaaPlain5
namespace Go.Proofs.Ytjgebepeghgmcaa

/-- Two pairs do not contradict each other. -/
def agree (l : PLog) (cs : List Int) (p q : Nat × Nat) : Prop :=
  cmpR (bel l.ps cs p) (abv l.ps cs q) ≤ 0 ∧ cmpR (bel l.ps cs p) (l.hi, 1) ≤ 0 ∧ 0 ≤ cmpR (abv l.ps cs q) (l.lo, 1)

theorem possible_agree {l : PLog} {cs : List Int} (hl : LOk l) (hc : COk l cs) (h : possible l cs = true) {p q : Nat × Nat} (hp : p.1 < p.2 ∧ p.2 ≤ cs.length) (hq : q.1 < q.2 ∧ q.2 ≤ cs.length) : agree l cs p q := by
  have L := low_is hl hc
  have H := high_is hl hc
  have e1 := L.pair p.1 p.2 hp.1 hp.2
  have e2 := H.pair q.1 q.2 hq.1 hq.2
  have d1 := (bel_small hl hc hp.1 hp.2).2.1
  have d2 := bel_small hl hc hq.1 hq.2
  have d3 : 1 ≤ (abv l.ps cs q).2 := by rw [d2.2.2.2.2.1]; exact d2.2.1
  have a1 := L.pos
  have b1 := H.pos
  have alo := L.lo
  have bhi := H.hi
  have e : (lowEnd l cs).1 * (highEnd l cs).2 ≤ (highEnd l cs).1 * (lowEnd l cs).2 := by
    unfold possible cmpR at h
    have := of_decide_eq_true h
    omega
  have t1 : (bel l.ps cs p).1 * (highEnd l cs).2 ≤ (highEnd l cs).1 * (bel l.ps cs p).2 := cross_trans (by omega) (by omega) (by omega) e1 e
  have t2 : (bel l.ps cs p).1 * (abv l.ps cs q).2 ≤ (abv l.ps cs q).1 * (bel l.ps cs p).2 := cross_trans (by omega) (by omega) (by omega) t1 e2
  have t3 : (bel l.ps cs p).1 * 1 ≤ l.hi * (bel l.ps cs p).2 := cross_trans (by omega) (by omega : 0 < (highEnd l cs).2) (by decide) t1 (by omega)
  have t4 : l.lo * (highEnd l cs).2 ≤ (highEnd l cs).1 * 1 := cross_trans (by decide) (by omega : 0 < (lowEnd l cs).2) (by omega) (by omega) e
  have t5 : l.lo * (abv l.ps cs q).2 ≤ (abv l.ps cs q).1 * 1 := cross_trans (by decide) (by omega : 0 < (highEnd l cs).2) (by omega) t4 e2
  unfold agree cmpR
  dsimp only
  omega

theorem agree_possible {l : PLog} {cs : List Int} (hl : LOk l) (h : agree l cs (lowOf l.ps cs) (highOf l.ps cs)) : possible l cs = true := by
  have := hl.lohi
  unfold agree cmpR at h
  dsimp only at h
  unfold possible lowEnd highEnd cmpR
  apply decide_eq_true
  split
  · dsimp only; omega
  · split <;> split <;> (try dsimp only) <;> omega

theorem verify_pairs {l : PLog} {cs : List Int} (hcd : countedL l cs = 0) {p q : Int × Int} (hp : pairOk p l.ps.length = true) (hq : pairOk q l.ps.length = true) :
    (verifyR l cs p q = 12 ∧ agree l cs (natPair p) (natPair q)) ∨ (verifyR l cs p q = 0 ∧ ¬ agree l cs (natPair p) (natPair q)) := by
  unfold verifyR
  rw [if_neg (by rw [hcd]; simp), if_neg (by rw [hp, hq]; simp)]
  by_cases h : agree l cs (natPair p) (natPair q)
  · left
    refine ⟨?_, h⟩
    unfold agree at h
    rw [if_pos h]
  · right
    refine ⟨?_, h⟩
    unfold agree at h
    rw [if_neg h]

end Go.Proofs.Ytjgebepeghgmcaa
