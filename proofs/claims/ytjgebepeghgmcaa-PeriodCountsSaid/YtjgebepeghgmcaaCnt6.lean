/-
  The chapter's reference: the walk through all counts.
-/
import Derived.Test.YtjgebepeghgmcaaCnt5
import Derived.Test.YtjgebepeghgmcaaPer15
namespace Go.Proofs.Ytjgebepeghgmcaa
open Go.RowKit Go.Shelf
set_option linter.unusedVariables false
set_option linter.unusedSimpArgs false

/-- A slice of slices of integers, of which each lies in a block of its own from B on. -/
def Rows3 (B : Nat) (w : World) (v : Value) (xs : List (List Int)) : Prop :=
  ∃ ps : List ((Nat × Nat) × List Int), ps.map (·.2) = xs ∧ (∃ a cap, v = .slice a xs.length cap ∧ xs.length ≤ cap ∧ Row w w.heap.size a (ps.map slv)) ∧
    ∀ p ∈ ps, p.2.length ≤ p.1.2 ∧ B ≤ p.1.1 ∧ p.1.1 < w.heap.size ∧ Row w w.heap.size (some ⟨p.1.1, 0, none⟩) (ints p.2)

theorem row_of_own {w : World} {base : Nat} {e : TypeId} {g n cap : Nat} {xs : List Value} (h : w.ownsRow base e 1 (.slice (some ⟨g, 0, none⟩) n cap) n xs) : n ≤ cap ∧ g < w.heap.size ∧ Row w w.heap.size (some ⟨g, 0, none⟩) xs := by
  rcases h.2 with ⟨hv, h0⟩ | ⟨g', cp, cur, hv, hb, hc, hle, _, _, htk⟩
  · cases hv
  · injection hv with hv1 hv2 hv3
    injection hv1 with hv1
    injection hv1 with hv1
    subst hv1 hv3
    have hlt := (Array.getElem?_eq_some_iff.1 hc).1
    exact ⟨hle, hlt, (row_of_heap hc (by rw [h.1]; exact htk)).mono hlt⟩
theorem row_new (w : World) (vs : List Value) (t : TypeId) : Row (w.alloc (.cells vs.toArray t)) (w.alloc (.cells vs.toArray t)).heap.size (some ⟨w.heap.size, 0, none⟩) vs := by
  have := row_of_heap (w := w.alloc (.cells vs.toArray t)) (g := w.heap.size) (cur := vs.toArray) (t := t) (fz := (0, 0)) (vs := vs) (heap_alloc_new w _) (by simp)
  simpa using this

set_option maxRecDepth 100000 in
set_option maxHeartbeats 4000000 in
theorem refall_leaf (l : PLog) (cs : List Int) (a ca : Option Addr) (n cap m ccap : Nat) (w : World) (hm : m = cs.length) (hmc : m ≤ ccap) (hlen : m + 1 = n) (hm1 : 1 ≤ m) (hn8 : n ≤ 8)
    (hc : Row w w.heap.size ca (ints cs)) :
    Calls Try.prog 40 #[.agg #[.int .i64 l.lo, .int .i64 l.hi, .slice a n cap], .slice ca m ccap] w fun e w' =>
      ∃ v, e = .returned v ∧ Rows3 w.heap.size w' v [cs] ∧ Below w.heap.size w w' := by
  have HM := hide hm
  have hm8 : m ≤ 8 := by omega
  have hn1 : ((m : Int) == (n : Int) - 1) = true := by simp; omega
  obtain ⟨cb, coff, rfl, hcb, hcr⟩ := id hc |>.resolve_left (by intro h; have := congrArg List.length h; simp [ints] at this; rw [this] at hm; simp at hm; omega)
  obtain ⟨i0, hi, hz0, hz1, hz2⟩ := info_int
  have HI := hide hi
  have HC := hide hc
  clear hm hlen hi hcr hc
  go_enter Try.func40, Try.ntmps40
  go_wp2_with (
    at_builtin
    refine wpList_append_lies _ rfl (.tmp 22) (.tmp 23) 42 rfl (w.heap.size + 1) 3 i0 (.int .i64 0) 1 8 under_ints HI.out hz0 hz1 hz2 rfl (by decide) (.slice (some ⟨w.heap.size + 1, 0, none⟩) 0 0) 0 [] rfl
      (by simpa using World.ownsRow_lit (base := w.heap.size + 1) (e := 3) (size := 1) (w.alloc (.cells #[.int .i64 l.lo, .int .i64 l.hi, .slice a n cap] 28)) #[] 0 (by simp) (by decide) rfl)
      ⟨cb, coff, none⟩ m ccap (ints cs) rfl (by simp [ints]; exact HM.out.symm) (row_reads (HC.out.below (((Below.refl w.heap.size w).alloc (Nat.le_refl _) _).alloc (by simp) _) (Nat.le_refl _)))
      (by intro u hu; simp [ints] at hu; obtain ⟨y, _, rfl⟩ := hu; rfl) (by omega) (by unfold maxLen; omega) (by omega) (by simp) (w.heap.size + 1 + 1) (by simp) ?_
    intro g2 cap2 W4 ow4 gr4 at4 lt4)
  have r4 := row_of_own ow4
  have l4 := (ow4.lt g2 rfl).1
  have hB4 : Below w.heap.size w W4 := (((Below.refl w.heap.size w).alloc (Nat.le_refl _) _).alloc (by simp) _).trans (Grow.of_grownBy gr4 (fun k e => by simp [Value.ownBlock] at e; omega) (by simp; omega))
  have hcm := HM.out
  rw [List.nil_append, Nat.zero_add] at r4
  refine bodyPost_ret (v := .slice (some ⟨W4.heap.size, 0, none⟩) 1 1) (by simp [results, Try.results40, go_sem]) rfl ⟨_, rfl, ⟨[((g2, cap2), cs)], rfl, ⟨_, _, rfl, Nat.le_refl _, ?_⟩, fun p hp => ?_⟩, hB4.alloc hB4.size _⟩
  · have e : ([((g2, cap2), cs)] : List ((Nat × Nat) × List Int)).map slv = [.slice (some ⟨g2, 0, none⟩) m cap2] := by simp [slv, hcm]
    rw [e]
    exact row_new W4 [.slice (some ⟨g2, 0, none⟩) m cap2] 42
  · obtain rfl : p = ((g2, cap2), cs) := by simpa using hp
    exact ⟨by rw [← hcm]; exact r4.1, by show w.heap.size ≤ g2; omega, by show g2 < _; simp; omega, ((r4.2.2).below ((Below.refl _ _).alloc (Nat.le_refl _) _) (Nat.le_refl _)).mono (by simp)⟩

/-- The numbers of a round of the reference. -/
structure NumR (l : PLog) (cs : List Int) (m : Nat) (lm hm ln hn a1 a2 h1 h2 : Int) : Prop where
  e1 : los l.ps m = lm
  e2 : his l.ps m = hm
  e3 : los l.ps (m + 1) = ln
  e4 : his l.ps (m + 1) = hn
  e5 : rLo l cs = (a1, a2)
  e6 : rHi l cs = (h1, h2)
  f : firstN l cs = max 1 ((ln - hm) * h2 / h1)
  la : ∀ n, n * a1 ≤ (hn - lm) * a2 ↔ n ≤ lastN l cs
  f1 : 1 ≤ firstN l cs
  f2 : firstN l cs ≤ 1000000
  l2 : lastN l cs ≤ 1000000
  b : (0 ≤ lm ∧ lm ≤ 1000000 ∧ 0 ≤ hm ∧ hm ≤ 1000000 ∧ 0 ≤ ln ∧ ln ≤ 1000000 ∧ 0 ≤ hn ∧ hn ≤ 1000000) ∧ (1 ≤ ln - hm ∧ 1 ≤ hn - lm) ∧ (-2000000 ≤ a1 ∧ a1 ≤ 2000000 ∧ 1 ≤ a2 ∧ a2 ≤ 8000000 ∧ 1 ≤ h1 ∧ h1 ≤ 2000000 ∧ 1 ≤ h2 ∧ h2 ≤ 8000000)
  p : (0 ≤ (ln - hm) * h2 ∧ (ln - hm) * h2 ≤ 8000000000000) ∧ (0 ≤ (ln - hm) * h2 / h1 ∧ (ln - hm) * h2 / h1 ≤ 1000000) ∧ (0 ≤ (hn - lm) * a2 ∧ (hn - lm) * a2 ≤ 8000000000000)

theorem numR {l : PLog} {cs : List Int} {m : Nat} (hl : LOk l) (hcs : COk l cs) (hpo : possible l cs = true) (hlen : cs.length + 1 < l.ps.length) (hm : m = cs.length) : ∃ lm hm ln hn a1 a2 h1 h2, NumR l cs m lm hm ln hn a1 a2 h1 h2 := by
  subst hm
  have hcb := cbound hl hcs hpo hlen
  have sl := rLo_small hl hcs
  have sh := rHi_small hl hcs
  have i1 := hl.inb cs.length (by omega)
  have i2 := hl.inb (cs.length + 1) (by omega)
  have hla := fun n => last_ref hl hcs n
  have hf := first_ref hl hcs
  obtain ⟨g1, g2, g3, g4, f1, f2, l2, -, -, -⟩ := hcb
  unfold gapLo gapHi at *
  unfold Small at sl sh
  have q1 : 0 ≤ (los l.ps (cs.length + 1) - his l.ps cs.length) * (rHi l cs).2 := Int.mul_nonneg (by omega) (by omega)
  have q2 : (los l.ps (cs.length + 1) - his l.ps cs.length) * (rHi l cs).2 ≤ 1000000 * 8000000 := Int.mul_le_mul g2 (by omega) (by omega) (by omega)
  have q3 : 0 ≤ (his l.ps (cs.length + 1) - los l.ps cs.length) * (rLo l cs).2 := Int.mul_nonneg (by omega) (by omega)
  have q4 : (his l.ps (cs.length + 1) - los l.ps cs.length) * (rLo l cs).2 ≤ 1000000 * 8000000 := Int.mul_le_mul g4 (by omega) (by omega) (by omega)
  have q5 : 0 ≤ (los l.ps (cs.length + 1) - his l.ps cs.length) * (rHi l cs).2 / (rHi l cs).1 := Int.ediv_nonneg q1 (by omega)
  exact ⟨los l.ps cs.length, his l.ps cs.length, los l.ps (cs.length + 1), his l.ps (cs.length + 1), (rLo l cs).1, (rLo l cs).2, (rHi l cs).1, (rHi l cs).2, rfl, rfl, rfl, rfl, rfl, rfl, hf.symm, hla, f1, f2, l2, by omega, ⟨⟨q1, by omega⟩, ⟨q5, by omega⟩, q3, by omega⟩⟩

end Go.Proofs.Ytjgebepeghgmcaa
