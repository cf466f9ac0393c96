/-
  Package period: Period, Bounds, Verify.
-/
import Derived.Test.YtjgebepeghgmcaaPer8
namespace Go.Proofs.Ytjgebepeghgmcaa
open Go.RowKit Go.Shelf
set_option linter.unusedVariables false
set_option linter.unusedSimpArgs false

theorem cok_of_counted {l : PLog} {cs : List Int} (h : countedL l cs = 0) : LOk l ∧ COk l cs ∧ cs.length + 1 = l.ps.length := by
  unfold countedL at h
  split at h
  · rename_i h1; exact absurd h h1
  · rename_i h1
    split at h
    · cases h
    · rename_i h2
      split at h
      · cases h
      · rename_i h3
        have hl := lok_of_check (Decidable.not_not.1 h1)
        have := hl.len2
        refine ⟨hl, ⟨by omega, fun x hx => ?_⟩, by omega⟩
        by_cases hxx : 1 ≤ x ∧ x ≤ 1000000
        · exact hxx
        · exact absurd (List.any_eq_true.2 ⟨x, hx, by simp; omega⟩) h3

theorem ends_pos {l : PLog} {cs : List Int} (hl : LOk l) (hcs : COk l cs) : 1 ≤ (lowEnd l cs).1 ∧ 1 ≤ (lowEnd l cs).2 ∧ 1 ≤ (highEnd l cs).1 ∧ 1 ≤ (highEnd l cs).2 := by
  have h1 := hl.lo1
  have h2 := hl.lohi
  have h3 := hl.hi1
  by_cases h : cs.length = 0
  · unfold lowEnd highEnd
    rw [if_pos h, if_pos h]
    dsimp only
    omega
  · have a1 := lowOf_mem (ps := l.ps) (cs := cs) (by omega)
    have a2 := highOf_mem (ps := l.ps) (cs := cs) (by omega)
    have s1 := bel_small hl hcs a1.1 a1.2
    have s2 := bel_small hl hcs a2.1 a2.2
    unfold lowEnd highEnd
    rw [if_neg h, if_neg h]
    refine ⟨?_, ?_, ?_, ?_⟩
    · split
      · rename_i hh
        unfold cmpR at hh
        have : 1 * 1 ≤ l.lo * (bel l.ps cs (lowOf l.ps cs)).2 := Int.mul_le_mul h1 s1.2.1 (by omega) (by omega)
        dsimp only at hh
        omega
      · exact h1
    · split
      · exact s1.2.1
      · dsimp only; omega
    · split
      · exact s2.2.2.2.2.2
      · dsimp only; omega
    · split
      · have := s2.2.2.2.2.1; omega
      · dsimp only; omega

/-- What Period returns. -/
def periodR (l : PLog) (cs : List Int) : (Int × Int) × (Int × Int) × Int :=
  if countedL l cs ≠ 0 then ((0, 0), (0, 0), countedL l cs) else if possible l cs then (redR (lowEnd l cs), redR (highEnd l cs), 0) else ((0, 0), (0, 0), 13)

attribute [local go_sem] calm calmAt calmUpon in
set_option maxRecDepth 100000 in
set_option maxHeartbeats 4000000 in
theorem periodF_any (l : PLog) (cs : List Int) (a ca : Option Addr) (n cap m ccap : Nat) (w : World) (hn : n = l.ps.length) (hm : m = cs.length) (hn1 : n ≤ 1000000000) (hm1 : m ≤ 1000000000) (hmc : m ≤ ccap)
    (hp : Row w w.heap.size a (spans l.ps)) (hc : Row w w.heap.size ca (ints cs)) :
    Calls Try.prog 29 #[.agg #[.int .i64 l.lo, .int .i64 l.hi, .slice a n cap], .slice ca m ccap] w fun e w' =>
      e = .returned (.tuple #[.agg #[.int .i64 (periodR l cs).1.1, .int .i64 (periodR l cs).1.2], .agg #[.int .i64 (periodR l cs).2.1.1, .int .i64 (periodR l cs).2.1.2], .int .i64 (periodR l cs).2.2]) ∧ Below w.heap.size w w' := by
  have HCD := hide (fun (W : World) (hp : Row W W.heap.size a (spans l.ps)) (hc : Row W W.heap.size ca (ints cs)) => counted_any l cs a ca n cap m ccap W hn hm hn1 hm1 hp hc)
  have HPD := hide (fun (hl : LOk l) (hcs : COk l cs) (W : World) (hp : Row W W.heap.size a (spans l.ps)) (hc : Row W W.heap.size ca (ints cs)) => period_any l cs a ca n cap m ccap W hl hcs hn hm hmc hp hc)
  clear hn hm
  go_enter Try.func29, Try.ntmps29
  go_wp2_with fail
  generalize hW : World.alloc (World.alloc (World.alloc w _) _) _ = V
  have hB : Below w.heap.size w V := by rw [← hW]; exact (((Below.refl _ _).alloc (Nat.le_refl _) _).alloc (by simp) _).alloc (by simp; omega) _
  have b0 : Blk V w.heap.size #[.int .i64 l.lo, .int .i64 l.hi, .slice a n cap] 26 := by rw [← hW]; exact ((Blk.new w _ _).alloc _).alloc _
  have b1 : Blk V (w.heap.size + 1) #[.int .i64 0, .int .i64 0] 41 := by rw [← hW]; exact (by simpa using Blk.new (World.alloc w _) _ _ : Blk _ (w.heap.size + 1) _ _).alloc _
  have b2 : Blk V (w.heap.size + 1 + 1) #[.int .i64 0, .int .i64 0] 41 := by rw [← hW]; exact (by simpa using Blk.new (World.alloc (World.alloc w _) _) _ _)
  have hpV := hp.below hB (Nat.le_refl _)
  have hcV := hc.below hB (Nat.le_refl _)
  have hsV := hB.size
  clear hW hp hc
  refine (HCD.out V (hpV.mono hsV) (hcV.mono hsV)).mono ?_
  rintro e W1 ⟨rfl, hb1⟩
  have k0 := b0.kept hb1
  have k1 := b1.kept hb1
  have k2 := b2.kept hb1
  have hB1 := hB.trans (hb1.mono hsV)
  have hp1 := hpV.below hb1 hsV
  have hc1 := hcV.below hb1 hsV
  have hs1 := hB1.size
  clear hb1 b0 b1 b2 hB hpV hcV hsV V
  obtain ⟨c0, c1, c2, _⟩ := k0.three
  obtain ⟨v1, v1', f1, f1'⟩ := k1.two
  obtain ⟨v2, v2', f2, f2'⟩ := k2.two
  have y0 := k0.lt
  have y1 := k1.lt
  have y2 := k2.lt
  by_cases h0 : countedL l cs = 0
  · obtain ⟨hl, hcs, hlen⟩ := cok_of_counted h0
    have ep := ends_pos hl hcs
    have es := ends_small hl hcs
    clear hlen
    have ER : Hid (periodR l cs = if possible l cs then (redR (lowEnd l cs), redR (highEnd l cs), 0) else ((0, 0), (0, 0), 13)) := hide (by unfold periodR; rw [if_neg (by simpa using h0)])
    rw [h0]
    clear h0
    go_wp2_with fail
    refine (HPD.out hl hcs W1 (hp1.mono hs1) (hc1.mono hs1)).mono ?_
    clear v1 v1' v2 v2' f1 f1' f2 f2' c0 c1 c2 y0 y1 y2
    rintro e W2 ⟨rfl, hb2⟩
    have u1 := ((k1.kept hb2).alloc (.cells #[.int .i64 (lowEnd l cs).1, .int .i64 (lowEnd l cs).2] 88)).alloc (.cells #[.int .i64 (highEnd l cs).1, .int .i64 (highEnd l cs).2] 88)
    have u2 := ((k2.kept hb2).alloc (.cells #[.int .i64 (lowEnd l cs).1, .int .i64 (lowEnd l cs).2] 88)).alloc (.cells #[.int .i64 (highEnd l cs).1, .int .i64 (highEnd l cs).2] 88)
    have uL := (Blk.new W2 #[.int .i64 (lowEnd l cs).1, .int .i64 (lowEnd l cs).2] 88).alloc (.cells #[.int .i64 (highEnd l cs).1, .int .i64 (highEnd l cs).2] 88)
    have uH := Blk.new (W2.alloc (.cells #[.int .i64 (lowEnd l cs).1, .int .i64 (lowEnd l cs).2] 88)) #[.int .i64 (highEnd l cs).1, .int .i64 (highEnd l cs).2] 88
    simp only [World.size_alloc] at uH
    have hB2 := ((hB1.trans (hb2.mono hs1)).alloc (by have := hb2.size; omega) (.cells #[.int .i64 (lowEnd l cs).1, .int .i64 (lowEnd l cs).2] 88)).alloc (by have := hb2.size; simp; omega) (.cells #[.int .i64 (highEnd l cs).1, .int .i64 (highEnd l cs).2] 88)
    have yw := (k2.kept hb2).lt
    have yv := (k1.kept hb2).lt
    have yu : w.heap.size < W2.heap.size := by omega
    have kk1 := k1.kept hb2
    have kk2 := k2.kept hb2
    have hBk := hB1.trans (hb2.mono hs1)
    have x1 := (k1.kept hb2).two
    have x2 := (k2.kept hb2).two
    clear hb2 k0 k1 k2 hB1 hp1 hc1 hs1
    cases hpo : possible l cs with
    | false =>
      have ER' : Hid (periodR l cs = ((0, 0), (0, 0), 13)) := hide (by rw [ER.out, hpo]; rfl)
      clear hpo
      go_wp2_with fail
      have q1 := (((kk1.set2 (.int .i64 0) (.int .i64 0)).other2 (k := w.heap.size + 1 + 1) (by omega) (.int .i64 0) (.int .i64 0)).alloc (.cells #[.int .i64 (lowEnd l cs).1, .int .i64 (lowEnd l cs).2] 88)).alloc (.cells #[.int .i64 (highEnd l cs).1, .int .i64 (highEnd l cs).2] 88)
      have q2 := (((kk2.other2 (k := w.heap.size + 1) (by omega) (.int .i64 0) (.int .i64 0)).set2 (.int .i64 0) (.int .i64 0)).alloc (.cells #[.int .i64 (lowEnd l cs).1, .int .i64 (lowEnd l cs).2] 88)).alloc (.cells #[.int .i64 (highEnd l cs).1, .int .i64 (highEnd l cs).2] 88)
      have hBf := ((below_set2 (below_set2 hBk (k := w.heap.size + 1) (by omega) (.int .i64 0) (.int .i64 0)) (k := w.heap.size + 1 + 1) (by omega) (.int .i64 0) (.int .i64 0)).alloc (by simp [World.setCell]; omega) (.cells #[.int .i64 (lowEnd l cs).1, .int .i64 (lowEnd l cs).2] 88)).alloc (by simp [World.setCell]; omega) (.cells #[.int .i64 (highEnd l cs).1, .int .i64 (highEnd l cs).2] 88)
      generalize hV : World.alloc (World.alloc (World.setCell _ _ _) _) _ = U at *
      refine bodyPost_ret (v := .tuple #[.agg #[.int .i64 0, .int .i64 0], .agg #[.int .i64 0, .int .i64 0], .int .i64 13])
        (by simp [results, Try.results29, go_sem, q1.two, q2.two]) rfl ⟨by rw [ER'.out], hBf⟩
    | true =>
      have ER' : Hid (periodR l cs = (redR (lowEnd l cs), redR (highEnd l cs), 0)) := hide (by rw [ER.out, hpo]; rfl)
      clear hpo
      go_wp2_with fail
      have hne : ¬ W2.heap.size = w.heap.size + 1 := by omega
      have yL := uL.lt
      have yH := uH.lt
      have y1 := u1.lt
      have y2 := u2.lt
      generalize hV : World.alloc (World.alloc W2 _) _ = U at *
      obtain ⟨cL0, cL1, _, _⟩ := uL.two
      obtain ⟨cH0, cH1, _, _⟩ := uH.two
      obtain ⟨v1, v1', f1, f1'⟩ := u1.two
      obtain ⟨v2, v2', f2, f2'⟩ := u2.two
      clear hV x1 x2 kk1 kk2 hBk
      have hX := @Ext.cell U
      have hXf := @Ext.frozen U
      have HRL := hide (fun X : Ext U => Ext.call (reduced_any (lowEnd l cs) X.w (by omega) (by unfold Small at *; omega) (by omega) (by unfold Small at *; omega)))
      have HRH := hide (fun X : Ext U => Ext.call (reduced_any (highEnd l cs) X.w (by omega) (by unfold Small at *; omega) (by omega) (by unfold Small at *; omega)))
      have hne := Ext.start U
      clear ep es
      refine wp_region_head (Ext.w (W := U)) 4 (by kernel_rfl) (by kernel_rfl) (Ext.start U) ?_
      simp only [List.take_succ_cons, List.take_zero, List.drop_succ_cons, List.drop_zero]
      repeat (quiet_step (first | (go_at_call 49; with_reducible exact HRL.out _) | (go_at_call 49; with_reducible exact HRH.out _)))
      refine wpQuiet_nil ?_
      intro x
      go_wp2
      have q1 := ((u1.kept x.below).set2 (.int .i64 (redR (lowEnd l cs)).1) (.int .i64 (redR (lowEnd l cs)).2)).other2 (k := w.heap.size + 1 + 1) (by omega) (.int .i64 (redR (highEnd l cs)).1) (.int .i64 (redR (highEnd l cs)).2)
      have q2 := ((u2.kept x.below).other2 (k := w.heap.size + 1) (by omega) (.int .i64 (redR (lowEnd l cs)).1) (.int .i64 (redR (lowEnd l cs)).2)).set2 (.int .i64 (redR (highEnd l cs)).1) (.int .i64 (redR (highEnd l cs)).2)
      have hBf := below_set2 (below_set2 (hB2.trans (x.below.mono (by omega))) (k := w.heap.size + 1) (by omega) (.int .i64 (redR (lowEnd l cs)).1) (.int .i64 (redR (lowEnd l cs)).2)) (k := w.heap.size + 1 + 1) (by omega) (.int .i64 (redR (highEnd l cs)).1) (.int .i64 (redR (highEnd l cs)).2)
      generalize hV : World.setCell (World.setCell (World.setCell (World.setCell _ _ _) _ _) _ _) _ _ = U' at *
      refine bodyPost_ret (v := .tuple #[.agg #[.int .i64 (redR (lowEnd l cs)).1, .int .i64 (redR (lowEnd l cs)).2], .agg #[.int .i64 (redR (highEnd l cs)).1, .int .i64 (redR (highEnd l cs)).2], .int .i64 0])
        (by simp [results, Try.results29, go_sem, q1.two, q2.two]) rfl ⟨by rw [ER'.out], hBf⟩
  · have ER : Hid (periodR l cs = ((0, 0), (0, 0), countedL l cs)) := hide (by unfold periodR; rw [if_pos h0])
    have H2 : (countedL l cs != 0) = true := by rw [bne_iff_ne]; exact h0
    clear h0
    go_wp2_with fail
    have q1 := (k1.set2 (.int .i64 0) (.int .i64 0)).other2 (k := w.heap.size + 1 + 1) (by omega) (.int .i64 0) (.int .i64 0)
    have q2 := (k2.other2 (k := w.heap.size + 1) (by omega) (.int .i64 0) (.int .i64 0)).set2 (.int .i64 0) (.int .i64 0)
    have hBf := below_set2 (below_set2 hB1 (k := w.heap.size + 1) (by omega) (.int .i64 0) (.int .i64 0)) (k := w.heap.size + 1 + 1) (by omega) (.int .i64 0) (.int .i64 0)
    generalize hV : World.setCell (World.setCell (World.setCell (World.setCell _ _ _) _ _) _ _) _ _ = U at *
    refine bodyPost_ret (v := .tuple #[.agg #[.int .i64 0, .int .i64 0], .agg #[.int .i64 0, .int .i64 0], .int .i64 (countedL l cs)])
      (by simp [results, Try.results29, go_sem, q1.two, q2.two]) rfl ⟨by rw [ER.out], hBf⟩

end Go.Proofs.Ytjgebepeghgmcaa
