/-
  Package period: Bounds, Verify.
-/
import Derived.Test.YtjgebepeghgmcaaPer9
import Derived.Test.YtjgebepeghgmcaaTwoNew
namespace Go.Proofs.Ytjgebepeghgmcaa
open Go.RowKit Go.Shelf
set_option linter.unusedVariables false
set_option linter.unusedSimpArgs false

/-- What Bounds returns. -/
def boundsR (l : PLog) (cs : List Int) : (Int × Int) × (Int × Int) × Int :=
  if countedL l cs ≠ 0 then ((0, 0), (0, 0), countedL l cs) else (((lowOf l.ps cs).1, (lowOf l.ps cs).2), ((highOf l.ps cs).1, (highOf l.ps cs).2), 0)

attribute [local go_sem] calm calmAt calmUpon in
set_option maxRecDepth 100000 in
set_option maxHeartbeats 4000000 in
theorem boundsF_any (l : PLog) (cs : List Int) (a ca : Option Addr) (n cap m ccap : Nat) (w : World) (hn : n = l.ps.length) (hm : m = cs.length) (hn1 : n ≤ 1000000000) (hm1 : m ≤ 1000000000) (hmc : m ≤ ccap)
    (hp : Row w w.heap.size a (spans l.ps)) (hc : Row w w.heap.size ca (ints cs)) :
    Calls Try.prog 30 #[.agg #[.int .i64 l.lo, .int .i64 l.hi, .slice a n cap], .slice ca m ccap] w fun e w' =>
      e = .returned (.tuple #[.agg #[.int .i64 (boundsR l cs).1.1, .int .i64 (boundsR l cs).1.2], .agg #[.int .i64 (boundsR l cs).2.1.1, .int .i64 (boundsR l cs).2.1.2], .int .i64 (boundsR l cs).2.2]) ∧ Below w.heap.size w w' := by
  have HCD := hide (fun (W : World) (hp : Row W W.heap.size a (spans l.ps)) (hc : Row W W.heap.size ca (ints cs)) => counted_any l cs a ca n cap m ccap W hn hm hn1 hm1 hp hc)
  have HPD := hide (fun (hl : LOk l) (hcs : COk l cs) (W : World) (hp : Row W W.heap.size a (spans l.ps)) (hc : Row W W.heap.size ca (ints cs)) => bounds_any l cs a ca n cap m ccap W hl hcs hn hm hmc hp hc)
  clear hn hm
  go_enter Try.func30, Try.ntmps30
  go_wp2_with fail
  generalize hW : World.alloc (World.alloc (World.alloc w _) _) _ = V
  have hB : Below w.heap.size w V := by rw [← hW]; exact (((Below.refl _ _).alloc (Nat.le_refl _) _).alloc (by simp) _).alloc (by simp; omega) _
  have b0 : Blk V w.heap.size #[.int .i64 l.lo, .int .i64 l.hi, .slice a n cap] 26 := by rw [← hW]; exact ((Blk.new w _ _).alloc _).alloc _
  have b1 : Blk V (w.heap.size + 1) #[.int .i64 0, .int .i64 0] 60 := by rw [← hW]; exact (by simpa using Blk.new (World.alloc w _) _ _ : Blk _ (w.heap.size + 1) _ _).alloc _
  have b2 : Blk V (w.heap.size + 1 + 1) #[.int .i64 0, .int .i64 0] 60 := by rw [← hW]; exact (by simpa using Blk.new (World.alloc (World.alloc w _) _) _ _)
  have hpV := hp.below hB (Nat.le_refl _)
  have hcV := hc.below hB (Nat.le_refl _)
  have hsV := hB.size
  clear hW hp hc
  refine (HCD.out V (hpV.mono hsV) (hcV.mono hsV)).mono ?_
  rintro e W1 ⟨rfl, hb1⟩
  have k0 := b0.kept hb1
  have k1 := b1.kept hb1
  have k2 := b2.kept hb1
  have hB1 := hB.trans (hb1.mono hsV)
  have hp1 := hpV.below hb1 hsV
  have hc1 := hcV.below hb1 hsV
  have hs1 := hB1.size
  clear hb1 b0 b1 b2 hB hpV hcV hsV V
  obtain ⟨c0, c1, c2, _⟩ := k0.three
  obtain ⟨v1, v1', f1, f1'⟩ := k1.two
  obtain ⟨v2, v2', f2, f2'⟩ := k2.two
  have y0 := k0.lt
  have y1 := k1.lt
  have y2 := k2.lt
  by_cases h0 : countedL l cs = 0
  · obtain ⟨hl, hcs, hlen⟩ := cok_of_counted h0
    clear hlen
    have ER : Hid (boundsR l cs = ((((lowOf l.ps cs).1 : Int), ((lowOf l.ps cs).2 : Int)), (((highOf l.ps cs).1 : Int), ((highOf l.ps cs).2 : Int)), (0 : Int))) := hide (by unfold boundsR; rw [if_neg (by simpa using h0)])
    rw [h0]
    clear h0
    go_wp2_with fail
    refine (HPD.out hl hcs W1 (hp1.mono hs1) (hc1.mono hs1)).mono ?_
    clear v1 v1' v2 v2' f1 f1' f2 f2' c0 c1 c2 y0 y1 y2
    rintro e W2 ⟨rfl, hb2⟩
    have kk1 := k1.kept hb2
    have kk2 := k2.kept hb2
    have hBk := hB1.trans (hb2.mono hs1)
    obtain ⟨v1, v1', f1, f1'⟩ := kk1.two
    obtain ⟨v2, v2', f2, f2'⟩ := kk2.two
    clear hb2 k0 k1 k2 hB1 hp1 hc1 hs1
    go_wp2_with fail
    have q1 := (kk1.set2 (.int .i64 ((lowOf l.ps cs).1 : Int)) (.int .i64 ((lowOf l.ps cs).2 : Int))).other2 (k := w.heap.size + 1 + 1) (by omega) (.int .i64 ((highOf l.ps cs).1 : Int)) (.int .i64 ((highOf l.ps cs).2 : Int))
    have q2 := (kk2.other2 (k := w.heap.size + 1) (by omega) (.int .i64 ((lowOf l.ps cs).1 : Int)) (.int .i64 ((lowOf l.ps cs).2 : Int))).set2 (.int .i64 ((highOf l.ps cs).1 : Int)) (.int .i64 ((highOf l.ps cs).2 : Int))
    have hBf := below_set2 (below_set2 hBk (k := w.heap.size + 1) (by omega) (.int .i64 ((lowOf l.ps cs).1 : Int)) (.int .i64 ((lowOf l.ps cs).2 : Int))) (k := w.heap.size + 1 + 1) (by omega) (.int .i64 ((highOf l.ps cs).1 : Int)) (.int .i64 ((highOf l.ps cs).2 : Int))
    generalize hV : World.setCell (World.setCell (World.setCell (World.setCell W2 _ _) _ _) _ _) _ _ = U at *
    clear hV v1 v1' f1 f1' v2 v2' f2 f2' kk1 kk2 hBk
    have hT : Two w 60 (w.heap.size + 1) (w.heap.size + 1 + 1) (.int .i64 ((lowOf l.ps cs).1 : Int)) (.int .i64 ((lowOf l.ps cs).2 : Int)) (.int .i64 ((highOf l.ps cs).1 : Int)) (.int .i64 ((highOf l.ps cs).2 : Int)) U := ⟨q1, q2, hBf⟩
    clear q1 q2 hBf
    generalize qa0 : ((lowOf l.ps cs).1 : Int) = a0 at *
    generalize qa1 : ((lowOf l.ps cs).2 : Int) = a1 at *
    generalize qb0 : ((highOf l.ps cs).1 : Int) = b0 at *
    generalize qb1 : ((highOf l.ps cs).2 : Int) = b1 at *
    have Qa0 := hide qa0
    have Qa1 := hide qa1
    have Qb0 := hide qb0
    have Qb1 := hide qb1
    clear qa0 qa1 qb0 qb1
    have hne : Nonempty (Cls (Two w 60 (w.heap.size + 1) (w.heap.size + 1 + 1) (.int .i64 a0) (.int .i64 a1) (.int .i64 b0) (.int .i64 b1))) := ⟨⟨U, hT⟩⟩
    have hC := @Two.cells w 60 (w.heap.size + 1) (w.heap.size + 1 + 1) (.int .i64 a0) (.int .i64 a1) (.int .i64 b0) (.int .i64 b1)
    have HS1 := hide (fun x : Cls (Two w 60 (w.heap.size + 1) (w.heap.size + 1 + 1) (.int .i64 a0) (.int .i64 a1) (.int .i64 b0) (.int .i64 b1)) => Two.store1 (by omega) (by omega) x.ok)
    have HS2 := hide (fun x : Cls (Two w 60 (w.heap.size + 1) (w.heap.size + 1 + 1) (.int .i64 a0) (.int .i64 a1) (.int .i64 b0) (.int .i64 b1)) => Two.store2 (by omega) (by omega) x.ok)
    refine wp_region_calm (Cls.w (S := Two w 60 (w.heap.size + 1) (w.heap.size + 1 + 1) (.int .i64 a0) (.int .i64 a1) (.int .i64 b0) (.int .i64 b1))) (by kernel_rfl) (by kernel_rfl) (Cls.start hT.drew) ?_
    repeat (refine wpCalm_step (fun K hK => ?_); go_simp; first | (refine hK _ ?_; clear hK K) | (refine ⟨⟨undef, fun x => ⟨.inr ⟨⟨_, HS1.out x⟩, rfl⟩, rfl⟩⟩, hK _ ?_⟩; clear hK K) | (refine ⟨⟨undef, fun x => ⟨.inr ⟨⟨_, HS2.out x⟩, rfl⟩, rfl⟩⟩, hK _ ?_⟩; clear hK K))
    refine wpCalm_nil ?_
    intro x
    have hCx := hC x
    go_wp2
    refine bodyPost_ret (v := .tuple #[.agg #[.int .i64 a0, .int .i64 a1], .agg #[.int .i64 b0, .int .i64 b1], .int .i64 0])
      (by simp [results, Try.results30, go_sem, hCx]) rfl ⟨by rw [ER.out], x.ok.2.2⟩
  · have ER : Hid (boundsR l cs = ((0, 0), (0, 0), countedL l cs)) := hide (by unfold boundsR; rw [if_pos h0])
    have H2 : (countedL l cs != 0) = true := by rw [bne_iff_ne]; exact h0
    clear h0
    go_wp2_with fail
    have q1 := (k1.set2 (.int .i64 0) (.int .i64 0)).other2 (k := w.heap.size + 1 + 1) (by omega) (.int .i64 0) (.int .i64 0)
    have q2 := (k2.other2 (k := w.heap.size + 1) (by omega) (.int .i64 0) (.int .i64 0)).set2 (.int .i64 0) (.int .i64 0)
    have hBf := below_set2 (below_set2 hB1 (k := w.heap.size + 1) (by omega) (.int .i64 0) (.int .i64 0)) (k := w.heap.size + 1 + 1) (by omega) (.int .i64 0) (.int .i64 0)
    generalize hV : World.setCell (World.setCell (World.setCell (World.setCell _ _ _) _ _) _ _) _ _ = U at *
    refine bodyPost_ret (v := .tuple #[.agg #[.int .i64 0, .int .i64 0], .agg #[.int .i64 0, .int .i64 0], .int .i64 (countedL l cs)])
      (by simp [results, Try.results30, go_sem, q1.two, q2.two]) rfl ⟨by rw [ER.out], hBf⟩

/-! ### Verify -/
def natPair (p : Int × Int) : Nat × Nat := (p.1.toNat, p.2.toNat)
def verifyR (l : PLog) (cs : List Int) (low high : Int × Int) : Int :=
  if countedL l cs ≠ 0 then countedL l cs
  else if pairOk low l.ps.length = false ∨ pairOk high l.ps.length = false then 5
  else if cmpR (bel l.ps cs (natPair low)) (abv l.ps cs (natPair high)) ≤ 0 ∧ cmpR (bel l.ps cs (natPair low)) (l.hi, 1) ≤ 0 ∧ 0 ≤ cmpR (abv l.ps cs (natPair high)) (l.lo, 1) then 12 else 0

attribute [local go_sem] grows growAt growUpon in
set_option maxRecDepth 100000 in
set_option maxHeartbeats 4000000 in
theorem verify_any (l : PLog) (cs : List Int) (low high : Int × Int) (a ca : Option Addr) (n cap m ccap : Nat) (w : World) (hn : n = l.ps.length) (hm : m = cs.length) (hn1 : n ≤ 1000000) (hm1 : m ≤ 1000000000) (hmc : m ≤ ccap)
    (hp : Row w w.heap.size a (spans l.ps)) (hc : Row w w.heap.size ca (ints cs)) :
    Calls Try.prog 31 #[.agg #[.int .i64 l.lo, .int .i64 l.hi, .slice a n cap], .slice ca m ccap, .agg #[.int .i64 low.1, .int .i64 low.2], .agg #[.int .i64 high.1, .int .i64 high.2]] w fun e w' =>
      e = .returned (.int .i64 (verifyR l cs low high)) ∧ Below w.heap.size w w' := by
  have HCD := hide (fun (W : World) (hp : Row W W.heap.size a (spans l.ps)) (hc : Row W W.heap.size ca (ints cs)) => counted_any l cs a ca n cap m ccap W hn hm (by omega) hm1 hp hc)
  have HPR := hide (fun (p : Int × Int) (W : World) => pair_any l a n cap p W hn1)
  have HBE := hide (fun (hl : LOk l) (hcs : COk l cs) (p : Nat × Nat) (h1 : p.1 < p.2) (h2 : p.2 ≤ cs.length) (W : World) (hp : Row W W.heap.size a (spans l.ps)) (hc : Row W W.heap.size ca (ints cs)) => below_any l cs a ca n cap m ccap p W hl hcs hn hm hmc hp hc h1 h2)
  have HAB := hide (fun (hl : LOk l) (hcs : COk l cs) (p : Nat × Nat) (h1 : p.1 < p.2) (h2 : p.2 ≤ cs.length) (W : World) (hp : Row W W.heap.size a (spans l.ps)) (hc : Row W W.heap.size ca (ints cs)) => above_any l cs a ca n cap m ccap p W hl hcs hn hm hmc hp hc h1 h2)
  have HN := hide hn
  have HM := hide hm
  clear hn hm
  go_enter Try.func31, Try.ntmps31
  go_wp2_with fail
  generalize hW : World.alloc (World.alloc (World.alloc w _) _) _ = V
  have hB : Below w.heap.size w V := by rw [← hW]; exact (((Below.refl _ _).alloc (Nat.le_refl _) _).alloc (by simp) _).alloc (by simp; omega) _
  have b0 : Blk V w.heap.size #[.int .i64 l.lo, .int .i64 l.hi, .slice a n cap] 26 := by rw [← hW]; exact ((Blk.new w _ _).alloc _).alloc _
  have b1 : Blk V (w.heap.size + 1) #[.int .i64 low.1, .int .i64 low.2] 60 := by rw [← hW]; exact (by simpa using Blk.new (World.alloc w _) _ _ : Blk _ (w.heap.size + 1) _ _).alloc _
  have b2 : Blk V (w.heap.size + 1 + 1) #[.int .i64 high.1, .int .i64 high.2] 60 := by rw [← hW]; exact (by simpa using Blk.new (World.alloc (World.alloc w _) _) _ _)
  have hpV := hp.below hB (Nat.le_refl _)
  have hcV := hc.below hB (Nat.le_refl _)
  have hsV := hB.size
  clear hW hp hc
  refine (HCD.out V (hpV.mono hsV) (hcV.mono hsV)).mono ?_
  rintro e W1 ⟨rfl, hb1⟩
  have k0 := b0.kept hb1
  have k1 := b1.kept hb1
  have k2 := b2.kept hb1
  have hB1 := hB.trans (hb1.mono hsV)
  have hp1 := hpV.below hb1 hsV
  have hc1 := hcV.below hb1 hsV
  have hs1 := hB1.size
  clear hb1 b0 b1 b2 hB hpV hcV hsV V
  obtain ⟨c0, c1, c2, _⟩ := k0.three
  obtain ⟨v1, v1', _⟩ := k1.two
  obtain ⟨v2, v2', _⟩ := k2.two
  by_cases h0 : countedL l cs = 0
  · obtain ⟨hl, hcs, hlen⟩ := cok_of_counted h0
    have ER : Hid (verifyR l cs low high = if pairOk low n = false ∨ pairOk high n = false then 5
      else if cmpR (bel l.ps cs (natPair low)) (abv l.ps cs (natPair high)) ≤ 0 ∧ cmpR (bel l.ps cs (natPair low)) (l.hi, 1) ≤ 0 ∧ 0 ≤ cmpR (abv l.ps cs (natPair high)) (l.lo, 1) then 12 else 0) := hide (by unfold verifyR; rw [if_neg (by simpa using h0), HN.out])
    have hlen' : cs.length + 1 = n := by rw [HN.out]; exact hlen
    have HL := hide hlen'
    clear hlen hlen'
    rw [h0]
    clear h0
    go_wp2_with fail
    refine (HPR.out low W1).mono ?_
    clear v1 v1' v2 v2' c0 c1 c2
    rintro e W2 ⟨rfl, hb2⟩
    have u0 := k0.kept hb2
    have u1 := k1.kept hb2
    have u2 := k2.kept hb2
    have hB2 := hB1.trans (hb2.mono hs1)
    have hp2 := hp1.below hb2 hs1
    have hc2 := hc1.below hb2 hs1
    have hs2 := hB2.size
    clear hb2 k0 k1 k2 hB1 hp1 hc1 hs1
    obtain ⟨c0, c1, c2, _⟩ := u0.three
    obtain ⟨v1, v1', _⟩ := u1.two
    obtain ⟨v2, v2', _⟩ := u2.two
    cases hpl : pairOk low n with
    | false =>
      have ER' : Hid (verifyR l cs low high = 5) := hide (by rw [ER.out, if_pos (.inl hpl)])
      clear hpl
      go_wp2_with fail
      go_ret
      exact ⟨by rw [ER'.out]; rfl, hB2⟩
    | true =>
    go_wp2_with fail
    refine (HPR.out high W2).mono ?_
    clear v1 v1' v2 v2' c0 c1 c2
    rintro e W3 ⟨rfl, hb3⟩
    have k0 := u0.kept hb3
    have k1 := u1.kept hb3
    have k2 := u2.kept hb3
    have hB3 := hB2.trans (hb3.mono hs2)
    have hp3 := hp2.below hb3 hs2
    have hc3 := hc2.below hb3 hs2
    have hs3 := hB3.size
    clear hb3 u0 u1 u2 hB2 hp2 hc2 hs2
    cases hph : pairOk high n with
    | false =>
      have ER' : Hid (verifyR l cs low high = 5) := hide (by rw [ER.out, if_pos (.inr hph)])
      clear hph hpl
      go_wp2_with fail
      go_ret
      exact ⟨by rw [ER'.out]; rfl, hB3⟩
    | true =>
    have ER' : Hid (verifyR l cs low high = if cmpR (bel l.ps cs (natPair low)) (abv l.ps cs (natPair high)) ≤ 0 ∧ cmpR (bel l.ps cs (natPair low)) (l.hi, 1) ≤ 0 ∧ 0 ≤ cmpR (abv l.ps cs (natPair high)) (l.lo, 1) then 12 else 0) := hide (by rw [ER.out, if_neg (by simp [hpl, hph])])
    have pl : 0 ≤ low.1 ∧ low.1 < low.2 ∧ low.2 < n := by simpa [pairOk] using hpl
    have ph : 0 ≤ high.1 ∧ high.1 < high.2 ∧ high.2 < n := by simpa [pairOk] using hph
    have el1 : ((natPair low).1 : Int) = low.1 := by simp [natPair]; omega
    have el2 : ((natPair low).2 : Int) = low.2 := by simp [natPair]; omega
    have eh1 : ((natPair high).1 : Int) = high.1 := by simp [natPair]; omega
    have eh2 : ((natPair high).2 : Int) = high.2 := by simp [natPair]; omega
    have ml : (natPair low).1 < (natPair low).2 ∧ (natPair low).2 ≤ cs.length := by have := HL.out; omega
    have mh : (natPair high).1 < (natPair high).2 ∧ (natPair high).2 ≤ cs.length := by have := HL.out; omega
    have sL : Small 2000000 (bel l.ps cs (natPair low)).1 ∧ 1 ≤ (bel l.ps cs (natPair low)).2 ∧ (bel l.ps cs (natPair low)).2 ≤ 8000000 := by
      obtain ⟨h1, h2, h3, _⟩ := bel_small hl hcs ml.1 ml.2
      exact ⟨h1, h2, h3⟩
    have sH : Small 2000000 (abv l.ps cs (natPair high)).1 ∧ 1 ≤ (abv l.ps cs (natPair high)).2 ∧ (abv l.ps cs (natPair high)).2 ≤ 8000000 := by
      obtain ⟨_, h2, h3, h4, h5, _⟩ := bel_small hl hcs mh.1 mh.2
      exact ⟨h4, by omega, by omega⟩
    rw [← el1, ← el2] at k1
    rw [← eh1, ← eh2] at k2
    have HE := hide (⟨el1, el2, eh1, eh2⟩ : _ ∧ _ ∧ _ ∧ _)
    clear hpl hph pl ph el1 el2 eh1 eh2
    obtain ⟨c0, c1, c2, _⟩ := k0.three
    obtain ⟨v1, v1', _⟩ := k1.two
    obtain ⟨v2, v2', _⟩ := k2.two
    have z0 := k0.lt
    have z1 := k1.lt
    have z2 := k2.lt
    go_wp2_with fail
    have hX := @Ext.cell W3
    have HX1 := hide (fun X : Ext W3 => HBE.out hl hcs (natPair low) ml.1 ml.2 X.w ((hp3.below X.below hs3).mono (by have := X.below.size; omega)) ((hc3.below X.below hs3).mono (by have := X.below.size; omega)))
    have HX2 := hide (fun X : Ext W3 => HAB.out hl hcs (natPair high) mh.1 mh.2 X.w ((hp3.below X.below hs3).mono (by have := X.below.size; omega)) ((hc3.below X.below hs3).mono (by have := X.below.size; omega)))
    refine wp_region_two #[.int .i64 0, .int .i64 0] #[.int .i64 0, .int .i64 0] 88 88 10 11 8 (by kernel_rfl) (by kernel_rfl) (by decide)
      ⟨_, rfl, rfl, rfl, (by intro cs b h; cases h), fun ev w => by simp [go_sem]⟩ ⟨_, rfl, rfl, rfl, (by intro cs b h; cases h), fun ev w => by simp [go_sem]⟩ ?_
    simp only [List.take_succ_cons, List.take_zero, List.drop_succ_cons, List.drop_zero]
    repeat (refine wpGrow_step (fun K hK => ?_); go_simp; first | (refine hK _ ?_; clear hK K) | (apply Exists.intro; refine ⟨fun _ => ?_, hK _ ?_⟩; (first | (go_at_call 64; with_reducible exact HX1.out _) | (go_at_call 65; with_reducible exact HX2.out _)); clear hK K))
    refine wpGrow_nil ?_
    intro U p1 p2 hbU hl1 hl2 hne bb1 bb2
    clear hX HX1 HX2 c0 c1 c2 v1 v1' v2 v2' z1 z2
    obtain ⟨q1, q1', g1, g1'⟩ := bb1.two
    obtain ⟨q2, q2', g2, g2'⟩ := bb2.two
    have hne' : ¬ p2 = p1 := fun e => hne e.symm
    have hn1 : ¬ w.heap.size = p1 := by omega
    have hn2 : ¬ w.heap.size = p2 := by omega
    simp only [Act.put, List.setIfInBounds_toArray, List.set_cons_zero, List.set_cons_succ]
    obtain ⟨c0, c1, c2, _⟩ := (k0.below hbU z0).three
    go_wp2_with fail
    have t1 := (bb1.set2 (.int .i64 (bel l.ps cs (natPair low)).1) (.int .i64 (bel l.ps cs (natPair low)).2)).other2 (k := p2) hne (.int .i64 (abv l.ps cs (natPair high)).1) (.int .i64 (abv l.ps cs (natPair high)).2)
    have t2 := (bb2.other2 (k := p1) (Ne.symm hne) (.int .i64 (bel l.ps cs (natPair low)).1) (.int .i64 (bel l.ps cs (natPair low)).2)).set2 (.int .i64 (abv l.ps cs (natPair high)).1) (.int .i64 (abv l.ps cs (natPair high)).2)
    have t0 := ((k0.below hbU z0).other2 (k := p1) hn1 (.int .i64 (bel l.ps cs (natPair low)).1) (.int .i64 (bel l.ps cs (natPair low)).2)).other2 (k := p2) hn2 (.int .i64 (abv l.ps cs (natPair high)).1) (.int .i64 (abv l.ps cs (natPair high)).2)
    have hBU := below_set2 (below_set2 (hB3.trans (hbU.mono hs3)) (k := p1) (by omega) (.int .i64 (bel l.ps cs (natPair low)).1) (.int .i64 (bel l.ps cs (natPair low)).2)) (k := p2) (by omega) (.int .i64 (abv l.ps cs (natPair high)).1) (.int .i64 (abv l.ps cs (natPair high)).2)
    generalize hV : World.setCell (World.setCell (World.setCell (World.setCell U _ _) _ _) _ _) _ _ = V at *
    clear hV bb1 bb2 q1 q1' q2 q2' g1 g1' g2 g2' c0 c1 c2 hbU hp3 hc3 hB3 k0 k1 k2
    generalize bel l.ps cs (natPair low) = A at *
    generalize abv l.ps cs (natPair high) = B at *
    obtain ⟨A1, A2⟩ := A
    obtain ⟨B1, B2⟩ := B
    dsimp only at sL sH t1 t2
    have lo1 := hl.lo1
    have lohi := hl.lohi
    have hi1 := hl.hi1
    obtain ⟨c0, c1, c2, _⟩ := t0.three
    obtain ⟨v1, v1', _⟩ := t1.two
    obtain ⟨v2, v2', _⟩ := t2.two
    have z0 := t0.lt
    have z1 := t1.lt
    have z2 := t2.lt
    have hX := @Ext.cell V
    have HC1 := hide (fun X : Ext V => Ext.call (compare_any A1 A2 B1 B2 X.w (by unfold Small at *; omega) (by unfold Small at *; omega) (by unfold Small at *; omega) (by unfold Small at *; omega)))
    have HC2 := hide (fun X : Ext V => Ext.call (compare_any A1 A2 l.hi 1 X.w (by unfold Small at *; omega) (by unfold Small at *; omega) (by unfold Small at *; omega) (by unfold Small at *; omega)))
    have HC3 := hide (fun X : Ext V => Ext.call (compare_any B1 B2 l.lo 1 X.w (by unfold Small at *; omega) (by unfold Small at *; omega) (by unfold Small at *; omega) (by unfold Small at *; omega)))
    have EQ : Hid (verifyR l cs low high = if A1 * B2 - B1 * A2 ≤ 0 ∧ A1 * 1 - l.hi * A2 ≤ 0 ∧ 0 ≤ B1 * 1 - l.lo * B2 then 12 else 0) := hide (by rw [ER'.out]; rfl)
    clear ER ER' sL sH t0 t1 t2
    generalize A1 * B2 - B1 * A2 = d1 at *
    generalize A1 * 1 - l.hi * A2 = d2 at *
    generalize B1 * 1 - l.lo * B2 = d3 at *
    clear lo1 lohi hi1 hne hne' hn1 hn2 hl1 hl2 ml mh hs3 HE HL HN HM HCD HPR HBE HAB hm1 hmc
    by_cases h1 : d1 ≤ 0
    · by_cases h2 : d2 ≤ 0
      · by_cases h3 : 0 ≤ d3
        · have EF : Hid (verifyR l cs low high = 12) := hide (by rw [EQ.out, if_pos ⟨h1, h2, h3⟩])
          clear EQ
          go_wp2_with fail
          refine wp_region_all (Ext.w (W := V)) (by kernel_rfl) (by kernel_rfl) (Ext.start V) ?_
          repeat (first | go_big_quiet_skip | quiet_step (first | (go_at_call 66; exact Ext.call (whole_any _ _)) | (go_at_call 47; with_reducible exact HC1.out _) | (go_at_call 47; with_reducible exact HC2.out _) | (go_at_call 47; with_reducible exact HC3.out _)))
          refine wpQuiet_nil ?_
          intro X
          go_wp2
          go_ret
          exact ⟨by rw [EF.out]; rfl, hBU.trans (X.below.mono (by have := hBU.size; omega))⟩
        · have EF : Hid (verifyR l cs low high = 0) := hide (by rw [EQ.out, if_neg (by simp [h1, h2]; omega)])
          clear EQ
          have h3' : decide (0 ≤ d3) = false := by simp; omega
          clear h3
          go_wp2_with fail
          refine wp_region_all (Ext.w (W := V)) (by kernel_rfl) (by kernel_rfl) (Ext.start V) ?_
          repeat (first | go_big_quiet_skip | quiet_step (first | (go_at_call 66; exact Ext.call (whole_any _ _)) | (go_at_call 47; with_reducible exact HC1.out _) | (go_at_call 47; with_reducible exact HC2.out _) | (go_at_call 47; with_reducible exact HC3.out _)))
          refine wpQuiet_nil ?_
          intro X
          go_wp2
          go_ret
          exact ⟨by rw [EF.out]; rfl, hBU.trans (X.below.mono (by have := hBU.size; omega))⟩
      · have EF : Hid (verifyR l cs low high = 0) := hide (by rw [EQ.out, if_neg (by simp [h1, h2])])
        clear EQ
        have h2' : decide (d2 ≤ 0) = false := by simp; omega
        clear h2
        go_wp2_with fail
        refine wp_region_all (Ext.w (W := V)) (by kernel_rfl) (by kernel_rfl) (Ext.start V) ?_
        repeat (first | go_big_quiet_skip | quiet_step (first | (go_at_call 66; exact Ext.call (whole_any _ _)) | (go_at_call 47; with_reducible exact HC1.out _) | (go_at_call 47; with_reducible exact HC2.out _) | (go_at_call 47; with_reducible exact HC3.out _)))
        refine wpQuiet_nil ?_
        intro X
        go_wp2
        go_ret
        exact ⟨by rw [EF.out]; rfl, hBU.trans (X.below.mono (by have := hBU.size; omega))⟩
    · have EF : Hid (verifyR l cs low high = 0) := hide (by rw [EQ.out, if_neg (by simp [h1])])
      clear EQ
      have h1' : decide (d1 ≤ 0) = false := by simp; omega
      clear h1
      go_wp2_with fail
      refine wp_region_all (Ext.w (W := V)) (by kernel_rfl) (by kernel_rfl) (Ext.start V) ?_
      repeat (first | go_big_quiet_skip | quiet_step (first | (go_at_call 66; exact Ext.call (whole_any _ _)) | (go_at_call 47; with_reducible exact HC1.out _) | (go_at_call 47; with_reducible exact HC2.out _) | (go_at_call 47; with_reducible exact HC3.out _)))
      refine wpQuiet_nil ?_
      intro X
      go_wp2
      go_ret
      exact ⟨by rw [EF.out]; rfl, hBU.trans (X.below.mono (by have := hBU.size; omega))⟩
  · have ER : Hid (verifyR l cs low high = countedL l cs) := hide (by unfold verifyR; rw [if_pos h0])
    have H2 : (countedL l cs != 0) = true := by rw [bne_iff_ne]; exact h0
    clear h0
    go_wp2_with fail
    go_ret
    exact ⟨by rw [ER.out]; rfl, hB1⟩

end Go.Proofs.Ytjgebepeghgmcaa
