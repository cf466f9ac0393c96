/-
  Package period: the period of counts.
-/
import Derived.Test.YtjgebepeghgmcaaPer7
import Derived.Test.YtjgebepeghgmcaaCalm
namespace Go.Proofs.Ytjgebepeghgmcaa
open Go.RowKit Go.Shelf
set_option linter.unusedVariables false
set_option linter.unusedSimpArgs false

theorem lowOf_mem {ps : List (Int × Int)} {cs : List Int} (h : 0 < cs.length) : (lowOf ps cs).1 < (lowOf ps cs).2 ∧ (lowOf ps cs).2 ≤ cs.length := by
  unfold lowOf
  cases e : firstBy (lowBetter ps cs) (pairsOf (cs.length + 1)) with
  | none => exact absurd e (firstBy_some _ _ (by intro h'; have := mem_pairsOf.2 (⟨by omega, by omega⟩ : (0, 1).1 < (0, 1).2 ∧ (0, 1).2 < cs.length + 1); rw [h'] at this; cases this))
  | some p => have := mem_pairsOf.1 (firstBy_mem _ _ _ e); simp only [Option.getD_some]; omega
theorem highOf_mem {ps : List (Int × Int)} {cs : List Int} (h : 0 < cs.length) : (highOf ps cs).1 < (highOf ps cs).2 ∧ (highOf ps cs).2 ≤ cs.length := by
  unfold highOf
  cases e : firstBy (highBetter ps cs) (pairsOf (cs.length + 1)) with
  | none => exact absurd e (firstBy_some _ _ (by intro h'; have := mem_pairsOf.2 (⟨by omega, by omega⟩ : (0, 1).1 < (0, 1).2 ∧ (0, 1).2 < cs.length + 1); rw [h'] at this; cases this))
  | some p => have := mem_pairsOf.1 (firstBy_mem _ _ _ e); simp only [Option.getD_some]; omega
theorem ends_small {l : PLog} {cs : List Int} (hl : LOk l) (hcs : COk l cs) : Small 2000000 (lowEnd l cs).1 ∧ Small 8000000 (lowEnd l cs).2 ∧ Small 2000000 (highEnd l cs).1 ∧ Small 8000000 (highEnd l cs).2 := by
  have h1 := hl.lo1
  have h2 := hl.lohi
  have h3 := hl.hi1
  by_cases h : cs.length = 0
  · unfold lowEnd highEnd
    rw [if_pos h, if_pos h]
    unfold Small
    dsimp only
    omega
  · have a1 := lowOf_mem (ps := l.ps) (cs := cs) (by omega)
    have a2 := highOf_mem (ps := l.ps) (cs := cs) (by omega)
    have s1 := bel_small hl hcs a1.1 a1.2
    have s2 := bel_small hl hcs a2.1 a2.2
    unfold lowEnd highEnd
    rw [if_neg h, if_neg h]
    unfold Small at *
    refine ⟨?_, ?_, ?_, ?_⟩ <;> split <;> (try dsimp only) <;> omega

attribute [local go_sem] calm calmAt calmUpon in
set_option maxRecDepth 100000 in
set_option maxHeartbeats 4000000 in
theorem period_any (l : PLog) (cs : List Int) (a ca : Option Addr) (n cap m ccap : Nat) (w : World) (hl : LOk l) (hcs : COk l cs) (hn : n = l.ps.length) (hm : m = cs.length) (hmc : m ≤ ccap)
    (hp : Row w w.heap.size a (spans l.ps)) (hc : Row w w.heap.size ca (ints cs)) :
    Calls Try.prog 61 #[.agg #[.int .i64 l.lo, .int .i64 l.hi, .slice a n cap], .slice ca m ccap] w fun e w' =>
      e = .returned (.tuple #[.agg #[.int .i64 (lowEnd l cs).1, .int .i64 (lowEnd l cs).2], .agg #[.int .i64 (highEnd l cs).1, .int .i64 (highEnd l cs).2], .bool (possible l cs)]) ∧ Below w.heap.size w w' := by
  have l8 := hl.len8
  have hlen := hcs.len
  have hm1 : m ≤ 8 := by omega
  have HBD := hide (fun (W : World) (hp : Row W W.heap.size a (spans l.ps)) (hc : Row W W.heap.size ca (ints cs)) => bounds_any l cs a ca n cap m ccap W hl hcs hn hm hmc hp hc)
  have HBE := hide (fun (p : Nat × Nat) (h1 : p.1 < p.2) (h2 : p.2 ≤ cs.length) (W : World) (hp : Row W W.heap.size a (spans l.ps)) (hc : Row W W.heap.size ca (ints cs)) => below_any l cs a ca n cap m ccap p W hl hcs hn hm hmc hp hc h1 h2)
  have HAB := hide (fun (p : Nat × Nat) (h1 : p.1 < p.2) (h2 : p.2 ≤ cs.length) (W : World) (hp : Row W W.heap.size a (spans l.ps)) (hc : Row W W.heap.size ca (ints cs)) => above_any l cs a ca n cap m ccap p W hl hcs hn hm hmc hp hc h1 h2)
  have HM := hide hm
  clear hn hm
  go_enter Try.func61, Try.ntmps61
  go_wp2
  generalize hW : World.alloc (World.alloc (World.alloc w _) _) _ = V
  have hB : Below w.heap.size w V := by rw [← hW]; exact (((Below.refl _ _).alloc (Nat.le_refl _) _).alloc (by simp) _).alloc (by simp; omega) _
  have hz : w.heap.size + 3 ≤ V.heap.size := by rw [← hW]; simp
  have b0 : Blk V w.heap.size #[.int .i64 l.lo, .int .i64 l.hi, .slice a n cap] 26 := by rw [← hW]; exact ((Blk.new w _ _).alloc _).alloc _
  have b1 : Blk V (w.heap.size + 1) #[.int .i64 0, .int .i64 0] 88 := by rw [← hW]; exact (by simpa using Blk.new (World.alloc w _) _ _ : Blk _ (w.heap.size + 1) _ _).alloc _
  have b2 : Blk V (w.heap.size + 1 + 1) #[.int .i64 0, .int .i64 0] 88 := by rw [← hW]; exact (by simpa using Blk.new (World.alloc (World.alloc w _) _) _ _)
  have hpV := hp.below hB (Nat.le_refl _)
  have hcV := hc.below hB (Nat.le_refl _)
  clear hW hp hc
  obtain ⟨c0, c1, c2, _⟩ := b0.three
  have z0 := b0.lt
  have hX := @Ext.cell V
  refine wp_region_head (Ext.w (W := V)) 8 (by kernel_rfl) (by kernel_rfl) (Ext.start V) ?_
  simp only [List.take_succ_cons, List.take_zero, List.drop_succ_cons, List.drop_zero]
  repeat (quiet_step (first | (go_at_call 66; exact Ext.call (whole_any _ _))))
  refine wpQuiet_nil ?_
  intro X
  have hXf := @Ext.frozen V
  have z1 := b1.lt
  have z2 := b2.lt
  obtain ⟨v1, v1', f1, f1'⟩ := b1.two
  obtain ⟨v2, v2', f2, f2'⟩ := b2.two
  by_cases h0 : 0 < m
  · have hcl : 0 < cs.length := by have := HM.out; omega
    have mL := lowOf_mem (ps := l.ps) hcl
    have mH := highOf_mem (ps := l.ps) hcl
    have sL : Small 2000000 (bel l.ps cs (lowOf l.ps cs)).1 ∧ 1 ≤ (bel l.ps cs (lowOf l.ps cs)).2 ∧ (bel l.ps cs (lowOf l.ps cs)).2 ≤ 8000000 := by
      obtain ⟨h1, h2, h3, _⟩ := bel_small hl hcs mL.1 mL.2
      exact ⟨h1, h2, h3⟩
    have sH : Small 2000000 (abv l.ps cs (highOf l.ps cs)).1 ∧ 1 ≤ (abv l.ps cs (highOf l.ps cs)).2 ∧ (abv l.ps cs (highOf l.ps cs)).2 ≤ 8000000 := by
      obtain ⟨_, h2, h3, h4, h5, _⟩ := bel_small hl hcs mH.1 mH.2
      exact ⟨h4, by omega, by omega⟩
    go_wp2_with fail
    have g0 := ((b0.kept X.below).other2 (k := w.heap.size + 1) (by omega) (.int .i64 l.lo) (.int .i64 1)).other2 (k := w.heap.size + 1 + 1) (by omega) (.int .i64 l.hi) (.int .i64 1)
    have g1 := ((b1.kept X.below).set2 (.int .i64 l.lo) (.int .i64 1)).other2 (k := w.heap.size + 1 + 1) (by omega) (.int .i64 l.hi) (.int .i64 1)
    have g2 := ((b2.kept X.below).other2 (k := w.heap.size + 1) (by omega) (.int .i64 l.lo) (.int .i64 1)).set2 (.int .i64 l.hi) (.int .i64 1)
    have hB2 := below_set2 (below_set2 (hB.trans (X.below.mono (by omega))) (k := w.heap.size + 1) (by omega) (.int .i64 l.lo) (.int .i64 1)) (k := w.heap.size + 1 + 1) (by omega) (.int .i64 l.hi) (.int .i64 1)
    have hs2 : w.heap.size ≤ X.w.heap.size := by have := X.below.size; omega
    have hpX : Row X.w w.heap.size a (spans l.ps) := hpV.below X.below (by omega)
    have hcX : Row X.w w.heap.size ca (ints cs) := hcV.below X.below (by omega)
    have hb4 : Below w.heap.size X.w ((((X.w.setCell ⟨w.heap.size + 1, 0, none⟩ (.int .i64 l.lo)).setCell ⟨w.heap.size + 1, 1, none⟩ (.int .i64 1)).setCell ⟨w.heap.size + 1 + 1, 0, none⟩ (.int .i64 l.hi)).setCell ⟨w.heap.size + 1 + 1, 1, none⟩ (.int .i64 1)) :=
      below_set2 (below_set2 (Below.refl _ _) (by omega) _ _) (by omega) _ _
    have hpU := hpX.below hb4 (Nat.le_refl _)
    have hcU := hcX.below hb4 (Nat.le_refl _)
    have hsU := hb4.size
    generalize hV : World.setCell (World.setCell (World.setCell (World.setCell X.w _ _) _ _) _ _) _ _ = U at *
    clear hV hb4 hpX hcX
    refine (HBD.out U (hpU.mono (by omega)) (hcU.mono (by omega))).mono ?_
    rintro e W1 ⟨rfl, hb1⟩
    have k0 := g0.kept hb1
    have k1 := g1.kept hb1
    have k2 := g2.kept hb1
    have hB3 := hB2.trans (hb1.mono (by omega))
    have hp1 := hpU.below hb1 (by omega)
    have hc1 := hcU.below hb1 (by omega)
    have hs1 : w.heap.size ≤ W1.heap.size := hB3.size
    clear hb1 g0 g1 g2 hB2 hpU hcU hsU hs2
    obtain ⟨c0, c1, c2, _⟩ := k0.three
    have y0 := k0.lt
    have y1 := k1.lt
    have y2 := k2.lt
    go_wp2_with fail
    have p1 := (Blk.new W1 #[.int .i64 ((lowOf l.ps cs).1 : Int), .int .i64 ((lowOf l.ps cs).2 : Int)] 60).alloc (.cells #[.int .i64 ((highOf l.ps cs).1 : Int), .int .i64 ((highOf l.ps cs).2 : Int)] 60)
    have p2 := Blk.new (W1.alloc (.cells #[.int .i64 ((lowOf l.ps cs).1 : Int), .int .i64 ((lowOf l.ps cs).2 : Int)] 60)) #[.int .i64 ((highOf l.ps cs).1 : Int), .int .i64 ((highOf l.ps cs).2 : Int)] 60
    have hbU : Below W1.heap.size W1 ((W1.alloc (.cells #[.int .i64 ((lowOf l.ps cs).1 : Int), .int .i64 ((lowOf l.ps cs).2 : Int)] 60)).alloc (.cells #[.int .i64 ((highOf l.ps cs).1 : Int), .int .i64 ((highOf l.ps cs).2 : Int)] 60)) :=
      ((Below.refl _ _).alloc (Nat.le_refl _) _).alloc (by simp) _
    simp only [World.size_alloc] at p2
    generalize hV : World.alloc (World.alloc W1 _) _ = U at *
    have u0 := k0.kept hbU
    have u1 := k1.kept hbU
    have u2 := k2.kept hbU
    have hBU := hB3.trans (hbU.mono (by omega))
    have hpU := hp1.below hbU (by omega)
    have hcU := hc1.below hbU (by omega)
    have hsU : w.heap.size ≤ U.heap.size := hBU.size
    have yw : w.heap.size + 1 + 1 < W1.heap.size := y2
    have yn : ¬ W1.heap.size = w.heap.size := by omega
    clear hV hbU k0 k1 k2 hB3 hp1 hc1 c0 c1 c2 y0 y1 y2
    refine (HBE.out (lowOf l.ps cs) mL.1 mL.2 U (hpU.mono (by omega)) (hcU.mono (by omega))).mono ?_
    rintro e W2 ⟨rfl, hb2⟩
    have k0 := (u0.kept hb2).alloc (.cells #[.int .i64 (bel l.ps cs (lowOf l.ps cs)).1, .int .i64 (bel l.ps cs (lowOf l.ps cs)).2] 88)
    have k1 := (u1.kept hb2).alloc (.cells #[.int .i64 (bel l.ps cs (lowOf l.ps cs)).1, .int .i64 (bel l.ps cs (lowOf l.ps cs)).2] 88)
    have k2 := (u2.kept hb2).alloc (.cells #[.int .i64 (bel l.ps cs (lowOf l.ps cs)).1, .int .i64 (bel l.ps cs (lowOf l.ps cs)).2] 88)
    have kp := (p2.kept hb2).alloc (.cells #[.int .i64 (bel l.ps cs (lowOf l.ps cs)).1, .int .i64 (bel l.ps cs (lowOf l.ps cs)).2] 88)
    have kx := Blk.new W2 #[.int .i64 (bel l.ps cs (lowOf l.ps cs)).1, .int .i64 (bel l.ps cs (lowOf l.ps cs)).2] 88
    have y1 := (u1.kept hb2).lt
    have x1 := (u1.kept hb2).two
    have hBW := (hBU.trans (hb2.mono (by omega))).alloc (by have := hb2.size; omega) (.cells #[.int .i64 (bel l.ps cs (lowOf l.ps cs)).1, .int .i64 (bel l.ps cs (lowOf l.ps cs)).2] 88)
    have hpW := hpU.below (hb2.alloc hb2.size (.cells #[.int .i64 (bel l.ps cs (lowOf l.ps cs)).1, .int .i64 (bel l.ps cs (lowOf l.ps cs)).2] 88)) (by omega)
    have hcW := hcU.below (hb2.alloc hb2.size (.cells #[.int .i64 (bel l.ps cs (lowOf l.ps cs)).1, .int .i64 (bel l.ps cs (lowOf l.ps cs)).2] 88)) (by omega)
    clear hb2 u0 u1 u2 p1 p2 hBU hpU hcU hsU
    go_wp2_with fail
    generalize hV : World.alloc W2 _ = U2 at *
    clear hV y1 x1
    refine (compare_any (bel l.ps cs (lowOf l.ps cs)).1 (bel l.ps cs (lowOf l.ps cs)).2 l.lo 1 U2 (by unfold Small at *; omega) (by unfold Small at *; omega) (by have := hl.lo1; have := hl.lohi; have := hl.hi1; unfold Small; omega) (by unfold Small; omega)).mono ?_
    rintro e W3 ⟨rfl, hb3⟩
    have n0 := k0.kept hb3
    have n1 := k1.kept hb3
    have n2 := k2.kept hb3
    have np := kp.kept hb3
    have nx := kx.kept hb3
    have hB3 := hBW.trans (hb3.mono hBW.size)
    have hp3 := hpW.below hb3 hBW.size
    have hc3 := hcW.below hb3 hBW.size
    have hzU : U.heap.size = U.heap.size := rfl
    clear hb3 k0 k1 k2 kp kx hBW hpW hcW hzU
    have EQ : Hid ((bel l.ps cs (lowOf l.ps cs)).1 * 1 - l.lo * (bel l.ps cs (lowOf l.ps cs)).2 = cmpR (bel l.ps cs (lowOf l.ps cs)) (l.lo, 1)) := rfl
    generalize hq : (bel l.ps cs (lowOf l.ps cs)).1 * 1 - l.lo * (bel l.ps cs (lowOf l.ps cs)).2 = q
    have HQ := hide hq
    clear hq
    by_cases hlow : 0 < q
    · have EL : Hid (lowEnd l cs = bel l.ps cs (lowOf l.ps cs)) := hide (by unfold lowEnd; rw [if_neg (by omega), if_pos (by rw [← EQ.out, HQ.out]; exact hlow)])
      obtain ⟨cx0, cx1, _, _⟩ := nx.two
      obtain ⟨c10, c11, f10, f11⟩ := n1.two
      obtain ⟨c00, c01, c02, _⟩ := n0.three
      obtain ⟨cp0, cp1, _, _⟩ := np.two
      go_wp2_with fail
      have t0 := n0.other2 (k := w.heap.size + 1) (by omega) (.int .i64 (bel l.ps cs (lowOf l.ps cs)).1) (.int .i64 (bel l.ps cs (lowOf l.ps cs)).2)
      have t1 := n1.set2 (.int .i64 (bel l.ps cs (lowOf l.ps cs)).1) (.int .i64 (bel l.ps cs (lowOf l.ps cs)).2)
      have t2 := n2.other2 (k := w.heap.size + 1) (by omega) (.int .i64 (bel l.ps cs (lowOf l.ps cs)).1) (.int .i64 (bel l.ps cs (lowOf l.ps cs)).2)
      have tb : Below w.heap.size W3 ((W3.setCell ⟨w.heap.size + 1, 0, none⟩ (.int .i64 (bel l.ps cs (lowOf l.ps cs)).1)).setCell ⟨w.heap.size + 1, 1, none⟩ (.int .i64 (bel l.ps cs (lowOf l.ps cs)).2)) := below_set2 (Below.refl _ _) (by omega) _ _
      generalize hV : World.setCell (World.setCell W3 _ _) _ _ = U3 at *
      have hBU := hB3.trans tb
      have hpU := hp3.below tb (Nat.le_refl _)
      have hcU := hc3.below tb (Nat.le_refl _)
      have hsU := hBU.size
      clear hV tb n0 n1 n2 nx np hB3 hp3 hc3
      refine (HAB.out (highOf l.ps cs) mH.1 mH.2 U3 (hpU.mono (by omega)) (hcU.mono (by omega))).mono ?_
      rintro e W4 ⟨rfl, hb4⟩
      have k1 := (t1.kept hb4).alloc (.cells #[.int .i64 (abv l.ps cs (highOf l.ps cs)).1, .int .i64 (abv l.ps cs (highOf l.ps cs)).2] 88)
      have k2 := (t2.kept hb4).alloc (.cells #[.int .i64 (abv l.ps cs (highOf l.ps cs)).1, .int .i64 (abv l.ps cs (highOf l.ps cs)).2] 88)
      have kx := Blk.new W4 #[.int .i64 (abv l.ps cs (highOf l.ps cs)).1, .int .i64 (abv l.ps cs (highOf l.ps cs)).2] 88
      have y2 := (t2.kept hb4).lt
      have x2 := (t2.kept hb4).two
      have hBW := (hBU.trans (hb4.mono (by omega))).alloc (by have := hb4.size; omega) (.cells #[.int .i64 (abv l.ps cs (highOf l.ps cs)).1, .int .i64 (abv l.ps cs (highOf l.ps cs)).2] 88)
      clear hb4 t0 t1 t2 hBU hpU hcU hsU
      go_wp2_with fail
      generalize hV : World.alloc W4 _ = U4 at *
      clear hV y2 x2
      refine (compare_any (abv l.ps cs (highOf l.ps cs)).1 (abv l.ps cs (highOf l.ps cs)).2 l.hi 1 U4 (by unfold Small at *; omega) (by unfold Small at *; omega) (by have := hl.lo1; have := hl.lohi; have := hl.hi1; unfold Small; omega) (by unfold Small; omega)).mono ?_
      rintro e W5 ⟨rfl, hb5⟩
      have n1 := k1.kept hb5
      have n2 := k2.kept hb5
      have nx := kx.kept hb5
      have hB5 := hBW.trans (hb5.mono hBW.size)
      clear hb5 k1 k2 kx hBW
      have EQ2 : Hid ((abv l.ps cs (highOf l.ps cs)).1 * 1 - l.hi * (abv l.ps cs (highOf l.ps cs)).2 = cmpR (abv l.ps cs (highOf l.ps cs)) (l.hi, 1)) := rfl
      generalize hq2 : (abv l.ps cs (highOf l.ps cs)).1 * 1 - l.hi * (abv l.ps cs (highOf l.ps cs)).2 = q2
      have HQ2 := hide hq2
      clear hq2
      by_cases hhigh : q2 < 0
      · have EH : Hid (highEnd l cs = abv l.ps cs (highOf l.ps cs)) := hide (by unfold highEnd; rw [if_neg (by omega), if_pos (by rw [← EQ2.out, HQ2.out]; exact hhigh)])
        obtain ⟨cx0, cx1, _, _⟩ := nx.two
        obtain ⟨c20, c21, f20, f21⟩ := n2.two
        go_wp2_with fail
        have g1 := n1.other2 (k := w.heap.size + 1 + 1) (by omega) (.int .i64 (abv l.ps cs (highOf l.ps cs)).1) (.int .i64 (abv l.ps cs (highOf l.ps cs)).2)
        have g2 := n2.set2 (.int .i64 (abv l.ps cs (highOf l.ps cs)).1) (.int .i64 (abv l.ps cs (highOf l.ps cs)).2)
        have hB2 := below_set2 hB5 (k := w.heap.size + 1 + 1) (by omega) (.int .i64 (abv l.ps cs (highOf l.ps cs)).1) (.int .i64 (abv l.ps cs (highOf l.ps cs)).2)
        generalize hV : World.setCell (World.setCell W5 _ _) _ _ = U at *
        clear hV
        have hT : Two w 88 (w.heap.size + 1) (w.heap.size + 1 + 1) (.int .i64 (lowEnd l cs).1) (.int .i64 (lowEnd l cs).2) (.int .i64 (highEnd l cs).1) (.int .i64 (highEnd l cs).2) U := ⟨by rw [EL.out]; exact g1, by rw [EH.out]; exact g2, hB2⟩
        have sE : Small 2000000 (lowEnd l cs).1 ∧ Small 8000000 (lowEnd l cs).2 ∧ Small 2000000 (highEnd l cs).1 ∧ Small 8000000 (highEnd l cs).2 := ends_small hl hcs
        have HPo : Hid (possible l cs = decide ((lowEnd l cs).1 * (highEnd l cs).2 - (highEnd l cs).1 * (lowEnd l cs).2 ≤ 0)) := hide rfl
        clear EL EH g1 g2 hB2
        generalize qa0 : (lowEnd l cs).1 = a0 at *
        have Qa0 := hide qa0
        clear qa0
        generalize qa1 : (lowEnd l cs).2 = a1 at *
        have Qa1 := hide qa1
        clear qa1
        generalize qb0 : (highEnd l cs).1 = b0 at *
        have Qb0 := hide qb0
        clear qb0
        generalize qb1 : (highEnd l cs).2 = b1 at *
        have Qb1 := hide qb1
        clear qb1
        have hne : Nonempty (Cls (Two w 88 (w.heap.size + 1) (w.heap.size + 1 + 1) (.int .i64 a0) (.int .i64 a1) (.int .i64 b0) (.int .i64 b1))) := ⟨⟨U, hT⟩⟩
        have hC := @Two.cells w 88 (w.heap.size + 1) (w.heap.size + 1 + 1) (.int .i64 a0) (.int .i64 a1) (.int .i64 b0) (.int .i64 b1)
        have HS1 := hide (fun x : Cls (Two w 88 (w.heap.size + 1) (w.heap.size + 1 + 1) (.int .i64 a0) (.int .i64 a1) (.int .i64 b0) (.int .i64 b1)) => Two.store1 (by omega) (by omega) x.ok)
        have HS2 := hide (fun x : Cls (Two w 88 (w.heap.size + 1) (w.heap.size + 1 + 1) (.int .i64 a0) (.int .i64 a1) (.int .i64 b0) (.int .i64 b1)) => Two.store2 (by omega) (by omega) x.ok)
        have HCM := hide (fun x : Cls (Two w 88 (w.heap.size + 1) (w.heap.size + 1 + 1) (.int .i64 a0) (.int .i64 a1) (.int .i64 b0) (.int .i64 b1)) => Cls.call (fun w' h => x.ok.kept h) (compare_any a0 a1 b0 b1 x.w (by unfold Small at *; omega) (by unfold Small at *; omega) (by unfold Small at *; omega) (by unfold Small at *; omega)))
        refine wp_region_calm (Cls.w (S := Two w 88 (w.heap.size + 1) (w.heap.size + 1 + 1) (.int .i64 a0) (.int .i64 a1) (.int .i64 b0) (.int .i64 b1))) (by kernel_rfl) (by kernel_rfl) (Cls.start hT.drew) ?_
        repeat (refine wpCalm_step (fun K hK => ?_); go_simp; first | (refine hK _ ?_; clear hK K) | (refine ⟨⟨undef, fun x => ⟨.inr ⟨⟨_, HS1.out x⟩, rfl⟩, rfl⟩⟩, hK _ ?_⟩; clear hK K) | (refine ⟨⟨undef, fun x => ⟨.inr ⟨⟨_, HS2.out x⟩, rfl⟩, rfl⟩⟩, hK _ ?_⟩; clear hK K) | (apply Exists.intro; refine ⟨fun _ => ?_, hK _ ?_⟩; (go_at_call 47; with_reducible exact HCM.out _); clear hK K))
        refine wpCalm_nil ?_
        intro x
        have hCx := hC x
        go_wp2
        refine bodyPost_ret (v := .tuple #[.agg #[.int .i64 a0, .int .i64 a1], .agg #[.int .i64 b0, .int .i64 b1], .bool (decide (a0 * b1 - b0 * a1 ≤ 0))])
          (by simp [results, Try.results61, go_sem, hCx]) rfl ⟨by rw [HPo.out, Qa0.out, Qa1.out, Qb0.out, Qb1.out], x.ok.2.2⟩
      · have EH : Hid (highEnd l cs = (l.hi, 1)) := hide (by unfold highEnd; rw [if_neg (by omega), if_neg (by rw [← EQ2.out, HQ2.out]; exact hhigh)])
        go_wp2_with fail
        have g1 := n1
        have g2 := n2
        have hB2 := hB5
        obtain ⟨U, hV⟩ : ∃ U, W5 = U := ⟨_, rfl⟩
        rw [hV] at g1 g2 hB2 ⊢
        clear hV
        have hT : Two w 88 (w.heap.size + 1) (w.heap.size + 1 + 1) (.int .i64 (lowEnd l cs).1) (.int .i64 (lowEnd l cs).2) (.int .i64 (highEnd l cs).1) (.int .i64 (highEnd l cs).2) U := ⟨by rw [EL.out]; exact g1, by rw [EH.out]; exact g2, hB2⟩
        have sE : Small 2000000 (lowEnd l cs).1 ∧ Small 8000000 (lowEnd l cs).2 ∧ Small 2000000 (highEnd l cs).1 ∧ Small 8000000 (highEnd l cs).2 := ends_small hl hcs
        have HPo : Hid (possible l cs = decide ((lowEnd l cs).1 * (highEnd l cs).2 - (highEnd l cs).1 * (lowEnd l cs).2 ≤ 0)) := hide rfl
        clear EL EH g1 g2 hB2
        generalize qa0 : (lowEnd l cs).1 = a0 at *
        have Qa0 := hide qa0
        clear qa0
        generalize qa1 : (lowEnd l cs).2 = a1 at *
        have Qa1 := hide qa1
        clear qa1
        generalize qb0 : (highEnd l cs).1 = b0 at *
        have Qb0 := hide qb0
        clear qb0
        generalize qb1 : (highEnd l cs).2 = b1 at *
        have Qb1 := hide qb1
        clear qb1
        have hne : Nonempty (Cls (Two w 88 (w.heap.size + 1) (w.heap.size + 1 + 1) (.int .i64 a0) (.int .i64 a1) (.int .i64 b0) (.int .i64 b1))) := ⟨⟨U, hT⟩⟩
        have hC := @Two.cells w 88 (w.heap.size + 1) (w.heap.size + 1 + 1) (.int .i64 a0) (.int .i64 a1) (.int .i64 b0) (.int .i64 b1)
        have HS1 := hide (fun x : Cls (Two w 88 (w.heap.size + 1) (w.heap.size + 1 + 1) (.int .i64 a0) (.int .i64 a1) (.int .i64 b0) (.int .i64 b1)) => Two.store1 (by omega) (by omega) x.ok)
        have HS2 := hide (fun x : Cls (Two w 88 (w.heap.size + 1) (w.heap.size + 1 + 1) (.int .i64 a0) (.int .i64 a1) (.int .i64 b0) (.int .i64 b1)) => Two.store2 (by omega) (by omega) x.ok)
        have HCM := hide (fun x : Cls (Two w 88 (w.heap.size + 1) (w.heap.size + 1 + 1) (.int .i64 a0) (.int .i64 a1) (.int .i64 b0) (.int .i64 b1)) => Cls.call (fun w' h => x.ok.kept h) (compare_any a0 a1 b0 b1 x.w (by unfold Small at *; omega) (by unfold Small at *; omega) (by unfold Small at *; omega) (by unfold Small at *; omega)))
        refine wp_region_calm (Cls.w (S := Two w 88 (w.heap.size + 1) (w.heap.size + 1 + 1) (.int .i64 a0) (.int .i64 a1) (.int .i64 b0) (.int .i64 b1))) (by kernel_rfl) (by kernel_rfl) (Cls.start hT.drew) ?_
        repeat (refine wpCalm_step (fun K hK => ?_); go_simp; first | (refine hK _ ?_; clear hK K) | (refine ⟨⟨undef, fun x => ⟨.inr ⟨⟨_, HS1.out x⟩, rfl⟩, rfl⟩⟩, hK _ ?_⟩; clear hK K) | (refine ⟨⟨undef, fun x => ⟨.inr ⟨⟨_, HS2.out x⟩, rfl⟩, rfl⟩⟩, hK _ ?_⟩; clear hK K) | (apply Exists.intro; refine ⟨fun _ => ?_, hK _ ?_⟩; (go_at_call 47; with_reducible exact HCM.out _); clear hK K))
        refine wpCalm_nil ?_
        intro x
        have hCx := hC x
        go_wp2
        refine bodyPost_ret (v := .tuple #[.agg #[.int .i64 a0, .int .i64 a1], .agg #[.int .i64 b0, .int .i64 b1], .bool (decide (a0 * b1 - b0 * a1 ≤ 0))])
          (by simp [results, Try.results61, go_sem, hCx]) rfl ⟨by rw [HPo.out, Qa0.out, Qa1.out, Qb0.out, Qb1.out], x.ok.2.2⟩
    · have EL : Hid (lowEnd l cs = (l.lo, 1)) := hide (by unfold lowEnd; rw [if_neg (by omega), if_neg (by rw [← EQ.out, HQ.out]; exact hlow)])
      obtain ⟨c00, c01, c02, _⟩ := n0.three
      obtain ⟨cp0, cp1, _, _⟩ := np.two
      go_wp2_with fail
      have t0 := n0
      have t1 := n1
      have t2 := n2
      have tb := Below.refl w.heap.size W3
      have hBU := hB3.trans tb
      have hpU := hp3.below tb (Nat.le_refl _)
      have hcU := hc3.below tb (Nat.le_refl _)
      have hsU := hBU.size
      clear tb n0 n1 n2 nx np hB3 hp3 hc3
      refine (HAB.out (highOf l.ps cs) mH.1 mH.2 W3 (hpU.mono (by omega)) (hcU.mono (by omega))).mono ?_
      rintro e W4 ⟨rfl, hb4⟩
      have k1 := (t1.kept hb4).alloc (.cells #[.int .i64 (abv l.ps cs (highOf l.ps cs)).1, .int .i64 (abv l.ps cs (highOf l.ps cs)).2] 88)
      have k2 := (t2.kept hb4).alloc (.cells #[.int .i64 (abv l.ps cs (highOf l.ps cs)).1, .int .i64 (abv l.ps cs (highOf l.ps cs)).2] 88)
      have kx := Blk.new W4 #[.int .i64 (abv l.ps cs (highOf l.ps cs)).1, .int .i64 (abv l.ps cs (highOf l.ps cs)).2] 88
      have y2 := (t2.kept hb4).lt
      have x2 := (t2.kept hb4).two
      have hBW := (hBU.trans (hb4.mono (by omega))).alloc (by have := hb4.size; omega) (.cells #[.int .i64 (abv l.ps cs (highOf l.ps cs)).1, .int .i64 (abv l.ps cs (highOf l.ps cs)).2] 88)
      clear hb4 t0 t1 t2 hBU hpU hcU hsU
      go_wp2_with fail
      generalize hV : World.alloc W4 _ = U4 at *
      clear hV y2 x2
      refine (compare_any (abv l.ps cs (highOf l.ps cs)).1 (abv l.ps cs (highOf l.ps cs)).2 l.hi 1 U4 (by unfold Small at *; omega) (by unfold Small at *; omega) (by have := hl.lo1; have := hl.lohi; have := hl.hi1; unfold Small; omega) (by unfold Small; omega)).mono ?_
      rintro e W5 ⟨rfl, hb5⟩
      have n1 := k1.kept hb5
      have n2 := k2.kept hb5
      have nx := kx.kept hb5
      have hB5 := hBW.trans (hb5.mono hBW.size)
      clear hb5 k1 k2 kx hBW
      have EQ2 : Hid ((abv l.ps cs (highOf l.ps cs)).1 * 1 - l.hi * (abv l.ps cs (highOf l.ps cs)).2 = cmpR (abv l.ps cs (highOf l.ps cs)) (l.hi, 1)) := rfl
      generalize hq2 : (abv l.ps cs (highOf l.ps cs)).1 * 1 - l.hi * (abv l.ps cs (highOf l.ps cs)).2 = q2
      have HQ2 := hide hq2
      clear hq2
      by_cases hhigh : q2 < 0
      · have EH : Hid (highEnd l cs = abv l.ps cs (highOf l.ps cs)) := hide (by unfold highEnd; rw [if_neg (by omega), if_pos (by rw [← EQ2.out, HQ2.out]; exact hhigh)])
        obtain ⟨cx0, cx1, _, _⟩ := nx.two
        obtain ⟨c20, c21, f20, f21⟩ := n2.two
        go_wp2_with fail
        have g1 := n1.other2 (k := w.heap.size + 1 + 1) (by omega) (.int .i64 (abv l.ps cs (highOf l.ps cs)).1) (.int .i64 (abv l.ps cs (highOf l.ps cs)).2)
        have g2 := n2.set2 (.int .i64 (abv l.ps cs (highOf l.ps cs)).1) (.int .i64 (abv l.ps cs (highOf l.ps cs)).2)
        have hB2 := below_set2 hB5 (k := w.heap.size + 1 + 1) (by omega) (.int .i64 (abv l.ps cs (highOf l.ps cs)).1) (.int .i64 (abv l.ps cs (highOf l.ps cs)).2)
        generalize hV : World.setCell (World.setCell W5 _ _) _ _ = U at *
        clear hV
        have hT : Two w 88 (w.heap.size + 1) (w.heap.size + 1 + 1) (.int .i64 (lowEnd l cs).1) (.int .i64 (lowEnd l cs).2) (.int .i64 (highEnd l cs).1) (.int .i64 (highEnd l cs).2) U := ⟨by rw [EL.out]; exact g1, by rw [EH.out]; exact g2, hB2⟩
        have sE : Small 2000000 (lowEnd l cs).1 ∧ Small 8000000 (lowEnd l cs).2 ∧ Small 2000000 (highEnd l cs).1 ∧ Small 8000000 (highEnd l cs).2 := ends_small hl hcs
        have HPo : Hid (possible l cs = decide ((lowEnd l cs).1 * (highEnd l cs).2 - (highEnd l cs).1 * (lowEnd l cs).2 ≤ 0)) := hide rfl
        clear EL EH g1 g2 hB2
        generalize qa0 : (lowEnd l cs).1 = a0 at *
        have Qa0 := hide qa0
        clear qa0
        generalize qa1 : (lowEnd l cs).2 = a1 at *
        have Qa1 := hide qa1
        clear qa1
        generalize qb0 : (highEnd l cs).1 = b0 at *
        have Qb0 := hide qb0
        clear qb0
        generalize qb1 : (highEnd l cs).2 = b1 at *
        have Qb1 := hide qb1
        clear qb1
        have hne : Nonempty (Cls (Two w 88 (w.heap.size + 1) (w.heap.size + 1 + 1) (.int .i64 a0) (.int .i64 a1) (.int .i64 b0) (.int .i64 b1))) := ⟨⟨U, hT⟩⟩
        have hC := @Two.cells w 88 (w.heap.size + 1) (w.heap.size + 1 + 1) (.int .i64 a0) (.int .i64 a1) (.int .i64 b0) (.int .i64 b1)
        have HS1 := hide (fun x : Cls (Two w 88 (w.heap.size + 1) (w.heap.size + 1 + 1) (.int .i64 a0) (.int .i64 a1) (.int .i64 b0) (.int .i64 b1)) => Two.store1 (by omega) (by omega) x.ok)
        have HS2 := hide (fun x : Cls (Two w 88 (w.heap.size + 1) (w.heap.size + 1 + 1) (.int .i64 a0) (.int .i64 a1) (.int .i64 b0) (.int .i64 b1)) => Two.store2 (by omega) (by omega) x.ok)
        have HCM := hide (fun x : Cls (Two w 88 (w.heap.size + 1) (w.heap.size + 1 + 1) (.int .i64 a0) (.int .i64 a1) (.int .i64 b0) (.int .i64 b1)) => Cls.call (fun w' h => x.ok.kept h) (compare_any a0 a1 b0 b1 x.w (by unfold Small at *; omega) (by unfold Small at *; omega) (by unfold Small at *; omega) (by unfold Small at *; omega)))
        refine wp_region_calm (Cls.w (S := Two w 88 (w.heap.size + 1) (w.heap.size + 1 + 1) (.int .i64 a0) (.int .i64 a1) (.int .i64 b0) (.int .i64 b1))) (by kernel_rfl) (by kernel_rfl) (Cls.start hT.drew) ?_
        repeat (refine wpCalm_step (fun K hK => ?_); go_simp; first | (refine hK _ ?_; clear hK K) | (refine ⟨⟨undef, fun x => ⟨.inr ⟨⟨_, HS1.out x⟩, rfl⟩, rfl⟩⟩, hK _ ?_⟩; clear hK K) | (refine ⟨⟨undef, fun x => ⟨.inr ⟨⟨_, HS2.out x⟩, rfl⟩, rfl⟩⟩, hK _ ?_⟩; clear hK K) | (apply Exists.intro; refine ⟨fun _ => ?_, hK _ ?_⟩; (go_at_call 47; with_reducible exact HCM.out _); clear hK K))
        refine wpCalm_nil ?_
        intro x
        have hCx := hC x
        go_wp2
        refine bodyPost_ret (v := .tuple #[.agg #[.int .i64 a0, .int .i64 a1], .agg #[.int .i64 b0, .int .i64 b1], .bool (decide (a0 * b1 - b0 * a1 ≤ 0))])
          (by simp [results, Try.results61, go_sem, hCx]) rfl ⟨by rw [HPo.out, Qa0.out, Qa1.out, Qb0.out, Qb1.out], x.ok.2.2⟩
      · have EH : Hid (highEnd l cs = (l.hi, 1)) := hide (by unfold highEnd; rw [if_neg (by omega), if_neg (by rw [← EQ2.out, HQ2.out]; exact hhigh)])
        go_wp2_with fail
        have g1 := n1
        have g2 := n2
        have hB2 := hB5
        obtain ⟨U, hV⟩ : ∃ U, W5 = U := ⟨_, rfl⟩
        rw [hV] at g1 g2 hB2 ⊢
        clear hV
        have hT : Two w 88 (w.heap.size + 1) (w.heap.size + 1 + 1) (.int .i64 (lowEnd l cs).1) (.int .i64 (lowEnd l cs).2) (.int .i64 (highEnd l cs).1) (.int .i64 (highEnd l cs).2) U := ⟨by rw [EL.out]; exact g1, by rw [EH.out]; exact g2, hB2⟩
        have sE : Small 2000000 (lowEnd l cs).1 ∧ Small 8000000 (lowEnd l cs).2 ∧ Small 2000000 (highEnd l cs).1 ∧ Small 8000000 (highEnd l cs).2 := ends_small hl hcs
        have HPo : Hid (possible l cs = decide ((lowEnd l cs).1 * (highEnd l cs).2 - (highEnd l cs).1 * (lowEnd l cs).2 ≤ 0)) := hide rfl
        clear EL EH g1 g2 hB2
        generalize qa0 : (lowEnd l cs).1 = a0 at *
        have Qa0 := hide qa0
        clear qa0
        generalize qa1 : (lowEnd l cs).2 = a1 at *
        have Qa1 := hide qa1
        clear qa1
        generalize qb0 : (highEnd l cs).1 = b0 at *
        have Qb0 := hide qb0
        clear qb0
        generalize qb1 : (highEnd l cs).2 = b1 at *
        have Qb1 := hide qb1
        clear qb1
        have hne : Nonempty (Cls (Two w 88 (w.heap.size + 1) (w.heap.size + 1 + 1) (.int .i64 a0) (.int .i64 a1) (.int .i64 b0) (.int .i64 b1))) := ⟨⟨U, hT⟩⟩
        have hC := @Two.cells w 88 (w.heap.size + 1) (w.heap.size + 1 + 1) (.int .i64 a0) (.int .i64 a1) (.int .i64 b0) (.int .i64 b1)
        have HS1 := hide (fun x : Cls (Two w 88 (w.heap.size + 1) (w.heap.size + 1 + 1) (.int .i64 a0) (.int .i64 a1) (.int .i64 b0) (.int .i64 b1)) => Two.store1 (by omega) (by omega) x.ok)
        have HS2 := hide (fun x : Cls (Two w 88 (w.heap.size + 1) (w.heap.size + 1 + 1) (.int .i64 a0) (.int .i64 a1) (.int .i64 b0) (.int .i64 b1)) => Two.store2 (by omega) (by omega) x.ok)
        have HCM := hide (fun x : Cls (Two w 88 (w.heap.size + 1) (w.heap.size + 1 + 1) (.int .i64 a0) (.int .i64 a1) (.int .i64 b0) (.int .i64 b1)) => Cls.call (fun w' h => x.ok.kept h) (compare_any a0 a1 b0 b1 x.w (by unfold Small at *; omega) (by unfold Small at *; omega) (by unfold Small at *; omega) (by unfold Small at *; omega)))
        refine wp_region_calm (Cls.w (S := Two w 88 (w.heap.size + 1) (w.heap.size + 1 + 1) (.int .i64 a0) (.int .i64 a1) (.int .i64 b0) (.int .i64 b1))) (by kernel_rfl) (by kernel_rfl) (Cls.start hT.drew) ?_
        repeat (refine wpCalm_step (fun K hK => ?_); go_simp; first | (refine hK _ ?_; clear hK K) | (refine ⟨⟨undef, fun x => ⟨.inr ⟨⟨_, HS1.out x⟩, rfl⟩, rfl⟩⟩, hK _ ?_⟩; clear hK K) | (refine ⟨⟨undef, fun x => ⟨.inr ⟨⟨_, HS2.out x⟩, rfl⟩, rfl⟩⟩, hK _ ?_⟩; clear hK K) | (apply Exists.intro; refine ⟨fun _ => ?_, hK _ ?_⟩; (go_at_call 47; with_reducible exact HCM.out _); clear hK K))
        refine wpCalm_nil ?_
        intro x
        have hCx := hC x
        go_wp2
        refine bodyPost_ret (v := .tuple #[.agg #[.int .i64 a0, .int .i64 a1], .agg #[.int .i64 b0, .int .i64 b1], .bool (decide (a0 * b1 - b0 * a1 ≤ 0))])
          (by simp [results, Try.results61, go_sem, hCx]) rfl ⟨by rw [HPo.out, Qa0.out, Qa1.out, Qb0.out, Qb1.out], x.ok.2.2⟩
  · have EL : Hid (lowEnd l cs = (l.lo, 1)) := hide (by unfold lowEnd; rw [if_pos (by have := HM.out; omega)])
    have EH : Hid (highEnd l cs = (l.hi, 1)) := hide (by unfold highEnd; rw [if_pos (by have := HM.out; omega)])
    go_wp2_with fail
    have g1 := ((b1.kept X.below).set2 (.int .i64 l.lo) (.int .i64 1)).other2 (k := w.heap.size + 1 + 1) (by omega) (.int .i64 l.hi) (.int .i64 1)
    have g2 := ((b2.kept X.below).other2 (k := w.heap.size + 1) (by omega) (.int .i64 l.lo) (.int .i64 1)).set2 (.int .i64 l.hi) (.int .i64 1)
    have hB2 := below_set2 (below_set2 (hB.trans (X.below.mono (by omega))) (k := w.heap.size + 1) (by omega) (.int .i64 l.lo) (.int .i64 1)) (k := w.heap.size + 1 + 1) (by omega) (.int .i64 l.hi) (.int .i64 1)
    generalize hV : World.setCell (World.setCell (World.setCell (World.setCell X.w _ _) _ _) _ _) _ _ = U at *
    clear hV
    have hT : Two w 88 (w.heap.size + 1) (w.heap.size + 1 + 1) (.int .i64 (lowEnd l cs).1) (.int .i64 (lowEnd l cs).2) (.int .i64 (highEnd l cs).1) (.int .i64 (highEnd l cs).2) U := ⟨by rw [EL.out]; exact g1, by rw [EH.out]; exact g2, hB2⟩
    have sE : Small 2000000 (lowEnd l cs).1 ∧ Small 8000000 (lowEnd l cs).2 ∧ Small 2000000 (highEnd l cs).1 ∧ Small 8000000 (highEnd l cs).2 := ends_small hl hcs
    have HPo : Hid (possible l cs = decide ((lowEnd l cs).1 * (highEnd l cs).2 - (highEnd l cs).1 * (lowEnd l cs).2 ≤ 0)) := hide rfl
    clear EL EH g1 g2 hB2
    generalize qa0 : (lowEnd l cs).1 = a0 at *
    have Qa0 := hide qa0
    clear qa0
    generalize qa1 : (lowEnd l cs).2 = a1 at *
    have Qa1 := hide qa1
    clear qa1
    generalize qb0 : (highEnd l cs).1 = b0 at *
    have Qb0 := hide qb0
    clear qb0
    generalize qb1 : (highEnd l cs).2 = b1 at *
    have Qb1 := hide qb1
    clear qb1
    have hne : Nonempty (Cls (Two w 88 (w.heap.size + 1) (w.heap.size + 1 + 1) (.int .i64 a0) (.int .i64 a1) (.int .i64 b0) (.int .i64 b1))) := ⟨⟨U, hT⟩⟩
    have hC := @Two.cells w 88 (w.heap.size + 1) (w.heap.size + 1 + 1) (.int .i64 a0) (.int .i64 a1) (.int .i64 b0) (.int .i64 b1)
    have HS1 := hide (fun x : Cls (Two w 88 (w.heap.size + 1) (w.heap.size + 1 + 1) (.int .i64 a0) (.int .i64 a1) (.int .i64 b0) (.int .i64 b1)) => Two.store1 (by omega) (by omega) x.ok)
    have HS2 := hide (fun x : Cls (Two w 88 (w.heap.size + 1) (w.heap.size + 1 + 1) (.int .i64 a0) (.int .i64 a1) (.int .i64 b0) (.int .i64 b1)) => Two.store2 (by omega) (by omega) x.ok)
    have HCM := hide (fun x : Cls (Two w 88 (w.heap.size + 1) (w.heap.size + 1 + 1) (.int .i64 a0) (.int .i64 a1) (.int .i64 b0) (.int .i64 b1)) => Cls.call (fun w' h => x.ok.kept h) (compare_any a0 a1 b0 b1 x.w (by unfold Small at *; omega) (by unfold Small at *; omega) (by unfold Small at *; omega) (by unfold Small at *; omega)))
    refine wp_region_calm (Cls.w (S := Two w 88 (w.heap.size + 1) (w.heap.size + 1 + 1) (.int .i64 a0) (.int .i64 a1) (.int .i64 b0) (.int .i64 b1))) (by kernel_rfl) (by kernel_rfl) (Cls.start hT.drew) ?_
    repeat (refine wpCalm_step (fun K hK => ?_); go_simp; first | (refine hK _ ?_; clear hK K) | (refine ⟨⟨undef, fun x => ⟨.inr ⟨⟨_, HS1.out x⟩, rfl⟩, rfl⟩⟩, hK _ ?_⟩; clear hK K) | (refine ⟨⟨undef, fun x => ⟨.inr ⟨⟨_, HS2.out x⟩, rfl⟩, rfl⟩⟩, hK _ ?_⟩; clear hK K) | (apply Exists.intro; refine ⟨fun _ => ?_, hK _ ?_⟩; (go_at_call 47; with_reducible exact HCM.out _); clear hK K))
    refine wpCalm_nil ?_
    intro x
    have hCx := hC x
    go_wp2
    refine bodyPost_ret (v := .tuple #[.agg #[.int .i64 a0, .int .i64 a1], .agg #[.int .i64 b0, .int .i64 b1], .bool (decide (a0 * b1 - b0 * a1 ≤ 0))])
      (by simp [results, Try.results61, go_sem, hCx]) rfl ⟨by rw [HPo.out, Qa0.out, Qa1.out, Qb0.out, Qb1.out], x.ok.2.2⟩

end Go.Proofs.Ytjgebepeghgmcaa
