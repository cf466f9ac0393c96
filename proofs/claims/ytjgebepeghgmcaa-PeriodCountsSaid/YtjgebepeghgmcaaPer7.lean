/-
  Package period: the pairs that limit the period most.
-/
import Derived.Test.YtjgebepeghgmcaaPer6
namespace Go.Proofs.Ytjgebepeghgmcaa
open Go.RowKit Go.Shelf
set_option linter.unusedVariables false
set_option linter.unusedSimpArgs false

theorem mem_pairsOf {n : Nat} {p : Nat × Nat} : p ∈ pairsOf n ↔ p.1 < p.2 ∧ p.2 < n := by
  obtain ⟨i, k⟩ := p
  simp only [pairsOf, pairsFrom, List.mem_flatMap, List.mem_range, List.mem_map, List.mem_range'_1, Prod.mk.injEq]
  constructor
  · rintro ⟨i', h1, k', h2, rfl, rfl⟩; omega
  · intro h; exact ⟨i, by omega, k, by omega, rfl, rfl⟩

theorem bel_small {l : PLog} {cs : List Int} (hl : LOk l) (hc : COk l cs) {p : Nat × Nat} (h1 : p.1 < p.2) (h2 : p.2 ≤ cs.length) :
    Small 2000000 (bel l.ps cs p).1 ∧ 1 ≤ (bel l.ps cs p).2 ∧ (bel l.ps cs p).2 ≤ 8000000 ∧ Small 2000000 (abv l.ps cs p).1 ∧ (abv l.ps cs p).2 = (bel l.ps cs p).2 ∧ 1 ≤ (abv l.ps cs p).1 := by
  have hlen := hc.len
  have l8 := hl.len8
  have b1 := hl.inb p.1 (by omega)
  have b2 := hl.inb p.2 (by omega)
  have b3 := csum_bound hc p.1 p.2 h1 h2
  have b4 : los l.ps p.1 < his l.ps p.2 := by
    have key : ∀ k, p.1 < k → k < l.ps.length → los l.ps p.1 < his l.ps k := by
      intro k
      induction k with
      | zero => intro h _; omega
      | succ k ih =>
        intro h hk
        have e1 := hl.inc k hk
        have e2 := hl.inb (k + 1) hk
        have e3 := hl.inb k (by omega)
        by_cases he : p.1 = k
        · subst he; omega
        · have := ih (by omega) (by omega); omega
    exact key p.2 h1 (by omega)
  unfold bel abv Small
  dsimp only
  omega

set_option maxRecDepth 100000 in
set_option maxHeartbeats 1000000 in
theorem bounds1_any (l : PLog) (cs : List Int) (a ca : Option Addr) (n cap m ccap bl bc : Nat) (x y : Nat × Nat) (W : World) (hl : LOk l) (hcs : COk l cs) (hn : n = l.ps.length) (hm : m = cs.length) (hmc : m ≤ ccap)
    (hbl : Blk W bl #[.int .i64 l.lo, .int .i64 l.hi, .slice a n cap] 26) (hbc : Blk W bc #[.slice ca m ccap] 42)
    (hp : Row W W.heap.size a (spans l.ps)) (hc : Row W W.heap.size ca (ints cs)) (hx1 : x.1 < x.2) (hx2 : x.2 ≤ cs.length) (hy1 : y.1 < y.2) (hy2 : y.2 ≤ cs.length) :
    Calls Try.prog 76 #[.agg #[.int .i64 (x.1 : Int), .int .i64 (x.2 : Int)], .agg #[.int .i64 (y.1 : Int), .int .i64 (y.2 : Int)], .pointer (some ⟨bl, 0, none⟩), .pointer (some ⟨bc, 0, none⟩)] W fun e W' =>
      e = .returned (.bool (lowBetter l.ps cs x y)) ∧ Below W.heap.size W W' := by
  have sx := bel_small hl hcs hx1 hx2
  have sy := bel_small hl hcs hy1 hy2
  have E : Hid (lowBetter l.ps cs x y = decide (0 < (bel l.ps cs x).1 * (bel l.ps cs y).2 - (bel l.ps cs y).1 * (bel l.ps cs x).2)) := rfl
  have HB := hide (fun (p : Nat × Nat) (h1 : p.1 < p.2) (h2 : p.2 ≤ cs.length) (W : World) (hp : Row W W.heap.size a (spans l.ps)) (hc : Row W W.heap.size ca (ints cs)) => below_any l cs a ca n cap m ccap p W hl hcs hn hm hmc hp hc h1 h2)
  have HN := hide hn
  clear hn hm
  go_enter Try.func76, Try.ntmps76
  go_wp2
  generalize hW : World.alloc (World.alloc W _) _ = V
  have hB : Below W.heap.size W V := by rw [← hW]; exact ((Below.refl _ _).alloc (Nat.le_refl _) _).alloc (by simp) _
  have hz : V.heap.size = W.heap.size + 2 := by rw [← hW]; simp
  have z0 : W.heap.size < V.heap.size := by omega
  have z1 : W.heap.size + 1 < V.heap.size := by omega
  have b0 := hbl.kept hB
  have b1 := hbc.kept hB
  have c0 : V.cell? ⟨bl, 0, none⟩ = some (.int .i64 l.lo) := b0.cell 0
  have c1 : V.cell? ⟨bl, 1, none⟩ = some (.int .i64 l.hi) := b0.cell 1
  have c2 : V.cell? ⟨bl, 2, none⟩ = some (.slice a n cap) := b0.cell 2
  have c3 : V.cell? ⟨bc, 0, none⟩ = some (.slice ca m ccap) := b1.cell 0
  have z2 := b0.lt
  have z3 := b1.lt
  have d0 : V.cell? ⟨W.heap.size, 0, none⟩ = some (.int .i64 (x.1 : Int)) := by subst hW; go_simp
  have d1 : V.cell? ⟨W.heap.size, 1, none⟩ = some (.int .i64 (x.2 : Int)) := by subst hW; go_simp
  have d2 : V.cell? ⟨W.heap.size + 1, 0, none⟩ = some (.int .i64 (y.1 : Int)) := by subst hW; go_simp
  have d3 : V.cell? ⟨W.heap.size + 1, 1, none⟩ = some (.int .i64 (y.2 : Int)) := by subst hW; go_simp
  have hpV := hp.below hB (Nat.le_refl _)
  have hcV := hc.below hB (Nat.le_refl _)
  have HX := hide (fun X : Ext V => Ext.call (HB.out x hx1 hx2 X.w ((hpV.below X.below (by omega)).mono (by have := X.below.size; omega)) ((hcV.below X.below (by omega)).mono (by have := X.below.size; omega))))
  have HY := hide (fun X : Ext V => Ext.call (HB.out y hy1 hy2 X.w ((hpV.below X.below (by omega)).mono (by have := X.below.size; omega)) ((hcV.below X.below (by omega)).mono (by have := X.below.size; omega))))
  have HC := hide (fun X : Ext V => Ext.call (compare_any (bel l.ps cs x).1 (bel l.ps cs x).2 (bel l.ps cs y).1 (bel l.ps cs y).2 X.w (by unfold Small at *; omega) (by unfold Small; omega) (by unfold Small at *; omega) (by unfold Small; omega)))
  clear hW hz b0 b1 hbl hbc hpV hcV hp hc sx sy hx1 hx2 hy1 hy2
  have hX := @Ext.cell V
  refine wp_region_all (Ext.w (W := V)) (by kernel_rfl) (by kernel_rfl) (Ext.start V) ?_
  repeat (quiet_step (first | (go_at_call 64; with_reducible exact HX.out _) | (go_at_call 64; with_reducible exact HY.out _) | (go_at_call 47; with_reducible exact HC.out _)))
  refine wpQuiet_nil ?_
  intro X
  go_wp2
  go_ret
  refine ⟨?_, hB.trans (X.below.mono (by omega))⟩
  rw [E.out]
  exact congrArg (fun b => Ending.returned (.bool b)) (decide_eq_decide.2 (by omega))

set_option maxRecDepth 100000 in
set_option maxHeartbeats 1000000 in
theorem bounds2_any (l : PLog) (cs : List Int) (a ca : Option Addr) (n cap m ccap bl bc : Nat) (x y : Nat × Nat) (W : World) (hl : LOk l) (hcs : COk l cs) (hn : n = l.ps.length) (hm : m = cs.length) (hmc : m ≤ ccap)
    (hbl : Blk W bl #[.int .i64 l.lo, .int .i64 l.hi, .slice a n cap] 26) (hbc : Blk W bc #[.slice ca m ccap] 42)
    (hp : Row W W.heap.size a (spans l.ps)) (hc : Row W W.heap.size ca (ints cs)) (hx1 : x.1 < x.2) (hx2 : x.2 ≤ cs.length) (hy1 : y.1 < y.2) (hy2 : y.2 ≤ cs.length) :
    Calls Try.prog 77 #[.agg #[.int .i64 (x.1 : Int), .int .i64 (x.2 : Int)], .agg #[.int .i64 (y.1 : Int), .int .i64 (y.2 : Int)], .pointer (some ⟨bl, 0, none⟩), .pointer (some ⟨bc, 0, none⟩)] W fun e W' =>
      e = .returned (.bool (highBetter l.ps cs x y)) ∧ Below W.heap.size W W' := by
  have sx := bel_small hl hcs hx1 hx2
  have sy := bel_small hl hcs hy1 hy2
  have E : Hid (highBetter l.ps cs x y = decide ((abv l.ps cs x).1 * (abv l.ps cs y).2 - (abv l.ps cs y).1 * (abv l.ps cs x).2 < 0)) := rfl
  have HB := hide (fun (p : Nat × Nat) (h1 : p.1 < p.2) (h2 : p.2 ≤ cs.length) (W : World) (hp : Row W W.heap.size a (spans l.ps)) (hc : Row W W.heap.size ca (ints cs)) => above_any l cs a ca n cap m ccap p W hl hcs hn hm hmc hp hc h1 h2)
  have HN := hide hn
  clear hn hm
  go_enter Try.func77, Try.ntmps77
  go_wp2
  generalize hW : World.alloc (World.alloc W _) _ = V
  have hB : Below W.heap.size W V := by rw [← hW]; exact ((Below.refl _ _).alloc (Nat.le_refl _) _).alloc (by simp) _
  have hz : V.heap.size = W.heap.size + 2 := by rw [← hW]; simp
  have z0 : W.heap.size < V.heap.size := by omega
  have z1 : W.heap.size + 1 < V.heap.size := by omega
  have b0 := hbl.kept hB
  have b1 := hbc.kept hB
  have c0 : V.cell? ⟨bl, 0, none⟩ = some (.int .i64 l.lo) := b0.cell 0
  have c1 : V.cell? ⟨bl, 1, none⟩ = some (.int .i64 l.hi) := b0.cell 1
  have c2 : V.cell? ⟨bl, 2, none⟩ = some (.slice a n cap) := b0.cell 2
  have c3 : V.cell? ⟨bc, 0, none⟩ = some (.slice ca m ccap) := b1.cell 0
  have z2 := b0.lt
  have z3 := b1.lt
  have d0 : V.cell? ⟨W.heap.size, 0, none⟩ = some (.int .i64 (x.1 : Int)) := by subst hW; go_simp
  have d1 : V.cell? ⟨W.heap.size, 1, none⟩ = some (.int .i64 (x.2 : Int)) := by subst hW; go_simp
  have d2 : V.cell? ⟨W.heap.size + 1, 0, none⟩ = some (.int .i64 (y.1 : Int)) := by subst hW; go_simp
  have d3 : V.cell? ⟨W.heap.size + 1, 1, none⟩ = some (.int .i64 (y.2 : Int)) := by subst hW; go_simp
  have hpV := hp.below hB (Nat.le_refl _)
  have hcV := hc.below hB (Nat.le_refl _)
  have HX := hide (fun X : Ext V => Ext.call (HB.out x hx1 hx2 X.w ((hpV.below X.below (by omega)).mono (by have := X.below.size; omega)) ((hcV.below X.below (by omega)).mono (by have := X.below.size; omega))))
  have HY := hide (fun X : Ext V => Ext.call (HB.out y hy1 hy2 X.w ((hpV.below X.below (by omega)).mono (by have := X.below.size; omega)) ((hcV.below X.below (by omega)).mono (by have := X.below.size; omega))))
  have HC := hide (fun X : Ext V => Ext.call (compare_any (abv l.ps cs x).1 (abv l.ps cs x).2 (abv l.ps cs y).1 (abv l.ps cs y).2 X.w (by unfold Small at *; omega) (by unfold Small; omega) (by unfold Small at *; omega) (by unfold Small; omega)))
  clear hW hz b0 b1 hbl hbc hpV hcV hp hc sx sy hx1 hx2 hy1 hy2
  have hX := @Ext.cell V
  refine wp_region_all (Ext.w (W := V)) (by kernel_rfl) (by kernel_rfl) (Ext.start V) ?_
  repeat (quiet_step (first | (go_at_call 65; with_reducible exact HX.out _) | (go_at_call 65; with_reducible exact HY.out _) | (go_at_call 47; with_reducible exact HC.out _)))
  refine wpQuiet_nil ?_
  intro X
  go_wp2
  go_ret
  refine ⟨?_, hB.trans (X.below.mono (by omega))⟩
  rw [E.out]
  exact congrArg (fun b => Ending.returned (.bool b)) (decide_eq_decide.2 (by omega))


set_option maxRecDepth 100000 in
set_option maxHeartbeats 4000000 in
theorem bounds_any (l : PLog) (cs : List Int) (a ca : Option Addr) (n cap m ccap : Nat) (w : World) (hl : LOk l) (hcs : COk l cs) (hn : n = l.ps.length) (hm : m = cs.length) (hmc : m ≤ ccap)
    (hp : Row w w.heap.size a (spans l.ps)) (hc : Row w w.heap.size ca (ints cs)) :
    Calls Try.prog 62 #[.agg #[.int .i64 l.lo, .int .i64 l.hi, .slice a n cap], .slice ca m ccap] w fun e w' =>
      e = .returned (.tuple #[.agg #[.int .i64 ((lowOf l.ps cs).1 : Int), .int .i64 ((lowOf l.ps cs).2 : Int)], .agg #[.int .i64 ((highOf l.ps cs).1 : Int), .int .i64 ((highOf l.ps cs).2 : Int)]]) ∧ Below w.heap.size w w' := by
  have l8 := hl.len8
  have hlen := hcs.len
  have hm1 : m ≤ 8 := by omega
  have H1 := hide (fun (x y : Nat × Nat) (W : World) bl bc h1 h2 h3 h4 => bounds1_any l cs a ca n cap m ccap bl bc x y W hl hcs hn hm hmc h1 h2 h3 h4)
  have H2 := hide (fun (x y : Nat × Nat) (W : World) bl bc h1 h2 h3 h4 => bounds2_any l cs a ca n cap m ccap bl bc x y W hl hcs hn hm hmc h1 h2 h3 h4)
  have EL : Hid (lowOf l.ps cs = (firstBy (lowBetter l.ps cs) (pairsOf (m + 1))).getD (0, 0)) := hide (by rw [hm]; rfl)
  have EH : Hid (highOf l.ps cs = (firstBy (highBetter l.ps cs) (pairsOf (m + 1))).getD (0, 0)) := hide (by rw [hm]; rfl)
  have HM := hide hm
  clear hn hm
  go_enter Try.func62, Try.ntmps62
  go_wp2_with (go_at_call 74; refine (pairs_any _ _).mono ?_; rintro e w' ⟨rfl, rfl⟩)
  generalize hW : World.alloc (World.alloc (World.alloc (World.alloc (World.alloc w _) _) _) _) _ = V
  have hB : Below w.heap.size w V := by rw [← hW]; exact (((((Below.refl _ _).alloc (Nat.le_refl _) _).alloc (by simp) _).alloc (by simp; omega) _).alloc (by simp; omega) _).alloc (by simp; omega) _
  have hz : V.heap.size = w.heap.size + 5 := by rw [← hW]; simp
  have b0 : Blk V w.heap.size #[.int .i64 l.lo, .int .i64 l.hi, .slice a n cap] 26 := by rw [← hW]; exact ((((Blk.new w _ _).alloc _).alloc _).alloc _).alloc _
  have b1 : Blk V (w.heap.size + 1) #[.slice ca m ccap] 42 := by rw [← hW]; exact (((by simpa using Blk.new (World.alloc w _) _ _ : Blk _ (w.heap.size + 1) _ _).alloc _).alloc _).alloc _
  have b2 : Blk V (w.heap.size + 1 + 1) #[.int .i64 0, .int .i64 0] 60 := by rw [← hW]; exact ((by simpa using Blk.new (World.alloc (World.alloc w _) _) _ _ : Blk _ (w.heap.size + 1 + 1) _ _).alloc _).alloc _
  have b3 : Blk V (w.heap.size + 1 + 1 + 1) #[.int .i64 0, .int .i64 0] 60 := by rw [← hW]; exact (by simpa using Blk.new (World.alloc (World.alloc (World.alloc w _) _) _) _ _ : Blk _ (w.heap.size + 1 + 1 + 1) _ _).alloc _
  have b4 : Blk V (w.heap.size + 1 + 1 + 1 + 1) #[.int .i64 ((m + 1 : Nat) : Int)] 3 := by rw [← hW]; exact (by simpa using Blk.new (World.alloc (World.alloc (World.alloc (World.alloc w _) _) _) _) _ _)
  clear hW
  have hpV := hp.below hB (Nat.le_refl _)
  have hcV := hc.below hB (Nat.le_refl _)
  have PL := hide (fun (W : World) (b0 : Blk W w.heap.size #[.int .i64 l.lo, .int .i64 l.hi, .slice a n cap] 26) (b1 : Blk W (w.heap.size + 1) #[.slice ca m ccap] 42) (b4 : Blk W (w.heap.size + 1 + 1 + 1 + 1) #[.int .i64 ((m + 1 : Nat) : Int)] 3)
      (hp : Row W w.heap.size a (spans l.ps)) (hc : Row W w.heap.size ca (ints cs)) (hs : w.heap.size ≤ W.heap.size) =>
    firstP_any (lowBetter l.ps cs) (pairsOf (m + 1)) 81 #[.pointer (some ⟨w.heap.size + 1 + 1 + 1 + 1, 0, none⟩)] (fun k => k = w.heap.size + 1 + 1 + 1 + 1) 76 #[.pointer (some ⟨w.heap.size, 0, none⟩), .pointer (some ⟨w.heap.size + 1, 0, none⟩)] W
      (pairs_iter _ (m + 1) (by omega) W b4.lt (b4.cell 0)) (fun k hk => by subst hk; exact b4.lt) (enters_of Try.func81 (by kernel_rfl) rfl) (enters_of Try.func76 (by kernel_rfl) rfl)
      (fun x y hx hy U hU => by
        have hx := mem_pairsOf.1 hx
        have hy := mem_pairsOf.1 hy
        have hm := HM.out
        exact H1.out x y U _ _ (b0.kept hU) (b1.kept hU) ((hp.below hU hs).mono (by have := hU.size; omega)) ((hc.below hU hs).mono (by have := hU.size; omega)) hx.1 (by omega) hy.1 (by omega)))
  have PH := hide (fun (W : World) (b0 : Blk W w.heap.size #[.int .i64 l.lo, .int .i64 l.hi, .slice a n cap] 26) (b1 : Blk W (w.heap.size + 1) #[.slice ca m ccap] 42) (b4 : Blk W (w.heap.size + 1 + 1 + 1 + 1) #[.int .i64 ((m + 1 : Nat) : Int)] 3)
      (hp : Row W w.heap.size a (spans l.ps)) (hc : Row W w.heap.size ca (ints cs)) (hs : w.heap.size ≤ W.heap.size) =>
    firstP_any (highBetter l.ps cs) (pairsOf (m + 1)) 81 #[.pointer (some ⟨w.heap.size + 1 + 1 + 1 + 1, 0, none⟩)] (fun k => k = w.heap.size + 1 + 1 + 1 + 1) 77 #[.pointer (some ⟨w.heap.size, 0, none⟩), .pointer (some ⟨w.heap.size + 1, 0, none⟩)] W
      (pairs_iter _ (m + 1) (by omega) W b4.lt (b4.cell 0)) (fun k hk => by subst hk; exact b4.lt) (enters_of Try.func81 (by kernel_rfl) rfl) (enters_of Try.func77 (by kernel_rfl) rfl)
      (fun x y hx hy U hU => by
        have hx := mem_pairsOf.1 hx
        have hy := mem_pairsOf.1 hy
        have hm := HM.out
        exact H2.out x y U _ _ (b0.kept hU) (b1.kept hU) ((hp.below hU hs).mono (by have := hU.size; omega)) ((hc.below hU hs).mono (by have := hU.size; omega)) hx.1 (by omega) hy.1 (by omega)))
  have hzle : w.heap.size + 5 ≤ V.heap.size := by omega
  clear hz hp hc
  refine (PL.out V b0 b1 b4 hpV hcV (by omega)).mono ?_
  rintro e W1 ⟨rfl, hb1⟩
  rw [← EL.out]
  have c0 := b0.kept hb1
  have c1 := b1.kept hb1
  have c2 := b2.kept hb1
  have c3 := b3.kept hb1
  have c4 := b4.kept hb1
  have hB1 : Below w.heap.size w W1 := hB.trans (hb1.mono (by omega))
  have hp1 := hpV.below hb1 (by omega)
  have hc1 := hcV.below hb1 (by omega)
  have hz1 : w.heap.size + 5 ≤ W1.heap.size := by have := hb1.size; omega
  clear b0 b1 b2 b3 b4 hb1 hpV hcV hB hzle V
  have f2 : W1.frozen? ⟨w.heap.size + 1 + 1, 0, none⟩ = false := c2.frozen 0
  have f2' : W1.frozen? ⟨w.heap.size + 1 + 1, 1, none⟩ = false := c2.frozen 1
  have v2 : W1.cell? ⟨w.heap.size + 1 + 1, 0, none⟩ = some (.int .i64 0) := c2.cell 0
  have v2' : W1.cell? ⟨w.heap.size + 1 + 1, 1, none⟩ = some (.int .i64 0) := c2.cell 1
  go_wp2_with fail
  have d0 := (c0.other (p := ⟨w.heap.size + 1 + 1, 0, none⟩) (by dsimp only; omega) (.int .i64 ((lowOf l.ps cs).1 : Int))).other (p := ⟨w.heap.size + 1 + 1, 1, none⟩) (by dsimp only; omega) (.int .i64 ((lowOf l.ps cs).2 : Int))
  have d1 := (c1.other (p := ⟨w.heap.size + 1 + 1, 0, none⟩) (by dsimp only; omega) (.int .i64 ((lowOf l.ps cs).1 : Int))).other (p := ⟨w.heap.size + 1 + 1, 1, none⟩) (by dsimp only; omega) (.int .i64 ((lowOf l.ps cs).2 : Int))
  have d2 := (c2.set 0 (.int .i64 ((lowOf l.ps cs).1 : Int))).set 1 (.int .i64 ((lowOf l.ps cs).2 : Int))
  have d3 := (c3.other (p := ⟨w.heap.size + 1 + 1, 0, none⟩) (by dsimp only; omega) (.int .i64 ((lowOf l.ps cs).1 : Int))).other (p := ⟨w.heap.size + 1 + 1, 1, none⟩) (by dsimp only; omega) (.int .i64 ((lowOf l.ps cs).2 : Int))
  have d4 := (c4.other (p := ⟨w.heap.size + 1 + 1, 0, none⟩) (by dsimp only; omega) (.int .i64 ((lowOf l.ps cs).1 : Int))).other (p := ⟨w.heap.size + 1 + 1, 1, none⟩) (by dsimp only; omega) (.int .i64 ((lowOf l.ps cs).2 : Int))
  have hb2 : Below w.heap.size W1 ((W1.setCell ⟨w.heap.size + 1 + 1, 0, none⟩ (.int .i64 ((lowOf l.ps cs).1 : Int))).setCell ⟨w.heap.size + 1 + 1, 1, none⟩ (.int .i64 ((lowOf l.ps cs).2 : Int))) :=
    ((Below.refl _ _).setCell (p := ⟨w.heap.size + 1 + 1, 0, none⟩) (by dsimp only; omega) _).setCell (p := ⟨w.heap.size + 1 + 1, 1, none⟩) (by dsimp only; omega) _
  generalize hV : World.setCell (World.setCell W1 ⟨w.heap.size + 1 + 1, 0, none⟩ _) ⟨w.heap.size + 1 + 1, 1, none⟩ _ = V at *
  clear hV c0 c1 c2 c3 c4 v2 v2' f2 f2'
  have hp2 := hp1.below hb2 (Nat.le_refl _)
  have hc2 := hc1.below hb2 (Nat.le_refl _)
  have hz2 := hb2.size
  have hB2 := hB1.trans hb2
  clear hb2 hB1 hp1 hc1
  refine (PH.out V d0 d1 d4 hp2 hc2 (by omega)).mono ?_
  rintro e W3 ⟨rfl, hb3⟩
  rw [← EH.out]
  have e2 := d2.kept hb3
  have e3 := d3.kept hb3
  have hB3 : Below w.heap.size w W3 := hB2.trans (hb3.mono (by omega))
  clear d0 d1 d2 d3 d4 hb3 hB2 hp2 hc2 hz2 hz1 V W1
  have f2 : W3.frozen? ⟨w.heap.size + 1 + 1, 0, none⟩ = false := e2.frozen 0
  have f2' : W3.frozen? ⟨w.heap.size + 1 + 1, 1, none⟩ = false := e2.frozen 1
  have v2 : W3.cell? ⟨w.heap.size + 1 + 1, 0, none⟩ = some (.int .i64 ((lowOf l.ps cs).1 : Int)) := e2.cell 0
  have v2' : W3.cell? ⟨w.heap.size + 1 + 1, 1, none⟩ = some (.int .i64 ((lowOf l.ps cs).2 : Int)) := e2.cell 1
  have f3 : W3.frozen? ⟨w.heap.size + 1 + 1 + 1, 0, none⟩ = false := e3.frozen 0
  have f3' : W3.frozen? ⟨w.heap.size + 1 + 1 + 1, 1, none⟩ = false := e3.frozen 1
  have v3 : W3.cell? ⟨w.heap.size + 1 + 1 + 1, 0, none⟩ = some (.int .i64 0) := e3.cell 0
  have v3' : W3.cell? ⟨w.heap.size + 1 + 1 + 1, 1, none⟩ = some (.int .i64 0) := e3.cell 1
  go_wp2_with fail
  have g2 := e2.other2 (k := w.heap.size + 1 + 1 + 1) (by omega) (.int .i64 ((highOf l.ps cs).1 : Int)) (.int .i64 ((highOf l.ps cs).2 : Int))
  have g3 := e3.set2 (.int .i64 ((highOf l.ps cs).1 : Int)) (.int .i64 ((highOf l.ps cs).2 : Int))
  have hB4 := below_set2 (k := w.heap.size + 1 + 1 + 1) hB3 (by omega) (.int .i64 ((highOf l.ps cs).1 : Int)) (.int .i64 ((highOf l.ps cs).2 : Int))
  generalize hV : World.setCell (World.setCell W3 ⟨w.heap.size + 1 + 1 + 1, 0, none⟩ _) ⟨w.heap.size + 1 + 1 + 1, 1, none⟩ _ = V at *
  clear hV e2 e3 hB3 f2 f2' v2 v2' f3 f3' v3 v3'
  obtain ⟨v2, v2', f2, f2'⟩ := g2.two
  obtain ⟨v3, v3', f3, f3'⟩ := g3.two
  go_region
  go_wp2
  have q2 := ((g2.set2 (.int .i64 ((lowOf l.ps cs).1 : Int)) (.int .i64 ((lowOf l.ps cs).2 : Int))).other2 (k := w.heap.size + 1 + 1 + 1) (by omega) (.int .i64 ((highOf l.ps cs).1 : Int)) (.int .i64 ((highOf l.ps cs).2 : Int))).drew
  have q3 := ((g3.other2 (k := w.heap.size + 1 + 1) (by omega) (.int .i64 ((lowOf l.ps cs).1 : Int)) (.int .i64 ((lowOf l.ps cs).2 : Int))).set2 (.int .i64 ((highOf l.ps cs).1 : Int)) (.int .i64 ((highOf l.ps cs).2 : Int))).drew
  refine bodyPost_ret (v := .tuple #[.agg #[.int .i64 ((lowOf l.ps cs).1 : Int), .int .i64 ((lowOf l.ps cs).2 : Int)], .agg #[.int .i64 ((highOf l.ps cs).1 : Int), .int .i64 ((highOf l.ps cs).2 : Int)]])
    (by simp [results, Try.results62, go_sem, v2, v2', v3, v3']) rfl ⟨rfl, ?_⟩
  exact (below_set2 (below_set2 hB4 (by omega) _ _) (by omega) _ _).drew

end Go.Proofs.Ytjgebepeghgmcaa
