/-
  Package period: the limits by a pair, checks, small functions.
-/
import Derived.Test.YtjgebepeghgmcaaLeaf
import Derived.Test.YtjgebepeghgmcaaPModel
namespace Go.Proofs.Ytjgebepeghgmcaa
open Go.RowKit
set_option linter.unusedVariables false
set_option linter.unusedSimpArgs false

set_option maxRecDepth 100000 in
set_option maxHeartbeats 1000000 in
theorem below_any (l : PLog) (cs : List Int) (a ca : Option Addr) (n cap m ccap : Nat) (p : Nat × Nat) (w : World) (hl : LOk l) (hcs : COk l cs) (hn : n = l.ps.length) (hm : m = cs.length) (hmc : m ≤ ccap)
    (hp : Row w w.heap.size a (spans l.ps)) (hc : Row w w.heap.size ca (ints cs)) (hik : p.1 < p.2) (hk : p.2 ≤ cs.length) :
    Calls Try.prog 64 #[.agg #[.int .i64 l.lo, .int .i64 l.hi, .slice a n cap], .slice ca m ccap, .agg #[.int .i64 (p.1 : Int), .int .i64 (p.2 : Int)]] w fun e w' =>
      e = .returned (.agg #[.int .i64 (bel l.ps cs p).1, .int .i64 (bel l.ps cs p).2]) ∧ Below w.heap.size w w' := by
  obtain ⟨lo, hi, ps⟩ := l
  obtain ⟨i, k⟩ := p
  have hlen := hcs.len
  dsimp only at *
  have hkn : k < ps.length := by omega
  obtain ⟨b, off, rfl, hb, hcell⟩ := hp.span (by omega)
  have h1 := (hcell k hkn).1
  have h2 := (hcell i (by omega)).2
  clear hcell
  have b1 := hl.inb k hkn
  have b2 := hl.inb i (show i < ps.length by omega)
  dsimp only at b1 b2
  have l8 := hl.len8
  dsimp only at l8
  have ew : IntKind.i64.wrap (los ps k - his ps i) = los ps k - his ps i := by rw [IntKind.wrap_i64]; omega
  have eS := sumW_eq ((cs.drop i).take (k - i)) (by simp; omega) (fun x hx => by have := hcs.inb x (List.mem_of_mem_drop (List.mem_of_mem_take hx)); omega)
  have EB : Hid (bel ps cs (i, k) = (los ps k - his ps i, sumW ((cs.drop i).take (k - i)))) := by
    show bel ps cs (i, k) = _
    simp [bel, csum, eS.1]
  clear eS
  have i1 : (i : Int) < (n : Int) := by omega
  have i2 : (k : Int) < (n : Int) := by omega
  have i3 : (i : Int) ≤ (k : Int) := by omega
  have i4 : (k : Int) ≤ (ccap : Int) := by omega
  have i5 : ¬ ccap = i := by omega
  have Hn := hide hn
  have Hm := hide hm
  clear hn hm
  go_enter Try.func64, Try.ntmps64
  go_wp2
  generalize hW : World.alloc (World.alloc (World.alloc w _) _) _ = W
  have hB : Below w.heap.size w W := by rw [← hW]; exact (((Below.refl _ _).alloc (Nat.le_refl _) _).alloc (by simp) _).alloc (by simp; omega) _
  have hz : w.heap.size + 2 < W.heap.size := by rw [← hW]; simp
  have c0 : W.cell? ⟨w.heap.size, 2, none⟩ = some (.slice (some ⟨b, off, none⟩) n cap) := by subst hW; go_simp
  have c1 : W.cell? ⟨w.heap.size + 1, 0, none⟩ = some (.int .i64 (i : Int)) := by subst hW; go_simp
  have c2 : W.cell? ⟨w.heap.size + 1, 1, none⟩ = some (.int .i64 (k : Int)) := by subst hW; go_simp
  have c3 := (hB.cell (p := ⟨b, off + k * 2, none⟩) hb).trans h1
  have c4 := (hB.cell (p := ⟨b, off + i * 2 + 1, none⟩) hb).trans h2
  have hbW : b < W.heap.size := by omega
  have z0 : w.heap.size < W.heap.size := by omega
  have z1 : w.heap.size + 1 < W.heap.size := by omega
  have r0 : W.cell? ⟨w.heap.size + 1 + 1, 0, none⟩ = some (.int .i64 0) := by subst hW; go_simp
  have r1 : W.cell? ⟨w.heap.size + 1 + 1, 1, none⟩ = some (.int .i64 0) := by subst hW; go_simp
  have r2 : W.frozen? ⟨w.heap.size + 1 + 1, 0, none⟩ = false := by subst hW; go_simp
  have r3 : W.frozen? ⟨w.heap.size + 1 + 1, 1, none⟩ = false := by subst hW; go_simp
  have hcW := hc.below hB (Nat.le_refl _)
  clear hW h1 h2
  have hX := @Ext.cell W
  have hXf := @Ext.frozen W
  have hcall := fun x : Ext W => Ext.call_same (sum_any ((cs.drop i).take (k - i)) (ca.map (·.add i)) (k - i) (ccap - i) w.heap.size x.w (by simp; omega) (by omega) (by rw [← ints_cut]; exact (hcW.below x.below (by omega)).cut i k))
  have HC := hide hcall
  clear hcall
  refine wp_region_head (Ext.w (W := W)) 23 (by kernel_rfl) (by kernel_rfl) (Ext.start W) ?_
  simp only [List.take_succ_cons, List.take_zero, List.drop_succ_cons, List.drop_zero]
  repeat (quiet_step ((go_at_call 44; exact HC.out _)))
  refine wpQuiet_nil ?_
  intro x
  go_wp2
  rw [EB.out]
  refine bodyPost_ret (v := .agg #[.int .i64 (los ps k - his ps i), .int .i64 (sumW ((cs.drop i).take (k - i)))]) (by simp [results, Try.results64, go_sem, hX, r0, r1, hz]) rfl ⟨rfl, ?_⟩
  exact ((hB.trans (x.below.mono (by omega))).setCell (by simp; omega) _).setCell (by simp; omega) _

set_option maxRecDepth 100000 in
set_option maxHeartbeats 1000000 in
theorem above_any (l : PLog) (cs : List Int) (a ca : Option Addr) (n cap m ccap : Nat) (p : Nat × Nat) (w : World) (hl : LOk l) (hcs : COk l cs) (hn : n = l.ps.length) (hm : m = cs.length) (hmc : m ≤ ccap)
    (hp : Row w w.heap.size a (spans l.ps)) (hc : Row w w.heap.size ca (ints cs)) (hik : p.1 < p.2) (hk : p.2 ≤ cs.length) :
    Calls Try.prog 65 #[.agg #[.int .i64 l.lo, .int .i64 l.hi, .slice a n cap], .slice ca m ccap, .agg #[.int .i64 (p.1 : Int), .int .i64 (p.2 : Int)]] w fun e w' =>
      e = .returned (.agg #[.int .i64 (abv l.ps cs p).1, .int .i64 (abv l.ps cs p).2]) ∧ Below w.heap.size w w' := by
  obtain ⟨lo, hi, ps⟩ := l
  obtain ⟨i, k⟩ := p
  have hlen := hcs.len
  dsimp only at *
  have hkn : k < ps.length := by omega
  obtain ⟨b, off, rfl, hb, hcell⟩ := hp.span (by omega)
  have h1 := (hcell k hkn).2
  have h2 := (hcell i (by omega)).1
  clear hcell
  have b1 := hl.inb k hkn
  have b2 := hl.inb i (show i < ps.length by omega)
  dsimp only at b1 b2
  have l8 := hl.len8
  dsimp only at l8
  have ew : IntKind.i64.wrap (his ps k - los ps i) = his ps k - los ps i := by rw [IntKind.wrap_i64]; omega
  have eS := sumW_eq ((cs.drop i).take (k - i)) (by simp; omega) (fun x hx => by have := hcs.inb x (List.mem_of_mem_drop (List.mem_of_mem_take hx)); omega)
  have EB : Hid (abv ps cs (i, k) = (his ps k - los ps i, sumW ((cs.drop i).take (k - i)))) := by
    show abv ps cs (i, k) = _
    simp [abv, csum, eS.1]
  clear eS
  have i1 : (i : Int) < (n : Int) := by omega
  have i2 : (k : Int) < (n : Int) := by omega
  have i3 : (i : Int) ≤ (k : Int) := by omega
  have i4 : (k : Int) ≤ (ccap : Int) := by omega
  have i5 : ¬ ccap = i := by omega
  have Hn := hide hn
  have Hm := hide hm
  clear hn hm
  go_enter Try.func65, Try.ntmps65
  go_wp2
  generalize hW : World.alloc (World.alloc (World.alloc w _) _) _ = W
  have hB : Below w.heap.size w W := by rw [← hW]; exact (((Below.refl _ _).alloc (Nat.le_refl _) _).alloc (by simp) _).alloc (by simp; omega) _
  have hz : w.heap.size + 2 < W.heap.size := by rw [← hW]; simp
  have c0 : W.cell? ⟨w.heap.size, 2, none⟩ = some (.slice (some ⟨b, off, none⟩) n cap) := by subst hW; go_simp
  have c1 : W.cell? ⟨w.heap.size + 1, 0, none⟩ = some (.int .i64 (i : Int)) := by subst hW; go_simp
  have c2 : W.cell? ⟨w.heap.size + 1, 1, none⟩ = some (.int .i64 (k : Int)) := by subst hW; go_simp
  have c3 := (hB.cell (p := ⟨b, off + k * 2 + 1, none⟩) hb).trans h1
  have c4 := (hB.cell (p := ⟨b, off + i * 2, none⟩) hb).trans h2
  have hbW : b < W.heap.size := by omega
  have z0 : w.heap.size < W.heap.size := by omega
  have z1 : w.heap.size + 1 < W.heap.size := by omega
  have r0 : W.cell? ⟨w.heap.size + 1 + 1, 0, none⟩ = some (.int .i64 0) := by subst hW; go_simp
  have r1 : W.cell? ⟨w.heap.size + 1 + 1, 1, none⟩ = some (.int .i64 0) := by subst hW; go_simp
  have r2 : W.frozen? ⟨w.heap.size + 1 + 1, 0, none⟩ = false := by subst hW; go_simp
  have r3 : W.frozen? ⟨w.heap.size + 1 + 1, 1, none⟩ = false := by subst hW; go_simp
  have hcW := hc.below hB (Nat.le_refl _)
  clear hW h1 h2
  have hX := @Ext.cell W
  have hXf := @Ext.frozen W
  have hcall := fun x : Ext W => Ext.call_same (sum_any ((cs.drop i).take (k - i)) (ca.map (·.add i)) (k - i) (ccap - i) w.heap.size x.w (by simp; omega) (by omega) (by rw [← ints_cut]; exact (hcW.below x.below (by omega)).cut i k))
  have HC := hide hcall
  clear hcall
  refine wp_region_head (Ext.w (W := W)) 23 (by kernel_rfl) (by kernel_rfl) (Ext.start W) ?_
  simp only [List.take_succ_cons, List.take_zero, List.drop_succ_cons, List.drop_zero]
  repeat (quiet_step ((go_at_call 44; exact HC.out _)))
  refine wpQuiet_nil ?_
  intro x
  go_wp2
  rw [EB.out]
  refine bodyPost_ret (v := .agg #[.int .i64 (his ps k - los ps i), .int .i64 (sumW ((cs.drop i).take (k - i)))]) (by simp [results, Try.results65, go_sem, hX, r0, r1, hz]) rfl ⟨rfl, ?_⟩
  exact ((hB.trans (x.below.mono (by omega))).setCell (by simp; omega) _).setCell (by simp; omega) _

end Go.Proofs.Ytjgebepeghgmcaa
