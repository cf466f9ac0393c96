/-
  The chapter's reference: the limits by a pair.
-/
import Derived.Test.YtjgebepeghgmcaaRef1
import Derived.Test.YtjgebepeghgmcaaWatchL
import Derived.Test.YtjgebepeghgmcaaPer10
namespace Go.Proofs.Ytjgebepeghgmcaa
open Go.RowKit Go.Shelf
set_option linter.unusedVariables false
set_option linter.unusedSimpArgs false

theorem csum_step (cs : List Int) (i k : Nat) (hik : i ≤ k) (hk : k < cs.length) : csum cs i (k + 1) = csum cs i k + iat cs k := by
  rw [csum_sub cs i (k + 1) (by omega), csum_sub cs i k hik, csum_snoc cs k hk]
  omega
theorem csum_self (cs : List Int) (i : Nat) : csum cs i i = 0 := by simp [csum]
theorem sumW_eq_of : ∀ ys : List Int, (∀ x ∈ ys, 1 ≤ x ∧ x ≤ 1000000) → 0 ≤ ys.sum ∧ ys.sum ≤ 1000000 * (ys.length : Int)
  | [], _ => by simp
  | y :: ys, h => by
    have h1 := h y (by simp)
    have h2 := sumW_eq_of ys fun x hx => h x (by simp [hx])
    simp only [List.sum_cons, List.length_cons]
    omega
theorem csum_nn {cs : List Int} (h : ∀ x ∈ cs, 1 ≤ x ∧ x ≤ 1000000) (i k : Nat) : 0 ≤ csum cs i k ∧ csum cs i k ≤ 1000000 * (k : Int) := by
  unfold csum
  have := sumW_eq_of ((cs.drop i).take (k - i)) (fun x hx => h x (List.mem_of_mem_drop (List.mem_of_mem_take hx)))
  have hl : ((cs.drop i).take (k - i)).length ≤ k := by simp; omega
  omega

set_option maxRecDepth 100000 in
set_option maxHeartbeats 1000000 in
theorem refbetween_any (cs : List Int) (ca : Option Addr) (m ccap : Nat) (p : Nat × Nat) (B : Nat) (w : World) (hm : m = cs.length) (hcs : ∀ x ∈ cs, 1 ≤ x ∧ x ≤ 1000000) (hik : p.1 < p.2) (hk : p.2 ≤ cs.length) (hl : m ≤ 1000000) (hB : B ≤ w.heap.size) (hc : Row w B ca (ints cs)) :
    Calls Try.prog 82 #[.slice ca m ccap, .agg #[.int .i64 (p.1 : Int), .int .i64 (p.2 : Int)]] w fun e w' => e = .returned (.int .i64 (csum cs p.1 p.2)) ∧ Below w.heap.size w w' := by
  obtain ⟨i, k⟩ := p
  dsimp only at *
  have HM := hide hm
  have HCS := hide hcs
  have hkm : k ≤ m := by omega
  clear hm hcs
  go_enter Try.func82, Try.ntmps82
  go_wp2_with fail
  generalize hW : World.alloc w _ = W
  have hBe : Below w.heap.size w W := by rw [← hW]; exact (Below.refl _ _).alloc (Nat.le_refl _) _
  have b0 : Blk W w.heap.size #[.int .i64 (i : Int), .int .i64 (k : Int)] 60 := by rw [← hW]; exact Blk.new w _ _
  have hc' := hc.below hBe hB
  have u := b0.two
  have z := b0.lt
  clear hW hc
  go_loop [5, 6] (fun s j => ∃ jj : Nat, i ≤ jj ∧ jj ≤ k ∧ j = .int .i64 (jj : Int) ∧ s = .int .i64 (csum cs i jj)) (fun _ j => k - (intOf j).toNat)
  case atStart => exact ⟨i, Nat.le_refl _, by omega, rfl, by rw [csum_self]⟩
  case round =>
    obtain ⟨jj, hij, hjk, rfl, rfl⟩ := hrel
    by_cases hlt : jj < k
    · have hjm : jj < m := by omega
      obtain ⟨b, off, rfl, hb, hcell⟩ := hc'.int (by rw [← HM.out]; omega)
      have cl := hcell jj (by rw [← HM.out]; exact hjm)
      have HS := hide (csum_step cs i jj hij (by rw [← HM.out]; exact hjm))
      have g1 := csum_nn HCS.out i jj
      have g2 := csum_nn HCS.out i (jj + 1)
      rw [HS.out] at g2
      clear hcell
      generalize iat cs jj = x at *
      go_wp2_with fail
      go_round
      case rel => exact ⟨jj + 1, by omega, by omega, by go_num, by rw [HS.out]⟩
      case measure => simp [intOf]; omega
    · obtain rfl : jj = k := by omega
      go_wp2_with fail
      go_ret
      exact ⟨rfl, hBe⟩

set_option maxRecDepth 100000 in
set_option maxHeartbeats 1000000 in
theorem refbelow_any (l : PLog) (cs : List Int) (a ca : Option Addr) (n cap m ccap : Nat) (p : Nat × Nat) (w : World) (hl : LOk l) (hcs : COk l cs) (hn : n = l.ps.length) (hm : m = cs.length) (hmc : m ≤ ccap)
    (hp : Row w w.heap.size a (spans l.ps)) (hc : Row w w.heap.size ca (ints cs)) (hik : p.1 < p.2) (hk : p.2 ≤ cs.length) :
    Calls Try.prog 79 #[.agg #[.int .i64 l.lo, .int .i64 l.hi, .slice a n cap], .slice ca m ccap, .agg #[.int .i64 (p.1 : Int), .int .i64 (p.2 : Int)]] w fun e w' =>
      e = .returned (.agg #[.int .i64 (bel l.ps cs p).1, .int .i64 (bel l.ps cs p).2]) ∧ Below w.heap.size w w' := by
  obtain ⟨lo, hi, ps⟩ := l
  obtain ⟨i, k⟩ := p
  have hlen := hcs.len
  dsimp only at *
  have hkn : k < ps.length := by omega
  obtain ⟨b, off, rfl, hb, hcell⟩ := hp.span (by omega)
  have h1 := (hcell k hkn).1
  have h2 := (hcell i (by omega)).2
  clear hcell
  have b1 := hl.inb k hkn
  have b2 := hl.inb i (show i < ps.length by omega)
  dsimp only at b1 b2
  have l8 := hl.len8
  dsimp only at l8
  have ew : IntKind.i64.wrap (los ps k - his ps i) = los ps k - his ps i := by rw [IntKind.wrap_i64]; omega
  have EB : Hid (bel ps cs (i, k) = (los ps k - his ps i, csum cs i k)) := hide rfl
  have i1 : (i : Int) < (n : Int) := by omega
  have i2 : (k : Int) < (n : Int) := by omega
  have i3 : (i : Int) ≤ (k : Int) := by omega
  have i4 : (k : Int) ≤ (ccap : Int) := by omega
  have i5 : ¬ ccap = i := by omega
  have Hn' := hm
  have hcI := hcs.inb
  have hm6 : m ≤ 1000000 := by omega
  have Hn := hide hn
  have Hm := hide hm
  have HNM := hide Hn'
  clear hn hm Hn'
  go_enter Try.func79, Try.ntmps79
  go_wp2
  generalize hW : World.alloc (World.alloc (World.alloc w _) _) _ = W
  have hB : Below w.heap.size w W := by rw [← hW]; exact (((Below.refl _ _).alloc (Nat.le_refl _) _).alloc (by simp) _).alloc (by simp; omega) _
  have hz : w.heap.size + 2 < W.heap.size := by rw [← hW]; simp
  have c0 : W.cell? ⟨w.heap.size, 2, none⟩ = some (.slice (some ⟨b, off, none⟩) n cap) := by subst hW; go_simp
  have c1 : W.cell? ⟨w.heap.size + 1, 0, none⟩ = some (.int .i64 (i : Int)) := by subst hW; go_simp
  have c2 : W.cell? ⟨w.heap.size + 1, 1, none⟩ = some (.int .i64 (k : Int)) := by subst hW; go_simp
  have c3 := (hB.cell (p := ⟨b, off + k * 2, none⟩) hb).trans h1
  have c4 := (hB.cell (p := ⟨b, off + i * 2 + 1, none⟩) hb).trans h2
  have hbW : b < W.heap.size := by omega
  have z0 : w.heap.size < W.heap.size := by omega
  have z1 : w.heap.size + 1 < W.heap.size := by omega
  have r0 : W.cell? ⟨w.heap.size + 1 + 1, 0, none⟩ = some (.int .i64 0) := by subst hW; go_simp
  have r1 : W.cell? ⟨w.heap.size + 1 + 1, 1, none⟩ = some (.int .i64 0) := by subst hW; go_simp
  have r2 : W.frozen? ⟨w.heap.size + 1 + 1, 0, none⟩ = false := by subst hW; go_simp
  have r3 : W.frozen? ⟨w.heap.size + 1 + 1, 1, none⟩ = false := by subst hW; go_simp
  have hcW := hc.below hB (Nat.le_refl _)
  clear hW h1 h2
  have hX := @Ext.cell W
  have hXf := @Ext.frozen W
  have hcall := fun x : Ext W => Ext.call (refbetween_any cs ca m ccap (i, k) w.heap.size x.w HNM.out hcI hik hk hm6 (by have := x.below.size; omega) (hcW.below x.below (by omega)))
  have HC := hide hcall
  clear hcall
  refine wp_region_head (Ext.w (W := W)) 19 (by kernel_rfl) (by kernel_rfl) (Ext.start W) ?_
  simp only [List.take_succ_cons, List.take_zero, List.drop_succ_cons, List.drop_zero]
  repeat (quiet_step ((go_at_call 82; exact HC.out _)))
  refine wpQuiet_nil ?_
  intro x
  go_wp2
  rw [EB.out]
  refine bodyPost_ret (v := .agg #[.int .i64 (los ps k - his ps i), .int .i64 (csum cs i k)]) (by simp [results, Try.results79, go_sem, hX, r0, r1, hz]) rfl ⟨rfl, ?_⟩
  exact ((hB.trans (x.below.mono (by omega))).setCell (by simp; omega) _).setCell (by simp; omega) _

set_option maxRecDepth 100000 in
set_option maxHeartbeats 1000000 in
theorem refabove_any (l : PLog) (cs : List Int) (a ca : Option Addr) (n cap m ccap : Nat) (p : Nat × Nat) (w : World) (hl : LOk l) (hcs : COk l cs) (hn : n = l.ps.length) (hm : m = cs.length) (hmc : m ≤ ccap)
    (hp : Row w w.heap.size a (spans l.ps)) (hc : Row w w.heap.size ca (ints cs)) (hik : p.1 < p.2) (hk : p.2 ≤ cs.length) :
    Calls Try.prog 80 #[.agg #[.int .i64 l.lo, .int .i64 l.hi, .slice a n cap], .slice ca m ccap, .agg #[.int .i64 (p.1 : Int), .int .i64 (p.2 : Int)]] w fun e w' =>
      e = .returned (.agg #[.int .i64 (abv l.ps cs p).1, .int .i64 (abv l.ps cs p).2]) ∧ Below w.heap.size w w' := by
  obtain ⟨lo, hi, ps⟩ := l
  obtain ⟨i, k⟩ := p
  have hlen := hcs.len
  dsimp only at *
  have hkn : k < ps.length := by omega
  obtain ⟨b, off, rfl, hb, hcell⟩ := hp.span (by omega)
  have h1 := (hcell k hkn).2
  have h2 := (hcell i (by omega)).1
  clear hcell
  have b1 := hl.inb k hkn
  have b2 := hl.inb i (show i < ps.length by omega)
  dsimp only at b1 b2
  have l8 := hl.len8
  dsimp only at l8
  have ew : IntKind.i64.wrap (his ps k - los ps i) = his ps k - los ps i := by rw [IntKind.wrap_i64]; omega
  have EB : Hid (abv ps cs (i, k) = (his ps k - los ps i, csum cs i k)) := hide rfl
  have i1 : (i : Int) < (n : Int) := by omega
  have i2 : (k : Int) < (n : Int) := by omega
  have i3 : (i : Int) ≤ (k : Int) := by omega
  have i4 : (k : Int) ≤ (ccap : Int) := by omega
  have i5 : ¬ ccap = i := by omega
  have Hn' := hm
  have hcI := hcs.inb
  have hm6 : m ≤ 1000000 := by omega
  have Hn := hide hn
  have Hm := hide hm
  have HNM := hide Hn'
  clear hn hm Hn'
  go_enter Try.func80, Try.ntmps80
  go_wp2
  generalize hW : World.alloc (World.alloc (World.alloc w _) _) _ = W
  have hB : Below w.heap.size w W := by rw [← hW]; exact (((Below.refl _ _).alloc (Nat.le_refl _) _).alloc (by simp) _).alloc (by simp; omega) _
  have hz : w.heap.size + 2 < W.heap.size := by rw [← hW]; simp
  have c0 : W.cell? ⟨w.heap.size, 2, none⟩ = some (.slice (some ⟨b, off, none⟩) n cap) := by subst hW; go_simp
  have c1 : W.cell? ⟨w.heap.size + 1, 0, none⟩ = some (.int .i64 (i : Int)) := by subst hW; go_simp
  have c2 : W.cell? ⟨w.heap.size + 1, 1, none⟩ = some (.int .i64 (k : Int)) := by subst hW; go_simp
  have c3 := (hB.cell (p := ⟨b, off + k * 2 + 1, none⟩) hb).trans h1
  have c4 := (hB.cell (p := ⟨b, off + i * 2, none⟩) hb).trans h2
  have hbW : b < W.heap.size := by omega
  have z0 : w.heap.size < W.heap.size := by omega
  have z1 : w.heap.size + 1 < W.heap.size := by omega
  have r0 : W.cell? ⟨w.heap.size + 1 + 1, 0, none⟩ = some (.int .i64 0) := by subst hW; go_simp
  have r1 : W.cell? ⟨w.heap.size + 1 + 1, 1, none⟩ = some (.int .i64 0) := by subst hW; go_simp
  have r2 : W.frozen? ⟨w.heap.size + 1 + 1, 0, none⟩ = false := by subst hW; go_simp
  have r3 : W.frozen? ⟨w.heap.size + 1 + 1, 1, none⟩ = false := by subst hW; go_simp
  have hcW := hc.below hB (Nat.le_refl _)
  clear hW h1 h2
  have hX := @Ext.cell W
  have hXf := @Ext.frozen W
  have hcall := fun x : Ext W => Ext.call (refbetween_any cs ca m ccap (i, k) w.heap.size x.w HNM.out hcI hik hk hm6 (by have := x.below.size; omega) (hcW.below x.below (by omega)))
  have HC := hide hcall
  clear hcall
  refine wp_region_head (Ext.w (W := W)) 19 (by kernel_rfl) (by kernel_rfl) (Ext.start W) ?_
  simp only [List.take_succ_cons, List.take_zero, List.drop_succ_cons, List.drop_zero]
  repeat (quiet_step ((go_at_call 82; exact HC.out _)))
  refine wpQuiet_nil ?_
  intro x
  go_wp2
  rw [EB.out]
  refine bodyPost_ret (v := .agg #[.int .i64 (his ps k - los ps i), .int .i64 (csum cs i k)]) (by simp [results, Try.results80, go_sem, hX, r0, r1, hz]) rfl ⟨rfl, ?_⟩
  exact ((hB.trans (x.below.mono (by omega))).setCell (by simp; omega) _).setCell (by simp; omega) _

end Go.Proofs.Ytjgebepeghgmcaa
