/-
  The chapter's examples: what the functions return at them.
-/
import Derived.Test.YtjgebepeghgmcaaLaw1
namespace Go.Proofs.Ytjgebepeghgmcaa
open Go.RowKit Go.Shelf
set_option linter.unusedVariables false
set_option linter.unusedSimpArgs false

theorem counts_gv : countsR gL = ([[4, 6], [5, 7]], 0) := by decide +kernel
theorem total_gv : totalR gL = ((10, 12), 0) := by decide +kernel
theorem period_gv46 : periodR gL [4, 6] = ((5, 1), (51, 10), 0) := by decide +kernel
theorem period_gv45 : periodR gL [4, 5] = ((0, 0), (0, 0), 13) := by decide +kernel
theorem period_gv57 : periodR gL [5, 7] = ((25, 6), (17, 4), 0) := by decide +kernel
theorem bounds_gv45 : boundsR gL [4, 5] = ((1, 2), (0, 1), 0) := by decide +kernel
theorem simplest_v1 : simplestR (31, 10) (22, 7) = ((22, 7), 0) := by decide +kernel
theorem simplest_v2 : simplestR (1, 3) (1, 2) = ((1, 2), 0) := by decide +kernel
theorem simplest_v3 : simplestR (25, 6) (17, 4) = ((17, 4), 0) := by decide +kernel
theorem path_v1 : pathR (7, 5) = ([1, 2, 1], 0) := by decide +kernel
theorem path_v2 : pathR (1, 1) = ([], 0) := by decide +kernel
theorem follow_v1 : followR [0, 2] = ((1, 3), 0) := by decide +kernel
theorem follow_v2 : followR [0] = ((0, 0), 5) := by decide +kernel
theorem verify_v1 : verifyR gL [4, 5] (1, 2) (0, 1) = 0 := by decide +kernel
theorem verify_v2 : verifyR gL [4, 6] (0, 2) (0, 2) = 12 := by decide +kernel

/-! ### the same as contracts -/
theorem counts_G (ad : Addr) (W : World) (hr : Row W W.heap.size (some ad) (spans gL.ps)) :
    Calls Try.prog 15 #[.agg #[.int .i64 4, .int .i64 6, .slice (some ad) 3 3]] W fun e w' => ∃ v, e = .returned (.tuple #[v, .int .i64 0]) ∧ Rows2 w' v [[4, 6], [5, 7]] ∧ Below W.heap.size W w' := by
  have h := countsF_any gL (some ad) 3 3 W rfl (by omega) hr
  rw [counts_gv] at h
  exact h
theorem total_G (ad : Addr) (W : World) (hr : Row W W.heap.size (some ad) (spans gL.ps)) :
    Calls Try.prog 17 #[.agg #[.int .i64 4, .int .i64 6, .slice (some ad) 3 3]] W fun e w' => e = .returned (.tuple #[.agg #[.int .i64 10, .int .i64 12], .int .i64 0]) ∧ Below W.heap.size W w' := by
  have h := totalF_any gL (some ad) 3 3 W rfl (by omega) hr
  rw [total_gv] at h
  exact h
theorem period_G (x y : Int) (r : (Int × Int) × (Int × Int) × Int) (hv : periodR gL [x, y] = r) (ad cd : Addr) (W : World) (hr : Row W W.heap.size (some ad) (spans gL.ps)) (hc : Row W W.heap.size (some cd) [.int .i64 x, .int .i64 y]) :
    Calls Try.prog 29 #[.agg #[.int .i64 4, .int .i64 6, .slice (some ad) 3 3], .slice (some cd) 2 2] W fun e w' =>
      e = .returned (.tuple #[.agg #[.int .i64 r.1.1, .int .i64 r.1.2], .agg #[.int .i64 r.2.1.1, .int .i64 r.2.1.2], .int .i64 r.2.2]) ∧ Below W.heap.size W w' := by
  have h := periodF_any gL [x, y] (some ad) (some cd) 3 3 2 2 W rfl rfl (by omega) (by omega) (by omega) hr hc
  rw [hv] at h
  exact h
theorem bounds_G (ad cd : Addr) (W : World) (hr : Row W W.heap.size (some ad) (spans gL.ps)) (hc : Row W W.heap.size (some cd) [.int .i64 4, .int .i64 5]) :
    Calls Try.prog 30 #[.agg #[.int .i64 4, .int .i64 6, .slice (some ad) 3 3], .slice (some cd) 2 2] W fun e w' =>
      e = .returned (.tuple #[.agg #[.int .i64 1, .int .i64 2], .agg #[.int .i64 0, .int .i64 1], .int .i64 0]) ∧ Below W.heap.size W w' := by
  have h := boundsF_any gL [4, 5] (some ad) (some cd) 3 3 2 2 W rfl rfl (by omega) (by omega) (by omega) hr hc
  rw [bounds_gv45] at h
  exact h
theorem simplest_v (a b : Int × Int) (r : (Int × Int) × Int) (hv : simplestR a b = r) (W : World) :
    Calls Try.prog 20 #[.agg #[.int .i64 a.1, .int .i64 a.2], .agg #[.int .i64 b.1, .int .i64 b.2]] W fun e w' =>
      e = .returned (.tuple #[.agg #[.int .i64 r.1.1, .int .i64 r.1.2], .int .i64 r.2]) ∧ Below W.heap.size W w' := by
  rw [← hv]
  exact simplestF_any a b W
theorem path_v (a : Int × Int) (r : List Int × Int) (hv : pathR a = r) (W : World) :
    Calls Try.prog 22 #[.agg #[.int .i64 a.1, .int .i64 a.2]] W fun e w' => ∃ v, e = .returned (.tuple #[v, .int .i64 r.2]) ∧ RowV w' v r.1 ∧ Below W.heap.size W w' := by
  rw [← hv]
  exact path_any a W
theorem follow_v (xs : List Int) (r : (Int × Int) × Int) (hv : followR xs = r) (hl : xs.length ≤ 1000000000) (cd : Addr) (W : World) (hc : Row W W.heap.size (some cd) (ints xs)) :
    Calls Try.prog 24 #[.slice (some cd) xs.length xs.length] W fun e w' => e = .returned (.tuple #[.agg #[.int .i64 r.1.1, .int .i64 r.1.2], .int .i64 r.2]) ∧ Below W.heap.size W w' := by
  rw [← hv]
  exact follow_any xs (some cd) xs.length xs.length W rfl hl (Nat.le_refl _) (fun h => (by cases h)) hc
theorem verify_G (x y : Int) (low high : Int × Int) (r : Int) (hv : verifyR gL [x, y] low high = r) (ad cd : Addr) (W : World) (hr : Row W W.heap.size (some ad) (spans gL.ps)) (hc : Row W W.heap.size (some cd) [.int .i64 x, .int .i64 y]) :
    Calls Try.prog 31 #[.agg #[.int .i64 4, .int .i64 6, .slice (some ad) 3 3], .slice (some cd) 2 2, .agg #[.int .i64 low.1, .int .i64 low.2], .agg #[.int .i64 high.1, .int .i64 high.2]] W fun e w' =>
      e = .returned (.int .i64 r) ∧ Below W.heap.size W w' := by
  have h := verify_any gL [x, y] low high (some ad) (some cd) 3 3 2 2 W rfl rfl (by omega) (by omega) (by omega) hr hc
  rw [hv] at h
  exact h

/-- Blocks that are known. -/
def Boxes (W : World) (l : List (Nat × Array Value × TypeId)) : Prop := ∀ p ∈ l, Blk W p.1 p.2.1 p.2.2
theorem Boxes.nil (W : World) : Boxes W [] := fun p h => (by cases h)
theorem Boxes.kept {W W' : World} {l : List (Nat × Array Value × TypeId)} (h : Boxes W l) (hb : Below W.heap.size W W') : Boxes W' l := fun p hp => (h p hp).kept hb
theorem Boxes.new {W : World} {l : List (Nat × Array Value × TypeId)} (h : Boxes W l) (cs : Array Value) (t : TypeId) : Boxes (W.alloc (.cells cs t)) ((W.heap.size, cs, t) :: l) := fun p hp => by
  rcases List.mem_cons.1 hp with rfl | hp
  · exact Blk.new W cs t
  · exact (h p hp).alloc _
theorem Boxes.head {W : World} {p : Nat × Array Value × TypeId} {l : List (Nat × Array Value × TypeId)} (h : Boxes W (p :: l)) : Blk W p.1 p.2.1 p.2.2 := h p List.mem_cons_self
theorem Boxes.tail {W : World} {p : Nat × Array Value × TypeId} {l : List (Nat × Array Value × TypeId)} (h : Boxes W (p :: l)) : Boxes W l := fun q hq => h q (List.mem_cons_of_mem _ hq)

end Go.Proofs.Ytjgebepeghgmcaa
