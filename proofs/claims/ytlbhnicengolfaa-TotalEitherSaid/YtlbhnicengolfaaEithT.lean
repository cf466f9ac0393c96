/-
  TotalEither: truths: with a closure that keeps spans, all truths are tried.
-/
import Derived.Test.YtlbhnicengolfaaEithC
import Derived.Test.YtlbhnicengolfaaGroup
namespace Go.Proofs.Ytlbhnicengolfaa
open Go.RowKit
set_option linter.unusedVariables false
set_option linter.unusedSimpArgs false

/-- Where the search begins. -/
def thW (w : World) (wb N : Nat) (nv : Array Value) : World :=
  ((((w.alloc (.cells nv 25)).alloc (.cells #[useV wb] 66)).alloc (.cells (ints (List.replicate N 0)).toArray 3)).alloc (.cells #[.slice (some ⟨w.heap.size + 2, 0, none⟩) N N] 38)).alloc (.cells #[chV w.heap.size] 105)
theorem thW_below (w : World) (wb N : Nat) (nv : Array Value) : Below w.heap.size w (thW w wb N nv) := by
  unfold thW
  exact (((((Below.refl _ _).alloc (Nat.le_refl _) _).alloc (by rw [sz1]; omega) _).alloc (by rw [sz1, sz1]; omega) _).alloc (by rw [sz1, sz1, sz1]; omega) _).alloc (by rw [sz1, sz1, sz1, sz1]; omega) _
theorem thW_size (w : World) (wb N : Nat) (nv : Array Value) : (thW w wb N nv).heap.size = w.heap.size + 5 := by
  unfold thW
  rw [sz1, sz1, sz1, sz1, sz1]
theorem thW_st {w : World} {wb N : Nat} {n : TNet} {sa ta : Option Addr} {sc T tc : Nat} (h : NetIn n sa ta N T tc w) (hok : NOk n) (hrs : Row w wb sa (spans n.sp)) (hrt : Row w wb ta (tris n.ts)) (hw : wb < w.heap.size) : ESt (thW w wb N #[.slice sa N sc, .slice ta T tc]) wb w.heap.size n sa sc ta T tc N := by
  have hb := thW_below w wb N #[.slice sa N sc, .slice ta T tc]
  refine ⟨?_, ?_, ?_, ?_, hrs.below hb (by omega), hrt.below hb (by omega), h.hsn, h.htn, h.htc, hok⟩
  · unfold thW
    exact ((((Blk.new w _ _).alloc _).alloc _).alloc _).alloc _
  · unfold thW
    exact (((Blk.newAt (by rw [sz1]) _ _).alloc _).alloc _).alloc _
  · unfold thW
    exact (Blk.newAt (by rw [sz1, sz1, sz1]) _ _).alloc _
  · unfold thW
    exact Blk.newAt (by rw [sz1, sz1, sz1, sz1]) _ _
theorem thW_in {w : World} {wb N : Nat} (nv : Array Value) (hk : Blk w wb #[.slice none 0 0] 22) : EIn (thW w wb N nv) wb w.heap.size (List.replicate N 0) [] (.slice none 0 0) (thW w wb N nv) := by
  refine ⟨Rnd.refl _ _, ?_, hk.kept (thW_below w wb N nv), World.ownsRow_nil _ _ _ _, fun _ => rfl, by rw [thW_size]; omega, hk.lt⟩
  unfold thW
  exact ((Blk.newAt (by rw [sz1, sz1]) _ _).alloc _).alloc _

set_option maxRecDepth 100000 in
set_option maxHeartbeats 8000000 in
theorem truths_any (n : TNet) (sa ta : Option Addr) (sc T tc N wb : Nat) (w : World) (h : NetIn n sa ta N T tc w) (hok : NOk n) (hrs : Row w wb sa (spans n.sp)) (hrt : Row w wb ta (tris n.ts)) (hk : Blk w wb #[.slice none 0 0] 22) :
    Calls Try.prog 39 #[netV sa ta N sc T tc, useV wb] w fun e W' => e = .returned (.tuple #[]) ∧
      ∃ v, Blk W' wb #[v] 22 ∧ W'.ownsRow w.heap.size 53 2 v (chs n N [] []).length (spans (chs n N [] [])) ∧ Rnd (fun k => k = wb) w W' := by
  have hN11 : N ≤ 11 := by have := h.hsn; have := hok.l2; omega
  have hw := hk.lt
  obtain ⟨i0, hi, hz0, hz1, hz2⟩ := info_int
  have hmk : ∀ w, (Instr.makeSlice 38 (.int .i64 (N : Int)) (.int .i64 (N : Int))).run Try.prog w = .ok (.slice (some ⟨w.heap.size, 0, none⟩) N N) (w.alloc (.cells (ints (List.replicate N 0)).toArray 3)) := fun w => by
    rw [← made_ints]
    exact run_make_row (P := Try.prog) 38 3 i0 _ under_ints hi hz0 hz1 rfl .i64 .i64 N (by rw [hz2]; omega) (by omega) w
  have hcall := choose_any (thW w wb N #[.slice sa N sc, .slice ta T tc]) wb w.heap.size n sa sc ta T tc N (thW_st h hok hrs hrt hw) N 0 [] (List.replicate N 0) [] (.slice none 0 0) (thW w wb N #[.slice sa N sc, .slice ta T tc]) rfl (by omega) (by simp) (by simp) (fun i => by
    rw [List.getD_eq_getElem?_getD, List.getElem?_replicate]
    split <;> simp) (.inl rfl) (thW_in _ hk)
  have HCALL := hide hcall
  have hbw := thW_below w wb N #[.slice sa N sc, .slice ta T tc]
  have HBW := hide hbw
  have HWB := hide hw
  clear h hok hrs hrt hk hcall hi hz0 hz1 hz2 hbw hw
  unfold useV
  go_enter Try.func39, Try.ntmps39
  go_wp2_with fail
  simp only [Nat.add_assoc, Nat.reduceAdd]
  refine HCALL.out.mono ?_
  rintro e W' ⟨rfl, xs', v', -, -, -, he⟩
  have HE := hide he
  clear he HCALL hmk
  go_wp2_with fail
  go_end0
  refine ⟨rfl, v', HE.out.kw, Go.Joins.ownsRow_le HE.out.ow (by rw [thW_size]; omega), ?_⟩
  exact ((Rnd.of_below HBW.out).trans HE.out.rn).mono fun k hk hd => by
    rcases hd with hd | hd
    · exact hd
    · omega

end Go.Proofs.Ytlbhnicengolfaa
