/-
  TotalKnown: the walk.
-/
import Derived.Test.YtlbhnicengolfaaWorks
namespace Go.Proofs.Ytlbhnicengolfaa
open Go.RowKit
set_option linter.unusedVariables false
set_option linter.unusedSimpArgs false

theorem kn_eq : eqR (nN 0 13) [0] = ([1, 1, -1, 0, 0], 0) := by decide +kernel
theorem kn_nz : NzOk (nN 0 13) [0] := by unfold NzOk; decide +kernel
theorem kn_sq : sqR (nN 0 13) = ([(9, 9), (16, 16), (25, 25), (144, 144), (169, 169)], 0) := by decide +kernel
theorem kn_ver : verR (nN 14 20) [0, 1] = 0 := by decide +kernel
theorem kn_nz01 : NzOk (nN 14 20) [0, 1] := by unfold NzOk; decide +kernel

set_option maxRecDepth 100000 in
set_option maxHeartbeats 8000000 in
theorem known_any (w : World) : Calls Try.prog 14 #[] w fun e w' => e = .returned (.bool true) ∧ Below w.heap.size w w' := by
  go_enter Try.func14, Try.ntmps14
  go_wp2_with fail
  refine (rootF_any 0 _).mono ?_
  rintro e W1 ⟨rfl, rfl⟩
  rw [show rootR 0 = ((0, 0), 0) from by decide +kernel]
  go_wp2_with fail
  refine (rootF_any 25 _).mono ?_
  rintro e W1 ⟨rfl, rfl⟩
  rw [show rootR 25 = ((5, 5), 0) from by decide +kernel]
  go_wp2_with fail
  refine (N_any 0 13 _).mono ?_
  rintro e W1 ⟨sa, ta, rfl, hN, hb1⟩
  have HN := hide hN
  clear hN
  go_wp2_with fail
  have hl : Row (W1.alloc (.cells #[.int .i64 0] 3)) (W1.alloc (.cells #[.int .i64 0] 3)).heap.size (some ⟨W1.heap.size, 0, none⟩) (ints [0]) := (row_of_heap (Blk.new W1 #[.int .i64 0] 3) (by rfl)).mono (Blk.lt (Blk.new W1 #[.int .i64 0] 3))
  have hba : Below W1.heap.size W1 (W1.alloc (.cells #[.int .i64 0] 3)) := (Below.refl _ _).alloc (Nat.le_refl _) _
  refine (equation_any (nN 0 13) [0] (some sa) (some ta) (some ⟨W1.heap.size, 0, none⟩) 5 5 2 2 1 1 _ (HN.out.below hba) rfl (by decide) hl kn_nz).mono ?_
  rintro e W2 ⟨v, rfl, hv, _, hb2⟩
  rw [kn_eq] at hv ⊢
  obtain ⟨gc, rfl, _, hbc⟩ := hv rfl
  have rcA : Row W2 W2.heap.size (some ⟨gc, 0, none⟩) (ints [1, 1, -1, 0, 0]) := (row_of_heap hbc (by rfl)).mono hbc.lt
  have hBA := hb1.trans ((hba.trans (hb2.mono hba.size)).mono hb1.size)
  clear hb1 hba hb2 hbc HN hl hv
  go_wp2_with fail
  refine (N_any 0 13 _).mono ?_
  rintro e W3 ⟨sa, ta, rfl, hN, hb1⟩
  have HN := hide hN
  have hBB := hBA.trans (hb1.mono hBA.size)
  have rcB := row_keep rcA hb1
  clear hN hb1 hBA rcA
  go_wp2_with fail
  refine (squares_any (nN 0 13) (some sa) (some ta) 5 5 2 2 _ HN.out).mono ?_
  rintro e WC ⟨v, rfl, hv, hb1⟩
  rw [kn_sq] at hv ⊢
  obtain ⟨aq, cs, rfl, rsC⟩ := own_row hv
  have hBC := hBB.trans (hb1.mono hBB.size)
  have rcC := row_keep rcB hb1
  clear hv hb1 HN hBB rcB
  go_wp2_with fail
  refine (num_call WC [1, 1, -1, 0, 0] _ _ _ rcC rfl (by decide)).mono ?_
  rintro e WD ⟨rfl, hb1⟩
  have hBD := hBC.trans (hb1.mono hBC.size)
  have rsD := row_keep rsC hb1
  clear hb1 hBC rcC rsC
  go_wp2_with fail
  refine (spn_call WD [(9, 9), (16, 16), (25, 25), (144, 144), (169, 169)] _ _ _ rsD rfl (by decide)).mono ?_
  rintro e WE ⟨rfl, hb1⟩
  have hBE := hBD.trans (hb1.mono hBD.size)
  clear hb1 hBD rsD
  go_wp2_with fail
  refine (N_any 14 20 _).mono ?_
  rintro e WNF ⟨sa, ta, rfl, hN, hb1⟩
  have HN := hide hN
  have hBNF := hBE.trans (hb1.mono hBE.size)
  clear hN hb1 hBE
  go_wp2_with fail
  have hba : Below WNF.heap.size WNF (WNF.alloc (.cells #[.int .i64 1] 3)) := (Below.refl _ _).alloc (Nat.le_refl _) _
  have hl : Row (WNF.alloc (.cells #[.int .i64 1] 3)) (WNF.alloc (.cells #[.int .i64 1] 3)).heap.size (some ⟨WNF.heap.size, 0, none⟩) (ints [1]) := (row_of_heap (Blk.new WNF #[.int .i64 1] 3) (by rfl)).mono (Blk.lt (Blk.new WNF #[.int .i64 1] 3))
  refine (verify_any (nN 14 20) [1] (some sa) (some ta) (some ⟨WNF.heap.size, 0, none⟩) 5 5 2 2 1 1 _ (HN.out.below hba) rfl (by decide) hl ex_nz1).mono ?_
  rintro e WF ⟨rfl, hb2⟩
  rw [ex_ver]
  have hb1 := hba.trans (hb2.mono hba.size)
  have hBF := hBNF.trans (hb1.mono hBNF.size)
  clear hb1 hb2 hba hl hBNF HN
  go_wp2_with fail
  refine (N_any 14 20 _).mono ?_
  rintro e WNG ⟨sa, ta, rfl, hN, hb1⟩
  have HN := hide hN
  have hBNG := hBF.trans (hb1.mono hBF.size)
  clear hN hb1 hBF
  go_wp2_with fail
  have hba : Below WNG.heap.size WNG (WNG.alloc (.cells #[.int .i64 0, .int .i64 1] 3)) := (Below.refl _ _).alloc (Nat.le_refl _) _
  have hl : Row (WNG.alloc (.cells #[.int .i64 0, .int .i64 1] 3)) (WNG.alloc (.cells #[.int .i64 0, .int .i64 1] 3)).heap.size (some ⟨WNG.heap.size, 0, none⟩) (ints [0, 1]) := (row_of_heap (Blk.new WNG #[.int .i64 0, .int .i64 1] 3) (by rfl)).mono (Blk.lt (Blk.new WNG #[.int .i64 0, .int .i64 1] 3))
  refine (verify_any (nN 14 20) [0, 1] (some sa) (some ta) (some ⟨WNG.heap.size, 0, none⟩) 5 5 2 2 2 2 _ (HN.out.below hba) rfl (by decide) hl kn_nz01).mono ?_
  rintro e WG ⟨rfl, hb2⟩
  rw [kn_ver]
  have hb1 := hba.trans (hb2.mono hba.size)
  have hBG := hBNG.trans (hb1.mono hBNG.size)
  clear hb1 hb2 hba hl hBNG HN
  go_wp2_with fail
  refine (works_any _).mono ?_
  rintro e WH ⟨rfl, hb1⟩
  have hBH := hBG.trans (hb1.mono hBG.size)
  go_wp2_with fail
  go_ret
  exact ⟨rfl, hBH⟩

end Go.Proofs.Ytlbhnicengolfaa
