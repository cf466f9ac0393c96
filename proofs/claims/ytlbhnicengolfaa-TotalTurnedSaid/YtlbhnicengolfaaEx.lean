/-
  Package total: the plain models at the chapter's net.
-/
import Derived.Test.YtlbhnicengolfaaLaw
namespace Go.Proofs.Ytlbhnicengolfaa
open Go.RowKit

theorem ex_eq : eqR (nN 0 13) [0, 1] = ([1, 1, 0, 1, -1], 0) := by decide +kernel
theorem ex_nz : NzOk (nN 0 13) [0, 1] := by unfold NzOk; decide +kernel
theorem ex_sq : sqR (nN 0 14) = ([(9, 9), (16, 25), (25, 34), (144, 144), (169, 178)], 0) := by decide +kernel
theorem ex_len : lenR (nN 0 14) = ([(3, 3), (4, 5), (5, 6), (12, 12), (13, 14)], 0) := by decide +kernel
theorem ex_tru : truR (nN 0 14) 4 true = ([9, 25, 34, 144, 178], 0) := by decide +kernel
theorem ex_all : grpAll (nN 14 20) = [([0], (grpR (nN 14 20).ts [0] 5).1), ([1], (grpR (nN 14 20).ts [1] 5).1), ([0, 1], (grpR (nN 14 20).ts [0, 1] 5).1)] := by decide +kernel
theorem ex_b0 : brkR (nN 14 20) (grpR (nN 14 20).ts [0] 5).1 = false := by decide +kernel
theorem ex_b1 : brkR (nN 14 20) (grpR (nN 14 20).ts [1] 5).1 = true := by decide +kernel
theorem ex_ok2 : checkT (nN 14 20) = 0 := by decide +kernel
theorem ex_cla : claR (nN 14 20) = ([1], 0) := by
  unfold claR
  rw [ex_all, if_neg (by rw [ex_ok2]; simp), List.find?_cons_of_neg (by rw [ex_b0]; simp), List.find?_cons_of_pos (by rw [ex_b1])]
theorem ex_sus : susR (nN 14 20) = ([3, 4], 0) := by decide +kernel
theorem ex_ver : verR (nN 14 20) [1] = 0 := by decide +kernel
theorem ex_ver0 : verR (nN 14 20) [0] = 12 := by decide +kernel
theorem ex_nz1 : NzOk (nN 14 20) [1] := by unfold NzOk; decide +kernel
theorem ex_nz0 : NzOk (nN 14 20) [0] := by unfold NzOk; decide +kernel
theorem ex_nza : checkT (nN 14 20) = 0 → NzAll (nN 14 20) := by
  intro _ set h0 h
  have : ∀ s : Fin 4, 1 ≤ (s : Nat) → (grpR (nN 14 20).ts (bitsK s (nN 14 20).ts.length) (nN 14 20).sp.length).2 = true → nzIdx (grpS (nN 14 20).ts (bitsK s (nN 14 20).ts.length) (nN 14 20).sp.length).out < (nN 14 20).sp.length := by decide +kernel
  exact this ⟨set, by have : 2 ^ (nN 14 20).ts.length - 1 = 3 := by rfl
                      omega⟩ h0
theorem ex_ok : checkT (nN 0 14) = 0 := by decide +kernel
instance (M : Int) (s : Sp) : Decidable (SpB M s) := by unfold SpB; infer_instance
instance (M : Int) (ls : List Sp) : Decidable (LsB M ls) := by unfold LsB; infer_instance
theorem ex_hb : ∀ k, k < (nN 0 14).sp.length → LsB 100000000 (truN (nN 0 14).ts (tru1 (nN 0 14) 4 true) k) := by
  have : ∀ k : Fin 5, LsB 100000000 (truN (nN 0 14).ts (tru1 (nN 0 14) 4 true) k) := by decide +kernel
  exact fun k hk => this ⟨k, hk⟩

end Go.Proofs.Ytlbhnicengolfaa
