/-
  TotalSquares returns true: spans of squares and lengths are as the reference says, and a truth with an end is returned. There is no condition.
-/
import Derived.Test.YtlbhnicengolfaaRows
import Derived.WalkKit
import Derived.ProofKit
import Derived.OpenShut
import Derived.Test.YtlbhnicengolfaaClaSq
import Derived.Test.YtlbhnicengolfaaSkyA
namespace Go.Proofs.Ytlbhnicengolfaa.totalSquares
open Go.ChangeShapes Go.WideShapes Go.ChangeAt Go.RowKit
set_option linter.unusedVariables false

theorem own : ownKnob Try.prog.godebug = none := by kernel_rfl
theorem laid : laidOutB Try.prog = true := by kernel_rfl

set_option maxRecDepth 100000 in
theorem lifted (os : Os) (started : os.Started) (H : Type) (enc : TypeId × Value → H) :
    ReturnsInHanded {} Try.checked os 5 .any (Rows.totalSquaresSpec.pre6 enc Try.prog Try.f5 Rows.totalSquaresRow.domain false) (Rows.totalSquaresSpec.post enc Try.prog Try.f5 false true false false) := by
  refine returnsInHanded_of_change (C := Try.checked) own started (by kernel_rfl) Try.func5
    (ChangeSpec.witness6 (enc := enc) (C := Try.checked) false ⟨#[], #[.agg #[.slice none 0 0, .slice none 0 0], .int .i64 0, .bool false], []⟩ 8 (by kernel_rfl) (by kernel_rfl) (by kernel_rfl) (by kernel_rfl)) ?_
  intro W base args ds gs before hval0 hW hcnd _
  have hval : ∀ (j : Nat) t v, Try.f5.params[j]? = some t → args[j]? = some v → Value.okWide Try.prog W .any base t v := hval0
  have hW' := hW
  obtain ⟨p, q, hA0, hV, rfl, hfz, hnd⟩ := hW
  have hA : DataW.TrodAll enc Try.prog W 0 (fun _ => true) true Try.f5.params.toList args.toList ds p := hA0
  have hAk := hA
  rw [Try.params5] at hA hval
  obtain ⟨v1, v2, v3, d1, d2, d3, p1, p2, p3, rfl, rfl, rfl, h1, h2, h3⟩ := trodAll_three hA
  obtain ⟨rfl, rfl⟩ := trodVars_none hV
  obtain ⟨n, sa, sn, sc, ta, tn, tc, rfl, hn⟩ := open_net Try.underlying25 (by kernel_rfl) rfl rfl Try.underlying22 Try.underlying53 Try.underlying23 Try.underlying75 Try.underlying3 rfl rfl rfl rfl rfl (by kernel_rfl) (by kernel_rfl) (by kernel_rfl) (by kernel_rfl) (by kernel_rfl) (by kernel_rfl) (hval 0 25 _ rfl rfl) h1
  obtain ⟨q, rfl⟩ := open_i64 Try.underlying3 (hval 1 3 _ rfl rfl) h2
  obtain ⟨b, rfl⟩ := open_bool Try.underlying4 (hval 2 4 _ rfl rfl) h3
  clear hA0 hval0 h1 h2 h3 hval hA
  simp only [List.append_nil] at hW'
  refine (squares_law n q b sa ta sn sc tn tc W hn).mono fun e W' ⟨he, hg⟩ => ?_
  subst he
  exact ⟨_, rfl, law_post laid (by kernel_rfl) Try.underlying4 rfl (by kernel_rfl) hW' hAk rfl hg⟩

theorem over : Rows.totalSquaresRow.holds Try.pinned (OpenSpec.ofChange Rows.totalSquaresSpec) :=
  OpenClaim.holds_of_wide 5 Try.f5 rfl rfl rfl rfl rfl rfl rfl ⟨rfl, rfl, rfl, rfl, rfl⟩ rfl rfl rfl rfl rfl (by kernel_rfl) Try.func5 (by kernel_rfl)
    (of_decide_eq_true (by kernel_rfl)) (by unfold Func.isWrapper; first | (rw [if_pos (by decide +kernel)]; kernel_rfl) | (rw [if_neg (by decide +kernel)]; exact ⟨rfl, rfl⟩))
    (fun os started H enc _ => lifted os started H enc)

theorem proved : Rows.TotalSquaresSaid := over
#print axioms proved
end Go.Proofs.Ytlbhnicengolfaa.totalSquares
