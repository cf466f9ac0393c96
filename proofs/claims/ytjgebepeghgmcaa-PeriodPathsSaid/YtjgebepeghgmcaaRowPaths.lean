/-
  PeriodPaths returns true: a path leads to its fraction, the fraction upside down has the path of the other moves, and the sum of the two reduced fractions keeps their common beginning. There is no condition.
-/
import Derived.Test.YtjgebepeghgmcaaRows
import Derived.WalkKit
import Derived.ProofKit
import Derived.OpenShut
import Derived.Test.YtjgebepeghgmcaaPaths
import Derived.Test.YtjgebepeghgmcaaRow
namespace Go.Proofs.Ytjgebepeghgmcaa.periodPaths
open Go.ChangeShapes Go.WideShapes Go.ChangeAt Go.RowKit
set_option linter.unusedVariables false

theorem own : ownKnob Try.prog.godebug = none := by kernel_rfl
theorem laid : laidOutB Try.prog = true := by kernel_rfl

set_option maxRecDepth 100000 in
theorem lifted (os : Os) (started : os.Started) (H : Type) (enc : TypeId × Value → H) :
    ReturnsInHanded {} Try.checked os 11 .any (Rows.periodPathsSpec.pre6 enc Try.prog Try.f11 Rows.periodPathsRow.domain false) (Rows.periodPathsSpec.post enc Try.prog Try.f11 false true false false) := by
  refine returnsInHanded_of_change (C := Try.checked) own started (by kernel_rfl) Try.func11
    (ChangeSpec.witness6 (enc := enc) (C := Try.checked) false ⟨#[], #[.agg #[.int .u8 0, .int .u8 0], .agg #[.int .u8 0, .int .u8 0]], []⟩ 8 (by kernel_rfl) (by kernel_rfl) (by kernel_rfl) (by kernel_rfl)) ?_
  intro W base args ds gs before hval0 hW hcnd _
  have hval : ∀ (j : Nat) t v, Try.f11.params[j]? = some t → args[j]? = some v → Value.okWide Try.prog W .any base t v := hval0
  have hW' := hW
  obtain ⟨p, q, hA0, hV, rfl, hfz, hnd⟩ := hW
  have hA : DataW.TrodAll enc Try.prog W 0 (fun _ => true) true Try.f11.params.toList args.toList ds p := hA0
  have hAk := hA
  rw [Try.params11] at hA hval
  obtain ⟨v1, v2, d1, d2, p1, p2, rfl, rfl, rfl, h1, h2⟩ := trodAll_two hA
  obtain ⟨rfl, rfl⟩ := trodVars_none hV
  obtain ⟨xs, hx, rfl, hx'⟩ := open_u8s Try.underlying50 Try.underlying5 (by kernel_rfl) (by kernel_rfl) (hval 0 50 _ rfl rfl) h1
  obtain ⟨ys, hy, rfl, hy'⟩ := open_u8s Try.underlying50 Try.underlying5 (by kernel_rfl) (by kernel_rfl) (hval 1 50 _ rfl rfl) h2
  obtain ⟨a, b, rfl⟩ := list2 hx
  obtain ⟨c, d, rfl⟩ := list2 hy
  clear hA0 hval0 h1 h2 hval hA
  simp only [List.append_nil] at hW'
  refine (ppaths_any a b c d W (hx' a (by simp)) (hx' b (by simp)) (hy' c (by simp)) (hy' d (by simp))).mono fun e W' ⟨he, hg⟩ => ?_
  subst he
  exact ⟨_, rfl, law_post laid (by kernel_rfl) Try.underlying4 rfl (by kernel_rfl) hW' hAk rfl hg⟩

theorem over : Rows.periodPathsRow.holds Try.pinned (OpenSpec.ofChange Rows.periodPathsSpec) :=
  OpenClaim.holds_of_wide 11 Try.f11 rfl rfl rfl rfl rfl rfl rfl ⟨rfl, rfl, rfl, rfl, rfl⟩ rfl rfl rfl rfl rfl (by kernel_rfl) Try.func11 (by kernel_rfl)
    (of_decide_eq_true (by kernel_rfl)) (by unfold Func.isWrapper; first | (rw [if_pos (by decide +kernel)]; kernel_rfl) | (rw [if_neg (by decide +kernel)]; exact ⟨rfl, rfl⟩))
    (fun os started H enc _ => lifted os started H enc)

theorem proved : Rows.PeriodPathsSaid := over
#print axioms proved
end Go.Proofs.Ytjgebepeghgmcaa.periodPaths
