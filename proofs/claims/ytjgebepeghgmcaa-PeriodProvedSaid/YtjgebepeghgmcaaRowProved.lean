/-
  PeriodProved returns true: pairs that are accepted prove that the counts are not possible, and the pairs that bound the period most are accepted just if they are not. There is no condition.
-/
import Derived.Test.YtjgebepeghgmcaaRows
import Derived.WalkKit
import Derived.ProofKit
import Derived.OpenShut
import Derived.Test.YtjgebepeghgmcaaProved
import Derived.Test.YtjgebepeghgmcaaRowW
namespace Go.Proofs.Ytjgebepeghgmcaa.periodProved
open Go.ChangeShapes Go.WideShapes Go.ChangeAt Go.RowKit
set_option linter.unusedVariables false

theorem own : ownKnob Try.prog.godebug = none := by kernel_rfl
theorem laid : laidOutB Try.prog = true := by kernel_rfl

set_option maxRecDepth 100000 in
theorem lifted (os : Os) (started : os.Started) (H : Type) (enc : TypeId × Value → H) :
    ReturnsInHanded {} Try.checked os 6 .any (Rows.periodProvedSpec.pre6 enc Try.prog Try.f6 Rows.periodProvedRow.domain false) (Rows.periodProvedSpec.post enc Try.prog Try.f6 false true false false) := by
  refine returnsInHanded_of_change (C := Try.checked) own started (by kernel_rfl) Try.func6
    (ChangeSpec.witness6 (enc := enc) (C := Try.checked) false ⟨#[], #[.agg #[.int .u8 0, .int .u8 0, .int .u8 0, .int .u8 0, .int .u8 0, .int .u8 0, .int .u8 0, .int .u8 0, .bool false], .agg #[.int .u8 0, .int .u8 0], .agg #[.int .u8 0, .int .u8 0]], []⟩ 8 (by kernel_rfl) (by kernel_rfl) (by kernel_rfl) (by kernel_rfl)) ?_
  intro W base args ds gs before hval0 hW hcnd _
  have hval : ∀ (j : Nat) t v, Try.f6.params[j]? = some t → args[j]? = some v → Value.okWide Try.prog W .any base t v := hval0
  have hW' := hW
  obtain ⟨p, q, hA0, hV, rfl, hfz, hnd⟩ := hW
  have hA : DataW.TrodAll enc Try.prog W 0 (fun _ => true) true Try.f6.params.toList args.toList ds p := hA0
  have hAk := hA
  rw [Try.params6] at hA hval
  obtain ⟨v1, v2, v3, d1, d2, d3, p1, p2, p3, rfl, rfl, rfl, h1, h2, h3⟩ := trodAll_three hA
  obtain ⟨rfl, rfl⟩ := trodVars_none hV
  obtain ⟨x, hx, rfl⟩ := open_watch Try.underlying53 (by kernel_rfl) rfl rfl rfl Try.underlying50 Try.underlying51 Try.underlying4 Try.underlying5 (by kernel_rfl) (by kernel_rfl) (by kernel_rfl) (by kernel_rfl) (hval 0 53 _ rfl rfl) h1
  obtain ⟨cs, cl, rfl, cb⟩ := open_u8s Try.underlying50 Try.underlying5 (by kernel_rfl) (by kernel_rfl) (hval 1 50 _ rfl rfl) h2
  obtain ⟨qs, ql, rfl, qb⟩ := open_u8s Try.underlying50 Try.underlying5 (by kernel_rfl) (by kernel_rfl) (hval 2 50 _ rfl rfl) h3
  obtain ⟨c0, c1, rfl⟩ := list2 cl
  obtain ⟨q0, q1, rfl⟩ := list2 ql
  clear hA0 hval0 h1 h2 h3 hval hA
  simp only [List.append_nil] at hW'
  refine (pproved_any x c0 c1 q0 q1 W hx (cb c0 (by simp)) (cb c1 (by simp)) (qb q0 (by simp)) (qb q1 (by simp))).mono fun e W' ⟨he, hg⟩ => ?_
  subst he
  exact ⟨_, rfl, law_post laid (by kernel_rfl) Try.underlying4 rfl (by kernel_rfl) hW' hAk rfl hg⟩

theorem over : Rows.periodProvedRow.holds Try.pinned (OpenSpec.ofChange Rows.periodProvedSpec) :=
  OpenClaim.holds_of_wide 6 Try.f6 rfl rfl rfl rfl rfl rfl rfl ⟨rfl, rfl, rfl, rfl, rfl⟩ rfl rfl rfl rfl rfl (by kernel_rfl) Try.func6 (by kernel_rfl)
    (of_decide_eq_true (by kernel_rfl)) (by unfold Func.isWrapper; first | (rw [if_pos (by decide +kernel)]; kernel_rfl) | (rw [if_neg (by decide +kernel)]; exact ⟨rfl, rfl⟩))
    (fun os started H enc _ => lifted os started H enc)

theorem proved : Rows.PeriodProvedSaid := over
#print axioms proved
end Go.Proofs.Ytjgebepeghgmcaa.periodProved
