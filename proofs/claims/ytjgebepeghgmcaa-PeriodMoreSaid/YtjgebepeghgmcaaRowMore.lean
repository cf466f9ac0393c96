/-
  PeriodMore returns true: what is possible within narrower bounds is possible within wider ones, and counts without the last one are possible without the last passage. There is no condition.
-/
import Derived.Test.YtjgebepeghgmcaaRows
import Derived.WalkKit
import Derived.ProofKit
import Derived.OpenShut
import Derived.Test.YtjgebepeghgmcaaMore
import Derived.Test.YtjgebepeghgmcaaRowW
namespace Go.Proofs.Ytjgebepeghgmcaa.periodMore
open Go.ChangeShapes Go.WideShapes Go.ChangeAt Go.RowKit
set_option linter.unusedVariables false

theorem own : ownKnob Try.prog.godebug = none := by kernel_rfl
theorem laid : laidOutB Try.prog = true := by kernel_rfl

set_option maxRecDepth 100000 in
theorem lifted (os : Os) (started : os.Started) (H : Type) (enc : TypeId × Value → H) :
    ReturnsInHanded {} Try.checked os 8 .any (Rows.periodMoreSpec.pre6 enc Try.prog Try.f8 Rows.periodMoreRow.domain false) (Rows.periodMoreSpec.post enc Try.prog Try.f8 false true false false) := by
  refine returnsInHanded_of_change (C := Try.checked) own started (by kernel_rfl) Try.func8
    (ChangeSpec.witness6 (enc := enc) (C := Try.checked) false ⟨#[], #[.agg #[.int .u8 0, .int .u8 0, .int .u8 0, .int .u8 0, .int .u8 0, .int .u8 0, .int .u8 0, .int .u8 0, .bool false], .agg #[.int .u8 0, .int .u8 0, .int .u8 0, .int .u8 0]], []⟩ 8 (by kernel_rfl) (by kernel_rfl) (by kernel_rfl) (by kernel_rfl)) ?_
  intro W base args ds gs before hval0 hW hcnd _
  have hval : ∀ (j : Nat) t v, Try.f8.params[j]? = some t → args[j]? = some v → Value.okWide Try.prog W .any base t v := hval0
  have hW' := hW
  obtain ⟨p, q, hA0, hV, rfl, hfz, hnd⟩ := hW
  have hA : DataW.TrodAll enc Try.prog W 0 (fun _ => true) true Try.f8.params.toList args.toList ds p := hA0
  have hAk := hA
  rw [Try.params8] at hA hval
  obtain ⟨v1, v2, d1, d2, p1, p2, rfl, rfl, rfl, h1, h2⟩ := trodAll_two hA
  obtain ⟨rfl, rfl⟩ := trodVars_none hV
  obtain ⟨x, hx, rfl⟩ := open_watch Try.underlying53 (by kernel_rfl) rfl rfl rfl Try.underlying50 Try.underlying51 Try.underlying4 Try.underlying5 (by kernel_rfl) (by kernel_rfl) (by kernel_rfl) (by kernel_rfl) (hval 0 53 _ rfl rfl) h1
  obtain ⟨ts, tl, rfl, tb⟩ := open_u8s Try.underlying70 Try.underlying5 (by kernel_rfl) (by kernel_rfl) (hval 1 70 _ rfl rfl) h2
  obtain ⟨t0, t1, t2, t3, rfl⟩ := list4 tl
  have hT : TOk (fun i => [t0, t1, t2, t3].getD i 0) := ⟨fun i => by
    by_cases hi : i < 4
    · show 0 ≤ [t0, t1, t2, t3].getD i 0 ∧ [t0, t1, t2, t3].getD i 0 ≤ 255
      rw [List.getD_eq_getElem?_getD, List.getElem?_eq_getElem (by simpa using hi)]
      exact tb _ (List.getElem_mem _)
    · show 0 ≤ [t0, t1, t2, t3].getD i 0 ∧ [t0, t1, t2, t3].getD i 0 ≤ 255
      rw [List.getD_eq_getElem?_getD, List.getElem?_eq_none (by simpa using hi)]
      simp⟩
  clear hA0 hval0 h1 h2 hval hA
  simp only [List.append_nil] at hW'
  refine (pmore_any x (fun i => [t0, t1, t2, t3].getD i 0) W hx hT).mono fun e W' ⟨he, hg⟩ => ?_
  subst he
  exact ⟨_, rfl, law_post laid (by kernel_rfl) Try.underlying4 rfl (by kernel_rfl) hW' hAk rfl hg⟩

theorem over : Rows.periodMoreRow.holds Try.pinned (OpenSpec.ofChange Rows.periodMoreSpec) :=
  OpenClaim.holds_of_wide 8 Try.f8 rfl rfl rfl rfl rfl rfl rfl ⟨rfl, rfl, rfl, rfl, rfl⟩ rfl rfl rfl rfl rfl (by kernel_rfl) Try.func8 (by kernel_rfl)
    (of_decide_eq_true (by kernel_rfl)) (by unfold Func.isWrapper; first | (rw [if_pos (by decide +kernel)]; kernel_rfl) | (rw [if_neg (by decide +kernel)]; exact ⟨rfl, rfl⟩))
    (fun os started H enc _ => lifted os started H enc)

theorem proved : Rows.PeriodMoreSaid := over
#print axioms proved
end Go.Proofs.Ytjgebepeghgmcaa.periodMore
