/-
  PeriodTrue returns true: whatever period is true, and whatever counts, they are possible, the period lies within what is returned, and all counts come in order. There is no condition.
-/
import Derived.Test.YtjgebepeghgmcaaRows
import Derived.WalkKit
import Derived.ProofKit
import Derived.OpenShut
import Derived.Test.YtjgebepeghgmcaaTrue
import Derived.Test.YtjgebepeghgmcaaRowW
namespace Go.Proofs.Ytjgebepeghgmcaa.periodTrue
open Go.ChangeShapes Go.WideShapes Go.ChangeAt Go.RowKit
set_option linter.unusedVariables false

theorem own : ownKnob Try.prog.godebug = none := by kernel_rfl
theorem laid : laidOutB Try.prog = true := by kernel_rfl

set_option maxRecDepth 100000 in
theorem lifted (os : Os) (started : os.Started) (H : Type) (enc : TypeId × Value → H) :
    ReturnsInHanded {} Try.checked os 7 .any (Rows.periodTrueSpec.pre6 enc Try.prog Try.f7 Rows.periodTrueRow.domain false) (Rows.periodTrueSpec.post enc Try.prog Try.f7 false true false false) := by
  refine returnsInHanded_of_change (C := Try.checked) own started (by kernel_rfl) Try.func7
    (ChangeSpec.witness6 (enc := enc) (C := Try.checked) false ⟨#[], #[.int .u8 0, .int .u8 0, .slice none 0 0, .slice none 0 0], []⟩ 8 (by kernel_rfl) (by kernel_rfl) (by kernel_rfl) (by kernel_rfl)) ?_
  intro W base args ds gs before hval0 hW hcnd _
  have hval : ∀ (j : Nat) t v, Try.f7.params[j]? = some t → args[j]? = some v → Value.okWide Try.prog W .any base t v := hval0
  have hW' := hW
  obtain ⟨p, q, hA0, hV, rfl, hfz, hnd⟩ := hW
  have hA : DataW.TrodAll enc Try.prog W 0 (fun _ => true) true Try.f7.params.toList args.toList ds p := hA0
  have hAk := hA
  rw [Try.params7] at hA hval
  obtain ⟨v1, v2, v3, v4, d1, d2, d3, d4, p1, p2, p3, p4, rfl, rfl, rfl, h1, h2, h3, h4⟩ := trodAll_four hA
  obtain ⟨rfl, rfl⟩ := trodVars_none hV
  obtain ⟨sx, rfl, hs1, hs2⟩ := open_u8 Try.underlying5 (hval 0 5 _ rfl rfl) h1
  obtain ⟨fi, rfl, hf1, hf2⟩ := open_u8 Try.underlying5 (hval 1 5 _ rfl rfl) h2
  obtain ⟨ca, n, ccap, cs, rfl, hn, hc, hm, hnil, hrow, hwf⟩ := open_kinds Try.underlying66 Try.underlying5 (by kernel_rfl) (hval 2 66 _ rfl rfl) h3
  obtain ⟨wa, m, wcap, ws, rfl, hn', hc', hm', hnil', hrow', hwf'⟩ := open_kinds Try.underlying66 Try.underlying5 (by kernel_rfl) (hval 3 66 _ rfl rfl) h4
  have hb : ∀ x : Int, (Lit.int .u8 x).wf = true → 0 ≤ x ∧ x ≤ 255 := fun x hw => by
    simp [Lit.wf, IntKind.min, IntKind.max, IntKind.signed, IntKind.bits] at hw
    omega
  clear hA0 hval0 h1 h2 h3 h4 hval hA
  simp only [List.append_nil] at hW'
  refine (ptrue_any sx fi cs ws ca wa n ccap m wcap W ⟨hs1, hs2⟩ ⟨hf1, hf2⟩ (fun c hc => hb c (hwf c hc)) (fun c hc => hb c (hwf' c hc)) hn hn' (by omega) (by omega) hrow hrow').mono fun e W' ⟨he, hg⟩ => ?_
  subst he
  exact ⟨_, rfl, law_post laid (by kernel_rfl) Try.underlying4 rfl (by kernel_rfl) hW' hAk rfl hg⟩

theorem over : Rows.periodTrueRow.holds Try.pinned (OpenSpec.ofChange Rows.periodTrueSpec) :=
  OpenClaim.holds_of_wide 7 Try.f7 rfl rfl rfl rfl rfl rfl rfl ⟨rfl, rfl, rfl, rfl, rfl⟩ rfl rfl rfl rfl rfl (by kernel_rfl) Try.func7 (by kernel_rfl)
    (of_decide_eq_true (by kernel_rfl)) (by unfold Func.isWrapper; first | (rw [if_pos (by decide +kernel)]; kernel_rfl) | (rw [if_neg (by decide +kernel)]; exact ⟨rfl, rfl⟩))
    (fun os started H enc _ => lifted os started H enc)

theorem proved : Rows.PeriodTrueSaid := over
#print axioms proved
end Go.Proofs.Ytjgebepeghgmcaa.periodTrue
