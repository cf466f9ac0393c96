/-
  TotalSharp returns true: both ends of a span of squares are in a truth, which is returned. There is no condition.
-/
import Derived.Test.YtlbhnicengolfaaRows
import Derived.WalkKit
import Derived.ProofKit
import Derived.OpenShut
import Derived.Test.YtlbhnicengolfaaSharp
import Derived.Test.YtlbhnicengolfaaSkyA
namespace Go.Proofs.Ytlbhnicengolfaa.totalSharp
open Go.ChangeShapes Go.WideShapes Go.ChangeAt Go.RowKit
set_option linter.unusedVariables false

theorem own : ownKnob Try.prog.godebug = none := by kernel_rfl
theorem laid : laidOutB Try.prog = true := by kernel_rfl

set_option maxRecDepth 100000 in
theorem lifted (os : Os) (started : os.Started) (H : Type) (enc : TypeId × Value → H) :
    ReturnsInHanded {} Try.checked os 9 .any (Rows.totalSharpSpec.pre6 enc Try.prog Try.f9 Rows.totalSharpRow.domain false) (Rows.totalSharpSpec.post enc Try.prog Try.f9 false true false false) := by
  refine returnsInHanded_of_change (C := Try.checked) own started (by kernel_rfl) Try.func9
    (ChangeSpec.witness6 (enc := enc) (C := Try.checked) false ⟨#[], #[.agg #[.slice none 0 0, .int .u8 0, .int .u8 0, .int .u8 0, .int .u8 0, .int .u8 0, .int .u8 0, .int .u8 0, .int .u8 0, .int .u8 0, .int .u8 0, .int .u8 0, .int .u8 0, .int .u8 0, .int .u8 0], .agg #[.int .u16 0, .int .u16 0, .int .u16 0, .int .u16 0, .int .u16 0, .int .u16 0, .int .u16 0], .int .u8 0, .bool false], []⟩ 8 (by kernel_rfl) (by kernel_rfl) (by kernel_rfl) (by kernel_rfl)) ?_
  intro W base args ds gs before hval0 hW hcnd _
  have hval : ∀ (j : Nat) t v, Try.f9.params[j]? = some t → args[j]? = some v → Value.okWide Try.prog W .any base t v := hval0
  have hW' := hW
  obtain ⟨p, q, hA0, hV, rfl, hfz, hnd⟩ := hW
  have hA : DataW.TrodAll enc Try.prog W 0 (fun _ => true) true Try.f9.params.toList args.toList ds p := hA0
  have hAk := hA
  rw [Try.params9] at hA hval
  obtain ⟨v1, v2, v3, v4, d1, d2, d3, d4, p1, p2, p3, p4, rfl, rfl, rfl, h1, h2, h3, h4⟩ := trodAll_four hA
  obtain ⟨rfl, rfl⟩ := trodVars_none hV
  obtain ⟨s, la, ln, lc, rfl, hs, hln, hlc, hcap, hrow⟩ := open_sky Try.underlying63 (by kernel_rfl) rfl rfl Try.underlying59 Try.underlying61 Try.underlying60 Try.underlying5 (by kernel_rfl) (by kernel_rfl) (by kernel_rfl) (by kernel_rfl) (hval 0 63 _ rfl rfl) h1
  obtain ⟨lg, rfl, hlg⟩ := open_legs Try.underlying69 Try.underlying68 (by kernel_rfl) (by kernel_rfl) (hval 1 69 _ rfl rfl) h2
  obtain ⟨x, rfl, x0, x1⟩ := open_u8 Try.underlying5 (hval 2 5 _ rfl rfl) h3
  obtain ⟨b, rfl⟩ := open_bool Try.underlying4 (hval 3 4 _ rfl rfl) h4
  clear hA0 hval0 h1 h2 h3 h4 hval hA
  simp only [List.append_nil] at hW'
  refine (sharp_any s lg x b la ln lc W hs hlg x0 x1 hln (by omega) hrow).mono fun e W' ⟨he, hg⟩ => ?_
  subst he
  exact ⟨_, rfl, law_post laid (by kernel_rfl) Try.underlying4 rfl (by kernel_rfl) hW' hAk rfl hg⟩

theorem over : Rows.totalSharpRow.holds Try.pinned (OpenSpec.ofChange Rows.totalSharpSpec) :=
  OpenClaim.holds_of_wide 9 Try.f9 rfl rfl rfl rfl rfl rfl rfl ⟨rfl, rfl, rfl, rfl, rfl⟩ rfl rfl rfl rfl rfl (by kernel_rfl) Try.func9 (by kernel_rfl)
    (of_decide_eq_true (by kernel_rfl)) (by unfold Func.isWrapper; first | (rw [if_pos (by decide +kernel)]; kernel_rfl) | (rw [if_neg (by decide +kernel)]; exact ⟨rfl, rfl⟩))
    (fun os started H enc _ => lifted os started H enc)

theorem proved : Rows.TotalSharpSaid := over
#print axioms proved
end Go.Proofs.Ytlbhnicengolfaa.totalSharp
