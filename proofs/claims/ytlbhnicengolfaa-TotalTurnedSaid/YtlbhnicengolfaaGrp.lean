/-
  A map from int to slices of ints that a call made and fills.
-/
import Derived.Test.YtlbhnicengolfaaTruth
import Derived.Maps.OwnRows
import Derived.Maps.AppendAt
namespace Go.Proofs.Ytlbhnicengolfaa
open Go.RowKit
open Go.Maps (Keyed)
open Go.ChangeShapes (lits)
set_option linter.unusedVariables false
set_option linter.unusedSimpArgs false

def encL (zs : List Int) : DataW Unit := if zs = [] then .nil else .slice (lits .i64 zs) []
/-- Block b is a map that holds these lists, each in a row of its own from base on. -/
def GrpAt (w : World) (b base n : Nat) (f : Int → List Int) : Prop :=
  ∃ D : DataW Unit, w.ownsGroups Try.prog 3 base 3 .i64 b n D ∧ Maps.IsMap D ∧ ∀ x : Int, D.atKey (.int .i64 x) .nil = encL (f x)

theorem GrpAt.lt {w : World} {b base n : Nat} {f : Int → List Int} (h : GrpAt w b base n f) : b < w.heap.size := by
  obtain ⟨D, ⟨es, c, hb, _⟩, _⟩ := h
  exact (Array.getElem?_eq_some_iff.1 hb).1
theorem GrpAt.made {w : World} {b : Nat} (h : b = w.heap.size) : GrpAt (w.alloc (.map #[] 0)) b (b + 1) 0 (fun _ => []) := by
  subst h
  exact ⟨.map [], World.ownsGroups_made _ _ _ _ _, ⟨_, rfl⟩, fun x => rfl⟩
theorem lits_inj {a b : List Int} (h : (lits .i64 a : List (DataW Unit)) = lits .i64 b) : a = b := by
  unfold lits at h
  have := congrArg (List.map fun d : DataW Unit => match d with | .lit (.int _ x) => x | _ => 0) h
  simpa [List.map_map, Function.comp_def] using this
theorem GrpAt.look {w : World} {b base n : Nat} {f : Int → List Int} (h : GrpAt w b base n f) (hn : n ≤ 1000) {x : Int} (h0 : 0 ≤ x) (h1 : x ≤ 1000000) :
    ∃ (D : DataW Unit) (v : Value), (Instr.lookup 114 (.map (some b)) (.int .i64 x) false).run Try.prog w = .ok v w ∧ w.ownsInts base 3 .i64 v (f x) ∧ (f x).length ≤ n ∧
      w.groupBack Try.prog 114 3 base 3 .i64 b n D (.int .i64 x) (.int .i64 x) v ∧ Maps.IsMap D ∧ ∀ x : Int, D.atKey (.int .i64 x) .nil = encL (f x) := by
  obtain ⟨D, ho, hi, ha⟩ := h
  obtain ⟨v, zs, hr, hat, hoi, hzl, hback⟩ := ho.at (t := 114) (E := 38) (Maps.int_keyed Try.underlying3) Try.underlying114 (by kernel_rfl) (by unfold maxLen; omega) (key64 h0 h1)
  rw [ha x] at hat
  have e : zs = f x := by
    rcases hoi.datum (H := Unit) with ⟨hd, hz⟩ | hd
    · rw [hd] at hat
      unfold encL at hat
      split at hat
      · rename_i h; rw [hz, h]
      · cases hat
    · rw [hd] at hat
      unfold encL at hat
      split at hat
      · cases hat
      · have h1 := congrArg (fun d : DataW Unit => match d with | .slice xs _ => xs | _ => []) hat
        exact (lits_inj h1).symm
  subst e
  exact ⟨D, v, hr, hoi, hzl, hback, hi, ha⟩
theorem GrpAt.put {w : World} {D : DataW Unit} {b base n : Nat} {f : Int → List Int} {x : Int} {v' : Value} {zs' : List Int} (hi : Maps.IsMap D) (ha : ∀ x : Int, D.atKey (.int .i64 x) .nil = encL (f x))
    (hv : w.ownsInts base 3 .i64 v' zs') (hne : zs' ≠ []) {w2 : World} (ho : w2.ownsGroups Try.prog 3 base 3 .i64 b n (D.put (.int .i64 x) (rowDatum .i64 v' zs'))) : GrpAt w2 b base n (fun y => if y = x then zs' else f y) := by
  refine ⟨_, ho, hi.put _ _, fun y => ?_⟩
  by_cases e : y = x
  · subst e
    show _ = encL (if y = y then zs' else f y)
    rw [if_pos rfl, Maps.atKey_put_same hi (k := .int .i64 y) trivial, hv.datum_pos hne]
    unfold encL
    rw [if_neg hne]
  · show _ = encL (if y = x then zs' else f y)
    rw [if_neg e, Maps.atKey_put_other (by simpa using e), ha y]

end Go.Proofs.Ytlbhnicengolfaa
