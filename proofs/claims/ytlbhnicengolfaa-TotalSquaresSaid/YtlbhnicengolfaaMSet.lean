/-
  A map from int to bool that a call made and fills: what it answers.
-/
import Derived.Test.YtlbhnicengolfaaBlk
import Derived.Test.YtlbhnicengolfaaProg
import Derived.Maps.OwnOps
import Derived.Maps.Views
namespace Go.Proofs.Ytlbhnicengolfaa
open Go.RowKit
open Go.Maps (Keyed)
set_option linter.unusedVariables false
set_option linter.unusedSimpArgs false

/-- Block b is a map that is true at these numbers alone. -/
def SetAt (w : World) (b : Nat) (met : List Int) : Prop :=
  ∃ D : DataW Unit, w.ownsMap Try.prog 3 (plainElem Try.prog 4) b met.length D ∧ Maps.IsMap D ∧ ∀ x : Int, D.atKey (.int .i64 x) (.lit (.bool false)) = .lit (.bool (decide (x ∈ met)))

theorem SetAt.lt {w : World} {b : Nat} {met : List Int} (h : SetAt w b met) : b < w.heap.size := by
  obtain ⟨D, h, _⟩ := h
  exact h.lt
theorem SetAt.at {w w' : World} {b : Nat} {met : List Int} (h : SetAt w b met) (hb : w'.heap[b]? = w.heap[b]?) : SetAt w' b met := by
  obtain ⟨D, ⟨es, clock, h1, h2⟩, h3⟩ := h
  exact ⟨D, ⟨es, clock, hb.trans h1, h2⟩, h3⟩
theorem SetAt.below {w w' : World} {b : Nat} {met : List Int} (h : SetAt w b met) (hb : Below w.heap.size w w') : SetAt w' b met := h.at (hb.block b h.lt)
theorem SetAt.alloc {w : World} {b : Nat} {met : List Int} (h : SetAt w b met) (o : Obj) : SetAt (w.alloc o) b met := h.below ((Below.refl _ _).alloc (Nat.le_refl _) _)
theorem SetAt.made (w : World) : SetAt (w.alloc (.map #[] 0)) w.heap.size [] := ⟨.map [], World.ownsMap_made _ _ _ _, ⟨_, rfl⟩, fun x => by rw [decide_eq_false (by simp)]; rfl⟩

theorem key64 {x : Int} (h0 : 0 ≤ x) (h1 : x ≤ 1000000) : keyOf Try.prog 3 (.int .i64 x) = some (.int .i64 x) :=
  Maps.keyOf_int_mk Try.underlying3 (by simp [Lit.wf, IntKind.min, IntKind.max, IntKind.signed, IntKind.bits]; omega)
theorem plain_bool_inv {P : Program} {e : TypeId} (he : P.underlying e = some .bool) {v : Value} {b : Bool} {ps : List MemPlace} (h : plainElem (H := Unit) P e v = some (.lit (.bool b), ps)) : v = .bool b := by
  unfold plainElem at h
  rw [he] at h
  cases v <;> simp at h
  rw [h.1]

theorem SetAt.look {w : World} {b : Nat} {met : List Int} (h : SetAt w b met) {x : Int} (h0 : 0 ≤ x) (h1 : x ≤ 1000000) :
    (Instr.lookup 112 (.map (some b)) (.int .i64 x) false).run Try.prog w = .ok (.bool (decide (x ∈ met))) w := by
  obtain ⟨D, ho, hi, ha⟩ := h
  obtain ⟨v, ps, hr, hv⟩ := ho.lookup (t := 112) (e := 4) (Maps.int_keyed Try.underlying3) Try.underlying112 (z := .bool false) (by kernel_rfl) (zd := .lit (.bool false)) (zp := []) (plainElem_bool Try.underlying4 false) (key64 h0 h1)
  rw [ha x] at hv
  rw [hr, plain_bool_inv Try.underlying4 hv]

theorem SetAt.put {w : World} {b : Nat} {met : List Int} (h : SetAt w b met) {q : Int} (h0 : 0 ≤ q) (h1 : q ≤ 1000000) (hm : met.length ≤ 1000) :
    ∃ w', (Instr.mapUpdate 112 (.map (some b)) (.int .i64 q) (.bool true)).run Try.prog w = .ok () w' ∧ SetAt w' b (q :: met) ∧ w.grownBy w' (some b) := by
  obtain ⟨D, ho, hi, ha⟩ := h
  obtain ⟨w', hr, ho', hg⟩ := ho.update (t := 112) (e := 4) (Maps.int_keyed Try.underlying3) Try.underlying112 (by unfold maxLen; omega) (key64 h0 h1) (plainElem_bool Try.underlying4 true)
  refine ⟨w', hr, ⟨_, ho', hi.put _ _, fun x => ?_⟩, hg⟩
  by_cases e : x = q
  · subst e
    rw [Maps.atKey_put_same hi (k := .int .i64 x) trivial]
    simp
  · rw [Maps.atKey_put_other (by simpa using e), ha x]
    simp [e]

section
variable {w : World} {ops : Array Oper} {rest : List Oper} {o : Oper} {a : Act} {Q : Exit → Act → World → Prop}
theorem wpList_look_set (hg : o.guard = none) (m x : Operand) (hop : o.op = Op.lookup 112 m x false) (b : Nat) (met : List Int) (hm : a.eval m = .map (some b)) (hs : SetAt w b met) (q : Int) (hx : a.eval x = .int .i64 q) (h0 : 0 ≤ q) (h1 : q ≤ 1000000)
    (hK : wpList Try.prog ops Q rest (a.put o.dst (.bool (decide (q ∈ met)))) w) : wpList Try.prog ops Q (o :: rest) a w := by
  refine wpList_plain hg fun K' hK' => ?_
  have hrun := hs.look h0 h1
  unfold Oper.wp
  simp [execOp, hop, hm, hx, hrun, Result.andThen]
  exact hK' _ _ hK
theorem wpList_put_set (hg : o.guard = none) (m x v : Operand) (hop : o.op = Op.mapUpdate 112 m x v) (b : Nat) (met : List Int) (hm : a.eval m = .map (some b)) (hs : SetAt w b met) (q : Int) (hx : a.eval x = .int .i64 q) (hv : a.eval v = .bool true) (h0 : 0 ≤ q) (h1 : q ≤ 1000000) (hl : met.length ≤ 1000)
    (hK : ∀ w', SetAt w' b (q :: met) → w.grownBy w' (some b) → wpList Try.prog ops Q rest (a.put o.dst undef) w') : wpList Try.prog ops Q (o :: rest) a w := by
  refine wpList_plain hg fun K' hK' => ?_
  obtain ⟨w', hrun, h2, h3⟩ := hs.put h0 h1 hl
  unfold Oper.wp
  simp [execOp, hop, hm, hx, hv, hrun, Result.andThen]
  exact hK' _ _ (hK w' h2 h3)
end

end Go.Proofs.Ytlbhnicengolfaa
