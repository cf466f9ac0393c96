/-
  A slice of spans that a call owns: its cells, a store into it.
-/
import Derived.Test.YtlbhnicengolfaaNarM
namespace Go.Proofs.Ytlbhnicengolfaa
open Go.RowKit
set_option linter.unusedVariables false
set_option linter.unusedSimpArgs false

def capR (a : Option Addr) (vs : List Value) (k : Nat) : Prop := vs ≠ [] ∧ ∃ ad, a = some ad ∧ ad.block = k
theorem Row.at {w w' : World} {B : Nat} {a : Option Addr} {vs : List Value} (h : Row w B a vs) (hk : ∀ k, capR a vs k → w'.heap[k]? = w.heap[k]?) : Row w' B a vs := by
  rcases h with h | ⟨b, off, rfl, hb, h⟩
  · exact .inl h
  · by_cases hv : vs = []
    · exact .inl hv
    · exact .inr ⟨b, off, rfl, hb, fun i hi => (World.cell?_of_block (hk b ⟨hv, _, rfl, rfl⟩)).trans (h i hi)⟩
theorem Row.capLt {w : World} {B : Nat} {a : Option Addr} {vs : List Value} (h : Row w B a vs) {k : Nat} (hk : capR a vs k) : k < B := by
  obtain ⟨hne, ad, rfl, rfl⟩ := hk
  rcases h with rfl | ⟨b, off, e, hb, _⟩
  · exact absurd rfl hne
  · cases e; exact hb
theorem Row.grownBy {w w' : World} {B : Nat} {a : Option Addr} {vs : List Value} {row : Option Nat} (h : Row w B a vs) (hg : w.grownBy w' row) (hB : B ≤ w.heap.size) (hr : ∀ k, row = some k → B ≤ k) : Row w' B a vs :=
  h.at fun k hk => hg.block k (by have := h.capLt hk; omega) (fun e => by have := h.capLt hk; have := hr k e.symm; omega)

theorem spans_set : ∀ (ls : List (Int × Int)) (q : Nat) (x y : Int), ((spans ls).set (q * 2) (.int .i64 x)).set (q * 2 + 1) (.int .i64 y) = spans (ls.set q (x, y))
  | [], q, x, y => rfl
  | p :: ls, 0, x, y => rfl
  | p :: ls, q + 1, x, y => by
    have := spans_set ls q x y
    rw [show (q + 1) * 2 = q * 2 + 1 + 1 by omega]
    simp only [spans, List.set_cons_succ]
    rw [this]

section
variable {W : World} {B g m cap : Nat} {e : TypeId} {ls : List (Int × Int)}
theorem own2_blk (h : W.ownsRow B e 2 (.slice (some ⟨g, 0, none⟩) m cap) m (spans ls)) : ∃ cur, Blk W g cur e ∧ B ≤ g ∧ m ≤ cap ∧ cap ≤ maxLen ∧ cur.size = cap * 2 ∧ cur.toList.take (m * 2) = spans ls := by
  rcases h.2 with ⟨hv, _⟩ | ⟨g', cp, cur, hv, hb, hc, hle, hm, hs, ht⟩
  · cases hv
  · cases hv
    exact ⟨cur, hc, hb, hle, hm, hs, ht⟩
theorem own2_len (h : W.ownsRow B e 2 (.slice (some ⟨g, 0, none⟩) m cap) m (spans ls)) : m = ls.length := by
  have := h.1
  rw [spans_length] at this
  omega
theorem own2_cell (h : W.ownsRow B e 2 (.slice (some ⟨g, 0, none⟩) m cap) m (spans ls)) {q : Nat} (hq : q < m) :
    W.cell? ⟨g, q * 2, none⟩ = some (.int .i64 (ls.getD q (0, 0)).1) ∧ W.cell? ⟨g, q * 2 + 1, none⟩ = some (.int .i64 (ls.getD q (0, 0)).2) ∧ W.frozen? ⟨g, q * 2, none⟩ = false ∧ W.frozen? ⟨g, q * 2 + 1, none⟩ = false := by
  have hl := own2_len h
  obtain ⟨cur, hk, _⟩ := own2_blk h
  have hs := spans_length ls
  obtain ⟨e1, e2⟩ := spans_get ls q (by omega)
  have c1 := h.cellAt (q * 2) (by omega)
  have c2 := h.cellAt (q * 2 + 1) (by omega)
  rw [List.getD_eq_getElem?_getD, List.getElem?_eq_getElem (by omega), Option.getD_some] at e1 e2
  refine ⟨?_, ?_, hk.frozen _, hk.frozen _⟩
  · rw [c1, List.getElem?_eq_getElem (by omega)]
    simp only [show q * 2 = 2 * q by omega]
    rw [e1]; rfl
  · rw [c2, List.getElem?_eq_getElem (by omega)]
    simp only [show q * 2 + 1 = 2 * q + 1 by omega]
    rw [e2]; rfl
theorem own2_set (h : W.ownsRow B e 2 (.slice (some ⟨g, 0, none⟩) m cap) m (spans ls)) (q : Nat) (x y : Int) :
    ((W.setCell ⟨g, q * 2, none⟩ (.int .i64 x)).setCell ⟨g, q * 2 + 1, none⟩ (.int .i64 y)).ownsRow B e 2 (.slice (some ⟨g, 0, none⟩) m cap) m (spans (ls.set q (x, y))) := by
  have hl := own2_len h
  obtain ⟨cur, hk, hb, hle, hm, hs, ht⟩ := own2_blk h
  refine ⟨by rw [spans_length, List.length_set]; omega, .inr ⟨g, cap, _, rfl, hb, (hk.set (q * 2) (.int .i64 x)).set (q * 2 + 1) (.int .i64 y), hle, hm, by simpa using hs, ?_⟩⟩
  rw [Array.toList_setIfInBounds, Array.toList_setIfInBounds, List.take_set, List.take_set, ht, spans_set]
theorem own2_grown (W : World) (g i : Nat) (v : Value) : W.grownBy (W.setCell ⟨g, i, none⟩ v) (some g) :=
  ⟨rfl, rfl, rfl, by simp [World.setCell], fun k hk hne => Below.heap_setCell _ _ _ _ (fun e => hne (by rw [e]))⟩
theorem own2_row (h : W.ownsRow B e 2 (.slice (some ⟨g, 0, none⟩) m cap) m (spans ls)) : Row W W.heap.size (some ⟨g, 0, none⟩) (spans ls) := by
  have hl := own2_len h
  obtain ⟨cur, hk, hb, hle, hm, hs, ht⟩ := own2_blk h
  exact (row_of_heap hk (by rw [spans_length]; rw [show 2 * ls.length = m * 2 by omega]; exact ht)).mono hk.lt
end
theorem grownBy_trans {a b c : World} {row : Option Nat} (h : a.grownBy b row) (k : b.grownBy c row) : a.grownBy c row :=
  ⟨k.os.trans h.os, k.tape.trans h.tape, k.output.trans h.output, Nat.le_trans h.size k.size, fun i hi hne => (k.block i (Nat.lt_of_lt_of_le hi h.size) hne).trans (h.block i hi hne)⟩
theorem grownBy_below {a b : World} (h : Below a.heap.size a b) (row : Option Nat) : a.grownBy b row := ⟨h.os, h.tape, h.output, h.size, fun k hk _ => h.block k hk⟩
theorem own_kept {a b : World} {B n : Nat} {e : TypeId} {s : Nat} {v : Value} {xs : List Value} (h : a.ownsRow B e s v n xs) (hb : Below a.heap.size a b) : b.ownsRow B e s v n xs :=
  h.kept (row := none) (grownBy_below hb none) (by cases hv : v.ownBlock <;> simp)

end Go.Proofs.Ytlbhnicengolfaa
