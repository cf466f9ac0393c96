/-
  How the data of this claim lie in memory, and small facts on lists.
-/
import Derived.Test.YtlbhnicengolfaaBase
import Derived.Lib.Hide
namespace Go.Proofs.Ytlbhnicengolfaa
open Go.RowKit

theorem hide {p : Prop} (h : p) : Hid p := h

/-- The row at 'a' reads as these values, in a block below B. -/
def Row (w : World) (B : Nat) (a : Option Addr) (vs : List Value) : Prop :=
  vs = [] ∨ ∃ b off, a = some ⟨b, off, none⟩ ∧ b < B ∧ ∀ i, i < vs.length → w.cell? ⟨b, off + i, none⟩ = some (vs.getD i undef)

theorem Row.nil (w : World) (B : Nat) (a : Option Addr) : Row w B a [] := .inl rfl
theorem Row.below {w w' : World} {B B' : Nat} {a : Option Addr} {vs : List Value} (h : Row w B a vs) (hb : Below B' w w') (hle : B ≤ B') : Row w' B a vs := by
  rcases h with h | ⟨b, off, rfl, hlt, h⟩
  · exact .inl h
  · exact .inr ⟨b, off, rfl, hlt, fun i hi => (hb.cell (p := ⟨b, off + i, none⟩) (by show b < B'; omega)).trans (h i hi)⟩
theorem Row.mono {w : World} {B B' : Nat} {a : Option Addr} {vs : List Value} (h : Row w B a vs) (hle : B ≤ B') : Row w B' a vs := by
  rcases h with h | ⟨b, off, rfl, hlt, h⟩
  · exact .inl h
  · exact .inr ⟨b, off, rfl, by omega, h⟩
theorem Row.grow {w w' : World} {B m : Nat} {a : Option Addr} {vs : List Value} (h : Row w B a vs) (hb : Grow m w w') : Row w' B a vs := by
  rcases h with h | ⟨b, off, rfl, hlt, h⟩
  · exact .inl h
  · exact .inr ⟨b, off, rfl, hlt, fun i hi => hb.cell (h i hi)⟩

theorem Row.cut {w : World} {B : Nat} {a : Option Addr} {vs : List Value} (h : Row w B a vs) (i k : Nat) : Row w B (a.map (·.add i)) ((vs.drop i).take (k - i)) := by
  rcases h with rfl | ⟨b, off, rfl, hb, h⟩
  · exact .inl (by simp)
  · refine .inr ⟨b, off + i, ?_, hb, fun j hj => ?_⟩
    · by_cases hi : i = 0
      · subst hi; rfl
      · simp [Addr.add, hi]
    · simp only [List.length_take, List.length_drop] at hj
      have := h (i + j) (by omega)
      rw [Nat.add_assoc, this]
      simp [List.getD, List.getElem?_drop, show j < k - i by omega]

/-- An element, named so that simp does not open it. -/
def iat (xs : List Int) (k : Nat) : Int := xs.getD k 0
theorem iat_eq (xs : List Int) (k : Nat) (h : k < xs.length) : iat xs k = xs[k] := by simp [iat, h]
theorem take_snoc (xs : List Int) (k : Nat) (h : k < xs.length) : xs.take (k + 1) = xs.take k ++ [iat xs k] := by
  rw [List.take_succ_eq_append_getElem h, iat_eq xs k h]

def ints (xs : List Int) : List Value := xs.map (Value.int .i64)
theorem ints_length (xs : List Int) : (ints xs).length = xs.length := by simp [ints]

theorem ints_cut (xs : List Int) (i k : Nat) : ((ints xs).drop i).take (k - i) = ints ((xs.drop i).take (k - i)) := by simp [ints, List.map_take, List.map_drop]
theorem Row.int {w : World} {B : Nat} {a : Option Addr} {xs : List Int} (h : Row w B a (ints xs)) (hi : 0 < xs.length) :
    ∃ b off, a = some ⟨b, off, none⟩ ∧ b < B ∧ ∀ i, i < xs.length → w.cell? ⟨b, off + i, none⟩ = some (.int .i64 (iat xs i)) := by
  rcases h with h | ⟨b, off, rfl, hb, h⟩
  · simp [ints] at h; subst h; simp at hi
  · refine ⟨b, off, rfl, hb, fun i hi => ?_⟩
    rw [h i (by simpa [ints] using hi)]
    simp [ints, List.getD, iat, hi]

/-- Spans: two numbers an element. -/
def spans : List (Int × Int) → List Value
  | [] => []
  | p :: ps => .int .i64 p.1 :: .int .i64 p.2 :: spans ps
theorem spans_length : ∀ ps : List (Int × Int), (spans ps).length = 2 * ps.length
  | [] => rfl
  | _ :: ps => by simp [spans, spans_length ps]; omega
def los (ps : List (Int × Int)) (k : Nat) : Int := (ps.getD k (0, 0)).1
def his (ps : List (Int × Int)) (k : Nat) : Int := (ps.getD k (0, 0)).2
theorem spans_get : ∀ (ps : List (Int × Int)) (k : Nat), k < ps.length → (spans ps).getD (2 * k) undef = .int .i64 (los ps k) ∧ (spans ps).getD (2 * k + 1) undef = .int .i64 (his ps k)
  | [], k, h => by simp at h
  | p :: ps, 0, _ => by simp [spans, los, his]
  | p :: ps, k + 1, h => by
    have := spans_get ps k (by simpa using h)
    rw [show 2 * (k + 1) = 2 * k + 1 + 1 by omega]
    simp only [spans, List.getD_cons_succ, los, his] at this ⊢
    exact this

theorem drop_span (ps : List (Int × Int)) (k : Nat) (h : k < ps.length) : ps.drop k = (los ps k, his ps k) :: ps.drop (k + 1) := by
  have e : ps[k] = (los ps k, his ps k) := by
    unfold los his
    rw [List.getD_eq_getElem?_getD, List.getElem?_eq_getElem h]
    rfl
  rw [List.drop_eq_getElem_cons h, e]
theorem Row.span {w : World} {B : Nat} {a : Option Addr} {ps : List (Int × Int)} (h : Row w B a (spans ps)) (hi : 0 < ps.length) :
    ∃ b off, a = some ⟨b, off, none⟩ ∧ b < B ∧ ∀ i, i < ps.length → w.cell? ⟨b, off + i * 2, none⟩ = some (.int .i64 (los ps i)) ∧ w.cell? ⟨b, off + i * 2 + 1, none⟩ = some (.int .i64 (his ps i)) := by
  rcases h with h | ⟨b, off, rfl, hb, h⟩
  · have := spans_length ps
    rw [h] at this
    simp at this
    omega
  · refine ⟨b, off, rfl, hb, fun i hi => ?_⟩
    obtain ⟨h1, h2⟩ := spans_get ps i hi
    have hl := spans_length ps
    have e1 := h (2 * i) (by omega)
    have e2 := h (2 * i + 1) (by omega)
    rw [h1] at e1
    rw [h2] at e2
    exact ⟨by rw [show i * 2 = 2 * i by omega]; exact e1, by rw [show off + i * 2 + 1 = off + (2 * i + 1) by omega]; exact e2⟩

end Go.Proofs.Ytlbhnicengolfaa
