/-
  Skies: nets by numbers; the plain model of made.
-/
import Derived.Test.YtlbhnicengolfaaExa
import Derived.Test.YtlbhnicengolfaaLawW
namespace Go.Proofs.Ytlbhnicengolfaa
open Go.RowKit
set_option linter.unusedVariables false
set_option linter.unusedSimpArgs false

/-- A sky: links, and fourteen numbers for spans. -/
structure TSky where
  lk : List (Int × Int)
  sb : Nat → Int
structure SkyOk (s : TSky) : Prop where
  lk : ∀ i, 0 ≤ (s.lk.getD i (0, 0)).1 ∧ (s.lk.getD i (0, 0)).1 ≤ 255 ∧ 0 ≤ (s.lk.getD i (0, 0)).2 ∧ (s.lk.getD i (0, 0)).2 ≤ 255
  sb : ∀ i, 0 ≤ s.sb i ∧ s.sb i ≤ 255
/-- Pairs of bytes. -/
def u8p : List (Int × Int) → List Value
  | [] => []
  | p :: ps => .int .u8 p.1 :: .int .u8 p.2 :: u8p ps
theorem u8p_length : ∀ ps : List (Int × Int), (u8p ps).length = 2 * ps.length
  | [] => rfl
  | _ :: ps => by simp [u8p, u8p_length ps]; omega
theorem u8p_get : ∀ (ps : List (Int × Int)) (k : Nat), k < ps.length → (u8p ps).getD (2 * k) undef = .int .u8 (ps.getD k (0, 0)).1 ∧ (u8p ps).getD (2 * k + 1) undef = .int .u8 (ps.getD k (0, 0)).2
  | [], k, h => by simp at h
  | p :: ps, 0, _ => by simp [u8p]
  | p :: ps, k + 1, h => by
    have := u8p_get ps k (by simpa using h)
    rw [show 2 * (k + 1) = 2 * k + 1 + 1 by omega]
    simp only [u8p, List.getD_cons_succ] at this ⊢
    exact this
theorem Row.u8 {w : World} {B : Nat} {a : Option Addr} {ps : List (Int × Int)} (h : Row w B a (u8p ps)) (hi : 0 < ps.length) :
    ∃ b off, a = some ⟨b, off, none⟩ ∧ b < B ∧ ∀ i, i < ps.length → w.cell? ⟨b, off + i * 2, none⟩ = some (.int .u8 (ps.getD i (0, 0)).1) ∧ w.cell? ⟨b, off + i * 2 + 1, none⟩ = some (.int .u8 (ps.getD i (0, 0)).2) := by
  rcases h with h | ⟨b, off, rfl, hb, h⟩
  · have := u8p_length ps
    rw [h] at this
    simp at this
    omega
  · refine ⟨b, off, rfl, hb, fun i hi => ?_⟩
    obtain ⟨h1, h2⟩ := u8p_get ps i hi
    have hl := u8p_length ps
    have e1 := h (2 * i) (by omega)
    have e2 := h (2 * i + 1) (by omega)
    rw [h1] at e1
    rw [h2] at e2
    exact ⟨by rw [show i * 2 = 2 * i by omega]; exact e1, by rw [show off + i * 2 + 1 = off + (2 * i + 1) by omega]; exact e2⟩

/-- The cells of a sky. -/
def skyC (la : Option Addr) (ln lc : Nat) (s : TSky) : Array Value :=
  #[.slice la ln lc, .int .u8 (s.sb 0), .int .u8 (s.sb 1), .int .u8 (s.sb 2), .int .u8 (s.sb 3), .int .u8 (s.sb 4), .int .u8 (s.sb 5), .int .u8 (s.sb 6), .int .u8 (s.sb 7), .int .u8 (s.sb 8), .int .u8 (s.sb 9), .int .u8 (s.sb 10), .int .u8 (s.sb 11), .int .u8 (s.sb 12), .int .u8 (s.sb 13)]
theorem skyC_get {la : Option Addr} {ln lc : Nat} {s : TSky} {i : Nat} (hi : i < 14) : (skyC la ln lc s)[1 + i]? = some (.int .u8 (s.sb i)) := by
  rcases i with _ | _ | _ | _ | _ | _ | _ | _ | _ | _ | _ | _ | _ | _ | i
  all_goals first | rfl | omega

/-! ### the plain model -/
/-- Triangle k: it has one quantity in common with those before it. -/
def skyT (k : Nat) (l : Int × Int) : Tri :=
  if l.2 % 2 = 1 then (1 + 2 * (k : Int), 1 + 2 * (k : Int) + 1, l.1 % (1 + 2 * (k : Int))) else (l.1 % (1 + 2 * (k : Int)), 1 + 2 * (k : Int), 1 + 2 * (k : Int) + 1)
def skyTs (lk : List (Int × Int)) : Nat → List Tri
  | 0 => []
  | k + 1 => skyTs lk k ++ [skyT k (lk.getD k (0, 0))]
theorem skyTs_len (lk : List (Int × Int)) : ∀ k, (skyTs lk k).length = k
  | 0 => rfl
  | k + 1 => by simp [skyTs, skyTs_len lk k]
def skyS (s : TSky) (q : Nat) : Sp := (s.sb (2 * q) % 4, min 4 (s.sb (2 * q) % 4 + s.sb (2 * q + 1) % 3))
def skyK (s : TSky) : Nat := min 3 s.lk.length
def skyL (s : TSky) (k n : Nat) : List Sp := (List.range k).map (skyS s) ++ List.replicate (n - k) (0, 0)
/-- The net that is made. -/
def skyNet (s : TSky) : TNet := ⟨(List.range (1 + 2 * skyK s)).map (skyS s), skyTs s.lk (skyK s)⟩
theorem skyL_len (s : TSky) {k n : Nat} (h : k ≤ n) : (skyL s k n).length = n := by simp [skyL]; omega
theorem skyL_set (s : TSky) {k n : Nat} (h : k < n) : (skyL s k n).set k (skyS s k) = skyL s (k + 1) n := by
  unfold skyL
  rw [List.set_append_right _ _ (by simp), List.range_succ, List.map_append, List.append_assoc]
  simp only [List.length_map, List.length_range, Nat.sub_self, List.map_cons, List.map_nil]
  congr 1
  rw [show n - k = (n - (k + 1)) + 1 by omega, List.replicate_succ]
  rfl

end Go.Proofs.Ytlbhnicengolfaa
