/-
  Narrowing: the plain model; the methods of spans.
-/
import Derived.Test.YtlbhnicengolfaaCheckF
import Derived.Test.YtlbhnicengolfaaMonoG
namespace Go.Proofs.Ytlbhnicengolfaa
open Go.RowKit
set_option linter.unusedVariables false
set_option linter.unusedSimpArgs false

abbrev Sp := Int × Int
def plusS (s o : Sp) : Sp := (s.1 + o.1, s.2 + o.2)
def minusS (s o : Sp) : Sp := (s.1 - o.2, s.2 - o.1)
def bothS (s o : Sp) : Sp := (max s.1 o.1, min s.2 o.2)
def noneS (s : Sp) : Bool := decide (s.2 < s.1)
/-- The span of quantity q. -/
def spA (ls : List Sp) (q : Int) : Sp := ls.getD q.toNat (0, 0)
def setA (ls : List Sp) (q : Int) (s : Sp) : List Sp := ls.set q.toNat s
def narW (ls : List Sp) (a b : Sp) (q : Int) : List Sp := setA ls q (bothS (spA ls q) (plusS a b))
def narL (ls : List Sp) (w o : Sp) (q : Int) : List Sp := setA ls q (bothS (spA ls q) (minusS w o))
/-- What one triangle does. -/
def nar1 (ls : List Sp) (t : Tri) : List Sp :=
  narL (narL (narW ls (spA ls t.1) (spA ls t.2.1) t.2.2) (spA ls t.2.2) (spA ls t.2.1) t.1) (spA ls t.2.2) (spA ls t.1) t.2.1
def narR (ts : List Tri) (ls : List Sp) : List Sp := ts.foldl nar1 ls
def narN (ts : List Tri) : Nat → List Sp → List Sp
  | 0, ls => ls
  | k + 1, ls => narR ts (narN ts k ls)
/-- What narrow leaves. -/
def narT (ts : List Tri) (ls : List Sp) : List Sp := narN ts (ts.length + 1) ls
def narOk (ts : List Tri) (ls : List Sp) : Bool := !(narT ts ls).any noneS

/-! ### no number grows beyond its kind -/
def SpB (M : Int) (s : Sp) : Prop := 0 ≤ s.1 ∧ s.1 ≤ M ∧ -M ≤ s.2 ∧ s.2 ≤ 1125899906842624
def LsB (M : Int) (ls : List Sp) : Prop := ∀ s ∈ ls, SpB M s
theorem LsB.mono {M M' : Int} {ls : List Sp} (h : LsB M ls) (hm : M ≤ M') : LsB M' ls := fun s hs => by
  obtain ⟨a, b, c, d⟩ := h s hs
  exact ⟨a, by omega, by omega, d⟩
theorem LsB.at {M : Int} {ls : List Sp} (h : LsB M ls) (h0 : 0 ≤ M) (q : Int) : SpB M (spA ls q) := by
  unfold spA
  rw [List.getD_eq_getElem?_getD]
  rcases Nat.lt_or_ge q.toNat ls.length with hl | hl
  · rw [List.getElem?_eq_getElem hl]
    exact h _ (List.getElem_mem hl)
  · rw [List.getElem?_eq_none hl]
    exact ⟨by simp, h0, by simp; omega, by simp⟩
theorem LsB.set {M : Int} {ls : List Sp} (h : LsB M ls) (q : Int) {s : Sp} (hs : SpB M s) : LsB M (setA ls q s) := fun x hx => by
  unfold setA at hx
  rcases List.mem_or_eq_of_mem_set hx with hx | rfl
  · exact h x hx
  · exact hs
theorem SpB.plus {M : Int} {s a b : Sp} (h0 : 0 ≤ M) (hs : SpB (2 * M) s) (ha : SpB M a) (hb : SpB M b) : SpB (2 * M) (bothS s (plusS a b)) := by
  unfold SpB bothS plusS at *
  dsimp only at *
  omega
theorem SpB.minus {M : Int} {s a b : Sp} (h0 : 0 ≤ M) (hs : SpB (2 * M) s) (ha : SpB M a) (hb : SpB M b) : SpB (2 * M) (bothS s (minusS a b)) := by
  unfold SpB bothS minusS at *
  dsimp only at *
  omega
theorem nar1_B {M : Int} {ls : List Sp} (h0 : 0 ≤ M) (h : LsB M ls) (t : Tri) : LsB (2 * M) (nar1 ls t) := by
  have h2 : LsB (2 * M) ls := h.mono (by omega)
  have ha := h.at h0 t.1
  have hb := h.at h0 t.2.1
  have hw := h.at h0 t.2.2
  have h3 : LsB (2 * M) (narW ls (spA ls t.1) (spA ls t.2.1) t.2.2) := h2.set _ ((h2.at (by omega) _).plus h0 ha hb)
  have h4 : LsB (2 * M) (narL (narW ls (spA ls t.1) (spA ls t.2.1) t.2.2) (spA ls t.2.2) (spA ls t.2.1) t.1) := h3.set _ ((h3.at (by omega) _).minus h0 hw hb)
  exact h4.set _ ((h4.at (by omega) _).minus h0 hw ha)
/-- After c triangles. -/
def MB (c : Nat) : Int := 100000000 * 2 ^ c
theorem MB_succ (c : Nat) : MB (c + 1) = 2 * MB c := by unfold MB; rw [Int.pow_succ]; omega
theorem MB_pos (c : Nat) : 0 ≤ MB c := by unfold MB; have := Int.pow_pos (n := 2) (m := c) (by decide); omega
theorem MB_mono {c d : Nat} (h : c ≤ d) : MB c ≤ MB d := by
  unfold MB
  have : (2 : Int) ^ c ≤ 2 ^ d := by exact_mod_cast Nat.pow_le_pow_right (by decide) h
  omega
theorem MB_30 {c : Nat} (h : c ≤ 30) : MB c ≤ 107374182400000000 := by
  have h1 := MB_mono h
  have h2 : MB 30 = 107374182400000000 := by decide
  omega
theorem nar1_len (ls : List Sp) (t : Tri) : (nar1 ls t).length = ls.length := by simp [nar1, narL, narW, setA]
theorem narR_len (ts : List Tri) : ∀ ls : List Sp, (narR ts ls).length = ls.length := by
  induction ts with
  | nil => exact fun _ => rfl
  | cons t ts ih => exact fun ls => (ih _).trans (nar1_len ls t)
theorem narN_len (ts : List Tri) (k : Nat) (ls : List Sp) : (narN ts k ls).length = ls.length := by
  induction k with
  | zero => rfl
  | succ k ih => exact (narR_len ts _).trans ih

/-! ### the methods -/
theorem minW (a s : Int) : min a s = if s < a then s else a := by split <;> omega
theorem maxW (a s : Int) : max a s = if a < s then s else a := by split <;> omega

theorem plus_any (s o : Sp) (w : World) (M : Int) (hM : M ≤ 1000000000000000000) (h0 : 0 ≤ M) (hs : SpB M s) (ho : SpB M o) :
    Calls Try.prog 76 #[.agg #[.int .i64 s.1, .int .i64 s.2], .agg #[.int .i64 o.1, .int .i64 o.2]] w fun e w' => e = .returned (.agg #[.int .i64 (plusS s o).1, .int .i64 (plusS s o).2]) ∧ Below w.heap.size w w' := by
  obtain ⟨a1, a2, a3, a4⟩ := hs
  obtain ⟨b1, b2, b3, b4⟩ := ho
  obtain ⟨x, y⟩ := s
  obtain ⟨u, v⟩ := o
  dsimp only at *
  go_enter Try.func76, Try.ntmps76
  go_wp2
  refine bodyPost_ret (v := .agg #[.int .i64 (x + u), .int .i64 (y + v)]) (by simp [results, Try.results76, go_sem]) rfl ⟨rfl, (((Below.refl _ _).alloc (Nat.le_refl _) _).alloc (by simp) _).alloc (by simp; omega) _⟩
theorem minus_any (s o : Sp) (w : World) (M : Int) (hM : M ≤ 1000000000000000000) (h0 : 0 ≤ M) (hs : SpB M s) (ho : SpB M o) :
    Calls Try.prog 77 #[.agg #[.int .i64 s.1, .int .i64 s.2], .agg #[.int .i64 o.1, .int .i64 o.2]] w fun e w' => e = .returned (.agg #[.int .i64 (minusS s o).1, .int .i64 (minusS s o).2]) ∧ Below w.heap.size w w' := by
  obtain ⟨a1, a2, a3, a4⟩ := hs
  obtain ⟨b1, b2, b3, b4⟩ := ho
  obtain ⟨x, y⟩ := s
  obtain ⟨u, v⟩ := o
  dsimp only at *
  go_enter Try.func77, Try.ntmps77
  go_wp2
  refine bodyPost_ret (v := .agg #[.int .i64 (x - v), .int .i64 (y - u)]) (by simp [results, Try.results77, go_sem]) rfl ⟨rfl, (((Below.refl _ _).alloc (Nat.le_refl _) _).alloc (by simp) _).alloc (by simp; omega) _⟩
theorem both_any (s o : Sp) (w : World) :
    Calls Try.prog 78 #[.agg #[.int .i64 s.1, .int .i64 s.2], .agg #[.int .i64 o.1, .int .i64 o.2]] w fun e w' => e = .returned (.agg #[.int .i64 (bothS s o).1, .int .i64 (bothS s o).2]) ∧ Below w.heap.size w w' := by
  obtain ⟨x, y⟩ := s
  obtain ⟨u, v⟩ := o
  unfold bothS
  dsimp only at *
  go_enter Try.func78, Try.ntmps78
  go_wp2
  all_goals
    refine bodyPost_ret (v := .agg #[.int .i64 (max x u), .int .i64 (min y v)]) (by simp [results, Try.results78, go_sem]; omega) rfl ⟨rfl, (((Below.refl _ _).alloc (Nat.le_refl _) _).alloc (by simp) _).alloc (by simp; omega) _⟩
theorem none_any (s : Sp) (w : World) :
    Calls Try.prog 80 #[.agg #[.int .i64 s.1, .int .i64 s.2]] w fun e w' => e = .returned (.bool (noneS s)) ∧ Below w.heap.size w w' := by
  obtain ⟨x, y⟩ := s
  go_enter Try.func80, Try.ntmps80
  go_wp2
  go_ret
  exact ⟨rfl, (Below.refl _ _).alloc (Nat.le_refl _) _⟩

end Go.Proofs.Ytlbhnicengolfaa
