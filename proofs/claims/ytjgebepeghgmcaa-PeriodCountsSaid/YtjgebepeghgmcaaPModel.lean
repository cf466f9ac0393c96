/-
  Package period as plain functions on numbers and lists.
-/
import Derived.Test.YtjgebepeghgmcaaData
namespace Go.Proofs.Ytjgebepeghgmcaa

structure PLog where
  lo : Int
  hi : Int
  ps : List (Int × Int)

/-- A fraction compared with another one, as the program does it. -/
def cmpR (r o : Int × Int) : Int := r.1 * o.2 - o.1 * r.2

def csum (cs : List Int) (i k : Nat) : Int := ((cs.drop i).take (k - i)).sum
def bel (ps : List (Int × Int)) (cs : List Int) (p : Nat × Nat) : Int × Int := (los ps p.2 - his ps p.1, csum cs p.1 p.2)
def abv (ps : List (Int × Int)) (cs : List Int) (p : Nat × Nat) : Int × Int := (his ps p.2 - los ps p.1, csum cs p.1 p.2)

/-- All pairs of the first n, in order. -/
def pairsFrom (n i : Nat) : List (Nat × Nat) := (List.range' (i + 1) (n - (i + 1))).map fun k => (i, k)
def pairsOf (n : Nat) : List (Nat × Nat) := (List.range n).flatMap (pairsFrom n)

/-- The first one than which no other one is better. -/
def pick {α : Type} (better : α → α → Bool) : Option α → α → Option α
  | none, x => some x
  | some b, x => if better x b then some x else some b
def firstBy {α : Type} (better : α → α → Bool) (xs : List α) : Option α := xs.foldl (pick better) none

theorem firstBy_snoc {α : Type} (bt : α → α → Bool) (pre : List α) (x : α) : firstBy bt (pre ++ [x]) = pick bt (firstBy bt pre) x := by simp [firstBy]
theorem pick_mem {α : Type} (bt : α → α → Bool) (o : Option α) (x y : α) (h : pick bt o x = some y) : y = x ∨ o = some y := by
  cases o with
  | none => simp [pick] at h; exact .inl h.symm
  | some b =>
    simp only [pick] at h
    split at h
    · exact .inl (by injection h with h; exact h.symm)
    · exact .inr h
theorem foldl_pick_mem {α : Type} (bt : α → α → Bool) : ∀ (xs : List α) (o : Option α) (b : α), xs.foldl (pick bt) o = some b → b ∈ xs ∨ o = some b
  | [], o, b, h => .inr h
  | x :: xs, o, b, h => by
    rcases foldl_pick_mem bt xs _ b h with h | h
    · exact .inl (by simp [h])
    · rcases pick_mem bt o x b h with h | h
      · exact .inl (by simp [h])
      · exact .inr h
theorem firstBy_mem {α : Type} (bt : α → α → Bool) (pre : List α) (b : α) (h : firstBy bt pre = some b) : b ∈ pre := by
  rcases foldl_pick_mem bt pre none b h with h | h
  · exact h
  · cases h

theorem foldl_pick_some {α : Type} (bt : α → α → Bool) : ∀ (xs : List α) (b : α), ∃ c, xs.foldl (pick bt) (some b) = some c
  | [], b => ⟨b, rfl⟩
  | x :: xs, b => by
    simp only [List.foldl_cons, pick]
    split
    · exact foldl_pick_some bt xs x
    · exact foldl_pick_some bt xs b
theorem firstBy_some {α : Type} (bt : α → α → Bool) (xs : List α) (h : xs ≠ []) : firstBy bt xs ≠ none := by
  cases xs with
  | nil => exact absurd rfl h
  | cons x xs =>
    obtain ⟨c, hc⟩ := foldl_pick_some bt xs x
    show (xs.foldl (pick bt) (some x)) ≠ none
    rw [hc]
    simp

def lowBetter (ps : List (Int × Int)) (cs : List Int) (x y : Nat × Nat) : Bool := decide (0 < cmpR (bel ps cs x) (bel ps cs y))
def highBetter (ps : List (Int × Int)) (cs : List Int) (x y : Nat × Nat) : Bool := decide (cmpR (abv ps cs x) (abv ps cs y) < 0)
def lowOf (ps : List (Int × Int)) (cs : List Int) : Nat × Nat := (firstBy (lowBetter ps cs) (pairsOf (cs.length + 1))).getD (0, 0)
def highOf (ps : List (Int × Int)) (cs : List Int) : Nat × Nat := (firstBy (highBetter ps cs) (pairsOf (cs.length + 1))).getD (0, 0)

def lowEnd (l : PLog) (cs : List Int) : Int × Int :=
  if cs.length = 0 then (l.lo, 1) else if 0 < cmpR (bel l.ps cs (lowOf l.ps cs)) (l.lo, 1) then bel l.ps cs (lowOf l.ps cs) else (l.lo, 1)
def highEnd (l : PLog) (cs : List Int) : Int × Int :=
  if cs.length = 0 then (l.hi, 1) else if cmpR (abv l.ps cs (highOf l.ps cs)) (l.hi, 1) < 0 then abv l.ps cs (highOf l.ps cs) else (l.hi, 1)
def possible (l : PLog) (cs : List Int) : Bool := decide (cmpR (lowEnd l cs) (highEnd l cs) ≤ 0)

def checkPs : Int → List (Int × Int) → Int
  | _, [] => 0
  | last, p :: r => if ¬ (0 ≤ p.1 ∧ p.1 ≤ p.2) ∨ 1000000 < p.2 then 1 else if p.1 ≤ last then 5 else checkPs p.2 r
def checkL (l : PLog) : Int :=
  if ¬ (1 ≤ l.lo ∧ l.lo ≤ l.hi) ∨ 10000 < l.hi then 1 else if l.ps.length < 2 then 2 else if 8 < l.ps.length then 3 else checkPs (-1) l.ps
def countedL (l : PLog) (cs : List Int) : Int :=
  if checkL l ≠ 0 then checkL l else if (cs.length : Int) ≠ l.ps.length - 1 then 4 else if cs.any (fun n => !(decide (1 ≤ n ∧ n ≤ 1000000))) then 1 else 0

/-- A log that is valid. -/
structure LOk (l : PLog) : Prop where
  lo1 : 1 ≤ l.lo
  lohi : l.lo ≤ l.hi
  hi1 : l.hi ≤ 10000
  len2 : 2 ≤ l.ps.length
  len8 : l.ps.length ≤ 8
  inb : ∀ i, i < l.ps.length → 0 ≤ los l.ps i ∧ los l.ps i ≤ his l.ps i ∧ his l.ps i ≤ 1000000
  inc : ∀ i, i + 1 < l.ps.length → his l.ps i < los l.ps (i + 1)
/-- Counts of the first passages. -/
structure COk (l : PLog) (cs : List Int) : Prop where
  len : cs.length + 1 ≤ l.ps.length
  inb : ∀ x ∈ cs, 1 ≤ x ∧ x ≤ 1000000

theorem checkPs_ok : ∀ (ps : List (Int × Int)) (last : Int), checkPs last ps = 0 →
    (∀ i, i < ps.length → 0 ≤ los ps i ∧ los ps i ≤ his ps i ∧ his ps i ≤ 1000000) ∧ (∀ i, i + 1 < ps.length → his ps i < los ps (i + 1)) ∧ (0 < ps.length → last < los ps 0)
  | [], _, _ => ⟨fun i h => by simp at h, fun i h => by simp at h, fun h => by simp at h⟩
  | p :: r, last, h => by
    unfold checkPs at h
    split at h
    · cases h
    · rename_i h1
      split at h
      · cases h
      · rename_i h2
        obtain ⟨ha, hb, hc⟩ := checkPs_ok r p.2 h
        refine ⟨?_, ?_, fun _ => by simp [los]; omega⟩
        · intro i hi
          cases i with
          | zero => simp [los, his]; omega
          | succ i => exact ha i (by simpa using hi)
        · intro i hi
          cases i with
          | zero => exact hc (by simpa using hi)
          | succ i => exact hb i (by simpa using hi)

theorem lok_of_check {l : PLog} (h : checkL l = 0) : LOk l := by
  unfold checkL at h
  split at h
  · cases h
  · split at h
    · cases h
    · split at h
      · cases h
      · obtain ⟨h1, h2, _⟩ := checkPs_ok _ _ h
        exact ⟨by omega, by omega, by omega, by omega, by omega, h1, h2⟩

theorem csum_bound {l : PLog} {cs : List Int} (hc : COk l cs) (i k : Nat) (hik : i < k) (hk : k ≤ cs.length) : 1 ≤ csum cs i k ∧ csum cs i k ≤ 1000000 * (k : Int) := by
  have key : ∀ ys : List Int, (∀ x ∈ ys, 1 ≤ x ∧ x ≤ 1000000) → (ys.length : Int) ≤ ys.sum ∧ ys.sum ≤ 1000000 * (ys.length : Int) := by
    intro ys
    induction ys with
    | nil => intro _; simp
    | cons y ys ih =>
      intro h
      have h1 := h y (by simp)
      have h2 := ih fun x hx => h x (by simp [hx])
      simp only [List.sum_cons, List.length_cons]
      omega
  have h1 := key ((cs.drop i).take (k - i)) fun x hx => hc.inb x (List.mem_of_mem_drop (List.mem_of_mem_take hx))
  have h2 : ((cs.drop i).take (k - i)).length = k - i := by simp; omega
  rw [h2] at h1
  unfold csum
  omega

end Go.Proofs.Ytjgebepeghgmcaa
