/-
  Skies have few shapes: groups of all of them are looked at.
-/
import Derived.Test.YtlbhnicengolfaaSkyA
namespace Go.Proofs.Ytlbhnicengolfaa
open Go.RowKit
set_option linter.unusedVariables false
set_option linter.unusedSimpArgs false

/-! ### sums of numbers times squares -/
def addA (xs : List Int) (q c : Int) : List Int := xs.set q.toNat (xs.getD q.toNat 0 + c)
theorem addA_len (xs : List Int) (q c : Int) : (addA xs q c).length = xs.length := by simp [addA]
def tri3 (xs : List Int) (t : Tri) (c : Int) : List Int := addA (addA (addA xs t.1 c) t.2.1 c) t.2.2 (-c)
theorem tri3_len (xs : List Int) (t : Tri) (c : Int) : (tri3 xs t c).length = xs.length := by simp [tri3, addA_len]
/-- The sum of triangles, each with a sign. -/
def combo (N : Nat) : List Tri → List Int → List Int
  | t :: ts, c :: cs => tri3 (combo N ts cs) t c
  | _, _ => List.replicate N 0
theorem combo_len (N : Nat) : ∀ (ts : List Tri) (cs : List Int), (combo N ts cs).length = N
  | t :: ts, c :: cs => by unfold combo; rw [tri3_len, combo_len N ts cs]
  | [], _ => by simp [combo]
  | _ :: _, [] => by simp [combo]
def dot : List Int → (Nat → Int) → Int
  | [], _ => 0
  | c :: cs, x => c * x 0 + dot cs (fun i => x (i + 1))
theorem dot_set : ∀ (xs : List Int) (q : Nat) (c : Int) (x : Nat → Int), q < xs.length → dot (xs.set q (xs.getD q 0 + c)) x = dot xs x + c * x q
  | [], q, c, x, h => by simp at h
  | a :: xs, 0, c, x, _ => by simp [dot, Int.add_mul]; omega
  | a :: xs, q + 1, c, x, h => by
    have := dot_set xs q c (fun i => x (i + 1)) (by simpa using h)
    simp only [List.getD_cons_succ, List.set_cons_succ, dot] at this ⊢
    rw [this]; omega
theorem dot_addA {xs : List Int} {q : Int} (h0 : 0 ≤ q) (h : q < xs.length) (c : Int) (X : Int → Int) : dot (addA xs q c) (fun i => X i) = dot xs (fun i => X i) + c * X q := by
  unfold addA
  rw [dot_set _ _ _ _ (by omega)]
  show _ + c * X (q.toNat : Int) = _
  rw [Int.toNat_of_nonneg h0]
theorem dot_zero : ∀ (N : Nat) (x : Nat → Int), dot (List.replicate N 0) x = 0
  | 0, _ => rfl
  | N + 1, x => by rw [List.replicate_succ]; simp [dot, dot_zero N]
theorem dot_combo {N : Nat} {X : Int → Int} : ∀ (ts : List Tri) (cs : List Int), (∀ t ∈ ts, (∀ o ∈ cor t, 0 ≤ o ∧ o < (N : Int)) ∧ Hl X t) → dot (combo N ts cs) (fun i => X i) = 0
  | [], cs, _ => by simp [combo, dot_zero]
  | _ :: _, [], _ => by simp [combo, dot_zero]
  | t :: ts, c :: cs, h => by
    have ih := dot_combo ts cs fun t ht => h t (by simp [ht])
    obtain ⟨hi, hl⟩ := h t (by simp)
    have ha := hi t.1 (by simp [cor])
    have hb := hi t.2.1 (by simp [cor])
    have hc := hi t.2.2 (by simp [cor])
    have hn := combo_len N ts cs
    unfold combo tri3
    rw [dot_addA hc.1 (by rw [addA_len, addA_len, hn]; exact hc.2), dot_addA hb.1 (by rw [addA_len, hn]; exact hb.2), dot_addA ha.1 (by rw [hn]; exact ha.2), ih]
    unfold Hl at hl
    rw [← hl, Int.neg_mul, Int.mul_add]
    omega
def dotK (cs : List Int) (x : Nat → Int) (k : Nat) : Int := (List.range k).foldl (fun s i => s + cs.getD i 0 * x i) 0
theorem dotK_snoc (cs : List Int) (x : Nat → Int) (k : Nat) : dotK cs x (k + 1) = dotK cs x k + cs.getD k 0 * x k := by simp [dotK, List.range_succ]
theorem dotK_cons (c : Int) (cs : List Int) (x : Nat → Int) : ∀ k, dotK (c :: cs) x (k + 1) = c * x 0 + dotK cs (fun i => x (i + 1)) k
  | 0 => by simp [dotK, List.range_succ]
  | k + 1 => by
    rw [dotK_snoc, dotK_cons c cs x k, dotK_snoc]
    simp only [List.getD_cons_succ]
    omega
theorem dotK_all : ∀ (cs : List Int) (x : Nat → Int), dotK cs x cs.length = dot cs x
  | [], _ => rfl
  | c :: cs, x => by rw [List.length_cons, dotK_cons, dotK_all cs]; rfl

/-! ### what is counted -/
def cntT (xs : List Int) (t : Tri) : List Int := addA (addA (addA xs t.1 1) t.2.1 1) t.2.2 1
theorem cntT_len (xs : List Int) (t : Tri) : (cntT xs t).length = xs.length := by simp [cntT, addA_len]
def cntG (ts : List Tri) (m N : Nat) : Nat → List Int
  | 0 => List.replicate N 0
  | k + 1 => if m.testBit k then cntT (cntG ts m N k) (tri ts k) else cntG ts m N k
theorem cntG_len (ts : List Tri) (m N : Nat) : ∀ k, (cntG ts m N k).length = N
  | 0 => by simp [cntG]
  | k + 1 => by unfold cntG; split <;> simp [cntT_len, cntG_len ts m N k]
def mostK (C : List Int) (k : Nat) : Int := (List.range k).foldl (fun a i => max a (C.getD i 0)) 0
def sharK (C : List Int) (k : Nat) : Int := (List.range k).foldl (fun a i => a + max 0 (C.getD i 0 - 1)) 0
def fstK (R : List Int) (k : Nat) : Int := (List.range k).foldl (fun f i => if f = 0 then R.getD i 0 else f) 0
theorem mostK_snoc (C : List Int) (k : Nat) : mostK C (k + 1) = max (mostK C k) (C.getD k 0) := by simp [mostK, List.range_succ]
theorem sharK_snoc (C : List Int) (k : Nat) : sharK C (k + 1) = sharK C k + max 0 (C.getD k 0 - 1) := by simp [sharK, List.range_succ]
theorem fstK_snoc (R : List Int) (k : Nat) : fstK R (k + 1) = if fstK R k = 0 then R.getD k 0 else fstK R k := by simp [fstK, List.range_succ]

def signs3 : Nat → List (List Int)
  | 0 => [[]]
  | k + 1 => (signs3 k).flatMap fun l => [(-1) :: l, 0 :: l, 1 :: l]
/-- Is it a sum of triangles with signs? -/
def isC (N : Nat) (ts : List Tri) (R : List Int) : Bool := (signs3 ts.length).any fun cs => R == combo N ts cs
/-- Is what is found for a set right? -/
def chkR (N : Nat) (C R : List Int) : Bool := (List.range N).all fun q => if C.getD q 0 = 1 then R.getD q 0 == 1 || R.getD q 0 == -1 else R.getD q 0 == 0
def chkG (K : Nat) (ts : List Tri) (m : Nat) : Bool :=
  if (bitsK m K).isEmpty then true
  else if 2 < mostK (cntG ts m (1 + 2 * K) K) (1 + 2 * K) ∨ sharK (cntG ts m (1 + 2 * K) K) (1 + 2 * K) ≠ (bitsK m K).length - 1 then (grpR ts (bitsK m K) (1 + 2 * K)).2 == false
  else (grpR ts (bitsK m K) (1 + 2 * K)).2 && decide (nzIdx (grpS ts (bitsK m K) (1 + 2 * K)).out < 1 + 2 * K) && (grpR ts (bitsK m K) (1 + 2 * K)).1.length == 1 + 2 * K &&
    chkR (1 + 2 * K) (cntG ts m (1 + 2 * K) K) (grpR ts (bitsK m K) (1 + 2 * K)).1 && fstK (grpR ts (bitsK m K) (1 + 2 * K)).1 (1 + 2 * K) == 1 && isC (1 + 2 * K) ts (grpR ts (bitsK m K) (1 + 2 * K)).1
def topo (a b u v w : Nat) : List (Int × Int) := [(0, u), (a, v), (b, w)]
def everyT (P : Nat → List Tri → Bool) : Bool :=
  (List.range 4).all fun K => (List.range 3).all fun a => (List.range 5).all fun b => (List.range 2).all fun u => (List.range 2).all fun v => (List.range 2).all fun w => P K (skyTs (topo a b u v w) K)
theorem skyT_norm (k : Nat) (l : Int × Int) : skyT k l = skyT k (l.1 % (1 + 2 * (k : Int)), l.2 % 2) := by
  unfold skyT
  dsimp only
  rw [Int.emod_emod_of_dvd _ (Int.dvd_refl _), Int.emod_emod_of_dvd _ (Int.dvd_refl _)]
theorem sky_every {P : Nat → List Tri → Bool} (h : everyT P = true) (s : TSky) : P (skyK s) (skyNet s).ts = true := by
  have hk : skyK s < 4 := by unfold skyK; omega
  have e : (skyNet s).ts = skyTs (topo ((s.lk.getD 1 (0, 0)).1 % 3).toNat ((s.lk.getD 2 (0, 0)).1 % 5).toNat ((s.lk.getD 0 (0, 0)).2 % 2).toNat ((s.lk.getD 1 (0, 0)).2 % 2).toNat ((s.lk.getD 2 (0, 0)).2 % 2).toNat) (skyK s) := by
    have g : ∀ k, k ≤ 3 → skyTs s.lk k = skyTs (topo ((s.lk.getD 1 (0, 0)).1 % 3).toNat ((s.lk.getD 2 (0, 0)).1 % 5).toNat ((s.lk.getD 0 (0, 0)).2 % 2).toNat ((s.lk.getD 1 (0, 0)).2 % 2).toNat ((s.lk.getD 2 (0, 0)).2 % 2).toNat) k := by
      intro k
      induction k with
      | zero => intro _; rfl
      | succ k ih =>
        intro hk
        unfold skyTs
        rw [ih (by omega)]
        congr 2
        rw [skyT_norm]
        have : k = 0 ∨ k = 1 ∨ k = 2 := by omega
        rcases this with rfl | rfl | rfl
        · simp only [topo, List.getD_cons_zero]
          rw [skyT_norm 0 (0, _)]
          have h1 := Int.emod_nonneg (s.lk.getD 0 (0, 0)).2 (b := 2) (by omega)
          have h2 := Int.emod_lt_of_pos (s.lk.getD 0 (0, 0)).2 (b := 2) (by omega)
          rw [Int.toNat_of_nonneg h1]
          congr 2
          · show _ % 1 = 0 % 1
            omega
          · show _ = _ % 2 % 2
            omega
        · simp only [topo, List.getD_cons_zero, List.getD_cons_succ]
          rw [Int.toNat_of_nonneg (by omega), Int.toNat_of_nonneg (by omega)]
          rfl
        · simp only [topo, List.getD_cons_zero, List.getD_cons_succ]
          rw [Int.toNat_of_nonneg (by omega), Int.toNat_of_nonneg (by omega)]
          rfl
    exact g _ (by omega)
  rw [e]
  unfold everyT at h
  simp only [List.all_eq_true, List.mem_range] at h
  exact h _ hk _ (by omega) _ (by omega) _ (by omega) _ (by omega) _ (by omega)

set_option maxRecDepth 100000 in
theorem groups_all : everyT (fun K ts => (List.range 8).all fun m => chkG K ts m) = true := by decide +kernel

theorem bitsK_mod {m : Nat} : ∀ {k : Nat}, k ≤ 3 → bitsK m k = bitsK (m % 8) k
  | 0, _ => rfl
  | k + 1, h => by
    have e : m.testBit k = (m % 8).testBit k := by rw [show 8 = 2 ^ 3 from rfl, Nat.testBit_mod_two_pow]; simp; intro _; omega
    cases hb : m.testBit k with
    | true => rw [bitsK_yes hb, bitsK_yes (by rw [← e]; exact hb), bitsK_mod (by omega)]
    | false => rw [bitsK_no hb, bitsK_no (by rw [← e]; exact hb), bitsK_mod (by omega)]
theorem cntG_mod (ts : List Tri) (N : Nat) {m : Nat} : ∀ {k : Nat}, k ≤ 3 → cntG ts m N k = cntG ts (m % 8) N k
  | 0, _ => rfl
  | k + 1, h => by
    have e : m.testBit k = (m % 8).testBit k := by rw [show 8 = 2 ^ 3 from rfl, Nat.testBit_mod_two_pow]; simp; intro _; omega
    unfold cntG
    rw [e, cntG_mod ts N (by omega)]
theorem sky_chkG (s : TSky) (m : Nat) : chkG (skyK s) (skyNet s).ts m = true := by
  have h := sky_every groups_all s
  rw [List.all_eq_true] at h
  have h2 := h (m % 8) (List.mem_range.2 (by omega))
  have hk : skyK s ≤ 3 := by unfold skyK; omega
  unfold chkG at h2 ⊢
  rwa [bitsK_mod hk, cntG_mod _ _ hk]

/-- What is known of a set of triangles of a sky that is a group. -/
structure GrpOk (N : Nat) (ts : List Tri) (C R : List Int) : Prop where
  len : R.length = N
  one : ∀ q, q < N → (C.getD q 0 = 1 ∧ (R.getD q 0 = 1 ∨ R.getD q 0 = -1)) ∨ (C.getD q 0 ≠ 1 ∧ R.getD q 0 = 0)
  fst : fstK R N = 1
  sum : ∃ cs, R = combo N ts cs
theorem sky_grp (s : TSky) {m : Nat} (hne : (bitsK m (skyK s)).length ≠ 0) :
    ((2 < mostK (cntG (skyNet s).ts m (1 + 2 * skyK s) (skyK s)) (1 + 2 * skyK s) ∨ sharK (cntG (skyNet s).ts m (1 + 2 * skyK s) (skyK s)) (1 + 2 * skyK s) ≠ (bitsK m (skyK s)).length - 1) ∧ (grpR (skyNet s).ts (bitsK m (skyK s)) (1 + 2 * skyK s)).2 = false) ∨
    (mostK (cntG (skyNet s).ts m (1 + 2 * skyK s) (skyK s)) (1 + 2 * skyK s) ≤ 2 ∧ sharK (cntG (skyNet s).ts m (1 + 2 * skyK s) (skyK s)) (1 + 2 * skyK s) = (bitsK m (skyK s)).length - 1 ∧
      (grpR (skyNet s).ts (bitsK m (skyK s)) (1 + 2 * skyK s)).2 = true ∧ nzIdx (grpS (skyNet s).ts (bitsK m (skyK s)) (1 + 2 * skyK s)).out < 1 + 2 * skyK s ∧
      GrpOk (1 + 2 * skyK s) (skyNet s).ts (cntG (skyNet s).ts m (1 + 2 * skyK s) (skyK s)) (grpR (skyNet s).ts (bitsK m (skyK s)) (1 + 2 * skyK s)).1) := by
  have h := sky_chkG s m
  generalize skyK s = K at *
  generalize (skyNet s).ts = ts at *
  unfold chkG at h
  rw [if_neg (by rw [List.isEmpty_iff]; intro e; rw [e] at hne; exact hne rfl)] at h
  split at h
  · rename_i h1
    exact .inl ⟨h1, by simpa using h⟩
  · rename_i h1
    simp only [Bool.and_eq_true, decide_eq_true_eq, beq_iff_eq] at h
    obtain ⟨⟨⟨⟨⟨h2, h3⟩, h4⟩, h5⟩, h6⟩, h7⟩ := h
    refine .inr ⟨by omega, by omega, h2, h3, h4, fun q hq => ?_, h6, ?_⟩
    · unfold chkR at h5
      rw [List.all_eq_true] at h5
      have := h5 q (List.mem_range.2 hq)
      split at this
      · rename_i hc
        exact .inl ⟨hc, by simpa using this⟩
      · rename_i hc
        exact .inr ⟨hc, by simpa using this⟩
    · unfold isC at h7
      rw [List.any_eq_true] at h7
      obtain ⟨cs, _, hcs⟩ := h7
      exact ⟨cs, by simpa using hcs⟩
theorem sky_nz (s : TSky) {sp : List Sp} (hl : sp.length = 1 + 2 * skyK s) : NzAll ⟨sp, (skyNet s).ts⟩ := fun m h1 h2 hg => by
  have ht : (skyNet s).ts.length = skyK s := skyTs_len _ _
  dsimp only at h2 hg ⊢
  rw [ht] at h2 hg ⊢
  rw [hl] at hg ⊢
  have hk : skyK s ≤ 3 := by unfold skyK; omega
  have hp : (2 : Nat) ^ skyK s ≤ 8 := by
    have : skyK s = 0 ∨ skyK s = 1 ∨ skyK s = 2 ∨ skyK s = 3 := by omega
    rcases this with e | e | e | e <;> rw [e] <;> omega
  have h0 : 0 < (2 : Nat) ^ skyK s := Nat.pos_of_ne_zero (by simp)
  rcases sky_grp s (bitsK_ne ⟨skyK s, by omega⟩ ⟨m, by omega⟩ h1 (by show m < 2 ^ skyK s; omega)) with ⟨_, h⟩ | ⟨_, _, _, h, _⟩
  · rw [h] at hg; cases hg
  · exact h

end Go.Proofs.Ytlbhnicengolfaa
