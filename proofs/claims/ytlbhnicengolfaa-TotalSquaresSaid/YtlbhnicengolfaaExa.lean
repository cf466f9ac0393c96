/-
  Nets without a ring: what triangles connect; narrowing as a function on spans. Narrowing is exact where no triangle closes a ring: each square that is left is part of a truth. Truth's answer is a truth, with the end that was asked for.
-/
import Derived.Test.YtlbhnicengolfaaNarM
import Derived.Test.YtlbhnicengolfaaTruth
/-! ## Frst: Nets without a ring: what triangles connect; narrowing as a function on spans. -/
namespace Go.Proofs.Ytlbhnicengolfaa
open Go.RowKit
set_option linter.unusedVariables false
set_option linter.unusedSimpArgs false

/-- No triangle closes a ring. -/
inductive Frst : List Tri → Prop
  | nil : Frst []
  | snoc {pre : List Tri} {t : Tri} : Frst pre → ¬ Conn pre t.1 t.2.1 → ¬ Conn pre t.1 t.2.2 → ¬ Conn pre t.2.1 t.2.2 → Frst (pre ++ [t])

theorem chk1_conn {N : Nat} {pre : List Tri} {t : Tri} (hN : N ≤ 11) (hU : ∀ t ∈ pre, ∀ o ∈ cor t, 0 ≤ o ∧ o < (N : Int)) (h : chk1 N pre t = 0) :
    ¬ Conn pre t.1 t.2.1 ∧ ¬ Conn pre t.1 t.2.2 ∧ ¬ Conn pre t.2.1 t.2.2 := by
  have hin := chk1_in h
  have hi : ∀ o ∈ cor t, o ∈ idx N := fun o ho => mem_idx.2 (hin o ho)
  have key : ∀ q ∈ cor t, ∀ p, p ∈ vis 11 pre q [] ↔ Conn pre q p := fun q hq p => vis_iff (U := idx N) (fun t ht o ho => mem_idx.2 (hU t ht o ho)) (by rw [idx_length]; exact hN) (hi q hq) p
  unfold chk1 at h
  split at h
  · cases h
  · split at h
    · cases h
    · split at h
      · cases h
      · rename_i h3
        simp only [conB, Bool.or_eq_true, decide_eq_true_eq, not_or] at h3
        rw [key _ (by simp [cor]), key _ (by simp [cor]), key _ (by simp [cor])] at h3
        exact ⟨h3.1.1, h3.1.2, h3.2⟩
theorem nok_take {n : TNet} (h : NOk n) : ∀ k, k ≤ n.ts.length → Frst (n.ts.take k)
  | 0, _ => .nil
  | k + 1, hk => by
    have hk' : k < n.ts.length := hk
    obtain ⟨h1, h2, h3⟩ := chk1_conn h.l2 (take_in (N := n.sp.length) (k := k) (Nat.le_of_lt hk') (fun j hj => h.tr j (by omega))) (h.tr k hk')
    rw [tri_take hk']
    exact .snoc (nok_take h k (Nat.le_of_lt hk')) h1 h2 h3
theorem nok_frst {n : TNet} (h : NOk n) : Frst n.ts := by have := nok_take h n.ts.length (Nat.le_refl _); rwa [List.take_length] at this

theorem conn_snoc {pre : List Tri} {t : Tri} {q p : Int} (h : Conn (pre ++ [t]) q p) : Conn pre q p ∨ ∃ c ∈ cor t, ∃ c' ∈ cor t, Conn pre q c ∧ Conn pre c' p := by
  induction h with
  | refl => exact .inl .refl
  | @step b c t' _ ht h1 h2 ih =>
    rw [List.mem_append, List.mem_singleton] at ht
    rcases ht with ht | rfl
    · rcases ih with ih | ⟨x, hx, y, hy, k1, k2⟩
      · exact .inl (.step t' ih ht h1 h2)
      · exact .inr ⟨x, hx, y, hy, k1, .step t' k2 ht h1 h2⟩
    · rcases ih with ih | ⟨x, hx, y, hy, k1, k2⟩
      · exact .inr ⟨b, h1, c, h2, ih, .refl⟩
      · exact .inr ⟨x, hx, c, h2, k1, .refl⟩
theorem conn_pre {pre : List Tri} {t : Tri} {q p : Int} (h : Conn pre q p) : Conn (pre ++ [t]) q p := h.mono fun _ h => List.mem_append_left _ h
theorem conn_cor {ts : List Tri} {t : Tri} (ht : t ∈ ts) {c c' : Int} (h : c ∈ cor t) (h' : c' ∈ cor t) : Conn ts c c' := .step t .refl ht h h'

/-! ### spans as a function -/
def InS (s : Sp) (y : Int) : Prop := s.1 ≤ y ∧ y ≤ s.2
/-- The triangle holds. -/
def Hl (x : Int → Int) (t : Tri) : Prop := x t.1 + x t.2.1 = x t.2.2
def narF (S : Int → Sp) (t : Tri) : Int → Sp := fun q =>
  if q = t.2.1 then bothS (S q) (minusS (S t.2.2) (S t.1)) else if q = t.1 then bothS (S q) (minusS (S t.2.2) (S t.2.1)) else if q = t.2.2 then bothS (S q) (plusS (S t.1) (S t.2.1)) else S q
def nR (ts : List Tri) (S : Int → Sp) : Int → Sp := ts.foldl narF S
def nrN (ts : List Tri) : Nat → (Int → Sp) → Int → Sp
  | 0, S => S
  | k + 1, S => nR ts (nrN ts k S)
theorem nrN_add (ts : List Tri) (S : Int → Sp) (j : Nat) : ∀ i, nrN ts (i + j) S = nrN ts i (nrN ts j S)
  | 0 => by rw [Nat.zero_add]; rfl
  | i + 1 => by rw [show i + 1 + j = (i + j) + 1 by omega]; show nR ts (nrN ts (i + j) S) = nR ts (nrN ts i (nrN ts j S)); rw [nrN_add ts S j i]

def LeS (S S' : Int → Sp) : Prop := ∀ q, (S' q).1 ≤ (S q).1 ∧ (S q).2 ≤ (S' q).2
theorem LeS.refl (S : Int → Sp) : LeS S S := fun _ => ⟨Int.le_refl _, Int.le_refl _⟩
theorem LeS.trans {A B C : Int → Sp} (h : LeS A B) (k : LeS B C) : LeS A C := fun q => ⟨Int.le_trans (k q).1 (h q).1, Int.le_trans (h q).2 (k q).2⟩
theorem LeS.ins {A B : Int → Sp} (h : LeS A B) {q y : Int} (k : InS (A q) y) : InS (B q) y := ⟨Int.le_trans (h q).1 k.1, Int.le_trans k.2 (h q).2⟩
theorem both_mono {a b c d : Sp} (h : b.1 ≤ a.1 ∧ a.2 ≤ b.2) (k : d.1 ≤ c.1 ∧ c.2 ≤ d.2) : (bothS b d).1 ≤ (bothS a c).1 ∧ (bothS a c).2 ≤ (bothS b d).2 := by
  unfold bothS; dsimp only; omega
theorem plus_mono {a b c d : Sp} (h : b.1 ≤ a.1 ∧ a.2 ≤ b.2) (k : d.1 ≤ c.1 ∧ c.2 ≤ d.2) : (plusS b d).1 ≤ (plusS a c).1 ∧ (plusS a c).2 ≤ (plusS b d).2 := by
  unfold plusS; dsimp only; omega
theorem minus_mono {a b c d : Sp} (h : b.1 ≤ a.1 ∧ a.2 ≤ b.2) (k : d.1 ≤ c.1 ∧ c.2 ≤ d.2) : (minusS b d).1 ≤ (minusS a c).1 ∧ (minusS a c).2 ≤ (minusS b d).2 := by
  unfold minusS; dsimp only; omega
theorem narF_mono {S S' : Int → Sp} (h : LeS S S') (t : Tri) : LeS (narF S t) (narF S' t) := fun q => by
  unfold narF
  split
  · exact both_mono (h _) (minus_mono (h _) (h _))
  · split
    · exact both_mono (h _) (minus_mono (h _) (h _))
    · split
      · exact both_mono (h _) (plus_mono (h _) (h _))
      · exact h q
theorem both_le (a b : Sp) : a.1 ≤ (bothS a b).1 ∧ (bothS a b).2 ≤ a.2 := by unfold bothS; dsimp only; omega
theorem narF_le (S : Int → Sp) (t : Tri) : LeS (narF S t) S := fun q => by
  unfold narF
  split
  · exact both_le _ _
  · split
    · exact both_le _ _
    · split
      · exact both_le _ _
      · exact ⟨Int.le_refl _, Int.le_refl _⟩
theorem nR_mono : ∀ (ts : List Tri) {S S' : Int → Sp}, LeS S S' → LeS (nR ts S) (nR ts S')
  | [], _, _, h => h
  | t :: ts, _, _, h => nR_mono ts (narF_mono h t)
theorem nR_le : ∀ (ts : List Tri) (S : Int → Sp), LeS (nR ts S) S
  | [], S => .refl S
  | t :: ts, S => (nR_le ts _).trans (narF_le S t)
theorem nrN_mono (ts : List Tri) {S S' : Int → Sp} (h : LeS S S') : ∀ k, LeS (nrN ts k S) (nrN ts k S')
  | 0 => h
  | k + 1 => nR_mono ts (nrN_mono ts h k)
theorem nrN_le (ts : List Tri) (S : Int → Sp) : ∀ k, LeS (nrN ts k S) S
  | 0 => .refl S
  | k + 1 => (nR_le ts _).trans (nrN_le ts S k)
theorem nR_snoc (pre : List Tri) (t : Tri) (S : Int → Sp) : nR (pre ++ [t]) S = narF (nR pre S) t := by unfold nR; rw [List.foldl_append]; rfl
theorem nR_pre (pre : List Tri) (t : Tri) (S : Int → Sp) : LeS (nR (pre ++ [t]) S) (nR pre S) := by rw [nR_snoc]; exact narF_le _ _
theorem nrN_pre (pre : List Tri) (t : Tri) (S : Int → Sp) : ∀ k, LeS (nrN (pre ++ [t]) k S) (nrN pre k S)
  | 0 => .refl S
  | k + 1 => (nR_pre pre t _).trans (nR_mono pre (nrN_pre pre t S k))

/-! ### what holds is not lost -/
theorem narF_ins {S : Int → Sp} {x : Int → Int} (h : ∀ q, InS (S q) (x q)) {t : Tri} (ht : Hl x t) (q : Int) : InS (narF S t q) (x q) := by
  have ha := h t.1
  have hb := h t.2.1
  have hw := h t.2.2
  have hq := h q
  unfold Hl at ht
  unfold narF
  unfold InS at *
  split
  · rename_i e; subst e; unfold bothS minusS; dsimp only; omega
  · split
    · rename_i e; subst e; unfold bothS minusS; dsimp only; omega
    · split
      · rename_i e; subst e; unfold bothS plusS; dsimp only; omega
      · exact hq
theorem nR_ins : ∀ (ts : List Tri) {S : Int → Sp} {x : Int → Int}, (∀ q, InS (S q) (x q)) → (∀ t ∈ ts, Hl x t) → ∀ q, InS (nR ts S q) (x q)
  | [], _, _, h, _ => h
  | t :: ts, _, _, h, ht => nR_ins ts (narF_ins h (ht t (by simp))) fun t' h' => ht t' (by simp [h'])
theorem nrN_ins (ts : List Tri) {S : Int → Sp} {x : Int → Int} (h : ∀ q, InS (S q) (x q)) (ht : ∀ t ∈ ts, Hl x t) : ∀ k q, InS (nrN ts k S q) (x q)
  | 0 => h
  | k + 1 => nR_ins ts (nrN_ins ts h ht k) ht

end Go.Proofs.Ytlbhnicengolfaa

/-! ## Exact: Narrowing is exact where no triangle closes a ring: each square that is left is part of a truth. -/
namespace Go.Proofs.Ytlbhnicengolfaa
open Go.RowKit Classical
set_option linter.unusedVariables false
set_option linter.unusedSimpArgs false

/-- How many triangles are connected with q. -/
noncomputable def cmp (ts : List Tri) (q : Int) : Nat := ts.countP fun t => decide (Conn ts q t.1)
theorem countP_two {α : Type} {p p1 p2 : α → Bool} : ∀ (L : List α), (∀ x ∈ L, p1 x = true → p x = true) → (∀ x ∈ L, p2 x = true → p x = true) → (∀ x ∈ L, p1 x = true → p2 x = true → False) → L.countP p1 + L.countP p2 ≤ L.countP p
  | [], _, _, _ => Nat.le_refl _
  | x :: L, h1, h2, h3 => by
    have ih := countP_two L (fun y hy => h1 y (by simp [hy])) (fun y hy => h2 y (by simp [hy])) (fun y hy => h3 y (by simp [hy]))
    have k1 := h1 x (by simp)
    have k2 := h2 x (by simp)
    have k3 := h3 x (by simp)
    rw [List.countP_cons, List.countP_cons, List.countP_cons]
    cases e1 : p1 x <;> cases e2 : p2 x <;> cases e : p x <;> simp_all <;> omega
theorem cmp_eq {ts : List Tri} {q c : Int} (h : Conn ts q c) : cmp ts q = cmp ts c := by
  unfold cmp
  congr 1
  funext t
  exact decide_eq_decide.2 ⟨fun k => h.symm.trans k, fun k => h.trans k⟩
theorem cmp_snoc (pre : List Tri) (t : Tri) (q : Int) : cmp (pre ++ [t]) q = pre.countP (fun t' => decide (Conn (pre ++ [t]) q t'.1)) + if Conn (pre ++ [t]) q t.1 then 1 else 0 := by
  unfold cmp
  rw [List.countP_append, List.countP_cons, List.countP_nil]
  simp
theorem cmp_pre (pre : List Tri) (t : Tri) (q : Int) : cmp pre q ≤ cmp (pre ++ [t]) q := by
  rw [cmp_snoc]
  refine Nat.le_trans (List.countP_mono_left fun t' _ h => ?_) (Nat.le_add_right _ _)
  rw [decide_eq_true_eq] at h ⊢
  exact conn_pre h
/-- Two corners' triangles, and the one that joins them. -/
theorem cmp_join {pre : List Tri} {t : Tri} {q c c' : Int} (hc : c ∈ cor t) (hc' : c' ∈ cor t) (hq : Conn pre q c) (hn : ¬ Conn pre c c') : cmp pre q + cmp pre c' + 1 ≤ cmp (pre ++ [t]) q := by
  have ht : t ∈ pre ++ [t] := by simp
  have h1 : Conn (pre ++ [t]) q t.1 := (conn_pre hq).trans (conn_cor ht hc (by simp [cor]))
  rw [cmp_snoc, if_pos h1]
  have := countP_two (p := fun t' => decide (Conn (pre ++ [t]) q t'.1)) (p1 := fun t' => decide (Conn pre q t'.1)) (p2 := fun t' => decide (Conn pre c' t'.1)) pre
    (fun x _ h => by rw [decide_eq_true_eq] at h ⊢; exact conn_pre h)
    (fun x _ h => by rw [decide_eq_true_eq] at h ⊢; exact ((conn_pre hq).trans (conn_cor ht hc hc')).trans (conn_pre h))
    (fun x _ h h' => by rw [decide_eq_true_eq] at h h'; exact hn ((hq.symm.trans h).trans h'.symm))
  unfold cmp
  omega
theorem cmp_le (ts : List Tri) (q : Int) : cmp ts q ≤ ts.length := List.countP_le_length

/-- A part of a truth: of what is connected with q. -/
def Loc (ts : List Tri) (S : Int → Sp) (q y : Int) : Prop := ∃ x : Int → Int, x q = y ∧ (∀ p, Conn ts q p → InS (S p) (x p)) ∧ ∀ t ∈ ts, Conn ts q t.1 → Hl x t
def NE (S : Int → Sp) : Prop := ∀ p, (S p).1 ≤ (S p).2
theorem NE.le {S S' : Int → Sp} (h : NE S) (k : LeS S S') : NE S' := fun p => Int.le_trans (k p).1 (Int.le_trans (h p) (k p).2)

noncomputable def mix (P : Int → Prop) (x y : Int → Int) : Int → Int := fun p => if P p then x p else y p
theorem mix_yes {P : Int → Prop} {x y : Int → Int} {p : Int} (h : P p) : mix P x y p = x p := if_pos h
theorem mix_no {P : Int → Prop} {x y : Int → Int} {p : Int} (h : ¬ P p) : mix P x y p = y p := if_neg h
/-- The triangle, seen from one corner. -/
def Seen (S1 S2 : Int → Sp) (t : Tri) (c1 c2 c3 : Int) : Prop :=
  ∀ v, InS (S2 c1) v → ∃ v2 v3, InS (S1 c2) v2 ∧ InS (S1 c3) v3 ∧ ∀ x : Int → Int, x c1 = v → x c2 = v2 → x c3 = v3 → Hl x t

theorem loc_step {pre : List Tri} {t : Tri} {S : Int → Sp} {q y : Int} {k : Nat} {c1 c2 c3 : Int}
    (ih : ∀ (S : Int → Sp) (q : Int) (k : Nat), cmp pre q ≤ k → NE (nrN pre k S) → ∀ y, InS (nrN pre k S q) y → Loc pre S q y)
    (hc : ∀ c, c ∈ cor t ↔ c = c1 ∨ c = c2 ∨ c = c3) (n12 : ¬ Conn pre c1 c2) (n13 : ¬ Conn pre c1 c3) (n23 : ¬ Conn pre c2 c3)
    (hseen : ∀ S', NE S' → Seen S' (narF S' t) t c1 c2 c3) (hq : Conn pre q c1)
    (hk : cmp (pre ++ [t]) q ≤ k) (hne : NE (nrN (pre ++ [t]) k S)) (hy : InS (nrN (pre ++ [t]) k S q) y) : Loc (pre ++ [t]) S q y := by
  have m1 : c1 ∈ cor t := (hc _).2 (.inl rfl)
  have m2 : c2 ∈ cor t := (hc _).2 (.inr (.inl rfl))
  have m3 : c3 ∈ cor t := (hc _).2 (.inr (.inr rfl))
  have j2 := cmp_join m1 m2 hq n12
  have j3 := cmp_join m1 m3 hq n13
  obtain ⟨m, i, hki, hm2, hm3, hi⟩ : ∃ m i, k = (i + 1) + m ∧ cmp pre c2 ≤ m ∧ cmp pre c3 ≤ m ∧ cmp pre q ≤ i := ⟨max (cmp pre c2) (cmp pre c3), k - 1 - max (cmp pre c2) (cmp pre c3), by omega, by omega, by omega, by omega⟩
  have e1 : nrN (pre ++ [t]) k S = nrN (pre ++ [t]) i (narF (nR pre (nrN (pre ++ [t]) m S)) t) := by
    rw [hki, nrN_add, nrN_add]
    show nrN (pre ++ [t]) i (nR (pre ++ [t]) (nrN (pre ++ [t]) m S)) = _
    rw [nR_snoc]
  have hlast := nrN_le (pre ++ [t]) (narF (nR pre (nrN (pre ++ [t]) m S)) t) i
  rw [e1] at hne hy
  have hne2 := hne.le hlast
  have hneR : NE (nR pre (nrN (pre ++ [t]) m S)) := hne2.le (narF_le _ _)
  have hneM : NE (nrN (pre ++ [t]) m S) := hneR.le (nR_le _ _)
  have hpre := nrN_pre pre t (narF (nR pre (nrN (pre ++ [t]) m S)) t) i
  obtain ⟨x, hx, hxs, hxt⟩ := ih _ q i hi (hne.le hpre) y (hpre.ins hy)
  obtain ⟨v2, v3, h2, h3, hH⟩ := hseen _ hneR _ (hxs c1 hq)
  have hpm := nrN_pre pre t S m
  obtain ⟨x2, e2, s2, t2⟩ := ih S c2 m hm2 (hneM.le hpm) v2 (hpm.ins ((nR_le _ _).ins h2))
  obtain ⟨x3, e3, s3, t3⟩ := ih S c3 m hm3 (hneM.le hpm) v3 (hpm.ins ((nR_le _ _).ins h3))
  have n21 : ¬ Conn pre c2 c1 := fun h => n12 h.symm
  have n31 : ¬ Conn pre c3 c1 := fun h => n13 h.symm
  have n32 : ¬ Conn pre c3 c2 := fun h => n23 h.symm
  have hS : LeS (narF (nR pre (nrN (pre ++ [t]) m S)) t) S := ((narF_le _ _).trans (nR_le _ _)).trans (nrN_le _ _ _)
  refine ⟨mix (Conn pre c2) x2 (mix (Conn pre c3) x3 x), ?_, fun p hp => ?_, fun t' ht' hp => ?_⟩
  · rw [mix_no (fun h => n21 (h.trans hq)), mix_no (fun h => n31 (h.trans hq))]; exact hx
  · by_cases h2 : Conn pre c2 p
    · rw [mix_yes h2]; exact s2 p h2
    · rw [mix_no h2]
      by_cases h3 : Conn pre c3 p
      · rw [mix_yes h3]; exact s3 p h3
      · rw [mix_no h3]
        refine hS.ins (hxs p ?_)
        rcases conn_snoc hp with h | ⟨c, hcc, c', hcc', k1, k2⟩
        · exact h
        · rcases (hc c').1 hcc' with rfl | rfl | rfl
          · exact hq.trans k2
          · exact absurd k2 h2
          · exact absurd k2 h3
  · rw [List.mem_append, List.mem_singleton] at ht'
    rcases ht' with ht' | rfl
    · have cc : ∀ c d, c ∈ cor t' → d ∈ cor t' → Conn pre c d := fun c d h h' => conn_cor ht' h h'
      have ma : t'.1 ∈ cor t' := by simp [cor]
      have mb : t'.2.1 ∈ cor t' := by simp [cor]
      have mw : t'.2.2 ∈ cor t' := by simp [cor]
      unfold Hl
      by_cases h2 : Conn pre c2 t'.1
      · rw [mix_yes h2, mix_yes (h2.trans (cc _ _ ma mb)), mix_yes (h2.trans (cc _ _ ma mw))]
        exact t2 t' ht' h2
      · have z1 : ¬ Conn pre c2 t'.2.1 := fun h => h2 (h.trans (cc _ _ mb ma))
        have z2 : ¬ Conn pre c2 t'.2.2 := fun h => h2 (h.trans (cc _ _ mw ma))
        rw [mix_no h2, mix_no z1, mix_no z2]
        by_cases h3 : Conn pre c3 t'.1
        · rw [mix_yes h3, mix_yes (h3.trans (cc _ _ ma mb)), mix_yes (h3.trans (cc _ _ ma mw))]
          exact t3 t' ht' h3
        · have z3 : ¬ Conn pre c3 t'.2.1 := fun h => h3 (h.trans (cc _ _ mb ma))
          have z4 : ¬ Conn pre c3 t'.2.2 := fun h => h3 (h.trans (cc _ _ mw ma))
          rw [mix_no h3, mix_no z3, mix_no z4]
          refine hxt t' ht' ?_
          rcases conn_snoc hp with h | ⟨c, hcc, c', hcc', k1, k2⟩
          · exact h
          · rcases (hc c').1 hcc' with rfl | rfl | rfl
            · exact hq.trans k2
            · exact absurd k2 h2
            · exact absurd k2 h3
    · refine hH _ ?_ ?_ ?_
      · rw [mix_no n21, mix_no n31]
      · rw [mix_yes .refl]; exact e2
      · rw [mix_no n23, mix_yes .refl]; exact e3

theorem seen_a {t : Tri} (h1 : t.1 ≠ t.2.1) (S : Int → Sp) (hS : NE S) : Seen S (narF S t) t t.1 t.2.1 t.2.2 := fun v hv => by
  unfold narF at hv
  rw [if_neg h1, if_pos rfl] at hv
  have hb := hS t.2.1
  have hw := hS t.2.2
  unfold InS bothS minusS at hv
  dsimp only at hv
  exact ⟨max (S t.2.1).1 ((S t.2.2).1 - v), v + max (S t.2.1).1 ((S t.2.2).1 - v), by unfold InS; omega, by unfold InS; omega, fun x e1 e2 e3 => by unfold Hl; omega⟩
theorem seen_b {t : Tri} (S : Int → Sp) (hS : NE S) : Seen S (narF S t) t t.2.1 t.1 t.2.2 := fun v hv => by
  unfold narF at hv
  rw [if_pos rfl] at hv
  have hb := hS t.1
  have hw := hS t.2.2
  unfold InS bothS minusS at hv
  dsimp only at hv
  exact ⟨max (S t.1).1 ((S t.2.2).1 - v), v + max (S t.1).1 ((S t.2.2).1 - v), by unfold InS; omega, by unfold InS; omega, fun x e1 e2 e3 => by unfold Hl; omega⟩
theorem seen_w {t : Tri} (h1 : t.2.2 ≠ t.1) (h2 : t.2.2 ≠ t.2.1) (S : Int → Sp) (hS : NE S) : Seen S (narF S t) t t.2.2 t.1 t.2.1 := fun v hv => by
  unfold narF at hv
  rw [if_neg h2, if_neg h1, if_pos rfl] at hv
  have ha := hS t.1
  have hb := hS t.2.1
  unfold InS bothS plusS at hv
  dsimp only at hv
  exact ⟨max (S t.1).1 (v - (S t.2.1).2), v - max (S t.1).1 (v - (S t.2.1).2), by unfold InS; omega, by unfold InS; omega, fun x e1 e2 e3 => by unfold Hl; omega⟩

theorem loc_all {ts : List Tri} (hf : Frst ts) : ∀ (S : Int → Sp) (q : Int) (k : Nat), cmp ts q ≤ k → NE (nrN ts k S) → ∀ y, InS (nrN ts k S q) y → Loc ts S q y := by
  induction hf with
  | nil =>
    intro S q k _ _ y hy
    have h0 : InS (S q) y := (nrN_le [] S k).ins hy
    refine ⟨fun _ => y, rfl, fun p hp => ?_, fun t ht => by cases ht⟩
    have e : p = q := by
      cases hp with
      | refl => rfl
      | step t _ ht _ _ => cases ht
    rw [e]; exact h0
  | @snoc pre t hpre n1 n2 n3 ih =>
    intro S q k hk hne y hy
    have d1 : t.1 ≠ t.2.1 := fun e => n1 (e ▸ .refl)
    have d2 : t.2.2 ≠ t.1 := fun e => n2 (by rw [e]; exact .refl)
    have d3 : t.2.2 ≠ t.2.1 := fun e => n3 (by rw [e]; exact .refl)
    have hmem : ∀ c, c ∈ cor t ↔ c = t.1 ∨ c = t.2.1 ∨ c = t.2.2 := fun c => by simp [cor]
    by_cases ha : Conn pre q t.1
    · exact loc_step ih hmem n1 n2 n3 (seen_a d1) ha hk hne hy
    by_cases hb : Conn pre q t.2.1
    · exact loc_step ih (fun c => (hmem c).trans (by constructor <;> (rintro (h | h | h) <;> simp [h]))) (fun h => n1 h.symm) n3 n2 seen_b hb hk hne hy
    by_cases hw : Conn pre q t.2.2
    · exact loc_step ih (fun c => (hmem c).trans (by constructor <;> (rintro (h | h | h) <;> simp [h]))) (fun h => n2 h.symm) (fun h => n3 h.symm) n1 (seen_w d2 d3) hw hk hne hy
    have hout : ∀ p, Conn (pre ++ [t]) q p → Conn pre q p := fun p h => by
      rcases conn_snoc h with h | ⟨c, hc, c', _, k1, _⟩
      · exact h
      · rcases (hmem c).1 hc with rfl | rfl | rfl
        · exact absurd k1 ha
        · exact absurd k1 hb
        · exact absurd k1 hw
    have hp := nrN_pre pre t S k
    obtain ⟨x, e, s, h⟩ := ih S q k (Nat.le_trans (cmp_pre pre t q) hk) (hne.le hp) y (hp.ins hy)
    refine ⟨x, e, fun p hp => s p (hout p hp), fun t' ht' hc => ?_⟩
    rw [List.mem_append, List.mem_singleton] at ht'
    rcases ht' with ht' | rfl
    · exact h t' ht' (hout _ hc)
    · exact absurd (hout _ hc) ha

/-- One quantity for each part. -/
noncomputable def rep (ts : List Tri) (p : Int) : Int := Classical.epsilon (Conn ts p)
theorem rep_conn (ts : List Tri) (p : Int) : Conn ts p (rep ts p) := Classical.epsilon_spec (p := Conn ts p) ⟨p, .refl⟩
theorem rep_eq {ts : List Tri} {p p' : Int} (h : Conn ts p p') : rep ts p = rep ts p' := by
  have e : Conn ts p = Conn ts p' := funext fun r => propext ⟨fun k => h.symm.trans k, fun k => h.trans k⟩
  unfold rep
  rw [e]
/-- EACH SQUARE THAT IS LEFT IS PART OF A TRUTH. -/
theorem exact_all {ts : List Tri} (hf : Frst ts) {S : Int → Sp} {k : Nat} (hk : ts.length ≤ k) (hne : NE (nrN ts k S)) (q y : Int) (hy : InS (nrN ts k S q) y) :
    ∃ x : Int → Int, x q = y ∧ (∀ p, InS (S p) (x p)) ∧ ∀ t ∈ ts, Hl x t := by
  obtain ⟨x0, e0, s0, t0⟩ := loc_all hf S q k (Nat.le_trans (cmp_le _ _) hk) hne y hy
  have hX : ∀ r, ∃ x : Int → Int, (∀ p, Conn ts r p → InS (S p) (x p)) ∧ ∀ t ∈ ts, Conn ts r t.1 → Hl x t := fun r => by
    obtain ⟨x, _, s, h⟩ := loc_all hf S r k (Nat.le_trans (cmp_le _ _) hk) hne _ ⟨Int.le_refl _, hne r⟩
    exact ⟨x, s, h⟩
  obtain ⟨X, hX'⟩ : ∃ X : Int → Int → Int, ∀ r, (∀ p, Conn ts r p → InS (S p) (X r p)) ∧ ∀ t ∈ ts, Conn ts r t.1 → Hl (X r) t := ⟨fun r => Classical.choose (hX r), fun r => Classical.choose_spec (hX r)⟩
  refine ⟨mix (Conn ts q) x0 (fun p => X (rep ts p) p), by rw [mix_yes .refl]; exact e0, fun p => ?_, fun t ht => ?_⟩
  · by_cases h : Conn ts q p
    · rw [mix_yes h]; exact s0 p h
    · rw [mix_no h]; exact (hX' _).1 p (rep_conn ts p).symm
  · have c1 : Conn ts t.1 t.2.1 := conn_cor ht (by simp [cor]) (by simp [cor])
    have c2 : Conn ts t.1 t.2.2 := conn_cor ht (by simp [cor]) (by simp [cor])
    unfold Hl
    by_cases h : Conn ts q t.1
    · rw [mix_yes h, mix_yes (h.trans c1), mix_yes (h.trans c2)]
      exact t0 t ht h
    · have z1 : ¬ Conn ts q t.2.1 := fun k => h (Conn.trans k c1.symm)
      have z2 : ¬ Conn ts q t.2.2 := fun k => h (Conn.trans k c2.symm)
      rw [mix_no h, mix_no z1, mix_no z2]
      rw [← rep_eq c1, ← rep_eq c2]
      exact (hX' _).2 t ht (rep_conn ts t.1).symm

/-! ### lists -/
theorem spA_set {ls : List Sp} {c q : Int} (hc : 0 ≤ c) (hl : c < ls.length) (hq : 0 ≤ q) (s : Sp) : spA (setA ls c s) q = if q = c then s else spA ls q := by
  unfold spA setA
  rw [List.getD_eq_getElem?_getD, List.getElem?_set]
  by_cases e : q = c
  · subst e
    rw [if_pos rfl, if_pos rfl, if_pos (by omega)]; rfl
  · rw [if_neg (by omega), if_neg e, List.getD_eq_getElem?_getD]
/-- Spans by quantities; beyond the list there is 0 alone. -/
def fnS (ls : List Sp) : Int → Sp := fun q => if 0 ≤ q then spA ls q else (0, 0)
theorem nar1_fn {ls : List Sp} {t : Tri} (hin : ∀ o ∈ cor t, 0 ≤ o ∧ o < (ls.length : Int)) (h1 : t.1 ≠ t.2.1) (h2 : t.2.2 ≠ t.1) (h3 : t.2.2 ≠ t.2.1) : fnS (nar1 ls t) = narF (fnS ls) t := by
  obtain ⟨a, b, w⟩ := t
  have ha := hin a (by simp [cor])
  have hb := hin b (by simp [cor])
  have hw := hin w (by simp [cor])
  dsimp only at h1 h2 h3
  funext q
  unfold fnS
  by_cases hq : 0 ≤ q
  · rw [if_pos hq]
    unfold nar1 narL narW narF
    dsimp only
    rw [spA_set hb.1 (by simp [setA]; omega) hq, spA_set ha.1 (by simp [setA]; omega) hq, spA_set hw.1 hw.2 hq,
      spA_set ha.1 (by simp [setA]; omega) hb.1, spA_set hw.1 hw.2 hb.1, spA_set hw.1 hw.2 ha.1]
    rw [if_neg (show ¬ b = a from fun e => h1 e.symm), if_neg (show ¬ b = w from fun e => h3 e.symm), if_neg (show ¬ a = w from fun e => h2 e.symm), if_pos hq, if_pos ha.1, if_pos hb.1, if_pos hw.1]
    by_cases e1 : q = b
    · subst e1; rw [if_pos rfl, if_pos rfl]
    · rw [if_neg e1, if_neg e1]
      by_cases e2 : q = a
      · subst e2; rw [if_pos rfl, if_pos rfl]
      · rw [if_neg e2, if_neg e2]
        by_cases e3 : q = w
        · subst e3; rw [if_pos rfl]
        · rw [if_neg e3, if_neg e3]
  · rw [if_neg hq]
    unfold narF
    dsimp only
    rw [if_neg (show ¬ q = b by omega), if_neg (show ¬ q = a by omega), if_neg (show ¬ q = w by omega), if_neg hq]
theorem frst_ne {ts : List Tri} (h : Frst ts) : ∀ t ∈ ts, t.1 ≠ t.2.1 ∧ t.2.2 ≠ t.1 ∧ t.2.2 ≠ t.2.1 := by
  induction h with
  | nil => intro t ht; cases ht
  | @snoc pre t _ n1 n2 n3 ih =>
    intro t' ht'
    rw [List.mem_append, List.mem_singleton] at ht'
    rcases ht' with ht' | rfl
    · exact ih t' ht'
    · exact ⟨fun e => n1 (e ▸ .refl), fun e => n2 (by rw [e]; exact .refl), fun e => n3 (by rw [e]; exact .refl)⟩
theorem narR_fn : ∀ (ts : List Tri) (ls : List Sp), (∀ t ∈ ts, ∀ o ∈ cor t, 0 ≤ o ∧ o < (ls.length : Int)) → (∀ t ∈ ts, t.1 ≠ t.2.1 ∧ t.2.2 ≠ t.1 ∧ t.2.2 ≠ t.2.1) → fnS (narR ts ls) = nR ts (fnS ls)
  | [], _, _, _ => rfl
  | t :: ts, ls, hin, hne => by
    obtain ⟨h1, h2, h3⟩ := hne t (by simp)
    show fnS (narR ts (nar1 ls t)) = nR ts (narF (fnS ls) t)
    rw [← nar1_fn (hin t (by simp)) h1 h2 h3]
    exact narR_fn ts _ (fun t' h' o ho => by rw [nar1_len]; exact hin t' (by simp [h']) o ho) fun t' h' => hne t' (by simp [h'])
theorem narN_fn {ts : List Tri} (hf : Frst ts) {ls : List Sp} (hin : ∀ t ∈ ts, ∀ o ∈ cor t, 0 ≤ o ∧ o < (ls.length : Int)) : ∀ k, fnS (narN ts k ls) = nrN ts k (fnS ls)
  | 0 => rfl
  | k + 1 => by
    show fnS (narR ts (narN ts k ls)) = nR ts (nrN ts k (fnS ls))
    rw [narR_fn ts _ (fun t h o ho => by rw [narN_len]; exact hin t h o ho) (frst_ne hf), narN_fn hf hin k]

/-- Squares that are a truth: for each quantity one of its span, and all triangles hold. -/
structure Tru (ts : List Tri) (ls : List Sp) (x : Int → Int) : Prop where
  sp : ∀ q, 0 ≤ q → q < (ls.length : Int) → InS (spA ls q) (x q)
  tr : ∀ t ∈ ts, Hl x t
theorem spA_out {ls : List Sp} {q : Int} (h : (ls.length : Int) ≤ q) : spA ls q = (0, 0) := by
  unfold spA
  rw [List.getD_eq_getElem?_getD, List.getElem?_eq_none (by omega)]; rfl
theorem ne_of_ok {ls : List Sp} (h : ls.any noneS = false) : NE (fnS ls) := fun p => by
  unfold fnS
  by_cases hp : 0 ≤ p
  · rw [if_pos hp]
    by_cases hl : p < (ls.length : Int)
    · have h' : ∀ s ∈ ls, noneS s = false := by simpa using h
      have hn : p.toNat < ls.length := by omega
      have := h' ls[p.toNat] (List.getElem_mem hn)
      unfold spA
      rw [List.getD_eq_getElem?_getD, List.getElem?_eq_getElem hn]
      simpa [noneS] using this
    · rw [spA_out (by omega)]; exact Int.le_refl _
  · rw [if_neg hp]; exact Int.le_refl _
/-- What narrowing leaves is in truths. -/
theorem nar_truth {ts : List Tri} (hf : Frst ts) {ls : List Sp} (hin : ∀ t ∈ ts, ∀ o ∈ cor t, 0 ≤ o ∧ o < (ls.length : Int)) (hok : narOk ts ls = true) {q y : Int} (h0 : 0 ≤ q) (hq : q < (ls.length : Int)) (hy : InS (spA (narT ts ls) q) y) :
    ∃ x, x q = y ∧ Tru ts ls x := by
  have hne : NE (nrN ts (ts.length + 1) (fnS ls)) := by
    rw [← narN_fn hf hin]
    exact ne_of_ok (by unfold narOk at hok; simpa [narT] using hok)
  obtain ⟨x, e, s, h⟩ := exact_all hf (Nat.le_succ _) hne q y (by rw [← narN_fn hf hin]; unfold fnS; rw [if_pos h0]; exact hy)
  refine ⟨x, e, fun p h0 hp => ?_, h⟩
  have := s p
  unfold fnS at this
  rwa [if_pos h0] at this
/-- A truth is not lost. -/
theorem truth_nar {ts : List Tri} (hf : Frst ts) {ls : List Sp} (hin : ∀ t ∈ ts, ∀ o ∈ cor t, 0 ≤ o ∧ o < (ls.length : Int)) {x : Int → Int} (hx : Tru ts ls x) : narOk ts ls = true ∧ ∀ q, 0 ≤ q → q < (ls.length : Int) → InS (spA (narT ts ls) q) (x q) := by
  have hs : ∀ q, InS (fnS ls q) ((fun q => if 0 ≤ q ∧ q < (ls.length : Int) then x q else 0) q) := fun q => by
    unfold fnS
    dsimp only
    by_cases h0 : 0 ≤ q
    · rw [if_pos h0]
      by_cases hq : q < (ls.length : Int)
      · rw [if_pos ⟨h0, hq⟩]; exact hx.sp q h0 hq
      · rw [if_neg (by omega), spA_out (by omega)]; exact ⟨Int.le_refl _, Int.le_refl _⟩
    · rw [if_neg h0, if_neg (by omega)]; exact ⟨Int.le_refl _, Int.le_refl _⟩
  have ht : ∀ t ∈ ts, Hl (fun q => if 0 ≤ q ∧ q < (ls.length : Int) then x q else 0) t := fun t ht => by
    have h1 := hin t ht t.1 (by simp [cor])
    have h2 := hin t ht t.2.1 (by simp [cor])
    have h3 := hin t ht t.2.2 (by simp [cor])
    unfold Hl
    dsimp only
    rw [if_pos h1, if_pos h2, if_pos h3]
    exact hx.tr t ht
  have hN := nrN_ins ts hs ht (ts.length + 1)
  rw [← narN_fn hf hin] at hN
  have key : ∀ q, 0 ≤ q → q < (ls.length : Int) → InS (spA (narT ts ls) q) (x q) := fun q h0 hq => by
    have := hN q
    unfold fnS at this
    rwa [if_pos h0, if_pos ⟨h0, hq⟩] at this
  refine ⟨?_, key⟩
  unfold narOk
  rw [Bool.not_eq_true', List.any_eq_false]
  intro s hs'
  obtain ⟨i, hi, rfl⟩ := List.mem_iff_getElem.1 hs'
  have hl : (narT ts ls).length = ls.length := narN_len _ _ _
  have := key (i : Int) (by omega) (by omega)
  unfold spA at this
  rw [List.getD_eq_getElem?_getD, Int.toNat_natCast, List.getElem?_eq_getElem hi] at this
  unfold InS at this
  simp only [Option.getD_some] at this
  simp [noneS]
  omega

end Go.Proofs.Ytlbhnicengolfaa

/-! ## TruP: Truth's answer is a truth, with the end that was asked for. -/
namespace Go.Proofs.Ytlbhnicengolfaa
open Go.RowKit
set_option linter.unusedVariables false
set_option linter.unusedSimpArgs false

theorem spA_nat (ls : List Sp) (i : Nat) : spA ls (i : Int) = ls.getD i (0, 0) := by unfold spA; rw [Int.toNat_natCast]
theorem spA_setN {ls : List Sp} {k : Nat} (hk : k < ls.length) (s : Sp) {q : Int} (h0 : 0 ≤ q) : spA (ls.set k s) q = if q = (k : Int) then s else spA ls q := by
  have := spA_set (ls := ls) (c := (k : Int)) (q := q) (by omega) (by omega) h0 s
  unfold setA at this
  rwa [Int.toNat_natCast] at this
/-- A quantity set to one square that a truth has there. -/
theorem tru_set {ts : List Tri} {ls : List Sp} {x : Int → Int} (h : Tru ts ls x) {k : Nat} (hk : k < ls.length) {v : Int} (hv : x k = v) : Tru ts (ls.set k (v, v)) x :=
  ⟨fun q h0 hq => by
    rw [List.length_set] at hq
    rw [spA_setN hk _ h0]
    split
    · rename_i e; subst e; rw [hv]; exact ⟨Int.le_refl _, Int.le_refl _⟩
    · exact h.sp q h0 hq, h.tr⟩
theorem tru_le {ts : List Tri} {ls ls' : List Sp} {x : Int → Int} (hl : ls.length = ls'.length) (h : Tru ts ls x) (hle : ∀ q, 0 ≤ q → q < (ls.length : Int) → (spA ls' q).1 ≤ (spA ls q).1 ∧ (spA ls q).2 ≤ (spA ls' q).2) : Tru ts ls' x :=
  ⟨fun q h0 hq => by
    have h1 := h.sp q h0 (by omega)
    have h2 := hle q h0 (by omega)
    exact ⟨Int.le_trans h2.1 h1.1, Int.le_trans h1.2 h2.2⟩, h.tr⟩
section
variable {ts : List Tri} {ls : List Sp}
theorem narT_le (hf : Frst ts) (hin : ∀ t ∈ ts, ∀ o ∈ cor t, 0 ≤ o ∧ o < (ls.length : Int)) (q : Int) (h0 : 0 ≤ q) : (spA ls q).1 ≤ (spA (narT ts ls) q).1 ∧ (spA (narT ts ls) q).2 ≤ (spA ls q).2 := by
  have := nrN_le ts (fnS ls) (ts.length + 1) q
  rw [← narN_fn hf hin] at this
  unfold fnS at this
  rwa [if_pos h0, if_pos h0] at this
/-- What narrowing leaves is not empty, and its ends are in truths of itself. -/
theorem nar_ends (hf : Frst ts) (hin : ∀ t ∈ ts, ∀ o ∈ cor t, 0 ≤ o ∧ o < (ls.length : Int)) {x : Int → Int} (hx : Tru ts ls x) {q y : Int} (h0 : 0 ≤ q) (hq : q < (ls.length : Int)) (hy : y = (spA (narT ts ls) q).1 ∨ y = (spA (narT ts ls) q).2) :
    ∃ x', x' q = y ∧ Tru ts (narT ts ls) x' := by
  obtain ⟨hok, hxs⟩ := truth_nar hf hin hx
  have := hxs q h0 hq
  obtain ⟨x', e, hx'⟩ := nar_truth hf hin hok (q := q) (y := y) h0 hq (by
    unfold InS at *
    rcases hy with rfl | rfl
    · exact ⟨Int.le_refl _, by omega⟩
    · exact ⟨by omega, Int.le_refl _⟩)
  exact ⟨x', e, fun p p0 hp => (truth_nar hf hin hx').2 p p0 (by have : (narT ts ls).length = ls.length := narN_len _ _ _; omega), hx'.tr⟩
end

/-- What holds while Truth fixes one quantity after the other. -/
structure TruAt (ts : List Tri) (L0 ls : List Sp) (k : Nat) : Prop where
  len : ls.length = L0.length
  tru : ∃ x, Tru ts ls x
  one : ∀ j, j < k → (ls.getD j (0, 0)).1 = (ls.getD j (0, 0)).2
  le : ∀ q, 0 ≤ q → (spA L0 q).1 ≤ (spA ls q).1 ∧ (spA ls q).2 ≤ (spA L0 q).2
theorem truAt_step {ts : List Tri} (hf : Frst ts) {L0 ls : List Sp} (hin : ∀ t ∈ ts, ∀ o ∈ cor t, 0 ≤ o ∧ o < (L0.length : Int)) {k : Nat} (hk : k < L0.length) (h : TruAt ts L0 ls k) : TruAt ts L0 (fixLo (narT ts ls) k) (k + 1) := by
  have hl := h.len
  have hin' : ∀ t ∈ ts, ∀ o ∈ cor t, 0 ≤ o ∧ o < (ls.length : Int) := fun t ht o ho => by rw [hl]; exact hin t ht o ho
  have hnl : (narT ts ls).length = ls.length := narN_len _ _ _
  obtain ⟨x, hx⟩ := h.tru
  obtain ⟨x', e, hx'⟩ := nar_ends hf hin' hx (q := (k : Int)) (y := (spA (narT ts ls) k).1) (by omega) (by omega) (.inl rfl)
  rw [spA_nat] at e
  have hne := (truth_nar hf hin' hx).2
  have hlo : ∀ q, 0 ≤ q → (spA (narT ts ls) q).1 ≤ (spA (fixLo (narT ts ls) k) q).1 ∧ (spA (fixLo (narT ts ls) k) q).2 ≤ (spA (narT ts ls) q).2 := fun q h0 => by
    unfold fixLo
    rw [spA_setN (by omega) _ h0]
    split
    · rename_i e; subst e
      rw [spA_nat]
      have := hne (k : Int) (by omega) (by omega)
      rw [spA_nat] at this
      exact ⟨Int.le_refl _, Int.le_trans this.1 this.2⟩
    · exact ⟨Int.le_refl _, Int.le_refl _⟩
  refine ⟨by rw [fixLo_len, hnl, hl], ⟨x', tru_set hx' (by omega) e⟩, fun j hj => ?_, fun q h0 => ?_⟩
  · by_cases hjk : j = k
    · subst hjk
      unfold fixLo
      rw [getD_set_eq (by omega)]
    · have h1 := h.one j (by omega)
      have h2 := narT_le hf hin' (j : Int) (by omega)
      have h3 := hne (j : Int) (by omega) (by omega)
      have e2 : (fixLo (narT ts ls) k).getD j (0, 0) = (narT ts ls).getD j (0, 0) := by
        unfold fixLo
        rw [List.getD_eq_getElem?_getD, List.getElem?_set, if_neg (by omega), ← List.getD_eq_getElem?_getD]
      rw [spA_nat, spA_nat] at h2
      rw [spA_nat] at h3
      unfold InS at h3
      rw [e2]
      omega
  · have h1 := h.le q h0
    have h2 := narT_le hf hin' q h0
    have h3 := hlo q h0
    exact ⟨by omega, by omega⟩
theorem truAt_all {ts : List Tri} (hf : Frst ts) {L0 : List Sp} (hin : ∀ t ∈ ts, ∀ o ∈ cor t, 0 ≤ o ∧ o < (L0.length : Int)) (h : ∃ x, Tru ts L0 x) : ∀ k, k ≤ L0.length → TruAt ts L0 (truN ts L0 k) k
  | 0, _ => ⟨rfl, h, fun j hj => by omega, fun q _ => ⟨Int.le_refl _, Int.le_refl _⟩⟩
  | k + 1, hk => truAt_step hf hin (by omega) (truAt_all hf hin h k (by omega))

theorem sqs_Bd2 {n : TNet} (hn : NOk n) (i : Nat) : ((sqs n.sp).getD i (0, 0)).2 ≤ 100000000 := by
  rcases Nat.lt_or_ge i n.sp.length with h | h
  · have := hn.sp i h
    have hs := sq_small (x := his n.sp i) (by omega) this.2.2
    unfold sqs
    rw [List.getD_eq_getElem?_getD, List.getElem?_map, List.getElem?_eq_getElem h, span_eq h]
    exact hs.2
  · rw [List.getD_eq_getElem?_getD, List.getElem?_eq_none (by rw [sqs_len]; exact h)]
    simp
/-- What is asked of Truth's answer. -/
structure TruOk (n : TNet) (q : Nat) (high : Bool) : Prop where
  res : ∃ x, Tru n.ts (sqs n.sp) x ∧ (∀ p, 0 ≤ p → p < (n.sp.length : Int) → InS (spA (narT n.ts (sqs n.sp)) p) (x p)) ∧ truR n q high = ((List.range n.sp.length).map (fun i : Nat => x i), 0) ∧
    x q = if high then ((narT n.ts (sqs n.sp)).getD q (0, 0)).2 else ((narT n.ts (sqs n.sp)).getD q (0, 0)).1
  hb : ∀ k, k < n.sp.length → LsB 100000000 (truN n.ts (tru1 n q high) k)
theorem truth_ok {n : TNet} (hn : NOk n) (hck : checkT n = 0) (hok : narOk n.ts (sqs n.sp) = true) {q : Nat} (hq : q < n.sp.length) (high : Bool) : TruOk n q high := by
  have hf := nok_frst hn
  have hin : ∀ t ∈ n.ts, ∀ o ∈ cor t, 0 ≤ o ∧ o < ((sqs n.sp).length : Int) := by rw [sqs_len]; exact nok_in hn
  have hl : (sqs n.sp).length = n.sp.length := sqs_len _
  have hnl : (narT n.ts (sqs n.sp)).length = n.sp.length := by rw [narT_len, hl]
  obtain ⟨y, hy⟩ : ∃ y, (if high then ((narT n.ts (sqs n.sp)).getD q (0, 0)).2 else ((narT n.ts (sqs n.sp)).getD q (0, 0)).1) = y := ⟨_, rfl⟩
  have hne := ne_of_ok (ls := narT n.ts (sqs n.sp)) (by unfold narOk at hok; simpa using hok)
  have hneq : ((narT n.ts (sqs n.sp)).getD q (0, 0)).1 ≤ ((narT n.ts (sqs n.sp)).getD q (0, 0)).2 := by
    have := hne (q : Int)
    unfold fnS at this
    rwa [if_pos (by omega), spA_nat] at this
  obtain ⟨x0, e0, hx0⟩ := nar_truth hf hin hok (q := (q : Int)) (y := y) (by omega) (by omega) (by
    rw [spA_nat]
    unfold InS
    rw [← hy]
    split <;> omega)
  have hx1 : Tru n.ts (narT n.ts (sqs n.sp)) x0 := ⟨fun p p0 hp => (truth_nar hf hin hx0).2 p p0 (by omega), hx0.tr⟩
  have htru1 : tru1 n q high = (narT n.ts (sqs n.sp)).set q (y, y) := by
    unfold tru1 fixHi fixLo
    cases high <;> simp only [Bool.false_eq_true, if_true, if_false] at hy ⊢ <;> rw [hy]
  have hL1 : (tru1 n q high).length = n.sp.length := tru1_len n q high
  have hx2 : Tru n.ts (tru1 n q high) x0 := by rw [htru1]; exact tru_set hx1 (by omega) e0
  have hall := truAt_all hf (L0 := tru1 n q high) (by rw [hL1]; exact nok_in hn) ⟨x0, hx2⟩
  have hle1 : ∀ p, 0 ≤ p → (spA (narT n.ts (sqs n.sp)) p).1 ≤ (spA (tru1 n q high) p).1 ∧ (spA (tru1 n q high) p).2 ≤ (spA (narT n.ts (sqs n.sp)) p).2 := fun p p0 => by
    rw [htru1, spA_setN (by omega) _ p0]
    split
    · rename_i e; subst e
      rw [spA_nat, ← hy]
      split <;> (dsimp only; omega)
    · exact ⟨Int.le_refl _, Int.le_refl _⟩
  refine ⟨?_, fun k hk s hs => ?_⟩
  · obtain ⟨hlen, ⟨x, hx⟩, hone, hle⟩ := hall n.sp.length (by omega)
    have hval : ∀ i : Nat, i < n.sp.length → ((truN n.ts (tru1 n q high) n.sp.length).getD i (0, 0)).1 = x i := fun i hi => by
      have h1 := hx.sp (i : Int) (by omega) (by omega)
      have h2 := hone i hi
      rw [spA_nat] at h1
      unfold InS at h1
      omega
    have hin2 : ∀ p, 0 ≤ p → p < (n.sp.length : Int) → InS (spA (narT n.ts (sqs n.sp)) p) (x p) := fun p p0 hp => by
      have h1 := hx.sp p p0 (by omega)
      have h2 := hle p p0
      have h3 := hle1 p p0
      unfold InS at *
      omega
    refine ⟨x, ⟨fun p p0 hp => ?_, hx.tr⟩, hin2, ?_, ?_⟩
    · have h1 := hin2 p p0 (by omega)
      have h2 := narT_le hf hin p p0
      unfold InS at *
      omega
    · have hsq : (sqR n).2 = 0 := by unfold sqR; rw [if_neg (by rw [hck]; simp), hok]; rfl
      unfold truR
      rw [if_neg (by rw [hsq]; simp), if_neg (by omega), Int.toNat_natCast]
      congr 1
      refine List.ext_getElem (by simp [truN_len, hL1]) fun i h1 h2 => ?_
      simp only [List.length_map, truN_len, hL1] at h1
      have := hval i h1
      rw [List.getD_eq_getElem?_getD, List.getElem?_eq_getElem (by rw [truN_len, hL1]; exact h1)] at this
      simpa using this
    · have h1 := hle (q : Int) (by omega)
      have h2 := hx.sp (q : Int) (by omega) (by omega)
      have e : spA (tru1 n q high) (q : Int) = (y, y) := by rw [htru1, spA_setN (by omega) _ (by omega), if_pos rfl]
      rw [e] at h1
      unfold InS at h2
      dsimp only at h1
      rw [hy]
      omega
  · obtain ⟨hlen, ⟨x, hx⟩, hone, hle⟩ := hall k (by omega)
    obtain ⟨i, hi, rfl⟩ := List.mem_iff_getElem.1 hs
    have hi' : i < n.sp.length := by rw [truN_len, hL1] at hi; exact hi
    have h1 := hx.sp (i : Int) (by omega) (by omega)
    have h2 := hle (i : Int) (by omega)
    have h3 := hle1 (i : Int) (by omega)
    have h4 := narT_le hf hin (i : Int) (by omega)
    have h5 := sqs_B hn ((sqs n.sp).getD i (0, 0)) (by rw [List.getD_eq_getElem?_getD, List.getElem?_eq_getElem (by omega)]; exact List.getElem_mem _)
    have h6 : ((sqs n.sp).getD i (0, 0)).2 ≤ 100000000 := (sqs_Bd2 hn i)
    rw [spA_nat] at h1 h2 h3 h4
    rw [spA_nat] at h2 h3 h4
    have e : (truN n.ts (tru1 n q high) k).getD i (0, 0) = (truN n.ts (tru1 n q high) k)[i] := by rw [List.getD_eq_getElem?_getD, List.getElem?_eq_getElem hi]; rfl
    rw [e] at h1 h2
    unfold InS SpB at *
    omega

end Go.Proofs.Ytlbhnicengolfaa
