/-
  Nets: the plain model of Check; what is visited is what is connected.
-/
import Derived.Test.YtlbhnicengolfaaData
namespace Go.Proofs.Ytlbhnicengolfaa
open Go.RowKit
set_option linter.unusedVariables false
set_option linter.unusedSimpArgs false

abbrev Tri := Int × Int × Int
structure TNet where
  sp : List (Int × Int)
  ts : List Tri
def cor (t : Tri) : List Int := [t.1, t.2.1, t.2.2]

/-- What visit leaves in the map: f is the depth that is left. -/
def vis : Nat → List Tri → Int → List Int → List Int
  | 0, _, _, met => met
  | f + 1, ts, q, met => if q ∈ met then met else ts.foldl (fun m t => if q ∈ cor t then (cor t).foldl (fun m o => vis f ts o m) m else m) (q :: met)

/-- How many of U are not met. -/
def cnt : List Int → List Int → Nat
  | [], _ => 0
  | u :: U, met => (if u ∈ met then 0 else 1) + cnt U met
theorem cnt_le : ∀ (U met : List Int), cnt U met ≤ U.length
  | [], _ => Nat.le_refl _
  | u :: U, met => by
    have := cnt_le U met
    unfold cnt
    rw [List.length_cons]
    split <;> omega
theorem cnt_mono {a b : List Int} (h : ∀ x ∈ a, x ∈ b) : ∀ U, cnt U b ≤ cnt U a
  | [] => Nat.le_refl _
  | u :: U => by
    have := cnt_mono h U
    unfold cnt
    by_cases ha : u ∈ a
    · rw [if_pos ha, if_pos (h u ha)]; omega
    · rw [if_neg ha]
      split <;> omega
theorem cnt_cons {met : List Int} {q : Int} (hm : q ∉ met) : ∀ {U}, q ∈ U → cnt U (q :: met) + 1 ≤ cnt U met
  | u :: U, hq => by
    have hle : cnt U (q :: met) ≤ cnt U met := cnt_mono (fun x h => List.mem_cons_of_mem _ h) U
    unfold cnt
    by_cases hu : u = q
    · subst hu
      rw [if_pos (by simp), if_neg hm]
      omega
    · have hqU : q ∈ U := by
        rcases List.mem_cons.1 hq with h | h
        · exact absurd h.symm hu
        · exact h
      have := cnt_cons hm hqU
      by_cases ha : u ∈ met
      · rw [if_pos (by simp [ha]), if_pos ha]; omega
      · rw [if_neg (by simp [ha, hu]), if_neg ha]; omega

inductive Conn (ts : List Tri) (a : Int) : Int → Prop
  | refl : Conn ts a a
  | step {b c : Int} (t : Tri) : Conn ts a b → t ∈ ts → b ∈ cor t → c ∈ cor t → Conn ts a c
theorem Conn.trans {ts : List Tri} {a b c : Int} (h : Conn ts a b) (k : Conn ts b c) : Conn ts a c := by
  induction k with
  | refl => exact h
  | step t _ ht h1 h2 ih => exact .step t ih ht h1 h2
theorem Conn.symm {ts : List Tri} {a b : Int} (h : Conn ts a b) : Conn ts b a := by
  induction h with
  | refl => exact .refl
  | step t _ ht h1 h2 ih => exact (Conn.step t .refl ht h2 h1).trans ih
theorem Conn.mono {ts ts' : List Tri} (hs : ∀ t ∈ ts, t ∈ ts') {a b : Int} (h : Conn ts a b) : Conn ts' a b := by
  induction h with
  | refl => exact .refl
  | step t _ ht h1 h2 ih => exact .step t ih (hs t ht) h1 h2

section
variable {ts : List Tri} {U : List Int}
/-- What holds of what is left behind, from m on. -/
structure Grown (ts : List Tri) (m R : List Int) : Prop where
  sub : ∀ x ∈ m, x ∈ R
  nbr : ∀ x ∈ R, x ∉ m → ∀ t ∈ ts, x ∈ cor t → ∀ y ∈ cor t, y ∈ R
theorem Grown.refl (m : List Int) : Grown ts m m := ⟨fun _ h => h, fun x h h' => absurd h h'⟩
theorem Grown.trans {a b c : List Int} (h : Grown ts a b) (k : Grown ts b c) : Grown ts a c :=
  ⟨fun x hx => k.sub x (h.sub x hx), fun x hx hn t ht h1 y hy => by
    by_cases hb : x ∈ b
    · exact k.sub y (h.nbr x hb hn t ht h1 y hy)
    · exact k.nbr x hx hb t ht h1 y hy⟩

def VisOk (ts : List Tri) (U : List Int) (f : Nat) : Prop := ∀ q met, q ∈ U → cnt U met ≤ f → Grown ts met (vis f ts q met) ∧ q ∈ vis f ts q met
theorem fold_vis {f : Nat} (h : VisOk ts U f) : ∀ (L m : List Int), (∀ o ∈ L, o ∈ U) → cnt U m ≤ f → Grown ts m (L.foldl (fun m o => vis f ts o m) m) ∧ ∀ o ∈ L, o ∈ L.foldl (fun m o => vis f ts o m) m
  | [], m, _, _ => ⟨.refl m, fun _ h => by cases h⟩
  | o :: L, m, hL, hc => by
    obtain ⟨g1, g2⟩ := h o m (hL o (by simp)) hc
    obtain ⟨k1, k2⟩ := fold_vis h L (vis f ts o m) (fun x hx => hL x (by simp [hx])) (Nat.le_trans (cnt_mono g1.sub _) hc)
    refine ⟨g1.trans k1, fun x hx => ?_⟩
    rcases List.mem_cons.1 hx with rfl | hx
    · exact k1.sub _ g2
    · exact k2 x hx
theorem fold_tris {f : Nat} (h : VisOk ts U f) (q : Int) : ∀ (L : List Tri) (m : List Int), (∀ t ∈ L, ∀ o ∈ cor t, o ∈ U) → cnt U m ≤ f →
    Grown ts m (L.foldl (fun m t => if q ∈ cor t then (cor t).foldl (fun m o => vis f ts o m) m else m) m) ∧
    ∀ t ∈ L, q ∈ cor t → ∀ y ∈ cor t, y ∈ L.foldl (fun m t => if q ∈ cor t then (cor t).foldl (fun m o => vis f ts o m) m else m) m
  | [], m, _, _ => ⟨.refl m, fun _ h => by cases h⟩
  | t :: L, m, hL, hc => by
    rw [List.foldl_cons]
    by_cases hq : q ∈ cor t
    · rw [if_pos hq]
      obtain ⟨g1, g2⟩ := fold_vis h (cor t) m (hL t (by simp)) hc
      obtain ⟨k1, k2⟩ := fold_tris h q L _ (fun x hx => hL x (by simp [hx])) (Nat.le_trans (cnt_mono g1.sub _) hc)
      refine ⟨g1.trans k1, fun x hx hqx y hy => ?_⟩
      rcases List.mem_cons.1 hx with rfl | hx
      · exact k1.sub _ (g2 y hy)
      · exact k2 x hx hqx y hy
    · rw [if_neg hq]
      obtain ⟨k1, k2⟩ := fold_tris h q L m (fun x hx => hL x (by simp [hx])) hc
      refine ⟨k1, fun x hx hqx y hy => ?_⟩
      rcases List.mem_cons.1 hx with rfl | hx
      · exact absurd hqx hq
      · exact k2 x hx hqx y hy
theorem vis_ok (hU : ∀ t ∈ ts, ∀ o ∈ cor t, o ∈ U) : ∀ f, VisOk ts U f
  | 0 => fun q met hq hc => by
    have hm : q ∈ met := by
      by_cases h : q ∈ met
      · exact h
      · have := cnt_cons h hq; omega
    exact ⟨.refl met, hm⟩
  | f + 1 => fun q met hq hc => by
    unfold vis
    by_cases hm : q ∈ met
    · rw [if_pos hm]; exact ⟨.refl met, hm⟩
    · rw [if_neg hm]
      obtain ⟨g1, g2⟩ := fold_tris (vis_ok hU f) q ts (q :: met) hU (by have := cnt_cons hm hq; omega)
      refine ⟨⟨fun x hx => g1.sub x (List.mem_cons_of_mem _ hx), fun x hx hn t ht h1 y hy => ?_⟩, g1.sub q (by simp)⟩
      by_cases hxq : x = q
      · subst hxq; exact g2 t ht h1 y hy
      · exact g1.nbr x hx (by simp [hxq, hn]) t ht h1 y hy

theorem vis_conn : ∀ (f : Nat) (q : Int) (met : List Int) (a : Int), Conn ts a q → (∀ x ∈ met, Conn ts a x) → ∀ x ∈ vis f ts q met, Conn ts a x
  | 0, q, met, a, _, hm, x, hx => hm x hx
  | f + 1, q, met, a, hq, hm, x, hx => by
    unfold vis at hx
    split at hx
    · exact hm x hx
    · have key : ∀ (L : List Tri) (m : List Int), (∀ t ∈ L, t ∈ ts) → (∀ x ∈ m, Conn ts a x) → ∀ x ∈ L.foldl (fun m t => if q ∈ cor t then (cor t).foldl (fun m o => vis f ts o m) m else m) m, Conn ts a x := by
        intro L
        induction L with
        | nil => exact fun m _ h => h
        | cons t L ih =>
          intro m hL h
          rw [List.foldl_cons]
          by_cases hqt : q ∈ cor t
          · rw [if_pos hqt]
            refine ih _ (fun t' h' => hL t' (by simp [h'])) ?_
            have key2 : ∀ (O m : List Int), (∀ o ∈ O, o ∈ cor t) → (∀ x ∈ m, Conn ts a x) → ∀ x ∈ O.foldl (fun m o => vis f ts o m) m, Conn ts a x := by
              intro O
              induction O with
              | nil => exact fun m _ h => h
              | cons o O ih2 =>
                intro m hO h
                exact ih2 _ (fun o' h' => hO o' (by simp [h'])) (vis_conn f o m a (.step t hq (hL t (by simp)) hqt (hO o (by simp))) h)
            exact key2 (cor t) m (fun _ h => h) h
          · rw [if_neg hqt]
            exact ih m (fun t' h' => hL t' (by simp [h'])) h
      refine key ts (q :: met) (fun _ h => h) (fun y hy => ?_) x hx
      rcases List.mem_cons.1 hy with rfl | hy
      · exact hq
      · exact hm y hy

theorem vis_iff (hU : ∀ t ∈ ts, ∀ o ∈ cor t, o ∈ U) {f : Nat} (hf : U.length ≤ f) {q : Int} (hq : q ∈ U) (x : Int) : x ∈ vis f ts q [] ↔ Conn ts q x := by
  refine ⟨vis_conn f q [] q .refl (fun _ h => by cases h) x, fun h => ?_⟩
  obtain ⟨g, gq⟩ := vis_ok hU f q [] hq (Nat.le_trans (cnt_le _ _) hf)
  induction h with
  | refl => exact gq
  | step t _ ht h1 h2 ih => exact g.nbr _ ih (by simp) t ht h1 _ h2
end

/-! ### Check -/
def inR (N : Nat) (q : Int) : Bool := decide (0 ≤ q ∧ q < (N : Int))
def conB (pre : List Tri) (q p : Int) : Bool := decide (p ∈ vis 11 pre q [])
def chk1 (N : Nat) (pre : List Tri) (t : Tri) : Int :=
  if (cor t).any (fun q => !inR N q) then 6
  else if t.1 = t.2.1 ∨ t.1 = t.2.2 ∨ t.2.1 = t.2.2 then 7
  else if conB pre t.1 t.2.1 || conB pre t.1 t.2.2 || conB pre t.2.1 t.2.2 then 21 else 0
def chkL (N : Nat) : List Tri → List Tri → Int
  | _, [] => 0
  | pre, t :: r => if chk1 N pre t ≠ 0 then chk1 N pre t else chkL N (pre ++ [t]) r
def badS (s : Int × Int) : Bool := decide (s.1 < 0 ∨ s.2 < s.1 ∨ 10000 < s.2)
def checkT (n : TNet) : Int :=
  if n.sp.length = 0 then 2 else if 11 < n.sp.length ∨ 5 < n.ts.length then 3 else if n.sp.any badS then 1 else chkL n.sp.length [] n.ts

/-- Triangle i. -/
def tri (ts : List Tri) (i : Nat) : Tri := ts.getD i (0, 0, 0)
theorem tri_eq {ts : List Tri} {i : Nat} (h : i < ts.length) : tri ts i = ts[i] := by simp [tri, List.getD, h]

structure NOk (n : TNet) : Prop where
  l1 : 1 ≤ n.sp.length
  l2 : n.sp.length ≤ 11
  l3 : n.ts.length ≤ 5
  sp : ∀ i, i < n.sp.length → 0 ≤ los n.sp i ∧ los n.sp i ≤ his n.sp i ∧ his n.sp i ≤ 10000
  tr : ∀ i, i < n.ts.length → chk1 n.sp.length (n.ts.take i) (tri n.ts i) = 0

theorem chkL_ok (N : Nat) : ∀ (r pre : List Tri), chkL N pre r = 0 → ∀ i, i < r.length → chk1 N (pre ++ r.take i) (tri r i) = 0
  | [], _, _, i, h => by simp at h
  | t :: r, pre, h, i, hi => by
    unfold chkL at h
    split at h
    · rename_i h1; exact absurd h h1
    · rename_i h1
      cases i with
      | zero => simpa [tri] using Decidable.not_not.1 h1
      | succ i =>
        have := chkL_ok N r (pre ++ [t]) h i (by simpa using hi)
        simpa [tri] using this
theorem nok_of_check {n : TNet} (h : checkT n = 0) : NOk n := by
  unfold checkT at h
  split at h
  · cases h
  · split at h
    · cases h
    · split at h
      · cases h
      · rename_i h1 h2 h3
        refine ⟨by omega, by omega, by omega, fun i hi => ?_, fun i hi => by simpa using chkL_ok _ _ _ h i hi⟩
        have h3' : ∀ s ∈ n.sp, badS s = false := by simpa using h3
        have := h3' n.sp[i] (List.getElem_mem hi)
        have e : n.sp[i] = (los n.sp i, his n.sp i) := by simp [los, his, List.getD, hi]
        rw [e] at this
        simp [badS] at this
        omega

end Go.Proofs.Ytlbhnicengolfaa
