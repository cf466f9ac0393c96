/-
  How nets lie in memory; corners.
-/
import Derived.Test.YtlbhnicengolfaaTNet
import Derived.Test.YtlbhnicengolfaaSlc
import Derived.Test.YtlbhnicengolfaaMSet
import Derived.Test.YtlbhnicengolfaaOpen
namespace Go.Proofs.Ytlbhnicengolfaa
open Go.RowKit
set_option linter.unusedVariables false
set_option linter.unusedSimpArgs false

/-- Triangles: three numbers an element. -/
def tris : List Tri → List Value
  | [] => []
  | t :: ts => .int .i64 t.1 :: .int .i64 t.2.1 :: .int .i64 t.2.2 :: tris ts
theorem tris_length : ∀ ts : List Tri, (tris ts).length = 3 * ts.length
  | [] => rfl
  | _ :: ts => by simp [tris, tris_length ts]; omega
theorem tris_get : ∀ (ts : List Tri) (k : Nat), k < ts.length → (tris ts).getD (3 * k) undef = .int .i64 (tri ts k).1 ∧ (tris ts).getD (3 * k + 1) undef = .int .i64 (tri ts k).2.1 ∧ (tris ts).getD (3 * k + 2) undef = .int .i64 (tri ts k).2.2
  | [], k, h => by simp at h
  | t :: ts, 0, _ => by simp [tris, tri]
  | t :: ts, k + 1, h => by
    have := tris_get ts k (by simpa using h)
    rw [show 3 * (k + 1) = 3 * k + 1 + 1 + 1 by omega]
    simp only [tris, List.getD_cons_succ, tri] at this ⊢
    exact this
theorem Row.tri {w : World} {B : Nat} {a : Option Addr} {ts : List Tri} (h : Row w B a (tris ts)) (hi : 0 < ts.length) :
    ∃ b off, a = some ⟨b, off, none⟩ ∧ b < B ∧ ∀ i, i < ts.length → w.cell? ⟨b, off + i * 3, none⟩ = some (.int .i64 (tri ts i).1) ∧ w.cell? ⟨b, off + i * 3 + 1, none⟩ = some (.int .i64 (tri ts i).2.1) ∧ w.cell? ⟨b, off + i * 3 + 2, none⟩ = some (.int .i64 (tri ts i).2.2) := by
  rcases h with h | ⟨b, off, rfl, hb, h⟩
  · have := tris_length ts
    rw [h] at this
    simp at this
    omega
  · refine ⟨b, off, rfl, hb, fun i hi => ?_⟩
    obtain ⟨h1, h2, h3⟩ := tris_get ts i hi
    have hl := tris_length ts
    have e1 := h (3 * i) (by omega)
    have e2 := h (3 * i + 1) (by omega)
    have e3 := h (3 * i + 2) (by omega)
    rw [h1] at e1
    rw [h2] at e2
    rw [h3] at e3
    exact ⟨by rw [show i * 3 = 3 * i by omega]; exact e1, by rw [show off + i * 3 + 1 = off + (3 * i + 1) by omega]; exact e2, by rw [show off + i * 3 + 2 = off + (3 * i + 2) by omega]; exact e3⟩

theorem corners_any (a b c : Int) (w : World) :
    Calls Try.prog 65 #[.agg #[.int .i64 a, .int .i64 b, .int .i64 c]] w fun e w' => e = .returned (.agg #[.int .i64 a, .int .i64 b, .int .i64 c]) ∧ Below w.heap.size w w' := by
  go_enter Try.func65, Try.ntmps65
  go_wp2
  refine bodyPost_ret (v := .agg #[.int .i64 a, .int .i64 b, .int .i64 c]) (by simp [results, Try.results65, go_sem]) rfl ⟨rfl, ((Below.refl _ _).alloc (Nat.le_refl _) _).alloc (by simp) _⟩

theorem tri_take {ts : List Tri} {k : Nat} (h : k < ts.length) : ts.take (k + 1) = ts.take k ++ [tri ts k] := by
  rw [List.take_succ_eq_append_getElem h, tri_eq h]
theorem tri_of_take {ts : List Tri} {k up : Nat} (h : k < up) : tri (ts.take up) k = tri ts k := by
  unfold tri
  rw [List.getD_eq_getElem?_getD, List.getD_eq_getElem?_getD, List.getElem?_take, if_pos h]

/-! ### what visit counts -/
theorem vis_bound {ts : List Tri} {U : List Int} (hU : ∀ t ∈ ts, ∀ o ∈ cor t, o ∈ U) : ∀ (f : Nat) (q : Int) (met : List Int), q ∈ U → (vis f ts q met).length + cnt U (vis f ts q met) ≤ met.length + cnt U met
  | 0, q, met, _ => Nat.le_refl _
  | f + 1, q, met, hq => by
    unfold vis
    split
    · exact Nat.le_refl _
    · rename_i hm
      have key2 : ∀ (O m : List Int), (∀ o ∈ O, o ∈ U) → (O.foldl (fun m o => vis f ts o m) m).length + cnt U (O.foldl (fun m o => vis f ts o m) m) ≤ m.length + cnt U m := by
        intro O
        induction O with
        | nil => exact fun m _ => Nat.le_refl _
        | cons o O ih =>
          intro m hO
          exact Nat.le_trans (ih _ (fun x hx => hO x (by simp [hx]))) (vis_bound hU f o m (hO o (by simp)))
      have key : ∀ (L : List Tri) (m : List Int), (∀ t ∈ L, t ∈ ts) → (L.foldl (fun m t => if q ∈ cor t then (cor t).foldl (fun m o => vis f ts o m) m else m) m).length + cnt U (L.foldl (fun m t => if q ∈ cor t then (cor t).foldl (fun m o => vis f ts o m) m else m) m) ≤ m.length + cnt U m := by
        intro L
        induction L with
        | nil => exact fun m _ => Nat.le_refl _
        | cons t L ih =>
          intro m hL
          rw [List.foldl_cons]
          refine Nat.le_trans (ih _ (fun x hx => hL x (by simp [hx]))) ?_
          split
          · exact key2 _ _ (hU t (hL t (by simp)))
          · exact Nat.le_refl _
      refine Nat.le_trans (key ts _ (fun _ h => h)) ?_
      have := cnt_cons hm hq
      simp only [List.length_cons]
      omega
/-- One triangle of visit. -/
def visT (f : Nat) (ts : List Tri) (q : Int) (m : List Int) (t : Tri) : List Int := if q ∈ cor t then (cor t).foldl (fun m o => vis f ts o m) m else m
theorem vis_eq (f : Nat) (ts : List Tri) (q : Int) (met : List Int) : vis (f + 1) ts q met = if q ∈ met then met else ts.foldl (visT f ts q) (q :: met) := rfl
theorem foldO_bound {ts : List Tri} {U : List Int} (hU : ∀ t ∈ ts, ∀ o ∈ cor t, o ∈ U) (f : Nat) : ∀ (O m : List Int), (∀ o ∈ O, o ∈ U) → (O.foldl (fun m o => vis f ts o m) m).length + cnt U (O.foldl (fun m o => vis f ts o m) m) ≤ m.length + cnt U m := by
  intro O
  induction O with
  | nil => exact fun m _ => Nat.le_refl _
  | cons o O ih =>
    intro m hO
    exact Nat.le_trans (ih _ (fun x hx => hO x (by simp [hx]))) (vis_bound hU f o m (hO o (by simp)))
theorem foldO_cnt {ts : List Tri} {U : List Int} (hU : ∀ t ∈ ts, ∀ o ∈ cor t, o ∈ U) (f : Nat) (O m : List Int) (hO : ∀ o ∈ O, o ∈ U) (hc : cnt U m ≤ f) : cnt U (O.foldl (fun m o => vis f ts o m) m) ≤ f :=
  Nat.le_trans (cnt_mono (fold_vis (vis_ok hU f) O m hO hc).1.sub _) hc

end Go.Proofs.Ytlbhnicengolfaa
