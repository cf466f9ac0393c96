/-
  slices.Values; Total.
-/
import Derived.Test.YtjgebepeghgmcaaPer16
namespace Go.Proofs.Ytjgebepeghgmcaa
open Go.RowKit Go.Shelf
set_option linter.unusedVariables false
set_option linter.unusedSimpArgs false

theorem values_any (a : Option Addr) (n cap : Nat) (w : World) :
    Calls Try.prog 42 #[.slice a n cap] w fun e w' => e = .returned (.func (.func 70) #[] #[.pointer (some ⟨w.heap.size, 0, none⟩)]) ∧ w' = w.alloc (.cells #[.slice a n cap] 30) := by
  go_enter Try.func42, Try.ntmps42
  go_wp2
  go_ret
  exact ⟨rfl, rfl⟩

theorem row_slv {w : World} {B : Nat} {a : Option Addr} {ps : List PSl} (h : Row w B a (ps.map slv)) (hi : 0 < ps.length) :
    ∃ b off, a = some ⟨b, off, none⟩ ∧ b < B ∧ ∀ i (h : i < ps.length), w.cell? ⟨b, off + i, none⟩ = some (slv ps[i]) := by
  rcases h with h | ⟨b, off, rfl, hb, h⟩
  · simp at h; subst h; simp at hi
  · refine ⟨b, off, rfl, hb, fun i hi => ?_⟩
    rw [h i (by simpa using hi)]
    simp [List.getD, hi]

attribute [local go_sem] Oper.semAt_some in
set_option maxRecDepth 100000 in
set_option maxHeartbeats 2000000 in
theorem values_iter (bx : Nat) (ps : List PSl) (a : Option Addr) (n cap : Nat) (w : World) (hn : n = ps.length) (hn1 : n ≤ 1000000) (hb : Blk w bx #[.slice a n cap] 30) (hr : Row w w.heap.size a (ps.map slv)) :
    Iter Try.prog 70 #[.pointer (some ⟨bx, 0, none⟩)] (fun p : PSl => #[slv p]) ps (fun k => k = bx ∨ capR a (ps.map slv) k) w := by
  intro l D J Jx W hsz hcap hD hJ hJx hY h0
  have hcW : W.cell? ⟨bx, 0, none⟩ = some (.slice a n cap) := by
    have : Blk W bx #[.slice a n cap] 30 := ((hcap bx (.inl rfl)).2.2).trans hb
    exact this.cell 0
  have hrW := hr.at (w' := W) fun k hk => (hcap k (.inr hk)).2.2
  have hcD : ∀ k, capR a (ps.map slv) k → ¬ D k := fun k hk => (hcap k (.inr hk)).2.1
  have HN := hide hn
  have HY := hide hY
  have HJ := hide hJ
  have HJx := hide hJx
  have HCW := hide hcW
  clear hcap hD hJ hJx hY hcW hn hb hr
  refine callsIn_of_wp Try.func70 rfl trivial ?_ rfl
  simp only [Try.ntmps70, List.size_toArray, List.length_cons, List.length_nil, Nat.reduceAdd, Nat.reduceSub, Array.replicate_succ, Array.replicate_zero, List.push_toArray, List.append_toArray, List.nil_append, List.cons_append]
  have hcW := HCW.out
  gi_wp2
  clear hcW
  gi_loopw [7] (fun i wr => ∃ (k : Nat), k ≤ n ∧ i = .int .i64 k ∧ J (ps.take k) wr ∧ Rnd D W wr) (fun i _ => n - (intOf i).toNat)
  case atStart => exact ⟨0, Nat.zero_le _, rfl, h0, Rnd.refl _ _⟩
  case round =>
    obtain ⟨i, hi, rfl, hj, hrr⟩ := hrel
    by_cases hlt : i < n
    · have hil : i < ps.length := by rw [← HN.out]; exact hlt
      obtain ⟨b, off, rfl, hbb, hcell⟩ := row_slv hrW (by omega)
      have hci := hrr.cell (a := ⟨b, off + i, none⟩) (hcD b ⟨by simp; rintro rfl; simp at hil, _, rfl, rfl⟩) (hcell i hil)
      have hpre : ps.take i ++ [ps[i]] <+: ps := ⟨ps.drop (i + 1), by rw [← List.take_succ_eq_append_getElem hil, List.take_append_drop]⟩
      obtain ⟨fn, tmps, assign, body, hy, hR⟩ := HY.out (ps.take i) ps[i] wr hpre hj
      have hR' := hide (roundIn_any 0 hR)
      have HT := hide (List.take_succ_eq_append_getElem hil)
      have HP := hide hpre
      obtain ⟨x, hxe⟩ : ∃ x, ps[i] = x := ⟨_, rfl⟩
      rw [hxe] at hci hy HT HP hR'
      clear hR hcell hrW hpre hxe hil
      obtain ⟨sv, hsv⟩ : ∃ sv : Option Addr × Nat × Nat, slv x = .slice sv.1 sv.2.1 sv.2.2 := ⟨(some ⟨x.1.1, 0, none⟩, x.2.length, x.1.2), rfl⟩
      obtain ⟨va, vn, vc⟩ := sv
      dsimp only at hsv hy
      rw [hsv] at hci hy
      clear hsv
      gi_wp2
      refine ⟨rfl, hR'.out.mono ?_⟩
      rintro e W3 ⟨hr3, ⟨rfl, hJ3⟩ | ⟨rfl, hJx3⟩⟩
      · gi_wp2
        go_roundw
        case rel => exact ⟨i + 1, by omega, by go_num, by rw [HT.out]; exact hJ3, hrr.trans hr3⟩
        case measure => simp [intOf]; omega
      · gi_wp2
        refine bodyPost_ret (results_none rfl _ _ _) rfl ?_
        exact ⟨⟨_, rfl⟩, .inr ⟨_, _, HP.out, hJx3⟩⟩
    · gi_wp2
      go_end0
      exact ⟨⟨_, rfl⟩, .inl (by rw [List.take_of_length_le (by rw [← HN.out]; omega)] at hj; exact hj)⟩

end Go.Proofs.Ytjgebepeghgmcaa
