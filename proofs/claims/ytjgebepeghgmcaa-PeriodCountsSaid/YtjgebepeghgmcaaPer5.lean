/-
  Package period: counts checked; the iterator over all pairs.
-/
import Derived.Test.YtjgebepeghgmcaaPer4
namespace Go.Proofs.Ytjgebepeghgmcaa
open Go.RowKit Go.Shelf
set_option linter.unusedVariables false
set_option linter.unusedSimpArgs false

set_option maxRecDepth 100000 in
set_option maxHeartbeats 1000000 in
theorem counted_any (l : PLog) (cs : List Int) (a ca : Option Addr) (n cap m ccap : Nat) (w : World) (hn : n = l.ps.length) (hm : m = cs.length) (hn1 : n ≤ 1000000000) (hm1 : m ≤ 1000000000)
    (hp : Row w w.heap.size a (spans l.ps)) (hc : Row w w.heap.size ca (ints cs)) :
    Calls Try.prog 60 #[.agg #[.int .i64 l.lo, .int .i64 l.hi, .slice a n cap], .slice ca m ccap] w fun e w' => e = .returned (.int .i64 (countedL l cs)) ∧ Below w.heap.size w w' := by
  have HC := hide (check_any l a n cap (w.alloc (.cells #[.int .i64 l.lo, .int .i64 l.hi, .slice a n cap] 26)) hn (by omega) ((hp.below ((Below.refl _ w).alloc (Nat.le_refl _) _) (Nat.le_refl _)).mono (by simp)))
  have HD := hide (fun w (h : Row w w.heap.size ca (ints cs)) => containsFunc_any (fun x => !bet 1 x 1000000) 73 cs ca m ccap _ w hm hm1 h (enters_of Try.func73 (by kernel_rfl) rfl) counted1_any)
  by_cases h1 : checkL l = 0
  · by_cases h2 : (m : Int) = n - 1
    · cases h3 : (cs.any fun x => !bet 1 x 1000000) with
      | true =>
        have E : Hid (countedL l cs = 1) := hide (by unfold countedL; rw [if_neg (by simpa using h1), if_neg (by omega), if_pos (by simpa [bet] using h3)])
        have H1 := hide h1
        have H2 : ((m : Int) != (n : Int) - 1) = false := by rw [bne_eq_false_iff_eq]; exact h2
        have H3 := hide h3
        clear hn hm h1 h2 h3
        go_enter Try.func60, Try.ntmps60
        go_wp2_with fail
        refine HC.out.mono ?_
        rintro e w1 ⟨rfl, hb⟩
        rw [H1.out]
        obtain ⟨hcl, hfr⟩ := bcell hb
        have hc1 := (hc.below ((Below.refl _ w).alloc (Nat.le_refl _) (.cells #[.int .i64 l.lo, .int .i64 l.hi, .slice a n cap] 26)) (Nat.le_refl _)).below hb (by simp)
        have hs := hb.size
        go_wp2_with (go_at_call 53; refine (HD.out _ (hc1.mono (by simp at hs; omega))).mono ?_; rintro e w' ⟨rfl, rfl⟩; rw [H3.out])
        go_ret
        exact ⟨by rw [E.out]; rfl, ((Below.refl _ _).alloc (Nat.le_refl _) _).trans (hb.mono (by simp))⟩
      | false =>
        have E : Hid (countedL l cs = 0) := hide (by unfold countedL; rw [if_neg (by simpa using h1), if_neg (by omega), if_neg (by simpa [bet] using h3)])
        have H1 := hide h1
        have H2 : ((m : Int) != (n : Int) - 1) = false := by rw [bne_eq_false_iff_eq]; exact h2
        have H3 := hide h3
        clear hn hm h1 h2 h3
        go_enter Try.func60, Try.ntmps60
        go_wp2_with fail
        refine HC.out.mono ?_
        rintro e w1 ⟨rfl, hb⟩
        rw [H1.out]
        obtain ⟨hcl, hfr⟩ := bcell hb
        have hc1 := (hc.below ((Below.refl _ w).alloc (Nat.le_refl _) (.cells #[.int .i64 l.lo, .int .i64 l.hi, .slice a n cap] 26)) (Nat.le_refl _)).below hb (by simp)
        have hs := hb.size
        go_wp2_with (go_at_call 53; refine (HD.out _ (hc1.mono (by simp at hs; omega))).mono ?_; rintro e w' ⟨rfl, rfl⟩; rw [H3.out])
        go_ret
        exact ⟨by rw [E.out]; rfl, ((Below.refl _ _).alloc (Nat.le_refl _) _).trans (hb.mono (by simp))⟩
    · have E : Hid (countedL l cs = 4) := hide (by unfold countedL; rw [if_neg (by simpa using h1), if_pos (by omega)])
      have H1 := hide h1
      have H2 : ((m : Int) != (n : Int) - 1) = true := by rw [bne_iff_ne]; exact h2
      clear hn hm h1 h2
      go_enter Try.func60, Try.ntmps60
      go_wp2_with fail
      refine HC.out.mono ?_
      rintro e w1 ⟨rfl, hb⟩
      rw [H1.out]
      obtain ⟨hcl, hfr⟩ := bcell hb
      go_wp2_with fail
      go_ret
      exact ⟨by rw [E.out]; rfl, ((Below.refl _ _).alloc (Nat.le_refl _) _).trans (hb.mono (by simp))⟩
  · have E : Hid (countedL l cs = checkL l) := hide (by unfold countedL; rw [if_pos h1])
    have H2 : (checkL l != 0) = true := by rw [bne_iff_ne]; exact h1
    clear hn hm h1
    go_enter Try.func60, Try.ntmps60
    go_wp2_with fail
    refine HC.out.mono ?_
    rintro e w1 ⟨rfl, hb⟩
    obtain ⟨hcl, hfr⟩ := bcell hb
    go_wp2_with fail
    go_ret
    exact ⟨by rw [E.out]; rfl, ((Below.refl _ _).alloc (Nat.le_refl _) _).trans (hb.mono (by simp))⟩

/-! ### pairs -/
def pairV (p : Nat × Nat) : Value := .agg #[.int .i64 (p.1 : Int), .int .i64 (p.2 : Int)]

theorem pairs_any (n : Int) (w : World) :
    Calls Try.prog 74 #[.int .i64 n] w fun e w' => e = .returned (.func (.func 81) #[] #[.pointer (some ⟨w.heap.size, 0, none⟩)]) ∧ w' = w.alloc (.cells #[.int .i64 n] 3) := by
  go_enter Try.func74, Try.ntmps74
  go_wp2
  go_ret
  exact ⟨rfl, rfl⟩

/-- What is still to come, from i on; in the round of i, from k on. -/
def restI (n i : Nat) : List (Nat × Nat) := (List.range' i (n - i)).flatMap (pairsFrom n)
def restK (n i k : Nat) : List (Nat × Nat) := ((List.range' k (n - k)).map fun k => (i, k)) ++ restI n (i + 1)
theorem restI_lt (n i : Nat) (h : i < n) : restI n i = restK n i (i + 1) := by
  unfold restI restK pairsFrom
  rw [show n - i = (n - (i + 1)) + 1 by omega, List.range'_succ, List.flatMap_cons]
  rfl
theorem restI_ge (n i : Nat) (h : n ≤ i) : restI n i = [] := by unfold restI; rw [show n - i = 0 by omega]; rfl
theorem restK_lt (n i k : Nat) (h : k < n) : restK n i k = (i, k) :: restK n i (k + 1) := by
  unfold restK
  rw [show n - k = (n - (k + 1)) + 1 by omega, List.range'_succ, List.map_cons]
  rfl
theorem restK_ge (n i k : Nat) (h : n ≤ k) : restK n i k = restI n (i + 1) := by unfold restK; rw [show n - k = 0 by omega]; rfl
theorem restI_zero (n : Nat) : restI n 0 = pairsOf n := by unfold restI pairsOf; rw [List.range_eq_range', Nat.sub_zero]

attribute [local go_sem] Oper.semAt_some in
set_option maxRecDepth 100000 in
set_option maxHeartbeats 2000000 in
theorem pairs_iter (b : Nat) (n : Nat) (hn : n ≤ 1000000) (w : World) (hb : b < w.heap.size) (hc : w.cell? ⟨b, 0, none⟩ = some (.int .i64 (n : Int))) :
    Iter Try.prog 81 #[.pointer (some ⟨b, 0, none⟩)] (fun p : Nat × Nat => #[.agg #[.int .i64 (p.1 : Int), .int .i64 (p.2 : Int)]]) (pairsOf n) (fun k => k = b) w := by
  intro l D J Jx W hsz hcap hD hJ hJx hY h0
  obtain ⟨_, hbD, hbW⟩ := hcap b rfl
  have hcW : W.cell? ⟨b, 0, none⟩ = some (.int .i64 (n : Int)) := (World.cell?_of_block hbW).trans hc
  have HCW := hide hcW
  have HY := hide hY
  have HJ := hide hJ
  have HJx := hide hJx
  clear hcap hD hJ hJx hY hbW hc hcW
  refine callsIn_of_wp Try.func81 rfl trivial ?_ rfl
  simp only [Try.ntmps81, List.size_toArray, List.length_cons, List.length_nil, Nat.reduceAdd, Nat.reduceSub, Array.replicate_succ, Array.replicate_zero, List.push_toArray, List.append_toArray, List.nil_append, List.cons_append]
  have hcW := HCW.out
  gi_wp2
  clear hcW
  gi_loopw [3, 4, 6] (fun _ _ i wr => ∃ (k : Nat) (pre : List (Nat × Nat)), k ≤ n ∧ i = .int .i64 k ∧ pairsOf n = pre ++ restI n k ∧ J pre wr ∧ Rnd D W wr) (fun _ _ i _ => n - (intOf i).toNat)
  case atStart => exact ⟨0, [], Nat.zero_le _, rfl, (restI_zero n).symm, h0, Rnd.refl _ _⟩
  case round =>
    obtain ⟨i, pre, hi, rfl, hx, hj, hr⟩ := hrel
    have HX := hide hx
    clear hx
    by_cases hlt : i < n
    · have hcr := hr.cell hbD HCW.out
      gi_wp2
      clear hcr
      obtain ⟨wo, rfl⟩ : ∃ wo : World, wo = wr := ⟨_, rfl⟩
      gi_loopw [4] (fun kv wi => ∃ (k : Nat) (pre : List (Nat × Nat)), i + 1 ≤ k ∧ k ≤ n ∧ kv = .int .i64 k ∧ pairsOf n = pre ++ restK n i k ∧ J pre wi ∧ Rnd D W wi) (fun kv _ => n - (intOf kv).toNat)
      case atStart => exact ⟨i + 1, pre, Nat.le_refl _, hlt, by go_num, by rw [← restI_lt n i hlt]; exact HX.out, hj, hr⟩
      case round =>
        clear hj hr
        obtain ⟨k, pre', hk1, hk2, rfl, hx, hj, hr⟩ := hrel
        have HX' := hide hx
        clear hx
        have hcr := hr.cell hbD HCW.out
        by_cases hkn : k < n
        · obtain ⟨fn, tmps, assign, body, hy, hR⟩ := HY.out pre' (i, k) wr ⟨restK n i (k + 1), by rw [HX'.out, restK_lt n i k hkn]; simp⟩ hj
          have hR' := hide (roundIn_any 0 hR)
          clear hR
          dsimp only at hy
          gi_wp2
          refine ⟨rfl, hR'.out.mono ?_⟩
          rintro e W3 ⟨hr3, ⟨rfl, hJ3⟩ | ⟨rfl, hJx3⟩⟩
          · gi_wp2
            go_roundw
            case rel => exact ⟨k + 1, pre' ++ [(i, k)], by omega, by omega, by go_num, by rw [HX'.out, restK_lt n i k hkn]; simp, hJ3, hr.trans hr3⟩
            case measure => simp [intOf]; omega
          · gi_wp2
            refine bodyPost_ret (results_none rfl _ _ _) rfl ?_
            exact ⟨⟨_, rfl⟩, .inr ⟨pre', (i, k), ⟨restK n i (k + 1), by rw [HX'.out, restK_lt n i k hkn]; simp⟩, hJx3⟩⟩
        · gi_wp2
          go_roundw
          case rel => exact ⟨i + 1, pre', by omega, by go_num, by rw [HX'.out, restK_ge n i k (by omega)], hj, hr⟩
          case measure => simp [intOf]; omega
    · gi_wp2
      go_end0
      exact ⟨⟨_, rfl⟩, .inl (by have := HX.out; rw [restI_ge n i (by omega), List.append_nil] at this; rw [this]; exact hj)⟩

end Go.Proofs.Ytjgebepeghgmcaa
