/-
  Package total: Check.
-/
import Derived.Test.YtlbhnicengolfaaCheck
namespace Go.Proofs.Ytlbhnicengolfaa
open Go.RowKit
set_option linter.unusedVariables false
set_option linter.unusedSimpArgs false

theorem badS_any (lo hi : Int) (w : World) :
    Calls Try.prog 50 #[.agg #[.int .i64 lo, .int .i64 hi]] w fun e w' => e = .returned (.bool (badS (lo, hi))) ∧ Below w.heap.size w w' := by
  by_cases h0 : lo < 0
  · have HE : Hid (badS (lo, hi) = true) := hide (by simp [badS, h0])
    have d0 : decide (lo < 0) = true := decide_eq_true h0
    go_enter Try.func50, Try.ntmps50
    go_wp2
    go_ret
    exact ⟨by rw [HE.out]; rfl, (Below.refl _ _).alloc (Nat.le_refl _) _⟩
  have d0 : decide (lo < 0) = false := decide_eq_false h0
  by_cases h1 : hi < lo
  · have HE : Hid (badS (lo, hi) = true) := hide (by simp [badS, h1])
    have d1 : decide (hi < lo) = true := decide_eq_true h1
    clear h0
    go_enter Try.func50, Try.ntmps50
    go_wp2
    go_ret
    exact ⟨by rw [HE.out]; rfl, (Below.refl _ _).alloc (Nat.le_refl _) _⟩
  have d1 : decide (hi < lo) = false := decide_eq_false h1
  by_cases h2 : 10000 < hi
  · have HE : Hid (badS (lo, hi) = true) := hide (by simp [badS, h2])
    have d2 : decide (10000 < hi) = true := decide_eq_true h2
    clear h0 h1
    go_enter Try.func50, Try.ntmps50
    go_wp2
    go_ret
    exact ⟨by rw [HE.out]; rfl, (Below.refl _ _).alloc (Nat.le_refl _) _⟩
  have d2 : decide (10000 < hi) = false := decide_eq_false h2
  have HE : Hid (badS (lo, hi) = false) := hide (by simp [badS]; omega)
  clear h0 h1 h2
  go_enter Try.func50, Try.ntmps50
  go_wp2
  go_ret
  exact ⟨by rw [HE.out]; rfl, (Below.refl _ _).alloc (Nat.le_refl _) _⟩

theorem chk1_in {N : Nat} {pre : List Tri} {t : Tri} (h : chk1 N pre t = 0) : ∀ o ∈ cor t, 0 ≤ o ∧ o < N := by
  intro o ho
  unfold chk1 at h
  split at h
  · cases h
  · rename_i h1
    have h2 : ∀ x ∈ cor t, inR N x = true := by simpa using h1
    have := h2 o ho
    simpa [inR] using this
theorem take_in {N : Nat} {ts : List Tri} {k : Nat} (hk : k ≤ ts.length) (h : ∀ j, j < k → chk1 N (ts.take j) (tri ts j) = 0) : ∀ t ∈ ts.take k, ∀ o ∈ cor t, 0 ≤ o ∧ o < N := by
  intro t ht o ho
  obtain ⟨j, hj, rfl⟩ := List.mem_take_iff_getElem.1 ht
  simp only [Nat.lt_min] at hj
  have := h j hj.1
  rw [tri_eq hj.2] at this
  exact chk1_in this o ho
theorem chkL_step {N : Nat} {ts : List Tri} {k : Nat} (hk : k < ts.length) : chkL N (ts.take k) (ts.drop k) = if chk1 N (ts.take k) (tri ts k) ≠ 0 then chk1 N (ts.take k) (tri ts k) else chkL N (ts.take (k + 1)) (ts.drop (k + 1)) := by
  rw [List.drop_eq_getElem_cons hk, tri_take hk, tri_eq hk]
  rfl

/-- A net as an argument. -/
abbrev netV (sa ta : Option Addr) (sn sc tn tc : Nat) : Value := .agg #[.slice sa sn sc, .slice ta tn tc]

set_option maxRecDepth 100000 in
set_option maxHeartbeats 4000000 in
theorem checkF_any (n : TNet) (sa ta : Option Addr) (sn sc tn tc : Nat) (w : World) (hsn : sn = n.sp.length) (htn : tn = n.ts.length) (hl : sn ≤ 1000000000) (hl2 : tn ≤ 1000000000) (htc : tn ≤ tc) (htc2 : tc ≤ 9223372036854775807)
    (hrs : Row w w.heap.size sa (spans n.sp)) (hrt : Row w w.heap.size ta (tris n.ts)) :
    Calls Try.prog 19 #[netV sa ta sn sc tn tc] w fun e w' => e = .returned (.int .i64 (checkT n)) ∧ Below w.heap.size w w' := by
  obtain ⟨R, hR⟩ : ∃ R, R = checkT n := ⟨_, rfl⟩
  rw [← hR]
  have HR := hide hR
  have HSN := hide hsn
  have HTN := hide htn
  have HRS := hide hrs
  have HRT := hide hrt
  clear hR hsn htn hrs hrt
  go_enter Try.func19, Try.ntmps19
  by_cases h0 : sn = 0
  · have HE : Hid (R = 2) := hide (by rw [HR.out]; unfold checkT; rw [if_pos (by rw [← HSN.out]; exact h0)])
    have d0 : ((sn : Int) == 0) = true := by simpa using h0
    clear h0
    go_wp2_with fail
    go_ret
    exact ⟨by rw [HE.out]; rfl, (Below.refl _ _).alloc (Nat.le_refl _) _⟩
  have d0 : ((sn : Int) == 0) = false := by rw [beq_eq_false_iff_ne]; omega
  by_cases h1 : 11 < sn
  · have HE : Hid (R = 3) := hide (by rw [HR.out]; unfold checkT; rw [if_neg (by rw [← HSN.out]; exact h0), if_pos (.inl (by rw [← HSN.out]; exact h1))])
    have d1 : decide ((11 : Int) < (sn : Int)) = true := decide_eq_true (by omega)
    clear h0
    go_wp2_with fail
    go_ret
    exact ⟨by rw [HE.out]; rfl, (Below.refl _ _).alloc (Nat.le_refl _) _⟩
  have d1 : decide ((11 : Int) < (sn : Int)) = false := decide_eq_false (by omega)
  by_cases h2 : 5 < tn
  · have HE : Hid (R = 3) := hide (by rw [HR.out]; unfold checkT; rw [if_neg (by rw [← HSN.out]; exact h0), if_pos (.inr (by rw [← HTN.out]; exact h2))])
    have d2 : decide ((5 : Int) < (tn : Int)) = true := decide_eq_true (by omega)
    clear h0 h1
    go_wp2_with fail
    go_ret
    exact ⟨by rw [HE.out]; rfl, (Below.refl _ _).alloc (Nat.le_refl _) _⟩
  have d2 : decide ((5 : Int) < (tn : Int)) = false := decide_eq_false (by omega)
  have HRR : Hid (R = if n.sp.any badS then 1 else chkL sn [] n.ts) := hide (by rw [HR.out]; unfold checkT; rw [if_neg (by rw [← HSN.out]; exact h0), if_neg (by rw [← HSN.out, ← HTN.out]; omega), ← HSN.out])
  clear h0
  have hb1 : Below w.heap.size w (w.alloc (.cells #[.slice sa sn sc, .slice ta tn tc] 25)) := (Below.refl _ _).alloc (Nat.le_refl _) _
  have HCF := hide (containsFuncS badS 50 #[] n.sp sa sn sc (w.alloc (.cells #[.slice sa sn sc, .slice ta tn tc] 25)) HSN.out hl ((HRS.out.below hb1 (Nat.le_refl _)).mono hb1.size) (enters_of Try.func50 (by kernel_rfl) rfl) (fun x W _ _ => badS_any x.1 x.2 W))
  have kn := Blk.new w #[.slice sa sn sc, .slice ta tn tc] 25
  go_wp2_with fail
  refine HCF.out.mono ?_
  rintro e W2 ⟨rfl, hb2⟩
  have kn2 := kn.kept hb2
  have hB := hb1.trans (hb2.mono hb1.size)
  clear kn hb1 hb2 HCF d0 d1 d2
  by_cases hbad : n.sp.any badS = true
  · have HE : Hid (R = 1) := hide (by rw [HRR.out, if_pos hbad])
    rw [hbad]
    clear hbad
    go_wp2_with fail
    go_ret
    exact ⟨by rw [HE.out]; rfl, hB⟩
  have HE : Hid (R = chkL sn (n.ts.take 0) (n.ts.drop 0)) := hide (by rw [HRR.out, if_neg hbad]; rfl)
  have hbad' : n.sp.any badS = false := by simpa using hbad
  rw [hbad']
  clear hbad hbad'
  obtain ⟨n0, n1, _⟩ := kn2.two
  have ln := kn2.lt
  go_wp2_with fail
  clear n0 n1 ln
  go_loopw [28] (fun i wr => ∃ k : Nat, k ≤ tn ∧ i = .int .i64 (k : Int) ∧ Hid (R = chkL sn (n.ts.take k) (n.ts.drop k) ∧ ∀ j, j < k → chk1 sn (n.ts.take j) (tri n.ts j) = 0) ∧ Below w.heap.size w wr ∧ Blk wr w.heap.size #[.slice sa sn sc, .slice ta tn tc] 25) (fun i _ => tn - (intOf i).toNat)
  case atStart => exact ⟨0, Nat.zero_le _, rfl, hide ⟨HE.out, fun j hj => by omega⟩, hB, kn2⟩
  case round =>
    clear hB kn2
    obtain ⟨k, hk, rfl, HK, hB, kn⟩ := hrel
    by_cases hlt : k < tn
    · have HST := hide (chkL_step (N := sn) (ts := n.ts) (k := k) (by rw [← HTN.out]; exact hlt))
      have HCALL := hide (checkOne_any sn n.ts sa ta sc tn tc k wr (by omega) hlt (take_in (by rw [← HTN.out]; exact hk) HK.out.2) HTN.out htc htc2 ((HRT.out.below hB (Nat.le_refl _)).mono hB.size))
      obtain ⟨C, hC⟩ : ∃ C, C = chk1 sn (n.ts.take k) (tri n.ts k) := ⟨_, rfl⟩
      rw [← hC] at HST HCALL
      have HC := hide hC
      clear hC
      obtain ⟨n0, n1, _⟩ := kn.two
      have ln := kn.lt
      go_wp2_with fail
      refine HCALL.out.mono ?_
      rintro e W3 ⟨rfl, hb3⟩
      have kn3 := kn.kept hb3
      have hB3 := hB.trans (hb3.mono hB.size)
      clear kn hB hb3 HCALL n0 n1 ln
      by_cases hc : C = 0
      · have d : (C != 0) = false := by simpa using hc
        have HN : Hid (R = chkL sn (n.ts.take (k + 1)) (n.ts.drop (k + 1)) ∧ ∀ j, j < k + 1 → chk1 sn (n.ts.take j) (tri n.ts j) = 0) := hide ⟨by rw [HK.out.1, HST.out, if_neg (by simpa using hc)], fun j hj => by
          rcases Nat.lt_succ_iff_lt_or_eq.1 hj with h | rfl
          · exact HK.out.2 j h
          · rw [← HC.out]; exact hc⟩
        clear hc
        go_wp2_with fail
        go_roundw
        case rel => exact ⟨k + 1, by omega, by go_num, HN, hB3, kn3⟩
        case measure => simp [intOf]; omega
      · have d : (C != 0) = true := by rw [bne_iff_ne]; exact hc
        have HF : Hid (R = C) := hide (by rw [HK.out.1, HST.out, if_pos hc])
        clear hc
        go_wp2_with fail
        go_ret
        exact ⟨by rw [HF.out]; rfl, hB3⟩
    · have HF : Hid (R = 0) := hide (by rw [HK.out.1, List.drop_of_length_le (by rw [← HTN.out]; omega)]; rfl)
      go_wp2_with fail
      go_ret
      exact ⟨by rw [HF.out]; rfl, hB⟩

end Go.Proofs.Ytlbhnicengolfaa
