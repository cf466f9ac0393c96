/-
  The chapter's reference: Check.
-/
import Derived.Test.YtjgebepeghgmcaaCnt1
namespace Go.Proofs.Ytjgebepeghgmcaa
open Go.RowKit Go.Shelf
set_option linter.unusedVariables false
set_option linter.unusedSimpArgs false

/-- What the reference holds of the passages before k. -/
def lastOf (ps : List (Int × Int)) (k : Nat) : Int := if k = 0 then -1 else his ps (k - 1)
theorem lastOf_succ (ps : List (Int × Int)) (k : Nat) : lastOf ps (k + 1) = his ps k := by
  unfold lastOf
  rw [if_neg (by omega), Nat.add_sub_cancel]
structure CkI (ps : List (Int × Int)) (k : Nat) : Prop where
  is : checkPs (-1) ps = checkPs (lastOf ps k) (ps.drop k)

set_option maxRecDepth 100000 in
set_option maxHeartbeats 2000000 in
theorem refcheck_any (l : PLog) (a : Option Addr) (n cap : Nat) (w : World) (hn : n = l.ps.length) (hm : n ≤ 100000000000) (hp : Row w w.heap.size a (spans l.ps)) :
    Calls Try.prog 39 #[.agg #[.int .i64 l.lo, .int .i64 l.hi, .slice a n cap]] w fun e w' => e = .returned (.int .i64 (checkL l)) ∧ Below w.heap.size w w' := by
  obtain ⟨lo, hi, ps⟩ := l
  dsimp only at *
  have HN := hide hn
  clear hn
  have fin0 : ∀ c : Int, checkL ⟨lo, hi, ps⟩ = c → Ending.returned (.int .i64 c) = Ending.returned (.int .i64 (checkL ⟨lo, hi, ps⟩)) := fun c h => by rw [h]
  cases h1 : bet 1 lo hi with
  | false =>
    have E : Hid (checkL ⟨lo, hi, ps⟩ = 1) := hide (by have := bet_false h1; unfold checkL; rw [if_pos]; left; exact this)
    clear fin0
    go_enter Try.func39, Try.ntmps39
    go_wp2_with (go_at_call 58; refine (is_any _ _ _ _).mono ?_; rintro e w' ⟨rfl, rfl⟩)
    go_ret
    exact ⟨by rw [E.out]; rfl, (Below.refl _ _).alloc (Nat.le_refl _) _⟩
  | true =>
  by_cases h2 : 10000 < hi
  · have E : Hid (checkL ⟨lo, hi, ps⟩ = 1) := hide (by unfold checkL; rw [if_pos]; right; exact h2)
    clear fin0
    go_enter Try.func39, Try.ntmps39
    go_wp2_with (go_at_call 58; refine (is_any _ _ _ _).mono ?_; rintro e w' ⟨rfl, rfl⟩)
    go_ret
    exact ⟨by rw [E.out]; rfl, (Below.refl _ _).alloc (Nat.le_refl _) _⟩
  have hb := bet_true h1
  by_cases h3 : n < 2
  · have E : Hid (checkL ⟨lo, hi, ps⟩ = 2) := hide (by unfold checkL; rw [if_neg (by simp; omega), if_pos (by rw [← HN.out]; exact h3)])
    have h2' : decide (10000 < hi) = false := by simp; omega
    clear fin0 hb h2
    go_enter Try.func39, Try.ntmps39
    go_wp2_with (go_at_call 58; refine (is_any _ _ _ _).mono ?_; rintro e w' ⟨rfl, rfl⟩)
    go_ret
    exact ⟨by rw [E.out]; rfl, (Below.refl _ _).alloc (Nat.le_refl _) _⟩
  by_cases h4 : 8 < n
  · have E : Hid (checkL ⟨lo, hi, ps⟩ = 3) := hide (by unfold checkL; rw [if_neg (by simp; omega), if_neg (by rw [← HN.out]; exact h3), if_pos (by rw [← HN.out]; exact h4)])
    have h2' : decide (10000 < hi) = false := by simp; omega
    have h3' : decide ((n : Int) < 2) = false := by simp; omega
    clear fin0 hb h2 h3
    go_enter Try.func39, Try.ntmps39
    go_wp2_with (go_at_call 58; refine (is_any _ _ _ _).mono ?_; rintro e w' ⟨rfl, rfl⟩)
    go_ret
    exact ⟨by rw [E.out]; rfl, (Below.refl _ _).alloc (Nat.le_refl _) _⟩
  have E : Hid (checkL ⟨lo, hi, ps⟩ = checkPs (-1) ps) := hide (by unfold checkL; rw [if_neg (by simp; omega), if_neg (by rw [← HN.out]; exact h3), if_neg (by rw [← HN.out]; exact h4)])
  obtain ⟨b, off, rfl, hbb, hcell⟩ := hp.span (by rw [← HN.out]; omega)
  have h2' : decide (10000 < hi) = false := by simp; omega
  have h3' : decide ((n : Int) < 2) = false := by simp; omega
  have h4' : decide (8 < (n : Int)) = false := by simp; omega
  have HC := hide hcell
  clear fin0 hb h2 hcell hp
  go_enter Try.func39, Try.ntmps39
  go_wp2_with (go_at_call 58; refine (is_any _ _ _ _).mono ?_; rintro e w' ⟨rfl, rfl⟩)
  generalize hW : World.alloc w _ = V
  have hBV : Below w.heap.size w V := by rw [← hW]; exact (Below.refl _ _).alloc (Nat.le_refl _) _
  have b0 : Blk V w.heap.size #[.int .i64 lo, .int .i64 hi, .slice (some ⟨b, off, none⟩) n cap] 28 := by rw [← hW]; exact Blk.new w _ _
  clear hW
  obtain ⟨p1, hp1⟩ : ∃ p1, p1 = w.heap.size := ⟨_, rfl⟩
  rw [← hp1] at b0 ⊢
  have HP1 := hide hp1
  clear hp1
  go_loopw [3] (fun i wr => ∃ k : Nat, k ≤ n ∧ i = .int .i64 (k : Int) ∧ CkI ps k ∧ Below w.heap.size w wr ∧ Blk wr p1 #[.int .i64 lo, .int .i64 hi, .slice (some ⟨b, off, none⟩) n cap] 28) (fun i _ => n - (intOf i).toNat)
  case atStart => exact ⟨0, Nat.zero_le _, rfl, ⟨rfl⟩, hBV, b0⟩
  case round =>
    clear hBV b0
    obtain ⟨k, hk, rfl, CK, hB, b0⟩ := hrel
    have u := b0.three
    have z := b0.lt
    have hs := hB.size
    by_cases hlt : k < n
    · have hkl : k < ps.length := by rw [← HN.out]; exact hlt
      have e0 := (hB.cell (p := ⟨b, off + k * 2, none⟩) hbb).trans (HC.out k hkl).1
      have e1 := (hB.cell (p := ⟨b, off + k * 2 + 1, none⟩) hbb).trans (HC.out k hkl).2
      have hbr : b < wr.heap.size := by omega
      have D := hide (drop_span ps k hkl)
      have hX : ∃ x, x = los ps k := ⟨_, rfl⟩
      have hY : ∃ y, y = his ps k := ⟨_, rfl⟩
      obtain ⟨x, hx⟩ := hX
      obtain ⟨y, hy⟩ := hY
      rw [← hx] at e0
      rw [← hy] at e1
      have HX := hide hx
      have HY := hide hy
      have D' : Hid (ps.drop k = (x, y) :: ps.drop (k + 1)) := hide (by rw [D.out, hx, hy])
      clear hx hy D
      obtain ⟨V2, hV2⟩ : ∃ V2, V2 = wr.alloc (.cells #[.int .i64 x, .int .i64 y] 23) := ⟨_, rfl⟩
      cases hb0 : bet 0 x y with
      | false =>
        have EE : Hid (checkL ⟨lo, hi, ps⟩ = 1) := hide (by have := bet_false hb0; rw [E.out, CK.is, D'.out]; unfold checkPs; rw [if_pos]; left; exact this)
        go_wp2_with (go_at_call 58; refine (is_any _ _ _ _).mono ?_; rintro e w' ⟨rfl, rfl⟩)
        go_ret
        exact ⟨by rw [EE.out]; rfl, hB.alloc hs _⟩
      | true =>
      have hbb0 := bet_true hb0
      by_cases hy6 : 1000000 < y
      · have EE : Hid (checkL ⟨lo, hi, ps⟩ = 1) := hide (by rw [E.out, CK.is, D'.out]; unfold checkPs; rw [if_pos]; right; exact hy6)
        go_wp2_with (go_at_call 58; refine (is_any _ _ _ _).mono ?_; rintro e w' ⟨rfl, rfl⟩)
        go_ret
        exact ⟨by rw [EE.out]; rfl, hB.alloc hs _⟩
      have hy6' : decide (1000000 < y) = false := by simp; omega
      have CKN := hide CK.is
      have HNEXT : Hid (lastOf ps (k + 1) = y) := hide (by rw [lastOf_succ]; exact HY.out.symm)
      have hy7 : y ≤ 1000000 := by omega
      clear CK hy6
      by_cases hk0 : 0 < k
      · have hkm : k - 1 < ps.length := by omega
        have e2 := (hB.cell (p := ⟨b, off + (k - 1) * 2 + 1, none⟩) hbb).trans (HC.out (k - 1) hkm).2
        have HLA : Hid (lastOf ps k = his ps (k - 1)) := hide (by unfold lastOf; rw [if_neg (by omega)])
        generalize his ps (k - 1) = last at *
        have w1 : IntKind.i64.wrap ((k : Int) - 1) = (k : Int) - 1 := IntWalk.i64_in _ (by omega)
        have w2 : ((k : Int) - 1).toNat = k - 1 := by omega
        have w3 : 0 ≤ (k : Int) - 1 := by omega
        have w4 : (k : Int) - 1 < n := by omega
        have bN := b0.alloc (.cells #[.int .i64 x, .int .i64 y] 23)
        have bV := Blk.new wr #[.int .i64 x, .int .i64 y] 23
        have e3 := ((Below.refl wr.heap.size wr).alloc (Nat.le_refl _) (.cells #[.int .i64 x, .int .i64 y] 23)).cell (p := ⟨b, off + (k - 1) * 2 + 1, none⟩) hbr
        rw [e2] at e3
        have hBN := hB.alloc hs (.cells #[.int .i64 x, .int .i64 y] 23)
        by_cases hx : x ≤ last
        · have EE : Hid (checkL ⟨lo, hi, ps⟩ = 5) := hide (by rw [E.out, CKN.out, D'.out, HLA.out]; unfold checkPs; rw [if_neg (by simp; omega), if_pos hx])
          go_wp2_with (go_at_call 58; refine (is_any _ _ _ _).mono ?_; rintro e w' ⟨rfl, rfl⟩)
          clear u z e0 e1 e2 hV2 V2
          have u := bN.three
          have z := bN.lt
          have v := bV.two
          have y0 := bV.lt
          generalize World.alloc wr _ = V3 at *
          generalize wr.heap.size = p4 at *
          go_quiet (fail)
          go_wp2_with fail
          go_ret
          exact ⟨by rw [EE.out]; rfl, below_drewN hBN _⟩
        · have EE : Hid (CkI ps (k + 1)) := hide ⟨by rw [CKN.out, D'.out, HLA.out, HNEXT.out]; conv => lhs; unfold checkPs; rw [if_neg (by simp; omega), if_neg hx]⟩
          have hx' : decide (x ≤ last) = false := by simp; omega
          clear hx
          go_wp2_with (go_at_call 58; refine (is_any _ _ _ _).mono ?_; rintro e w' ⟨rfl, rfl⟩)
          clear u z e0 e1 e2 hV2 V2
          have u := bN.three
          have z := bN.lt
          have v := bV.two
          have y0 := bV.lt
          generalize World.alloc wr _ = V3 at *
          generalize wr.heap.size = p4 at *
          go_quiet (fail)
          go_wp2_with fail
          exact ⟨⟨k + 1, by omega, by go_num, EE.out, below_drewN hBN _, bN.drewN _⟩, by simp [intOf]; omega⟩
      · have EE : Hid (CkI ps (k + 1)) := hide ⟨by rw [CKN.out, D'.out, HNEXT.out, show lastOf ps k = -1 by unfold lastOf; rw [if_pos (by omega)]]; conv => lhs; unfold checkPs; rw [if_neg (by simp; omega), if_neg (by omega)]⟩
        have hk0' : decide (0 < k) = false := by simp; omega
        have bN := b0.alloc (.cells #[.int .i64 x, .int .i64 y] 23)
        have hBN := hB.alloc hs (.cells #[.int .i64 x, .int .i64 y] 23)
        clear hk0
        go_wp2_with (go_at_call 58; refine (is_any _ _ _ _).mono ?_; rintro e w' ⟨rfl, rfl⟩)
        clear u z e0 e1 hV2 V2
        generalize World.alloc wr _ = V3 at *
        generalize wr.heap.size = p4 at *
        go_quiet (fail)
        go_wp2_with fail
        exact ⟨⟨k + 1, by omega, by go_num, EE.out, below_drewN hBN _, bN.drewN _⟩, by simp [intOf]; omega⟩
    · have EE : Hid (checkL ⟨lo, hi, ps⟩ = 0) := hide (by rw [E.out, CK.is, List.drop_of_length_le (by rw [← HN.out]; omega)]; rfl)
      go_wp2
      go_ret
      exact ⟨by rw [EE.out]; rfl, hB⟩


end Go.Proofs.Ytjgebepeghgmcaa
