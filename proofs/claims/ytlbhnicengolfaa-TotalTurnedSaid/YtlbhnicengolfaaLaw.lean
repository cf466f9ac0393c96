/-
  Package agoniclaw03: numbers, spans, N.
-/
import Derived.Test.YtlbhnicengolfaaClash
namespace Go.Proofs.Ytlbhnicengolfaa
open Go.RowKit
set_option linter.unusedVariables false
set_option linter.unusedSimpArgs false

set_option maxRecDepth 100000 in
set_option maxHeartbeats 4000000 in
theorem numbers_any (xs ys : List Int) (a b : Option Addr) (n cap m cap' B B' : Nat) (w : World) (hn : n = xs.length) (hm : m = ys.length) (hl : n ≤ 1000000000) (hl' : m ≤ 1000000000) (h : Row w B a (ints xs)) (h' : Row w B' b (ints ys)) :
    Calls Try.prog 24 #[.slice a n cap, .slice b m cap'] w fun e w' => e = .returned (.bool (decide (xs = ys))) ∧ Below w.heap.size w w' := by
  by_cases hnm : n = m
  · subst hnm
    have HN := hide hn
    have HM := hide hm
    clear hn hm hl'
    go_enter Try.func24, Try.ntmps24
    go_wp2
    go_loopw [5] (fun i wr => ∃ k : Nat, k ≤ n ∧ i = .int .i64 k ∧ Hid (xs.take k = ys.take k) ∧ ∃ q, wr = w.drewN q) (fun i _ => n - (intOf i).toNat)
    case atStart => exact ⟨0, Nat.zero_le _, rfl, hide rfl, 0, rfl⟩
    case round =>
      obtain ⟨k, hk, rfl, hpre, q, rfl⟩ := hrel
      by_cases hlt : k < n
      · have hkx : k < xs.length := by rw [← HN.out]; exact hlt
        have hky : k < ys.length := by rw [← HM.out]; exact hlt
        obtain ⟨ba, oa, rfl, hba, hca⟩ := h.int (by omega)
        obtain ⟨bb, ob, rfl, hbb, hcb⟩ := h'.int (by omega)
        have ca := hca k hkx
        have cb := hcb k hky
        have TX := hide (take_snoc xs k hkx)
        have TY := hide (take_snoc ys k hky)
        clear hca hcb h h' hba hbb hkx hky
        by_cases he : iat xs k = iat ys k
        · have HE := hide he
          have ht : (iat xs k != iat ys k) = false := by simp [he]
          clear he
          go_wp2
          go_quiet (fail)
          go_wp2
          go_roundw
          case rel => exact ⟨k + 1, by omega, by go_num, hide (by rw [TX.out, TY.out, hpre.out, HE.out]), _, rfl⟩
          case measure => simp [intOf]; omega
        · have ht : (iat xs k != iat ys k) = true := by simp [he]
          have HR : Hid (decide (xs = ys) = false) := hide (by
            simp only [decide_eq_false_iff_not]
            intro e
            exact he (by rw [e]))
          clear he
          go_wp2
          go_quiet (fail)
          go_wp2
          go_ret
          exact ⟨by rw [HR.out]; rfl, below_drewN (below_drewN (Below.refl _ _) _) _⟩
      · have HR : Hid (decide (xs = ys) = true) := hide (by
          simp only [decide_eq_true_eq]
          have e := hpre.out
          rwa [List.take_of_length_le (by rw [← HN.out]; omega), List.take_of_length_le (by rw [← HM.out]; omega)] at e)
        go_wp2
        go_ret
        exact ⟨by rw [HR.out]; rfl, below_drewN (Below.refl _ _) _⟩
  · have HR : Hid (decide (xs = ys) = false) := hide (by
      simp only [decide_eq_false_iff_not]
      intro e
      exact hnm (by rw [hn, hm, e]))
    have ht : ((n : Int) != (m : Int)) = true := by simp; omega
    clear hn hm hnm
    go_enter Try.func24, Try.ntmps24
    go_wp2
    go_ret
    exact ⟨by rw [HR.out]; rfl, Below.refl _ _⟩

theorem take_snoc2 (xs : List (Int × Int)) (k : Nat) (h : k < xs.length) : xs.take (k + 1) = xs.take k ++ [(los xs k, his xs k)] := by
  rw [List.take_succ_eq_append_getElem h, span_eq h]

set_option maxRecDepth 100000 in
set_option maxHeartbeats 4000000 in
theorem spans_law (xs ys : List (Int × Int)) (a b : Option Addr) (n cap m cap' B B' : Nat) (w : World) (hn : n = xs.length) (hm : m = ys.length) (hl : n ≤ 1000000000) (hl' : m ≤ 1000000000) (h : Row w B a (spans xs)) (h' : Row w B' b (spans ys)) :
    Calls Try.prog 32 #[.slice a n cap, .slice b m cap'] w fun e w' => e = .returned (.bool (decide (xs = ys))) ∧ Below w.heap.size w w' := by
  by_cases hnm : n = m
  · subst hnm
    have HN := hide hn
    have HM := hide hm
    clear hn hm hl'
    go_enter Try.func32, Try.ntmps32
    go_wp2
    go_loopw [5] (fun i wr => ∃ k : Nat, k ≤ n ∧ i = .int .i64 k ∧ Hid (xs.take k = ys.take k) ∧ ∃ q, wr = w.drewN q) (fun i _ => n - (intOf i).toNat)
    case atStart => exact ⟨0, Nat.zero_le _, rfl, hide rfl, 0, rfl⟩
    case round =>
      obtain ⟨k, hk, rfl, hpre, q, rfl⟩ := hrel
      by_cases hlt : k < n
      · have hkx : k < xs.length := by rw [← HN.out]; exact hlt
        have hky : k < ys.length := by rw [← HM.out]; exact hlt
        obtain ⟨ba, oa, rfl, hba, hca⟩ := h.span (by omega)
        obtain ⟨bb, ob, rfl, hbb, hcb⟩ := h'.span (by omega)
        obtain ⟨ca, ca2⟩ := hca k hkx
        obtain ⟨cb, cb2⟩ := hcb k hky
        have TX := hide (take_snoc2 xs k hkx)
        have TY := hide (take_snoc2 ys k hky)
        clear hca hcb h h' hba hbb hkx hky
        by_cases he : los xs k = los ys k ∧ his xs k = his ys k
        · have HE := hide he
          have ht1 : (los xs k == los ys k) = true := by simp [he.1]
          have ht2 : (his xs k == his ys k) = true := by simp [he.2]
          clear he
          go_wp2
          go_quiet (fail)
          go_wp2
          go_roundw
          case rel => exact ⟨k + 1, by omega, by go_num, hide (by rw [TX.out, TY.out, hpre.out, HE.out.1, HE.out.2]), _, rfl⟩
          case measure => simp [intOf]; omega
        · have HR : Hid (decide (xs = ys) = false) := hide (by
            simp only [decide_eq_false_iff_not]
            intro e
            exact he (by rw [e]; exact ⟨rfl, rfl⟩))
          by_cases h1 : los xs k = los ys k
          · have ht1 : (los xs k == los ys k) = true := by simp [h1]
            have ht2 : (his xs k == his ys k) = false := by rw [beq_eq_false_iff_ne]; exact fun e => he ⟨h1, e⟩
            clear he h1
            go_wp2
            go_quiet (fail)
            go_wp2
            go_ret
            exact ⟨by rw [HR.out]; rfl, below_drewN (below_drewN (Below.refl _ _) _) _⟩
          · have ht1 : (los xs k == los ys k) = false := by rw [beq_eq_false_iff_ne]; exact h1
            clear he h1
            go_wp2
            go_quiet (fail)
            go_wp2
            go_ret
            exact ⟨by rw [HR.out]; rfl, below_drewN (below_drewN (Below.refl _ _) _) _⟩
      · have HR : Hid (decide (xs = ys) = true) := hide (by
          simp only [decide_eq_true_eq]
          have e := hpre.out
          rwa [List.take_of_length_le (by rw [← HN.out]; omega), List.take_of_length_le (by rw [← HM.out]; omega)] at e)
        go_wp2
        go_ret
        exact ⟨by rw [HR.out]; rfl, below_drewN (Below.refl _ _) _⟩
  · have HR : Hid (decide (xs = ys) = false) := hide (by
      simp only [decide_eq_false_iff_not]
      intro e
      exact hnm (by rw [hn, hm, e]))
    have ht : ((n : Int) != (m : Int)) = true := by simp; omega
    clear hn hm hnm
    go_enter Try.func32, Try.ntmps32
    go_wp2
    go_ret
    exact ⟨by rw [HR.out]; rfl, Below.refl _ _⟩


/-- The chapter's net. -/
def nN (lo hi : Int) : TNet := ⟨[(3, 3), (4, 5), (0, 6), (12, 12), (lo, hi)], [(0, 1, 2), (2, 3, 4)]⟩
set_option maxRecDepth 100000 in
set_option maxHeartbeats 4000000 in
theorem N_any (lo hi : Int) (w : World) :
    Calls Try.prog 44 #[.int .i64 lo, .int .i64 hi] w fun e w' => ∃ sa ta : Addr, e = .returned (netV (some sa) (some ta) 5 5 2 2) ∧ NetIn (nN lo hi) (some sa) (some ta) 5 2 2 w' ∧ Below w.heap.size w w' := by
  go_enter Try.func44, Try.ntmps44
  go_wp2
  generalize hV : World.alloc (World.alloc (World.alloc w _) _) _ = V
  have b0 : Blk V w.heap.size #[.slice (some ⟨w.heap.size + 1, 0, none⟩) 5 5, .slice (some ⟨w.heap.size + 1 + 1, 0, none⟩) 2 2] 25 := by rw [← hV]; exact ((Blk.new w _ _).alloc _).alloc _
  have b1 : Blk V (w.heap.size + 1) #[.int .i64 3, .int .i64 3, .int .i64 4, .int .i64 5, .int .i64 0, .int .i64 6, .int .i64 12, .int .i64 12, .int .i64 lo, .int .i64 hi] 53 := by rw [← hV]; exact (Blk.newAt (by rw [sz1]) _ _).alloc _
  have b2 : Blk V (w.heap.size + 1 + 1) #[.int .i64 0, .int .i64 1, .int .i64 2, .int .i64 2, .int .i64 3, .int .i64 4] 75 := by rw [← hV]; exact Blk.newAt (by rw [sz1, sz1]) _ _
  have hB : Below w.heap.size w V := by rw [← hV]; exact (((Below.refl _ _).alloc (Nat.le_refl _) _).alloc (by rw [sz1]; omega) _).alloc (by rw [sz1, sz1]; omega) _
  clear hV
  obtain ⟨n0, n1, _⟩ := b0.two
  have r1 : Row V V.heap.size (some ⟨w.heap.size + 1, 0, none⟩) (spans (nN lo hi).sp) := (row_of_heap b1 (by rfl)).mono b1.lt
  have r2 : Row V V.heap.size (some ⟨w.heap.size + 1 + 1, 0, none⟩) (tris (nN lo hi).ts) := (row_of_heap b2 (by rfl)).mono b2.lt
  refine bodyPost_ret (v := netV (some ⟨w.heap.size + 1, 0, none⟩) (some ⟨w.heap.size + 1 + 1, 0, none⟩) 5 5 2 2) (by unfold netV; simp [results, Try.results44, go_sem, n0, n1]) rfl ⟨_, _, rfl, ⟨rfl, rfl, Nat.le_refl _, by decide, by decide, by decide, r1, r2⟩, hB⟩

end Go.Proofs.Ytlbhnicengolfaa
