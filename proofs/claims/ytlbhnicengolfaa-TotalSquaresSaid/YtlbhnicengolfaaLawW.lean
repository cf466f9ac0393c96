/-
  Package agoniclaw03: numbers, spans, N. Package total: the plain models at the chapter's net. Package agoniclaw03: works.
-/
import Derived.Test.YtlbhnicengolfaaClash
/-! ## Law: Package agoniclaw03: numbers, spans, N. -/
namespace Go.Proofs.Ytlbhnicengolfaa
open Go.RowKit
set_option linter.unusedVariables false
set_option linter.unusedSimpArgs false

set_option maxRecDepth 100000 in
set_option maxHeartbeats 4000000 in
theorem numbers_any (xs ys : List Int) (a b : Option Addr) (n cap m cap' B B' : Nat) (w : World) (hn : n = xs.length) (hm : m = ys.length) (hl : n ≤ 1000000000) (hl' : m ≤ 1000000000) (h : Row w B a (ints xs)) (h' : Row w B' b (ints ys)) :
    Calls Try.prog 24 #[.slice a n cap, .slice b m cap'] w fun e w' => e = .returned (.bool (decide (xs = ys))) ∧ Below w.heap.size w w' := by
  by_cases hnm : n = m
  · subst hnm
    have HN := hide hn
    have HM := hide hm
    clear hn hm hl'
    go_enter Try.func24, Try.ntmps24
    go_wp2
    go_loopw [5] (fun i wr => ∃ k : Nat, k ≤ n ∧ i = .int .i64 k ∧ Hid (xs.take k = ys.take k) ∧ ∃ q, wr = w.drewN q) (fun i _ => n - (intOf i).toNat)
    case atStart => exact ⟨0, Nat.zero_le _, rfl, hide rfl, 0, rfl⟩
    case round =>
      obtain ⟨k, hk, rfl, hpre, q, rfl⟩ := hrel
      by_cases hlt : k < n
      · have hkx : k < xs.length := by rw [← HN.out]; exact hlt
        have hky : k < ys.length := by rw [← HM.out]; exact hlt
        obtain ⟨ba, oa, rfl, hba, hca⟩ := h.int (by omega)
        obtain ⟨bb, ob, rfl, hbb, hcb⟩ := h'.int (by omega)
        have ca := hca k hkx
        have cb := hcb k hky
        have TX := hide (take_snoc xs k hkx)
        have TY := hide (take_snoc ys k hky)
        clear hca hcb h h' hba hbb hkx hky
        by_cases he : iat xs k = iat ys k
        · have HE := hide he
          have ht : (iat xs k != iat ys k) = false := by simp [he]
          clear he
          go_wp2
          go_quiet (fail)
          go_wp2
          go_roundw
          case rel => exact ⟨k + 1, by omega, by go_num, hide (by rw [TX.out, TY.out, hpre.out, HE.out]), _, rfl⟩
          case measure => simp [intOf]; omega
        · have ht : (iat xs k != iat ys k) = true := by simp [he]
          have HR : Hid (decide (xs = ys) = false) := hide (by
            simp only [decide_eq_false_iff_not]
            intro e
            exact he (by rw [e]))
          clear he
          go_wp2
          go_quiet (fail)
          go_wp2
          go_ret
          exact ⟨by rw [HR.out]; rfl, below_drewN (below_drewN (Below.refl _ _) _) _⟩
      · have HR : Hid (decide (xs = ys) = true) := hide (by
          simp only [decide_eq_true_eq]
          have e := hpre.out
          rwa [List.take_of_length_le (by rw [← HN.out]; omega), List.take_of_length_le (by rw [← HM.out]; omega)] at e)
        go_wp2
        go_ret
        exact ⟨by rw [HR.out]; rfl, below_drewN (Below.refl _ _) _⟩
  · have HR : Hid (decide (xs = ys) = false) := hide (by
      simp only [decide_eq_false_iff_not]
      intro e
      exact hnm (by rw [hn, hm, e]))
    have ht : ((n : Int) != (m : Int)) = true := by simp; omega
    clear hn hm hnm
    go_enter Try.func24, Try.ntmps24
    go_wp2
    go_ret
    exact ⟨by rw [HR.out]; rfl, Below.refl _ _⟩

theorem take_snoc2 (xs : List (Int × Int)) (k : Nat) (h : k < xs.length) : xs.take (k + 1) = xs.take k ++ [(los xs k, his xs k)] := by
  rw [List.take_succ_eq_append_getElem h, span_eq h]

set_option maxRecDepth 100000 in
set_option maxHeartbeats 4000000 in
theorem spans_law (xs ys : List (Int × Int)) (a b : Option Addr) (n cap m cap' B B' : Nat) (w : World) (hn : n = xs.length) (hm : m = ys.length) (hl : n ≤ 1000000000) (hl' : m ≤ 1000000000) (h : Row w B a (spans xs)) (h' : Row w B' b (spans ys)) :
    Calls Try.prog 32 #[.slice a n cap, .slice b m cap'] w fun e w' => e = .returned (.bool (decide (xs = ys))) ∧ Below w.heap.size w w' := by
  by_cases hnm : n = m
  · subst hnm
    have HN := hide hn
    have HM := hide hm
    clear hn hm hl'
    go_enter Try.func32, Try.ntmps32
    go_wp2
    go_loopw [5] (fun i wr => ∃ k : Nat, k ≤ n ∧ i = .int .i64 k ∧ Hid (xs.take k = ys.take k) ∧ ∃ q, wr = w.drewN q) (fun i _ => n - (intOf i).toNat)
    case atStart => exact ⟨0, Nat.zero_le _, rfl, hide rfl, 0, rfl⟩
    case round =>
      obtain ⟨k, hk, rfl, hpre, q, rfl⟩ := hrel
      by_cases hlt : k < n
      · have hkx : k < xs.length := by rw [← HN.out]; exact hlt
        have hky : k < ys.length := by rw [← HM.out]; exact hlt
        obtain ⟨ba, oa, rfl, hba, hca⟩ := h.span (by omega)
        obtain ⟨bb, ob, rfl, hbb, hcb⟩ := h'.span (by omega)
        obtain ⟨ca, ca2⟩ := hca k hkx
        obtain ⟨cb, cb2⟩ := hcb k hky
        have TX := hide (take_snoc2 xs k hkx)
        have TY := hide (take_snoc2 ys k hky)
        clear hca hcb h h' hba hbb hkx hky
        by_cases he : los xs k = los ys k ∧ his xs k = his ys k
        · have HE := hide he
          have ht1 : (los xs k == los ys k) = true := by simp [he.1]
          have ht2 : (his xs k == his ys k) = true := by simp [he.2]
          clear he
          go_wp2
          go_quiet (fail)
          go_wp2
          go_roundw
          case rel => exact ⟨k + 1, by omega, by go_num, hide (by rw [TX.out, TY.out, hpre.out, HE.out.1, HE.out.2]), _, rfl⟩
          case measure => simp [intOf]; omega
        · have HR : Hid (decide (xs = ys) = false) := hide (by
            simp only [decide_eq_false_iff_not]
            intro e
            exact he (by rw [e]; exact ⟨rfl, rfl⟩))
          by_cases h1 : los xs k = los ys k
          · have ht1 : (los xs k == los ys k) = true := by simp [h1]
            have ht2 : (his xs k == his ys k) = false := by rw [beq_eq_false_iff_ne]; exact fun e => he ⟨h1, e⟩
            clear he h1
            go_wp2
            go_quiet (fail)
            go_wp2
            go_ret
            exact ⟨by rw [HR.out]; rfl, below_drewN (below_drewN (Below.refl _ _) _) _⟩
          · have ht1 : (los xs k == los ys k) = false := by rw [beq_eq_false_iff_ne]; exact h1
            clear he h1
            go_wp2
            go_quiet (fail)
            go_wp2
            go_ret
            exact ⟨by rw [HR.out]; rfl, below_drewN (below_drewN (Below.refl _ _) _) _⟩
      · have HR : Hid (decide (xs = ys) = true) := hide (by
          simp only [decide_eq_true_eq]
          have e := hpre.out
          rwa [List.take_of_length_le (by rw [← HN.out]; omega), List.take_of_length_le (by rw [← HM.out]; omega)] at e)
        go_wp2
        go_ret
        exact ⟨by rw [HR.out]; rfl, below_drewN (Below.refl _ _) _⟩
  · have HR : Hid (decide (xs = ys) = false) := hide (by
      simp only [decide_eq_false_iff_not]
      intro e
      exact hnm (by rw [hn, hm, e]))
    have ht : ((n : Int) != (m : Int)) = true := by simp; omega
    clear hn hm hnm
    go_enter Try.func32, Try.ntmps32
    go_wp2
    go_ret
    exact ⟨by rw [HR.out]; rfl, Below.refl _ _⟩


/-- The chapter's net. -/
def nN (lo hi : Int) : TNet := ⟨[(3, 3), (4, 5), (0, 6), (12, 12), (lo, hi)], [(0, 1, 2), (2, 3, 4)]⟩
set_option maxRecDepth 100000 in
set_option maxHeartbeats 4000000 in
theorem N_any (lo hi : Int) (w : World) :
    Calls Try.prog 44 #[.int .i64 lo, .int .i64 hi] w fun e w' => ∃ sa ta : Addr, e = .returned (netV (some sa) (some ta) 5 5 2 2) ∧ NetIn (nN lo hi) (some sa) (some ta) 5 2 2 w' ∧ Below w.heap.size w w' := by
  go_enter Try.func44, Try.ntmps44
  go_wp2
  generalize hV : World.alloc (World.alloc (World.alloc w _) _) _ = V
  have b0 : Blk V w.heap.size #[.slice (some ⟨w.heap.size + 1, 0, none⟩) 5 5, .slice (some ⟨w.heap.size + 1 + 1, 0, none⟩) 2 2] 25 := by rw [← hV]; exact ((Blk.new w _ _).alloc _).alloc _
  have b1 : Blk V (w.heap.size + 1) #[.int .i64 3, .int .i64 3, .int .i64 4, .int .i64 5, .int .i64 0, .int .i64 6, .int .i64 12, .int .i64 12, .int .i64 lo, .int .i64 hi] 53 := by rw [← hV]; exact (Blk.newAt (by rw [sz1]) _ _).alloc _
  have b2 : Blk V (w.heap.size + 1 + 1) #[.int .i64 0, .int .i64 1, .int .i64 2, .int .i64 2, .int .i64 3, .int .i64 4] 75 := by rw [← hV]; exact Blk.newAt (by rw [sz1, sz1]) _ _
  have hB : Below w.heap.size w V := by rw [← hV]; exact (((Below.refl _ _).alloc (Nat.le_refl _) _).alloc (by rw [sz1]; omega) _).alloc (by rw [sz1, sz1]; omega) _
  clear hV
  obtain ⟨n0, n1, _⟩ := b0.two
  have r1 : Row V V.heap.size (some ⟨w.heap.size + 1, 0, none⟩) (spans (nN lo hi).sp) := (row_of_heap b1 (by rfl)).mono b1.lt
  have r2 : Row V V.heap.size (some ⟨w.heap.size + 1 + 1, 0, none⟩) (tris (nN lo hi).ts) := (row_of_heap b2 (by rfl)).mono b2.lt
  refine bodyPost_ret (v := netV (some ⟨w.heap.size + 1, 0, none⟩) (some ⟨w.heap.size + 1 + 1, 0, none⟩) 5 5 2 2) (by unfold netV; simp [results, Try.results44, go_sem, n0, n1]) rfl ⟨_, _, rfl, ⟨rfl, rfl, Nat.le_refl _, by decide, by decide, by decide, r1, r2⟩, hB⟩

end Go.Proofs.Ytlbhnicengolfaa

/-! ## Ex: Package total: the plain models at the chapter's net. -/
namespace Go.Proofs.Ytlbhnicengolfaa
open Go.RowKit

theorem ex_eq : eqR (nN 0 13) [0, 1] = ([1, 1, 0, 1, -1], 0) := by decide +kernel
theorem ex_nz : NzOk (nN 0 13) [0, 1] := by unfold NzOk; decide +kernel
theorem ex_sq : sqR (nN 0 14) = ([(9, 9), (16, 25), (25, 34), (144, 144), (169, 178)], 0) := by decide +kernel
theorem ex_len : lenR (nN 0 14) = ([(3, 3), (4, 5), (5, 6), (12, 12), (13, 14)], 0) := by decide +kernel
theorem ex_tru : truR (nN 0 14) 4 true = ([9, 25, 34, 144, 178], 0) := by decide +kernel
theorem ex_all : grpAll (nN 14 20) = [([0], (grpR (nN 14 20).ts [0] 5).1), ([1], (grpR (nN 14 20).ts [1] 5).1), ([0, 1], (grpR (nN 14 20).ts [0, 1] 5).1)] := by decide +kernel
theorem ex_b0 : brkR (nN 14 20) (grpR (nN 14 20).ts [0] 5).1 = false := by decide +kernel
theorem ex_b1 : brkR (nN 14 20) (grpR (nN 14 20).ts [1] 5).1 = true := by decide +kernel
theorem ex_ok2 : checkT (nN 14 20) = 0 := by decide +kernel
theorem ex_cla : claR (nN 14 20) = ([1], 0) := by
  unfold claR
  rw [ex_all, if_neg (by rw [ex_ok2]; simp), List.find?_cons_of_neg (by rw [ex_b0]; simp), List.find?_cons_of_pos (by rw [ex_b1])]
theorem ex_sus : susR (nN 14 20) = ([3, 4], 0) := by decide +kernel
theorem ex_ver : verR (nN 14 20) [1] = 0 := by decide +kernel
theorem ex_ver0 : verR (nN 14 20) [0] = 12 := by decide +kernel
theorem ex_nz1 : NzOk (nN 14 20) [1] := by unfold NzOk; decide +kernel
theorem ex_nz0 : NzOk (nN 14 20) [0] := by unfold NzOk; decide +kernel
theorem ex_nza : checkT (nN 14 20) = 0 → NzAll (nN 14 20) := by
  intro _ set h0 h
  have : ∀ s : Fin 4, 1 ≤ (s : Nat) → (grpR (nN 14 20).ts (bitsK s (nN 14 20).ts.length) (nN 14 20).sp.length).2 = true → nzIdx (grpS (nN 14 20).ts (bitsK s (nN 14 20).ts.length) (nN 14 20).sp.length).out < (nN 14 20).sp.length := by decide +kernel
  exact this ⟨set, by have : 2 ^ (nN 14 20).ts.length - 1 = 3 := by rfl
                      omega⟩ h0
theorem ex_ok : checkT (nN 0 14) = 0 := by decide +kernel
instance (M : Int) (s : Sp) : Decidable (SpB M s) := by unfold SpB; infer_instance
instance (M : Int) (ls : List Sp) : Decidable (LsB M ls) := by unfold LsB; infer_instance
theorem ex_hb : ∀ k, k < (nN 0 14).sp.length → LsB 100000000 (truN (nN 0 14).ts (tru1 (nN 0 14) 4 true) k) := by
  have : ∀ k : Fin 5, LsB 100000000 (truN (nN 0 14).ts (tru1 (nN 0 14) 4 true) k) := by decide +kernel
  exact fun k hk => this ⟨k, hk⟩

end Go.Proofs.Ytlbhnicengolfaa

/-! ## Works: Package agoniclaw03: works. -/
namespace Go.Proofs.Ytlbhnicengolfaa
open Go.RowKit
set_option linter.unusedVariables false
set_option linter.unusedSimpArgs false

theorem own_row {w : World} {B s M : Nat} {e : TypeId} {v : Value} {vs : List Value} (h : w.ownsRow B e s v M vs) : ∃ a cap, v = .slice a M cap ∧ Row w w.heap.size a vs := by
  rcases h.2 with ⟨hv, h0⟩ | ⟨g, cp, cur, hv, hb, hc, hle, hm, hs, ht⟩
  · exact ⟨none, 0, by rw [hv, h0], .inl (List.eq_nil_of_length_eq_zero (by rw [h.1, h0]; simp))⟩
  · exact ⟨some ⟨g, 0, none⟩, cp, hv, (row_of_heap hc (by rw [h.1]; exact ht)).mono (Array.getElem?_eq_some_iff.1 hc).1⟩
theorem row_keep {W W' : World} {a : Option Addr} {vs : List Value} (h : Row W W.heap.size a vs) (hb : Below W.heap.size W W') : Row W' W'.heap.size a vs := (h.below hb (Nat.le_refl _)).mono hb.size

theorem num_call (W : World) (xs : List Int) (a : Option Addr) (n cap : Nat) (hr : Row W W.heap.size a (ints xs)) (hn : n = xs.length) (hl : n ≤ 1000000000) :
    Calls Try.prog 24 #[.slice a n cap, .slice (some ⟨W.heap.size, 0, none⟩) n n] (W.alloc (.cells (ints xs).toArray 3)) fun e w' => e = .returned (.bool true) ∧ Below W.heap.size W w' := by
  have hba : Below W.heap.size W (W.alloc (.cells (ints xs).toArray 3)) := (Below.refl _ _).alloc (Nat.le_refl _) _
  have hb := Blk.new W (ints xs).toArray 3
  refine (numbers_any xs xs a (some ⟨W.heap.size, 0, none⟩) n cap n n _ _ _ hn hn hl hl (row_keep hr hba) ((row_of_heap hb (by rw [List.toList_toArray, List.take_length])).mono (Blk.lt hb))).mono ?_
  rintro e w' ⟨rfl, h⟩
  exact ⟨by simp, hba.trans (h.mono hba.size)⟩
theorem spn_call (W : World) (xs : List (Int × Int)) (a : Option Addr) (n cap : Nat) (hr : Row W W.heap.size a (spans xs)) (hn : n = xs.length) (hl : n ≤ 1000000000) :
    Calls Try.prog 32 #[.slice a n cap, .slice (some ⟨W.heap.size, 0, none⟩) n n] (W.alloc (.cells (spans xs).toArray 53)) fun e w' => e = .returned (.bool true) ∧ Below W.heap.size W w' := by
  have hba : Below W.heap.size W (W.alloc (.cells (spans xs).toArray 53)) := (Below.refl _ _).alloc (Nat.le_refl _) _
  have hb := Blk.new W (spans xs).toArray 53
  refine (spans_law xs xs a (some ⟨W.heap.size, 0, none⟩) n cap n n _ _ _ hn hn hl hl (row_keep hr hba) ((row_of_heap hb (by rw [List.toList_toArray, List.take_length])).mono (Blk.lt hb))).mono ?_
  rintro e w' ⟨rfl, h⟩
  exact ⟨by simp, hba.trans (h.mono hba.size)⟩

set_option maxRecDepth 100000 in
set_option maxHeartbeats 8000000 in
theorem works_any (w : World) : Calls Try.prog 16 #[] w fun e w' => e = .returned (.bool true) ∧ Below w.heap.size w w' := by
  go_enter Try.func16, Try.ntmps16
  go_wp2_with fail
  refine (rootF_any 24 _).mono ?_
  rintro e W1 ⟨rfl, rfl⟩
  rw [show rootR 24 = ((4, 5), 0) from by decide +kernel]
  go_wp2_with fail
  refine (N_any 0 13 _).mono ?_
  rintro e W1 ⟨sa, ta, rfl, hN, hb1⟩
  have HN := hide hN
  clear hN
  go_wp2_with fail
  have hl : Row (W1.alloc (.cells #[.int .i64 0, .int .i64 1] 3)) (W1.alloc (.cells #[.int .i64 0, .int .i64 1] 3)).heap.size (some ⟨W1.heap.size, 0, none⟩) (ints [0, 1]) := (row_of_heap (Blk.new W1 #[.int .i64 0, .int .i64 1] 3) (by rfl)).mono (Blk.lt (Blk.new W1 #[.int .i64 0, .int .i64 1] 3))
  have hba : Below W1.heap.size W1 (W1.alloc (.cells #[.int .i64 0, .int .i64 1] 3)) := (Below.refl _ _).alloc (Nat.le_refl _) _
  refine (equation_any (nN 0 13) [0, 1] (some sa) (some ta) (some ⟨W1.heap.size, 0, none⟩) 5 5 2 2 2 2 _ (HN.out.below hba) rfl (by decide) hl ex_nz).mono ?_
  rintro e W2 ⟨v, rfl, hv, _, hb2⟩
  rw [ex_eq] at hv ⊢
  obtain ⟨gc, rfl, _, hbc⟩ := hv rfl
  have rc : Row W2 W2.heap.size (some ⟨gc, 0, none⟩) (ints [1, 1, 0, 1, -1]) := (row_of_heap hbc (by rfl)).mono hbc.lt
  have hB2 := hb1.trans ((hba.trans (hb2.mono hba.size)).mono hb1.size)
  clear hb1 hba hb2 hbc HN hl hv
  go_wp2_with fail
  refine (N_any 0 14 _).mono ?_
  rintro e W3 ⟨sa, ta, rfl, hN, hb1⟩
  have HN := hide hN
  have hB3 := hB2.trans (hb1.mono hB2.size)
  have rc3 := row_keep rc hb1
  clear hN hb1 hB2 rc
  go_wp2_with fail
  refine (squares_any (nN 0 14) (some sa) (some ta) 5 5 2 2 _ HN.out).mono ?_
  rintro e W4 ⟨v, rfl, hv, hb1⟩
  rw [ex_sq] at hv ⊢
  obtain ⟨aq, cs, rfl, rs⟩ := own_row hv
  have hB4 := hB3.trans (hb1.mono hB3.size)
  have rc4 := row_keep rc3 hb1
  clear hv hb1 HN hB3 rc3
  go_wp2_with fail
  refine (N_any 0 14 _).mono ?_
  rintro e W5 ⟨sa, ta, rfl, hN, hb1⟩
  have HN := hide hN
  have hB5 := hB4.trans (hb1.mono hB4.size)
  have rc5 := row_keep rc4 hb1
  have rs5 := row_keep rs hb1
  clear hN hb1 hB4 rc4 rs
  go_wp2_with fail
  refine (lengths_any (nN 0 14) (some sa) (some ta) 5 5 2 2 _ HN.out).mono ?_
  rintro e W6 ⟨v, rfl, hv, hb1⟩
  rw [ex_len] at hv ⊢
  obtain ⟨al, cl, rfl, rl⟩ := own_row hv
  have hB6 := hB5.trans (hb1.mono hB5.size)
  have rc6 := row_keep rc5 hb1
  have rs6 := row_keep rs5 hb1
  clear hv hb1 HN hB5 rc5 rs5
  go_wp2_with fail
  refine (N_any 0 14 _).mono ?_
  rintro e W7 ⟨sa, ta, rfl, hN, hb1⟩
  have HN := hide hN
  have hB7 := hB6.trans (hb1.mono hB6.size)
  have rc7 := row_keep rc6 hb1
  have rs7 := row_keep rs6 hb1
  have rl7 := row_keep rl hb1
  clear hN hb1 hB6 rc6 rs6 rl
  go_wp2_with fail
  refine (truth_any (nN 0 14) 4 true (some sa) (some ta) 5 5 2 2 _ HN.out (fun _ _ _ => ex_hb)).mono ?_
  rintro e W8 ⟨v, rfl, hv, hb1⟩
  rw [ex_tru] at hv ⊢
  obtain ⟨at', ct, rfl, rt'⟩ := own_row hv
  have hB8 := hB7.trans (hb1.mono hB7.size)
  have rc8 := row_keep rc7 hb1
  have rs8 := row_keep rs7 hb1
  have rl8 := row_keep rl7 hb1
  clear hv hb1 HN hB7 rc7 rs7 rl7
  go_wp2_with fail
  refine (N_any 14 20 _).mono ?_
  rintro e W9 ⟨sa, ta, rfl, hN, hb1⟩
  have HN := hide hN
  have hB9 := hB8.trans (hb1.mono hB8.size)
  have rc9 := row_keep rc8 hb1
  have rs9 := row_keep rs8 hb1
  have rl9 := row_keep rl8 hb1
  have rt9 := row_keep rt' hb1
  clear hN hb1 hB8 rc8 rs8 rl8 rt'
  go_wp2_with fail
  refine (clash_any (nN 14 20) (some sa) (some ta) 5 5 2 2 _ HN.out ex_nza).mono ?_
  rintro e WA ⟨v, rfl, hv, _, hb1⟩
  rw [ex_cla] at hv ⊢
  obtain ⟨bk, ck, rfl, rk⟩ := hv rfl
  have hBA := hB9.trans (hb1.mono hB9.size)
  have rcA := row_keep rc9 hb1
  have rsA := row_keep rs9 hb1
  have rlA := row_keep rl9 hb1
  have rtA := row_keep rt9 hb1
  clear hv hb1 HN hB9 rc9 rs9 rl9 rt9
  go_wp2_with fail
  refine (N_any 14 20 _).mono ?_
  rintro e WB ⟨sa, ta, rfl, hN, hb1⟩
  have HN := hide hN
  have hBB := hBA.trans (hb1.mono hBA.size)
  have rcB := row_keep rcA hb1
  have rsB := row_keep rsA hb1
  have rlB := row_keep rlA hb1
  have rtB := row_keep rtA hb1
  have rkB := row_keep rk hb1
  clear hN hb1 hBA rcA rsA rlA rtA rk
  go_wp2_with fail
  refine (suspects_any (nN 14 20) (some sa) (some ta) 5 5 2 2 _ HN.out).mono ?_
  rintro e WC ⟨v, rfl, hv, hb1⟩
  rw [ex_sus] at hv ⊢
  obtain ⟨au, cu, rfl, ru⟩ := own_row hv
  have hBC := hBB.trans (hb1.mono hBB.size)
  have rcC := row_keep rcB hb1
  have rsC := row_keep rsB hb1
  have rlC := row_keep rlB hb1
  have rtC := row_keep rtB hb1
  have rkC := row_keep rkB hb1
  clear hv hb1 HN hBB rcB rsB rlB rtB rkB
  go_wp2_with fail
  refine (num_call WC [1, 1, 0, 1, -1] _ _ _ rcC rfl (by decide)).mono ?_
  rintro e WD ⟨rfl, hb1⟩
  have hBD := hBC.trans (hb1.mono hBC.size)
  have rsD := row_keep rsC hb1
  have rlD := row_keep rlC hb1
  have rtD := row_keep rtC hb1
  have rkD := row_keep rkC hb1
  have ruD := row_keep ru hb1
  clear hb1 hBC rcC rsC rlC rtC rkC ru
  go_wp2_with fail
  refine (spn_call WD [(9, 9), (16, 25), (25, 34), (144, 144), (169, 178)] _ _ _ rsD rfl (by decide)).mono ?_
  rintro e WE ⟨rfl, hb1⟩
  have hBE := hBD.trans (hb1.mono hBD.size)
  have rlE := row_keep rlD hb1
  have rtE := row_keep rtD hb1
  have rkE := row_keep rkD hb1
  have ruE := row_keep ruD hb1
  clear hb1 hBD rsD rlD rtD rkD ruD
  go_wp2_with fail
  refine (spn_call WE [(3, 3), (4, 5), (5, 6), (12, 12), (13, 14)] _ _ _ rlE rfl (by decide)).mono ?_
  rintro e WF ⟨rfl, hb1⟩
  have hBF := hBE.trans (hb1.mono hBE.size)
  have rtF := row_keep rtE hb1
  have rkF := row_keep rkE hb1
  have ruF := row_keep ruE hb1
  clear hb1 hBE rlE rtE rkE ruE
  go_wp2_with fail
  refine (num_call WF [9, 25, 34, 144, 178] _ _ _ rtF rfl (by decide)).mono ?_
  rintro e WG ⟨rfl, hb1⟩
  have hBG := hBF.trans (hb1.mono hBF.size)
  have rkG := row_keep rkF hb1
  have ruG := row_keep ruF hb1
  clear hb1 hBF rtF rkF ruF
  go_wp2_with fail
  refine (N_any 14 20 _).mono ?_
  rintro e WH ⟨sa, ta, rfl, hN, hb1⟩
  have HN := hide hN
  have hBH := hBG.trans (hb1.mono hBG.size)
  have rkH := row_keep rkG hb1
  have ruH := row_keep ruG hb1
  clear hN hb1 hBG rkG ruG
  go_wp2_with fail
  refine (verify_any (nN 14 20) [1] (some sa) (some ta) (some ⟨bk, 0, none⟩) 5 5 2 2 1 ck _ HN.out rfl (by decide) rkH ex_nz1).mono ?_
  rintro e WI ⟨rfl, hb1⟩
  rw [ex_ver]
  have hBI := hBH.trans (hb1.mono hBH.size)
  have ruI := row_keep ruH hb1
  clear hb1 hBH rkH ruH HN
  go_wp2_with fail
  refine (N_any 14 20 _).mono ?_
  rintro e WJ ⟨sa, ta, rfl, hN, hb1⟩
  have HN := hide hN
  have hBJ := hBI.trans (hb1.mono hBI.size)
  have ruJ := row_keep ruI hb1
  clear hN hb1 hBI ruI
  go_wp2_with fail
  have hba : Below WJ.heap.size WJ (WJ.alloc (.cells #[.int .i64 0] 3)) := (Below.refl _ _).alloc (Nat.le_refl _) _
  have hl : Row (WJ.alloc (.cells #[.int .i64 0] 3)) (WJ.alloc (.cells #[.int .i64 0] 3)).heap.size (some ⟨WJ.heap.size, 0, none⟩) (ints [0]) := (row_of_heap (Blk.new WJ #[.int .i64 0] 3) (by rfl)).mono (Blk.lt (Blk.new WJ #[.int .i64 0] 3))
  refine (verify_any (nN 14 20) [0] (some sa) (some ta) (some ⟨WJ.heap.size, 0, none⟩) 5 5 2 2 1 1 _ (HN.out.below hba) rfl (by decide) hl ex_nz0).mono ?_
  rintro e WK ⟨rfl, hb2⟩
  rw [ex_ver0]
  have hb1 := hba.trans (hb2.mono hba.size)
  have hBK := hBJ.trans (hb1.mono hBJ.size)
  have ruK := row_keep ruJ hb1
  clear hb1 hb2 hba hl hBJ ruJ HN
  go_wp2_with fail
  refine (num_call WK [3, 4] _ _ _ ruK rfl (by decide)).mono ?_
  rintro e WL ⟨rfl, hb1⟩
  have hBL := hBK.trans (hb1.mono hBK.size)
  clear hb1 hBK ruK
  go_wp2_with fail
  go_ret
  exact ⟨rfl, hBL⟩

end Go.Proofs.Ytlbhnicengolfaa
