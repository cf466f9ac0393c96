/-
  slices.Equal; package period: Follow.
-/
import Derived.Test.YtjgebepeghgmcaaPer20
import Derived.Deep.DeepCutAuto
import Derived.Deep.DeepCutAuto
namespace Go.Proofs.Ytjgebepeghgmcaa
open Go.RowKit Go.Shelf
set_option linter.unusedVariables false
set_option linter.unusedSimpArgs false

set_option maxRecDepth 100000 in
set_option maxHeartbeats 1000000 in
theorem equal_any (xs ys : List Int) (a b : Option Addr) (n cap m cap' B B' : Nat) (w : World) (hn : n = xs.length) (hm : m = ys.length) (hl : n ≤ 1000000000) (hl' : m ≤ 1000000000) (h : Row w B a (ints xs)) (h' : Row w B' b (ints ys)) :
    Calls Try.prog 56 #[.slice a n cap, .slice b m cap'] w fun e w' => e = .returned (.bool (decide (xs = ys))) ∧ Below w.heap.size w w' := by
  by_cases hnm : n = m
  · subst hnm
    have HN := hide hn
    have HM := hide hm
    clear hn hm hl'
    go_enter Try.func56, Try.ntmps56
    go_wp2
    go_loopw [5, 13] (fun _ i wr => ∃ k : Nat, k ≤ n ∧ i = .int .i64 k ∧ Hid (xs.take k = ys.take k) ∧ ∃ q, wr = w.drewN q) (fun _ i _ => n - (intOf i).toNat)
    case atStart => exact ⟨0, Nat.zero_le _, rfl, hide rfl, 0, rfl⟩
    case round =>
      obtain ⟨k, hk, rfl, hpre, q, rfl⟩ := hrel
      by_cases hlt : k < n
      · have hkx : k < xs.length := by rw [← HN.out]; exact hlt
        have hky : k < ys.length := by rw [← HM.out]; exact hlt
        obtain ⟨ba, oa, rfl, hba, hca⟩ := h.int (by omega)
        obtain ⟨bb, ob, rfl, hbb, hcb⟩ := h'.int (by omega)
        have ca := hca k hkx
        have cb := hcb k hky
        have TX := hide (take_snoc xs k hkx)
        have TY := hide (take_snoc ys k hky)
        clear hca hcb h h' hba hbb hkx hky
        by_cases he : iat xs k = iat ys k
        · have HE := hide he
          have ht : (iat xs k != iat ys k) = false := by simp [he]
          clear he
          go_wp2
          go_quiet (fail)
          go_wp2
          go_roundw
          case rel => exact ⟨k + 1, by omega, by go_num, hide (by rw [TX.out, TY.out, hpre.out, HE.out]), _, rfl⟩
          case measure => simp [intOf]; omega
        · have ht : (iat xs k != iat ys k) = true := by simp [he]
          have HR : Hid (decide (xs = ys) = false) := hide (by
            simp only [decide_eq_false_iff_not]
            intro e
            exact he (by rw [e]))
          clear he
          go_wp2
          go_quiet (fail)
          go_wp2
          go_ret
          exact ⟨by rw [HR.out]; rfl, below_drewN (below_drewN (Below.refl _ _) _) _⟩
      · have HR : Hid (decide (xs = ys) = true) := hide (by
          simp only [decide_eq_true_eq]
          have e := hpre.out
          rwa [List.take_of_length_le (by rw [← HN.out]; omega), List.take_of_length_le (by rw [← HM.out]; omega)] at e)
        go_wp2
        go_ret
        exact ⟨by rw [HR.out]; rfl, below_drewN (Below.refl _ _) _⟩
  · have HR : Hid (decide (xs = ys) = false) := hide (by
      simp only [decide_eq_false_iff_not]
      intro e
      exact hnm (by rw [hn, hm, e]))
    have ht : ((n : Int) != (m : Int)) = true := by simp; omega
    clear hn hm hnm
    go_enter Try.func56, Try.ntmps56
    go_wp2
    go_ret
    exact ⟨by rw [HR.out]; rfl, Below.refl _ _⟩

/-! ### Follow -/
abbrev FS := (Int × Int) × (Int × Int)
def folStep (i : Nat) (n : Int) (s : FS) : FS :=
  if i % 2 = 1 then (s.1, (s.2.1 + n * s.1.1, s.2.2 + n * s.1.2)) else ((s.1.1 + n * s.2.1, s.1.2 + n * s.2.2), s.2)
def folOver (s : FS) : Bool := decide (1000000 < s.1.1 + s.2.1) || decide (1000000 < s.1.2 + s.2.2)
def folGo : Nat → FS → List Int → (Int × Int) × Int
  | _, s, [] => ((s.1.1 + s.2.1, s.1.2 + s.2.2), 0)
  | i, s, n :: r => if folOver (folStep i n s) then ((0, 0), 16) else folGo (i + 1) (folStep i n s) r
def folBad (path : List Int) : Bool := decide (path = [0]) || (decide (1 < path.length) && (path.drop 1).any (fun x => decide (x = 0)))
def followR (path : List Int) : (Int × Int) × Int :=
  if 40 < path.length then ((0, 0), 3) else if path.any (fun n => !bet 0 n 1000000) then ((0, 0), 1) else if folBad path then ((0, 0), 5) else folGo 0 ((0, 1), (1, 0)) path

/-- What Follow holds between two rounds. -/
structure FolI (path : List Int) (w : World) (bl ba : Nat) (k : Nat) (s : FS) (wr : World) : Prop where
  res : Blk wr w.heap.size #[.int .i64 0, .int .i64 0] 41
  bb : Blk wr bl #[.int .i64 s.1.1, .int .i64 s.1.2] 88
  bc : Blk wr ba #[.int .i64 s.2.1, .int .i64 s.2.2] 88
  be : Below w.heap.size w wr
  h1 : 0 ≤ s.1.1 ∧ s.1.1 ≤ 1000000
  h2 : 0 ≤ s.1.2 ∧ s.1.2 ≤ 1000000
  h3 : 0 ≤ s.2.1 ∧ s.2.1 ≤ 1000000
  h4 : 0 ≤ s.2.2 ∧ s.2.2 ≤ 1000000
  eq : folGo k s (path.drop k) = folGo 0 ((0, 1), (1, 0)) path

theorem folOver_false {s : FS} (h : folOver s = false) (h1 : 0 ≤ s.1.1) (h2 : 0 ≤ s.1.2) (h3 : 0 ≤ s.2.1) (h4 : 0 ≤ s.2.2) : s.1.1 ≤ 1000000 ∧ s.1.2 ≤ 1000000 ∧ s.2.1 ≤ 1000000 ∧ s.2.2 ≤ 1000000 ∧ s.1.1 + s.2.1 ≤ 1000000 ∧ s.1.2 + s.2.2 ≤ 1000000 := by
  simp only [folOver, Bool.or_eq_false_iff, decide_eq_false_iff_not] at h
  omega
theorem folGo_drop {path : List Int} {k : Nat} (hk : k < path.length) (s : FS) : folGo k s (path.drop k) = if folOver (folStep k (iat path k) s) then ((0, 0), 16) else folGo (k + 1) (folStep k (iat path k) s) (path.drop (k + 1)) := by
  rw [List.drop_eq_getElem_cons hk, ← iat_eq path k hk]
  rfl
theorem mul_mil {n x : Int} (h1 : 0 ≤ n) (h2 : n ≤ 1000000) (h3 : 0 ≤ x) (h4 : x ≤ 1000000) : 0 ≤ n * x ∧ n * x ≤ 1000000000000 :=
  ⟨Int.mul_nonneg h1 h3, by have := Int.mul_le_mul h2 h4 h3 (by omega); omega⟩

set_option maxRecDepth 100000 in
set_option maxHeartbeats 8000000 in
theorem follow_any (path : List Int) (a : Option Addr) (n cap : Nat) (w : World) (hn : n = path.length) (hl : n ≤ 1000000000) (hnc : n ≤ cap) (hnil : a = none → path = []) (h : Row w w.heap.size a (ints path)) :
    Calls Try.prog 24 #[.slice a n cap] w fun e w' => e = .returned (.tuple #[.agg #[.int .i64 (followR path).1.1, .int .i64 (followR path).1.2], .int .i64 (followR path).2]) ∧ Below w.heap.size w w' := by
  by_cases h40 : 40 < n
  · have HR : Hid (followR path = ((0, 0), 3)) := hide (by unfold followR; rw [if_pos (by omega)])
    have ht : ((n : Int) > 40) := by omega
    clear hn hnil
    go_enter Try.func24, Try.ntmps24
    go_wp2
    refine bodyPost_ret (v := .tuple #[.agg #[.int .i64 0, .int .i64 0], .int .i64 3]) (by simp [results, Try.results24, go_sem]) rfl ⟨by rw [HR.out], (Below.refl _ _).alloc (Nat.le_refl _) _⟩
  have HCF := hide (fun w (h : Row w w.heap.size a (ints path)) => containsFunc_any (fun x => !bet 0 x 1000000) 54 path a n cap _ w hn hl h (enters_of Try.func54 (by kernel_rfl) rfl) follow1_any)
  have hba := (Below.refl w.heap.size w).alloc (Nat.le_refl _) (.cells #[.int .i64 0, .int .i64 0] 41)
  have hV := (h.below hba (Nat.le_refl _)).mono hba.size
  cases hany : path.any (fun x => !bet 0 x 1000000) with
  | true =>
    have HR : Hid (followR path = ((0, 0), 1)) := hide (by unfold followR; rw [if_neg (by omega), if_pos hany])
    have HA := hide hany
    clear hn hany hnil
    go_enter Try.func24, Try.ntmps24
    go_wp2_with fail
    refine (HCF.out _ hV).mono ?_
    rintro e w' ⟨rfl, rfl⟩
    rw [HA.out]
    go_wp2_with fail
    refine bodyPost_ret (v := .tuple #[.agg #[.int .i64 0, .int .i64 0], .int .i64 1]) (by simp [results, Try.results24, go_sem]) rfl ⟨by rw [HR.out], hba⟩
  | false =>
    have HA := hide hany
    have hel : ∀ k, k < path.length → 0 ≤ iat path k ∧ iat path k ≤ 1000000 := fun k hk => by
      have := List.any_eq_false.1 hany (iat path k) (by rw [iat_eq path k hk]; exact List.getElem_mem hk)
      simp [bet] at this
      omega
    have HEL := hide hel
    clear hany hel
    have HEQ := hide (fun (b : Option Addr) (w : World) (h : Row w w.heap.size a (ints path)) (h' : Row w w.heap.size b (ints [0])) => equal_any path [0] a b n cap 1 1 _ _ w hn rfl hl (by omega) h h')
    have HCO := hide (fun (b : Option Addr) (c : Nat) (w : World) (h : Row w w.heap.size b (ints (path.drop 1))) => contains_any 0 (path.drop 1) b (n - 1) c _ w (by simp; omega) (by omega) h)
    have HN := hide hn
    have hFB : Hid (folBad path = (decide (path = [0]) || (decide (1 < n) && (path.drop 1).any (fun x => decide (x = 0))))) := hide (by unfold folBad; rw [hn])
    have HNIL := hide hnil
    have HFR : Hid (followR path = if folBad path then ((0, 0), 5) else folGo 0 ((0, 1), (1, 0)) path) := hide (by unfold followR; rw [if_neg (by omega), HA.out]; rfl)
    clear hn hnil
    go_enter Try.func24, Try.ntmps24
    go_wp2_with fail
    refine (HCF.out _ hV).mono ?_
    rintro e w' ⟨rfl, rfl⟩
    rw [HA.out]
    go_wp2_with fail
    obtain ⟨V, hVd⟩ : ∃ V, (w.alloc (.cells #[.int .i64 0, .int .i64 0] 41)).alloc (.cells #[.int .i64 0] 3) = V := ⟨_, rfl⟩
    have hB : Below w.heap.size w V := by rw [← hVd]; exact hba.alloc (by simp) _
    have b0 : Blk V w.heap.size #[.int .i64 0, .int .i64 0] 41 := by rw [← hVd]; exact (Blk.new w _ _).alloc _
    have b1 : Blk V (w.heap.size + 1) #[.int .i64 0] 3 := by rw [← hVd]; exact (by simpa using Blk.new (World.alloc w _) _ _)
    have hpV := (h.below hB (Nat.le_refl _)).mono hB.size
    have hr1 : Row V V.heap.size (some ⟨w.heap.size + 1, 0, none⟩) (ints [0]) := .inr ⟨w.heap.size + 1, 0, rfl, b1.lt, fun i hi => by
      obtain rfl : i = 0 := by simpa [ints] using hi
      exact b1.one.1⟩
    rw [hVd]
    clear hVd hba hV b1
    refine (HEQ.out _ V hpV hr1).mono ?_
    rintro e W1 ⟨rfl, hb1⟩
    have c0 := b0.kept hb1
    have hB1 := hB.trans (hb1.mono hB.size)
    have hp1 := (hpV.below hb1 (Nat.le_refl _)).mono hb1.size
    clear b0 hb1 hB hpV hr1
    have hs1 := hB1.size
    have x1 := c0.two
    have y1 := c0.lt
    by_cases hp0 : path = [0]
    · have HR : Hid (followR path = ((0, 0), 5)) := hide (by rw [HFR.out, hFB.out]; simp [hp0])
      have ht : decide (path = [0]) = true := by simp [hp0]
      clear hp0
      go_wp2_with fail
      have q2 := c0.set2 (.int .i64 0) (.int .i64 0)
      have hBf := below_set2 hB1 (k := w.heap.size) (by omega) (.int .i64 0) (.int .i64 0)
      refine bodyPost_ret (v := .tuple #[.agg #[.int .i64 0, .int .i64 0], .int .i64 5]) (by simp [results, Try.results24, go_sem, q2.two]) rfl ⟨by rw [HR.out], hBf⟩
    · have ht : decide (path = [0]) = false := by simp [hp0]
      cases hz : (decide (1 < n) && (path.drop 1).any (fun x => decide (x = 0))) with
      | true =>
        have HR : Hid (followR path = ((0, 0), 5)) := hide (by rw [HFR.out, hFB.out, hz, Bool.or_true]; rfl)
        rw [Bool.and_eq_true, decide_eq_true_eq] at hz
        obtain ⟨hn1, hz⟩ := hz
        have HZ := hide hz
        clear hp0 hz HEQ
        obtain ⟨b, off, rfl, _, hcl⟩ := hp1.int (by rw [← HN.out]; omega)
        have hpc := hp1.cut 1 path.length
        rw [ints_cut, List.take_of_length_le (by simp)] at hpc
        have hcp : 1 < cap := by omega
        clear hcl
        go_wp2_with fail
        refine (HCO.out _ _ _ hpc).mono ?_
        rintro e W2 ⟨rfl, rfl⟩
        rw [HZ.out]
        go_wp2_with fail
        have q2 := c0.set2 (.int .i64 0) (.int .i64 0)
        have hBf := below_set2 hB1 (k := w.heap.size) (by omega) (.int .i64 0) (.int .i64 0)
        refine bodyPost_ret (v := .tuple #[.agg #[.int .i64 0, .int .i64 0], .int .i64 5]) (by simp [results, Try.results24, go_sem, q2.two]) rfl ⟨by rw [HR.out], hBf⟩
      | false =>
        have HR : Hid (followR path = folGo 0 ((0, 1), (1, 0)) path) := hide (by rw [HFR.out, hFB.out, hz, ht]; rfl)
        by_cases hn1 : 1 < n
        · have hz' : (path.drop 1).any (fun x => decide (x = 0)) = false := by simpa [hn1] using hz
          have HZ := hide hz'
          clear hp0 hz hz' HEQ HNIL
          obtain ⟨b, off, rfl, _, hcl⟩ := hp1.int (by rw [← HN.out]; omega)
          have hpc := hp1.cut 1 path.length
          rw [ints_cut, List.take_of_length_le (by simp)] at hpc
          have hcp : 1 < cap := by omega
          clear hcl
          go_wp2_with fail
          refine (HCO.out _ _ _ hpc).mono ?_
          rintro e W2 ⟨rfl, rfl⟩
          rw [HZ.out]
          clear HZ hcp hn1 hpc
          go_wp2_with fail
          generalize hU : World.alloc (World.alloc W1 _) _ = U
          have hBU : Below w.heap.size w U := by rw [← hU]; exact (hB1.alloc hs1 _).alloc (by simp; omega) _
          have d0 : Blk U w.heap.size #[.int .i64 0, .int .i64 0] 41 := by rw [← hU]; exact (c0.alloc _).alloc _
          have d1 : Blk U W1.heap.size #[.int .i64 0, .int .i64 1] 88 := by rw [← hU]; exact (Blk.new W1 _ _).alloc _
          have d2 : Blk U (W1.heap.size + 1) #[.int .i64 1, .int .i64 0] 88 := by rw [← hU]; exact (by simpa using Blk.new (World.alloc W1 _) _ _)
          clear hU x1 y1
          have hlt1 : W1.heap.size < W1.heap.size + 1 := Nat.lt_succ_self _
          have hlt0 : w.heap.size < W1.heap.size := c0.lt
          generalize W1.heap.size + 1 = ba at *
          generalize W1.heap.size = bl at *
          clear hs1 hB1 hp1 c0 HCF HCO
          have h0I : FolI path w bl ba 0 ((0, 1), (1, 0)) U := ⟨d0, d1, d2, hBU, by decide, by decide, by decide, by decide, by rw [List.drop_zero]⟩
          clear d0 d1 d2 hBU
          go_loopw [6, 7, 8, 9, 38] (fun _ _ _ _ i wr => ∃ (k : Nat) (s : FS), k ≤ n ∧ i = .int .i64 k ∧ FolI path w bl ba k s wr) (fun _ _ _ _ i _ => n - (intOf i).toNat)
          case atStart => exact ⟨0, _, Nat.zero_le _, rfl, h0I⟩
          case round =>
            obtain ⟨k, s, hk, rfl, hI⟩ := hrel
            clear h0I
            obtain ⟨d0, d1, d2, hbe, g1, g2, g3, g4, heq⟩ := hI
            have HEQ := hide heq
            clear heq
            have hsw := hbe.size
            have l1 := d1.lt
            have l2 := d2.lt
            by_cases hlt : k < n
            · have hkp : k < path.length := by rw [← HN.out]; exact hlt
              obtain ⟨bp, op, ⟨⟩, _, hcp'⟩ := (h.below hbe (Nat.le_refl _)).int (by omega)
              have hcell := hcp' k hkp
              have hel := HEL.out k hkp
              have HG := hide (folGo_drop hkp s)
              clear hcp'
              generalize iat path k = x at *
              obtain ⟨⟨s1, s2⟩, ⟨s3, s4⟩⟩ := s
              dsimp only at *
              have m1 := mul_mil hel.1 hel.2 g1.1 g1.2
              have m2 := mul_mil hel.1 hel.2 g2.1 g2.2
              have m3 := mul_mil hel.1 hel.2 g3.1 g3.2
              have m4 := mul_mil hel.1 hel.2 g4.1 g4.2
              obtain ⟨v0, v1, f0, f1⟩ := d1.two
              obtain ⟨w0, w1, e0, e1⟩ := d2.two
              rcases Nat.mod_two_eq_zero_or_one k with hpar | hpar
              · have hpi : (((k : Int) % 2) == 1) = false := by simp; omega
                have HST : Hid (folStep k x ((s1, s2), (s3, s4)) = ((s1 + x * s3, s2 + x * s4), (s3, s4))) := hide (by unfold folStep; rw [if_neg (by omega)])
                clear hpar
                go_wp2_with fail
                have hBV := hbe.alloc hsw (.cells #[.int .i64 s3, .int .i64 s4] 88)
                have k0 := d0.alloc (.cells #[.int .i64 s3, .int .i64 s4] 88)
                have k1 := d1.alloc (.cells #[.int .i64 s3, .int .i64 s4] 88)
                have k2 := d2.alloc (.cells #[.int .i64 s3, .int .i64 s4] 88)
                have kf := Blk.new wr #[.int .i64 s3, .int .i64 s4] 88
                clear v0 v1 f0 f1 w0 w1 e0 e1 hcell l1 l2
                have lf : ba < wr.heap.size := d2.lt
                generalize World.alloc wr _ = V1 at *
                generalize wr.heap.size = bf at *
                clear d0 d1 d2 hbe hsw
                obtain ⟨v0, v1, f0, f1⟩ := k1.two
                obtain ⟨w0, w1, e0, e1⟩ := k2.two
                obtain ⟨t0, t1, _, _⟩ := kf.two
                refine wp_region_head (fun q : Nat => V1.drewN q) 11 (by kernel_rfl) (by kernel_rfl) ⟨1, rfl⟩ ?_
                simp only [List.take_succ_cons, List.take_zero, List.drop_succ_cons, List.drop_zero]
                repeat (quiet_step (fail))
                refine wpQuiet_nil ?_
                intro q1
                go_wp2_with fail
                have hBV2 := (below_drewN hBV q1).setCell (p := ⟨bl, 0, none⟩) (by show w.heap.size ≤ bl; omega) (.int .i64 (s1 + x * s3))
                have j0 := (k0.drewN q1).other (p := ⟨bl, 0, none⟩) (by show w.heap.size ≠ bl; omega) (.int .i64 (s1 + x * s3))
                have jf := (kf.drewN q1).other (p := ⟨bl, 0, none⟩) (by show bf ≠ bl; omega) (.int .i64 (s1 + x * s3))
                have j1 : Blk _ bl #[.int .i64 (s1 + x * s3), .int .i64 s2] _ := (k1.drewN q1).set 0 (.int .i64 (s1 + x * s3))
                have j2 : Blk _ ba #[.int .i64 s3, .int .i64 s4] _ := (k2.drewN q1).other (p := ⟨bl, 0, none⟩) (by show ba ≠ bl; omega) (.int .i64 (s1 + x * s3))
                generalize World.setCell (V1.drewN q1) _ _ = V2 at *
                clear v0 v1 f0 f1 w0 w1 e0 e1 t0 t1 k0 k1 k2 kf hBV
                obtain ⟨v0, v1, f0, f1⟩ := j1.two
                obtain ⟨w0, w1, e0, e1⟩ := j2.two
                obtain ⟨t0, t1, _, _⟩ := jf.two
                refine wp_region_head (fun q : Nat => V2.drewN q) 11 (by kernel_rfl) (by kernel_rfl) ⟨1, rfl⟩ ?_
                simp only [List.take_succ_cons, List.take_zero, List.drop_succ_cons, List.drop_zero]
                repeat (quiet_step (fail))
                refine wpQuiet_nil ?_
                intro q2
                have hBV3 := (below_drewN hBV2 q2).setCell (p := ⟨bl, 1, none⟩) (by show w.heap.size ≤ bl; omega) (.int .i64 (s2 + x * s4))
                have k0 := (j0.drewN q2).other (p := ⟨bl, 1, none⟩) (by show w.heap.size ≠ bl; omega) (.int .i64 (s2 + x * s4))
                have k1 : Blk _ bl #[.int .i64 (s1 + x * s3), .int .i64 (s2 + x * s4)] _ := (j1.drewN q2).set 1 (.int .i64 (s2 + x * s4))
                have k2 : Blk _ ba #[.int .i64 s3, .int .i64 s4] _ := (j2.drewN q2).other (p := ⟨bl, 1, none⟩) (by show ba ≠ bl; omega) (.int .i64 (s2 + x * s4))
                go_upto_region 16 with (fail)
                generalize World.setCell (V2.drewN q2) _ _ = V3 at *
                clear v0 v1 f0 f1 w0 w1 e0 e1 t0 t1 j0 j1 j2 jf hBV2
                obtain ⟨v0, v1, f0, f1⟩ := k1.two
                obtain ⟨w0, w1, e0, e1⟩ := k2.two
                obtain ⟨z0, z1, y0, y1⟩ := k0.two
                have lz := k0.lt
                by_cases ho1 : 1000000 < (s1 + x * s3) + s3
                · have HF : Hid (followR path = ((0, 0), 16)) := hide (by
                    rw [HR.out, ← HEQ.out, HG.out, HST.out, if_pos]
                    simp [folOver, ho1])
                  clear HEQ HG HST
                  go_wp2_with fail
                  have q2 := k0.set2 (.int .i64 0) (.int .i64 0)
                  have hBf := below_set2 hBV3 (k := w.heap.size) (by omega) (.int .i64 0) (.int .i64 0)
                  refine bodyPost_ret (v := .tuple #[.agg #[.int .i64 0, .int .i64 0], .int .i64 16]) (by simp [results, Try.results24, go_sem, q2.two]) rfl ⟨by rw [HF.out], hBf⟩
                · by_cases ho2 : 1000000 < (s2 + x * s4) + s4
                  · have HF : Hid (followR path = ((0, 0), 16)) := hide (by
                      rw [HR.out, ← HEQ.out, HG.out, HST.out, if_pos]
                      simp [folOver, ho2])
                    clear HEQ HG HST
                    go_wp2_with fail
                    have q2 := k0.set2 (.int .i64 0) (.int .i64 0)
                    have hBf := below_set2 hBV3 (k := w.heap.size) (by omega) (.int .i64 0) (.int .i64 0)
                    refine bodyPost_ret (v := .tuple #[.agg #[.int .i64 0, .int .i64 0], .int .i64 16]) (by simp [results, Try.results24, go_sem, q2.two]) rfl ⟨by rw [HF.out], hBf⟩
                  · have HF : Hid (folGo (k + 1) (((s1 + x * s3), (s2 + x * s4)), (s3, s4)) (path.drop (k + 1)) = folGo 0 ((0, 1), (1, 0)) path) := hide (by
                      rw [← HEQ.out, HG.out, HST.out, if_neg]
                      simp [folOver]; omega)
                    clear HEQ HG HST
                    have ho1' : decide (1000000 < (s1 + x * s3) + s3) = false := by simpa using ho1
                    have ho2' : decide (1000000 < (s2 + x * s4) + s4) = false := by simpa using ho2
                    go_wp2_with fail
                    go_roundw
                    case rel => exact ⟨k + 1, (((s1 + x * s3), (s2 + x * s4)), (s3, s4)), by omega, by go_num, ⟨k0, k1, k2, hBV3, by dsimp only; omega, by dsimp only; omega, by dsimp only; omega, by dsimp only; omega, HF.out⟩⟩
                    case measure => simp [intOf]; omega
              · have hpi : (((k : Int) % 2) == 1) = true := by simp; omega
                have HST : Hid (folStep k x ((s1, s2), (s3, s4)) = ((s1, s2), (s3 + x * s1, s4 + x * s2))) := hide (by unfold folStep; rw [if_pos hpar])
                clear hpar
                go_wp2_with fail
                have hBV := hbe.alloc hsw (.cells #[.int .i64 s1, .int .i64 s2] 88)
                have k0 := d0.alloc (.cells #[.int .i64 s1, .int .i64 s2] 88)
                have k1 := d1.alloc (.cells #[.int .i64 s1, .int .i64 s2] 88)
                have k2 := d2.alloc (.cells #[.int .i64 s1, .int .i64 s2] 88)
                have kf := Blk.new wr #[.int .i64 s1, .int .i64 s2] 88
                clear v0 v1 f0 f1 w0 w1 e0 e1 hcell l1 l2
                have lf : ba < wr.heap.size := d2.lt
                generalize World.alloc wr _ = V1 at *
                generalize wr.heap.size = bf at *
                clear d0 d1 d2 hbe hsw
                obtain ⟨v0, v1, f0, f1⟩ := k1.two
                obtain ⟨w0, w1, e0, e1⟩ := k2.two
                obtain ⟨t0, t1, _, _⟩ := kf.two
                refine wp_region_head (fun q : Nat => V1.drewN q) 11 (by kernel_rfl) (by kernel_rfl) ⟨1, rfl⟩ ?_
                simp only [List.take_succ_cons, List.take_zero, List.drop_succ_cons, List.drop_zero]
                repeat (quiet_step (fail))
                refine wpQuiet_nil ?_
                intro q1
                go_wp2_with fail
                have hBV2 := (below_drewN hBV q1).setCell (p := ⟨ba, 0, none⟩) (by show w.heap.size ≤ ba; omega) (.int .i64 (s3 + x * s1))
                have j0 := (k0.drewN q1).other (p := ⟨ba, 0, none⟩) (by show w.heap.size ≠ ba; omega) (.int .i64 (s3 + x * s1))
                have jf := (kf.drewN q1).other (p := ⟨ba, 0, none⟩) (by show bf ≠ ba; omega) (.int .i64 (s3 + x * s1))
                have j1 : Blk _ bl #[.int .i64 s1, .int .i64 s2] _ := (k1.drewN q1).other (p := ⟨ba, 0, none⟩) (by show bl ≠ ba; omega) (.int .i64 (s3 + x * s1))
                have j2 : Blk _ ba #[.int .i64 (s3 + x * s1), .int .i64 s4] _ := (k2.drewN q1).set 0 (.int .i64 (s3 + x * s1))
                generalize World.setCell (V1.drewN q1) _ _ = V2 at *
                clear v0 v1 f0 f1 w0 w1 e0 e1 t0 t1 k0 k1 k2 kf hBV
                obtain ⟨v0, v1, f0, f1⟩ := j1.two
                obtain ⟨w0, w1, e0, e1⟩ := j2.two
                obtain ⟨t0, t1, _, _⟩ := jf.two
                refine wp_region_head (fun q : Nat => V2.drewN q) 11 (by kernel_rfl) (by kernel_rfl) ⟨1, rfl⟩ ?_
                simp only [List.take_succ_cons, List.take_zero, List.drop_succ_cons, List.drop_zero]
                repeat (quiet_step (fail))
                refine wpQuiet_nil ?_
                intro q2
                have hBV3 := (below_drewN hBV2 q2).setCell (p := ⟨ba, 1, none⟩) (by show w.heap.size ≤ ba; omega) (.int .i64 (s4 + x * s2))
                have k0 := (j0.drewN q2).other (p := ⟨ba, 1, none⟩) (by show w.heap.size ≠ ba; omega) (.int .i64 (s4 + x * s2))
                have k1 : Blk _ bl #[.int .i64 s1, .int .i64 s2] _ := (j1.drewN q2).other (p := ⟨ba, 1, none⟩) (by show bl ≠ ba; omega) (.int .i64 (s4 + x * s2))
                have k2 : Blk _ ba #[.int .i64 (s3 + x * s1), .int .i64 (s4 + x * s2)] _ := (j2.drewN q2).set 1 (.int .i64 (s4 + x * s2))
                go_upto_region 16 with (fail)
                generalize World.setCell (V2.drewN q2) _ _ = V3 at *
                clear v0 v1 f0 f1 w0 w1 e0 e1 t0 t1 j0 j1 j2 jf hBV2
                obtain ⟨v0, v1, f0, f1⟩ := k1.two
                obtain ⟨w0, w1, e0, e1⟩ := k2.two
                obtain ⟨z0, z1, y0, y1⟩ := k0.two
                have lz := k0.lt
                by_cases ho1 : 1000000 < s1 + (s3 + x * s1)
                · have HF : Hid (followR path = ((0, 0), 16)) := hide (by
                    rw [HR.out, ← HEQ.out, HG.out, HST.out, if_pos]
                    simp [folOver, ho1])
                  clear HEQ HG HST
                  go_wp2_with fail
                  have q2 := k0.set2 (.int .i64 0) (.int .i64 0)
                  have hBf := below_set2 hBV3 (k := w.heap.size) (by omega) (.int .i64 0) (.int .i64 0)
                  refine bodyPost_ret (v := .tuple #[.agg #[.int .i64 0, .int .i64 0], .int .i64 16]) (by simp [results, Try.results24, go_sem, q2.two]) rfl ⟨by rw [HF.out], hBf⟩
                · by_cases ho2 : 1000000 < s2 + (s4 + x * s2)
                  · have HF : Hid (followR path = ((0, 0), 16)) := hide (by
                      rw [HR.out, ← HEQ.out, HG.out, HST.out, if_pos]
                      simp [folOver, ho2])
                    clear HEQ HG HST
                    go_wp2_with fail
                    have q2 := k0.set2 (.int .i64 0) (.int .i64 0)
                    have hBf := below_set2 hBV3 (k := w.heap.size) (by omega) (.int .i64 0) (.int .i64 0)
                    refine bodyPost_ret (v := .tuple #[.agg #[.int .i64 0, .int .i64 0], .int .i64 16]) (by simp [results, Try.results24, go_sem, q2.two]) rfl ⟨by rw [HF.out], hBf⟩
                  · have HF : Hid (folGo (k + 1) ((s1, s2), ((s3 + x * s1), (s4 + x * s2))) (path.drop (k + 1)) = folGo 0 ((0, 1), (1, 0)) path) := hide (by
                      rw [← HEQ.out, HG.out, HST.out, if_neg]
                      simp [folOver]; omega)
                    clear HEQ HG HST
                    have ho1' : decide (1000000 < s1 + (s3 + x * s1)) = false := by simpa using ho1
                    have ho2' : decide (1000000 < s2 + (s4 + x * s2)) = false := by simpa using ho2
                    go_wp2_with fail
                    go_roundw
                    case rel => exact ⟨k + 1, ((s1, s2), ((s3 + x * s1), (s4 + x * s2))), by omega, by go_num, ⟨k0, k1, k2, hBV3, by dsimp only; omega, by dsimp only; omega, by dsimp only; omega, by dsimp only; omega, HF.out⟩⟩
                    case measure => simp [intOf]; omega
            · have HF : Hid (followR path = ((s.1.1 + s.2.1, s.1.2 + s.2.2), 0)) := hide (by rw [HR.out, ← HEQ.out, List.drop_of_length_le (by rw [← HN.out]; omega)]; rfl)
              obtain ⟨⟨s1, s2⟩, ⟨s3, s4⟩⟩ := s
              dsimp only at *
              obtain ⟨v0, v1, f0, f1⟩ := d1.two
              obtain ⟨w0, w1, e0, e1⟩ := d2.two
              obtain ⟨z0, z1, y0, y1⟩ := d0.two
              have l0 := d0.lt
              go_wp2_with fail
              have q2 := d0.set2 (.int .i64 (s1 + s3)) (.int .i64 (s2 + s4))
              have hBf := below_set2 hbe (k := w.heap.size) (by omega) (.int .i64 (s1 + s3)) (.int .i64 (s2 + s4))
              refine bodyPost_ret (v := .tuple #[.agg #[.int .i64 (s1 + s3), .int .i64 (s2 + s4)], .int .i64 0]) (by simp [results, Try.results24, go_sem, q2.two]) rfl ⟨by rw [HF.out], hBf⟩
        · clear hp0 hz HEQ HNIL
          go_wp2_with fail
          generalize hU : World.alloc (World.alloc W1 _) _ = U
          have hBU : Below w.heap.size w U := by rw [← hU]; exact (hB1.alloc hs1 _).alloc (by simp; omega) _
          have d0 : Blk U w.heap.size #[.int .i64 0, .int .i64 0] 41 := by rw [← hU]; exact (c0.alloc _).alloc _
          have d1 : Blk U W1.heap.size #[.int .i64 0, .int .i64 1] 88 := by rw [← hU]; exact (Blk.new W1 _ _).alloc _
          have d2 : Blk U (W1.heap.size + 1) #[.int .i64 1, .int .i64 0] 88 := by rw [← hU]; exact (by simpa using Blk.new (World.alloc W1 _) _ _)
          clear hU x1 y1
          have hlt1 : W1.heap.size < W1.heap.size + 1 := Nat.lt_succ_self _
          have hlt0 : w.heap.size < W1.heap.size := c0.lt
          generalize W1.heap.size + 1 = ba at *
          generalize W1.heap.size = bl at *
          clear hs1 hB1 hp1 c0 HCF HCO
          have h0I : FolI path w bl ba 0 ((0, 1), (1, 0)) U := ⟨d0, d1, d2, hBU, by decide, by decide, by decide, by decide, by rw [List.drop_zero]⟩
          clear d0 d1 d2 hBU
          go_loopw [6, 7, 8, 9, 38] (fun _ _ _ _ i wr => ∃ (k : Nat) (s : FS), k ≤ n ∧ i = .int .i64 k ∧ FolI path w bl ba k s wr) (fun _ _ _ _ i _ => n - (intOf i).toNat)
          case atStart => exact ⟨0, _, Nat.zero_le _, rfl, h0I⟩
          case round =>
            obtain ⟨k, s, hk, rfl, hI⟩ := hrel
            clear h0I
            obtain ⟨d0, d1, d2, hbe, g1, g2, g3, g4, heq⟩ := hI
            have HEQ := hide heq
            clear heq
            have hsw := hbe.size
            have l1 := d1.lt
            have l2 := d2.lt
            by_cases hlt : k < n
            · have hkp : k < path.length := by rw [← HN.out]; exact hlt
              obtain ⟨bp, op, ⟨⟩, _, hcp'⟩ := (h.below hbe (Nat.le_refl _)).int (by omega)
              have hcell := hcp' k hkp
              have hel := HEL.out k hkp
              have HG := hide (folGo_drop hkp s)
              clear hcp'
              generalize iat path k = x at *
              obtain ⟨⟨s1, s2⟩, ⟨s3, s4⟩⟩ := s
              dsimp only at *
              have m1 := mul_mil hel.1 hel.2 g1.1 g1.2
              have m2 := mul_mil hel.1 hel.2 g2.1 g2.2
              have m3 := mul_mil hel.1 hel.2 g3.1 g3.2
              have m4 := mul_mil hel.1 hel.2 g4.1 g4.2
              obtain ⟨v0, v1, f0, f1⟩ := d1.two
              obtain ⟨w0, w1, e0, e1⟩ := d2.two
              rcases Nat.mod_two_eq_zero_or_one k with hpar | hpar
              · have hpi : (((k : Int) % 2) == 1) = false := by simp; omega
                have HST : Hid (folStep k x ((s1, s2), (s3, s4)) = ((s1 + x * s3, s2 + x * s4), (s3, s4))) := hide (by unfold folStep; rw [if_neg (by omega)])
                clear hpar
                go_wp2_with fail
                have hBV := hbe.alloc hsw (.cells #[.int .i64 s3, .int .i64 s4] 88)
                have k0 := d0.alloc (.cells #[.int .i64 s3, .int .i64 s4] 88)
                have k1 := d1.alloc (.cells #[.int .i64 s3, .int .i64 s4] 88)
                have k2 := d2.alloc (.cells #[.int .i64 s3, .int .i64 s4] 88)
                have kf := Blk.new wr #[.int .i64 s3, .int .i64 s4] 88
                clear v0 v1 f0 f1 w0 w1 e0 e1 hcell l1 l2
                have lf : ba < wr.heap.size := d2.lt
                generalize World.alloc wr _ = V1 at *
                generalize wr.heap.size = bf at *
                clear d0 d1 d2 hbe hsw
                obtain ⟨v0, v1, f0, f1⟩ := k1.two
                obtain ⟨w0, w1, e0, e1⟩ := k2.two
                obtain ⟨t0, t1, _, _⟩ := kf.two
                refine wp_region_head (fun q : Nat => V1.drewN q) 11 (by kernel_rfl) (by kernel_rfl) ⟨1, rfl⟩ ?_
                simp only [List.take_succ_cons, List.take_zero, List.drop_succ_cons, List.drop_zero]
                repeat (quiet_step (fail))
                refine wpQuiet_nil ?_
                intro q1
                go_wp2_with fail
                have hBV2 := (below_drewN hBV q1).setCell (p := ⟨bl, 0, none⟩) (by show w.heap.size ≤ bl; omega) (.int .i64 (s1 + x * s3))
                have j0 := (k0.drewN q1).other (p := ⟨bl, 0, none⟩) (by show w.heap.size ≠ bl; omega) (.int .i64 (s1 + x * s3))
                have jf := (kf.drewN q1).other (p := ⟨bl, 0, none⟩) (by show bf ≠ bl; omega) (.int .i64 (s1 + x * s3))
                have j1 : Blk _ bl #[.int .i64 (s1 + x * s3), .int .i64 s2] _ := (k1.drewN q1).set 0 (.int .i64 (s1 + x * s3))
                have j2 : Blk _ ba #[.int .i64 s3, .int .i64 s4] _ := (k2.drewN q1).other (p := ⟨bl, 0, none⟩) (by show ba ≠ bl; omega) (.int .i64 (s1 + x * s3))
                generalize World.setCell (V1.drewN q1) _ _ = V2 at *
                clear v0 v1 f0 f1 w0 w1 e0 e1 t0 t1 k0 k1 k2 kf hBV
                obtain ⟨v0, v1, f0, f1⟩ := j1.two
                obtain ⟨w0, w1, e0, e1⟩ := j2.two
                obtain ⟨t0, t1, _, _⟩ := jf.two
                refine wp_region_head (fun q : Nat => V2.drewN q) 11 (by kernel_rfl) (by kernel_rfl) ⟨1, rfl⟩ ?_
                simp only [List.take_succ_cons, List.take_zero, List.drop_succ_cons, List.drop_zero]
                repeat (quiet_step (fail))
                refine wpQuiet_nil ?_
                intro q2
                have hBV3 := (below_drewN hBV2 q2).setCell (p := ⟨bl, 1, none⟩) (by show w.heap.size ≤ bl; omega) (.int .i64 (s2 + x * s4))
                have k0 := (j0.drewN q2).other (p := ⟨bl, 1, none⟩) (by show w.heap.size ≠ bl; omega) (.int .i64 (s2 + x * s4))
                have k1 : Blk _ bl #[.int .i64 (s1 + x * s3), .int .i64 (s2 + x * s4)] _ := (j1.drewN q2).set 1 (.int .i64 (s2 + x * s4))
                have k2 : Blk _ ba #[.int .i64 s3, .int .i64 s4] _ := (j2.drewN q2).other (p := ⟨bl, 1, none⟩) (by show ba ≠ bl; omega) (.int .i64 (s2 + x * s4))
                go_upto_region 16 with (fail)
                generalize World.setCell (V2.drewN q2) _ _ = V3 at *
                clear v0 v1 f0 f1 w0 w1 e0 e1 t0 t1 j0 j1 j2 jf hBV2
                obtain ⟨v0, v1, f0, f1⟩ := k1.two
                obtain ⟨w0, w1, e0, e1⟩ := k2.two
                obtain ⟨z0, z1, y0, y1⟩ := k0.two
                have lz := k0.lt
                by_cases ho1 : 1000000 < (s1 + x * s3) + s3
                · have HF : Hid (followR path = ((0, 0), 16)) := hide (by
                    rw [HR.out, ← HEQ.out, HG.out, HST.out, if_pos]
                    simp [folOver, ho1])
                  clear HEQ HG HST
                  go_wp2_with fail
                  have q2 := k0.set2 (.int .i64 0) (.int .i64 0)
                  have hBf := below_set2 hBV3 (k := w.heap.size) (by omega) (.int .i64 0) (.int .i64 0)
                  refine bodyPost_ret (v := .tuple #[.agg #[.int .i64 0, .int .i64 0], .int .i64 16]) (by simp [results, Try.results24, go_sem, q2.two]) rfl ⟨by rw [HF.out], hBf⟩
                · by_cases ho2 : 1000000 < (s2 + x * s4) + s4
                  · have HF : Hid (followR path = ((0, 0), 16)) := hide (by
                      rw [HR.out, ← HEQ.out, HG.out, HST.out, if_pos]
                      simp [folOver, ho2])
                    clear HEQ HG HST
                    go_wp2_with fail
                    have q2 := k0.set2 (.int .i64 0) (.int .i64 0)
                    have hBf := below_set2 hBV3 (k := w.heap.size) (by omega) (.int .i64 0) (.int .i64 0)
                    refine bodyPost_ret (v := .tuple #[.agg #[.int .i64 0, .int .i64 0], .int .i64 16]) (by simp [results, Try.results24, go_sem, q2.two]) rfl ⟨by rw [HF.out], hBf⟩
                  · have HF : Hid (folGo (k + 1) (((s1 + x * s3), (s2 + x * s4)), (s3, s4)) (path.drop (k + 1)) = folGo 0 ((0, 1), (1, 0)) path) := hide (by
                      rw [← HEQ.out, HG.out, HST.out, if_neg]
                      simp [folOver]; omega)
                    clear HEQ HG HST
                    have ho1' : decide (1000000 < (s1 + x * s3) + s3) = false := by simpa using ho1
                    have ho2' : decide (1000000 < (s2 + x * s4) + s4) = false := by simpa using ho2
                    go_wp2_with fail
                    go_roundw
                    case rel => exact ⟨k + 1, (((s1 + x * s3), (s2 + x * s4)), (s3, s4)), by omega, by go_num, ⟨k0, k1, k2, hBV3, by dsimp only; omega, by dsimp only; omega, by dsimp only; omega, by dsimp only; omega, HF.out⟩⟩
                    case measure => simp [intOf]; omega
              · have hpi : (((k : Int) % 2) == 1) = true := by simp; omega
                have HST : Hid (folStep k x ((s1, s2), (s3, s4)) = ((s1, s2), (s3 + x * s1, s4 + x * s2))) := hide (by unfold folStep; rw [if_pos hpar])
                clear hpar
                go_wp2_with fail
                have hBV := hbe.alloc hsw (.cells #[.int .i64 s1, .int .i64 s2] 88)
                have k0 := d0.alloc (.cells #[.int .i64 s1, .int .i64 s2] 88)
                have k1 := d1.alloc (.cells #[.int .i64 s1, .int .i64 s2] 88)
                have k2 := d2.alloc (.cells #[.int .i64 s1, .int .i64 s2] 88)
                have kf := Blk.new wr #[.int .i64 s1, .int .i64 s2] 88
                clear v0 v1 f0 f1 w0 w1 e0 e1 hcell l1 l2
                have lf : ba < wr.heap.size := d2.lt
                generalize World.alloc wr _ = V1 at *
                generalize wr.heap.size = bf at *
                clear d0 d1 d2 hbe hsw
                obtain ⟨v0, v1, f0, f1⟩ := k1.two
                obtain ⟨w0, w1, e0, e1⟩ := k2.two
                obtain ⟨t0, t1, _, _⟩ := kf.two
                refine wp_region_head (fun q : Nat => V1.drewN q) 11 (by kernel_rfl) (by kernel_rfl) ⟨1, rfl⟩ ?_
                simp only [List.take_succ_cons, List.take_zero, List.drop_succ_cons, List.drop_zero]
                repeat (quiet_step (fail))
                refine wpQuiet_nil ?_
                intro q1
                go_wp2_with fail
                have hBV2 := (below_drewN hBV q1).setCell (p := ⟨ba, 0, none⟩) (by show w.heap.size ≤ ba; omega) (.int .i64 (s3 + x * s1))
                have j0 := (k0.drewN q1).other (p := ⟨ba, 0, none⟩) (by show w.heap.size ≠ ba; omega) (.int .i64 (s3 + x * s1))
                have jf := (kf.drewN q1).other (p := ⟨ba, 0, none⟩) (by show bf ≠ ba; omega) (.int .i64 (s3 + x * s1))
                have j1 : Blk _ bl #[.int .i64 s1, .int .i64 s2] _ := (k1.drewN q1).other (p := ⟨ba, 0, none⟩) (by show bl ≠ ba; omega) (.int .i64 (s3 + x * s1))
                have j2 : Blk _ ba #[.int .i64 (s3 + x * s1), .int .i64 s4] _ := (k2.drewN q1).set 0 (.int .i64 (s3 + x * s1))
                generalize World.setCell (V1.drewN q1) _ _ = V2 at *
                clear v0 v1 f0 f1 w0 w1 e0 e1 t0 t1 k0 k1 k2 kf hBV
                obtain ⟨v0, v1, f0, f1⟩ := j1.two
                obtain ⟨w0, w1, e0, e1⟩ := j2.two
                obtain ⟨t0, t1, _, _⟩ := jf.two
                refine wp_region_head (fun q : Nat => V2.drewN q) 11 (by kernel_rfl) (by kernel_rfl) ⟨1, rfl⟩ ?_
                simp only [List.take_succ_cons, List.take_zero, List.drop_succ_cons, List.drop_zero]
                repeat (quiet_step (fail))
                refine wpQuiet_nil ?_
                intro q2
                have hBV3 := (below_drewN hBV2 q2).setCell (p := ⟨ba, 1, none⟩) (by show w.heap.size ≤ ba; omega) (.int .i64 (s4 + x * s2))
                have k0 := (j0.drewN q2).other (p := ⟨ba, 1, none⟩) (by show w.heap.size ≠ ba; omega) (.int .i64 (s4 + x * s2))
                have k1 : Blk _ bl #[.int .i64 s1, .int .i64 s2] _ := (j1.drewN q2).other (p := ⟨ba, 1, none⟩) (by show bl ≠ ba; omega) (.int .i64 (s4 + x * s2))
                have k2 : Blk _ ba #[.int .i64 (s3 + x * s1), .int .i64 (s4 + x * s2)] _ := (j2.drewN q2).set 1 (.int .i64 (s4 + x * s2))
                go_upto_region 16 with (fail)
                generalize World.setCell (V2.drewN q2) _ _ = V3 at *
                clear v0 v1 f0 f1 w0 w1 e0 e1 t0 t1 j0 j1 j2 jf hBV2
                obtain ⟨v0, v1, f0, f1⟩ := k1.two
                obtain ⟨w0, w1, e0, e1⟩ := k2.two
                obtain ⟨z0, z1, y0, y1⟩ := k0.two
                have lz := k0.lt
                by_cases ho1 : 1000000 < s1 + (s3 + x * s1)
                · have HF : Hid (followR path = ((0, 0), 16)) := hide (by
                    rw [HR.out, ← HEQ.out, HG.out, HST.out, if_pos]
                    simp [folOver, ho1])
                  clear HEQ HG HST
                  go_wp2_with fail
                  have q2 := k0.set2 (.int .i64 0) (.int .i64 0)
                  have hBf := below_set2 hBV3 (k := w.heap.size) (by omega) (.int .i64 0) (.int .i64 0)
                  refine bodyPost_ret (v := .tuple #[.agg #[.int .i64 0, .int .i64 0], .int .i64 16]) (by simp [results, Try.results24, go_sem, q2.two]) rfl ⟨by rw [HF.out], hBf⟩
                · by_cases ho2 : 1000000 < s2 + (s4 + x * s2)
                  · have HF : Hid (followR path = ((0, 0), 16)) := hide (by
                      rw [HR.out, ← HEQ.out, HG.out, HST.out, if_pos]
                      simp [folOver, ho2])
                    clear HEQ HG HST
                    go_wp2_with fail
                    have q2 := k0.set2 (.int .i64 0) (.int .i64 0)
                    have hBf := below_set2 hBV3 (k := w.heap.size) (by omega) (.int .i64 0) (.int .i64 0)
                    refine bodyPost_ret (v := .tuple #[.agg #[.int .i64 0, .int .i64 0], .int .i64 16]) (by simp [results, Try.results24, go_sem, q2.two]) rfl ⟨by rw [HF.out], hBf⟩
                  · have HF : Hid (folGo (k + 1) ((s1, s2), ((s3 + x * s1), (s4 + x * s2))) (path.drop (k + 1)) = folGo 0 ((0, 1), (1, 0)) path) := hide (by
                      rw [← HEQ.out, HG.out, HST.out, if_neg]
                      simp [folOver]; omega)
                    clear HEQ HG HST
                    have ho1' : decide (1000000 < s1 + (s3 + x * s1)) = false := by simpa using ho1
                    have ho2' : decide (1000000 < s2 + (s4 + x * s2)) = false := by simpa using ho2
                    go_wp2_with fail
                    go_roundw
                    case rel => exact ⟨k + 1, ((s1, s2), ((s3 + x * s1), (s4 + x * s2))), by omega, by go_num, ⟨k0, k1, k2, hBV3, by dsimp only; omega, by dsimp only; omega, by dsimp only; omega, by dsimp only; omega, HF.out⟩⟩
                    case measure => simp [intOf]; omega
            · have HF : Hid (followR path = ((s.1.1 + s.2.1, s.1.2 + s.2.2), 0)) := hide (by rw [HR.out, ← HEQ.out, List.drop_of_length_le (by rw [← HN.out]; omega)]; rfl)
              obtain ⟨⟨s1, s2⟩, ⟨s3, s4⟩⟩ := s
              dsimp only at *
              obtain ⟨v0, v1, f0, f1⟩ := d1.two
              obtain ⟨w0, w1, e0, e1⟩ := d2.two
              obtain ⟨z0, z1, y0, y1⟩ := d0.two
              have l0 := d0.lt
              go_wp2_with fail
              have q2 := d0.set2 (.int .i64 (s1 + s3)) (.int .i64 (s2 + s4))
              have hBf := below_set2 hbe (k := w.heap.size) (by omega) (.int .i64 (s1 + s3)) (.int .i64 (s2 + s4))
              refine bodyPost_ret (v := .tuple #[.agg #[.int .i64 (s1 + s3), .int .i64 (s2 + s4)], .int .i64 0]) (by simp [results, Try.results24, go_sem, q2.two]) rfl ⟨by rw [HF.out], hBf⟩

end Go.Proofs.Ytjgebepeghgmcaa
