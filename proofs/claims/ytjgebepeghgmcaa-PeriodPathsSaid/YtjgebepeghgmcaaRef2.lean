/-
  The reference: Follow.
-/
import Derived.Test.YtjgebepeghgmcaaRef1
import Derived.Deep.DeepCutAuto
namespace Go.Proofs.Ytjgebepeghgmcaa
open Go.RowKit Go.Shelf
set_option linter.unusedVariables false
set_option linter.unusedSimpArgs false

/-- What the last loop of Follow holds between two rounds. -/
structure FolJ (path : List Int) (w : World) (bl ba : Nat) (k : Nat) (s : FS) (wr : World) : Prop where
  res : Blk wr w.heap.size #[.int .i64 0, .int .i64 0] 41
  bb : Blk wr bl #[.int .i64 s.1.1, .int .i64 s.1.2] 41
  bc : Blk wr ba #[.int .i64 s.2.1, .int .i64 s.2.2] 41
  be : Below w.heap.size w wr
  h1 : 0 ≤ s.1.1 ∧ s.1.1 ≤ 1000000
  h2 : 0 ≤ s.1.2 ∧ s.1.2 ≤ 1000000
  h3 : 0 ≤ s.2.1 ∧ s.2.1 ≤ 1000000
  h4 : 0 ≤ s.2.2 ∧ s.2.2 ≤ 1000000
  eq : folGo k s (path.drop k) = folGo 0 ((0, 1), (1, 0)) path

theorem folBad_no {path : List Int} {n : Nat} (hn : n = path.length) (h : ∀ j, j < n → ¬ (iat path j = 0 ∧ (0 < j ∨ n = 1))) : folBad path = false := by
  unfold folBad
  rw [Bool.or_eq_false_iff]
  constructor
  · rw [decide_eq_false_iff_not]
    intro e
    subst e
    exact h 0 (by simp at hn; omega) ⟨rfl, .inr (by simpa using hn)⟩
  · cases hl : decide (1 < path.length) with
    | false => rfl
    | true =>
      rw [Bool.true_and, List.any_eq_false]
      intro x hx hz
      obtain ⟨i, hi, rfl⟩ := List.mem_iff_getElem.1 hx
      simp only [List.length_drop] at hi
      have := h (1 + i) (by omega)
      rw [iat_eq path (1 + i) (by omega)] at this
      simp only [List.getElem_drop] at hz
      exact this ⟨by simpa using hz, .inl (by omega)⟩
theorem folBad_yes {path : List Int} {n j : Nat} (hn : n = path.length) (hj : j < n) (h0 : iat path j = 0) (h : 0 < j ∨ n = 1) : folBad path = true := by
  unfold folBad
  rw [Bool.or_eq_true]
  by_cases h1 : n = 1
  · left
    obtain ⟨x, rfl⟩ : ∃ x, path = [x] := by
      match path, hn with
      | [x], _ => exact ⟨x, rfl⟩
      | [], hn => simp at hn; omega
      | _ :: _ :: _, hn => simp at hn; omega
    obtain rfl : j = 0 := by omega
    simpa [iat] using h0
  · right
    have hj0 : 0 < j := by omega
    rw [Bool.and_eq_true, decide_eq_true_eq, List.any_eq_true]
    refine ⟨by omega, path[j], ?_, by rw [← iat_eq path j (by omega)]; simpa using h0⟩
    refine List.mem_iff_getElem.2 ⟨j - 1, by simp; omega, ?_⟩
    simp only [List.getElem_drop]
    congr 1
    omega

set_option maxRecDepth 100000 in
set_option maxHeartbeats 8000000 in
theorem reffollow_any (path : List Int) (a : Option Addr) (n cap : Nat) (w : World) (hn : n = path.length) (hl : n ≤ 1000000000) (h : Row w w.heap.size a (ints path)) :
    Calls Try.prog 25 #[.slice a n cap] w fun e w' => e = .returned (.tuple #[.agg #[.int .i64 (followR path).1.1, .int .i64 (followR path).1.2], .int .i64 (followR path).2]) ∧ Below w.heap.size w w' := by
  have hba := (Below.refl w.heap.size w).alloc (Nat.le_refl _) (.cells #[.int .i64 0, .int .i64 0] 41)
  by_cases h40 : 40 < n
  · have HR : Hid (followR path = ((0, 0), 3)) := hide (by unfold followR; rw [if_pos (by omega)])
    have ht : ((n : Int) > 40) := by omega
    clear hn
    go_enter Try.func25, Try.ntmps25
    go_wp2
    refine bodyPost_ret (v := .tuple #[.agg #[.int .i64 0, .int .i64 0], .int .i64 3]) (by simp [results, Try.results25, go_sem]) rfl ⟨by rw [HR.out], hba⟩
  have HN := hide hn
  have b0 := Blk.new w #[.int .i64 0, .int .i64 0] 41
  have HF1 : Hid (path.any (fun n => !bet 0 n 1000000) = true → followR path = ((0, 0), 1)) := hide (fun h => by unfold followR; rw [if_neg (by omega), if_pos h])
  have HF2 : Hid (path.any (fun n => !bet 0 n 1000000) = false → followR path = if folBad path then ((0, 0), 5) else folGo 0 ((0, 1), (1, 0)) path) := hide (fun h => by unfold followR; rw [if_neg (by omega), h]; rfl)
  clear hn
  go_enter Try.func25, Try.ntmps25
  go_wp2_with fail
  generalize World.alloc w _ = V at *
  have q0 := b0.two
  have l0 := b0.lt
  go_loopw [4] (fun i wr => ∃ k : Nat, k ≤ n ∧ i = .int .i64 k ∧ Hid (∀ j, j < k → bet 0 (iat path j) 1000000 = true) ∧ V = wr) (fun i _ => n - (intOf i).toNat)
  case atStart => exact ⟨0, Nat.zero_le _, rfl, hide (fun j hj => by omega), rfl⟩
  case round =>
    obtain ⟨k, hk, rfl, HK, rfl⟩ := hrel
    by_cases hlt : k < n
    · have hkp : k < path.length := by rw [← HN.out]; exact hlt
      obtain ⟨bp, op, rfl, _, hcp⟩ := (h.below hba (Nat.le_refl _)).int (by omega)
      have hcell := hcp k hkp
      clear hcp
      have HEL : Hid (path.any (fun n => !bet 0 n 1000000) = true ∨ bet 0 (iat path k) 1000000 = true) := hide (by
        cases hb : bet 0 (iat path k) 1000000 with
        | true => exact .inr rfl
        | false => exact .inl (List.any_eq_true.2 ⟨path[k], List.getElem_mem hkp, by rw [← iat_eq path k hkp, hb]; rfl⟩))
      generalize hx : iat path k = x at *
      have HX := hide hx
      clear hx
      go_wp2_with fail
      refine (is_any _ _ _ _).mono ?_
      rintro e w' ⟨rfl, rfl⟩
      cases hb : bet 0 x 1000000 with
      | true =>
        have HK' := hide (fun j (hj : j < k + 1) => (by
          by_cases e : j = k
          · rw [e, HX.out]; exact hb
          · exact HK.out j (by omega) : bet 0 (iat path j) 1000000 = true))
        clear hb
        go_wp2_with fail
        go_roundw
        case rel => exact ⟨k + 1, by omega, by go_num, HK', trivial⟩
        case measure => simp [intOf]; omega
      | false =>
        have HR := hide (HF1.out (HEL.out.resolve_right (by rw [hb]; simp)))
        clear hb
        go_wp2_with fail
        have q2 := b0.set2 (.int .i64 0) (.int .i64 0)
        have hBf := below_set2 hba (k := w.heap.size) (by omega) (.int .i64 0) (.int .i64 0)
        refine bodyPost_ret (v := .tuple #[.agg #[.int .i64 0, .int .i64 0], .int .i64 1]) (by simp [results, Try.results25, go_sem, q2.two]) rfl ⟨by rw [HR.out], hBf⟩
    · have HA := hide (fun j (hj : j < n) => HK.out j (by omega))
      have HEL := hide (fun k (hk : k < n) => bet_true (HA.out k hk))
      have HANY : path.any (fun n => !bet 0 n 1000000) = false := by
        rw [List.any_eq_false]
        intro x hx
        obtain ⟨i, hi, rfl⟩ := List.mem_iff_getElem.1 hx
        have := HA.out i (by rw [HN.out]; exact hi)
        rw [iat_eq path i hi] at this
        rw [this]
        simp
      have HF := hide (HF2.out HANY)
      clear HANY HA HK HF1 HF2
      go_wp2_with fail
      go_loopw [5] (fun i wr => ∃ k : Nat, k ≤ n ∧ i = .int .i64 k ∧ Hid (∀ j, j < k → ¬ (iat path j = 0 ∧ (0 < j ∨ n = 1))) ∧ V = wr) (fun i _ => n - (intOf i).toNat)
      case atStart => exact ⟨0, Nat.zero_le _, rfl, hide (fun j hj => by omega), rfl⟩
      case round =>
        obtain ⟨k, hk, rfl, HK, rfl⟩ := hrel
        by_cases hlt : k < n
        · have hkp : k < path.length := by rw [← HN.out]; exact hlt
          obtain ⟨bp, op, rfl, _, hcp⟩ := (h.below hba (Nat.le_refl _)).int (by omega)
          have hcell := hcp k hkp
          clear hcp
          generalize hx : iat path k = x at *
          have HX := hide hx
          clear hx
          by_cases hz : x = 0
          · by_cases hp : 0 < k
            · have HR : Hid (followR path = ((0, 0), 5)) := hide (by rw [HF.out, folBad_yes HN.out hlt (by rw [HX.out, hz]) (.inl hp)]; rfl)
              have hz' : (x == 0) = true := by simp [hz]
              have hp' : ((k : Int) > 0) := by omega
              clear hz
              go_wp2_with fail
              have q2 := b0.set2 (.int .i64 0) (.int .i64 0)
              have hBf := below_set2 hba (k := w.heap.size) (by omega) (.int .i64 0) (.int .i64 0)
              refine bodyPost_ret (v := .tuple #[.agg #[.int .i64 0, .int .i64 0], .int .i64 5]) (by simp [results, Try.results25, go_sem, q2.two]) rfl ⟨by rw [HR.out], hBf⟩
            · by_cases h1 : n = 1
              · have HR : Hid (followR path = ((0, 0), 5)) := hide (by rw [HF.out, folBad_yes HN.out hlt (by rw [HX.out, hz]) (.inr h1)]; rfl)
                have hz' : (x == 0) = true := by simp [hz]
                have hp' : decide (0 < k) = false := by simp; omega
                have h1' : ((n : Int) == 1) = true := by simp [h1]
                clear hz hp h1
                go_wp2_with fail
                have q2 := b0.set2 (.int .i64 0) (.int .i64 0)
                have hBf := below_set2 hba (k := w.heap.size) (by omega) (.int .i64 0) (.int .i64 0)
                refine bodyPost_ret (v := .tuple #[.agg #[.int .i64 0, .int .i64 0], .int .i64 5]) (by simp [results, Try.results25, go_sem, q2.two]) rfl ⟨by rw [HR.out], hBf⟩
              · have HK' := hide (fun j (hj : j < k + 1) => (by
                  by_cases e : j = k
                  · rw [e]; omega
                  · exact HK.out j (by omega) : ¬ (iat path j = 0 ∧ (0 < j ∨ n = 1))))
                have hz' : (x == 0) = true := by simp [hz]
                have hp' : decide (0 < k) = false := by simp; omega
                have h1' : ((n : Int) == 1) = false := by rw [beq_eq_false_iff_ne]; omega
                clear hz hp h1
                go_wp2_with fail
                go_roundw
                case rel => exact ⟨k + 1, by omega, by go_num, HK', trivial⟩
                case measure => simp [intOf]; omega
          · have HK' := hide (fun j (hj : j < k + 1) => (by
              by_cases e : j = k
              · rw [e, HX.out]; exact fun h => hz h.1
              · exact HK.out j (by omega) : ¬ (iat path j = 0 ∧ (0 < j ∨ n = 1))))
            have hz' : (x == 0) = false := by simp [hz]
            clear hz
            go_wp2_with fail
            go_roundw
            case rel => exact ⟨k + 1, by omega, by go_num, HK', trivial⟩
            case measure => simp [intOf]; omega
        · have HR : Hid (followR path = folGo 0 ((0, 1), (1, 0)) path) := hide (by rw [HF.out, folBad_no HN.out (fun j hj => HK.out j (by omega))]; rfl)
          clear HF HK
          go_wp2_with fail
          generalize hU : World.alloc (World.alloc V _) _ = U
          have hBU : Below w.heap.size w U := by rw [← hU]; exact (hba.alloc hba.size _).alloc (by have := hba.size; simp; omega) _
          have d0 : Blk U w.heap.size #[.int .i64 0, .int .i64 0] 41 := by rw [← hU]; exact (b0.alloc _).alloc _
          have d1 : Blk U V.heap.size #[.int .i64 0, .int .i64 1] 41 := by rw [← hU]; exact (Blk.new V _ _).alloc _
          have d2 : Blk U (V.heap.size + 1) #[.int .i64 1, .int .i64 0] 41 := by rw [← hU]; exact (by simpa using Blk.new (World.alloc V _) _ _)
          clear hU q0
          have hlt1 : V.heap.size < V.heap.size + 1 := Nat.lt_succ_self _
          have hlt0 : w.heap.size < V.heap.size := b0.lt
          generalize V.heap.size + 1 = ba at *
          generalize V.heap.size = bl at *
          clear hba b0 l0 hlt
          have h0I : FolJ path w bl ba 0 ((0, 1), (1, 0)) U := ⟨d0, d1, d2, hBU, by decide, by decide, by decide, by decide, by rw [List.drop_zero]⟩
          clear d0 d1 d2 hBU
          go_loopw [8, 9] (fun i _ wr => ∃ (k : Nat) (s : FS), k ≤ n ∧ i = .int .i64 k ∧ FolJ path w bl ba k s wr) (fun i _ _ => n - (intOf i).toNat)
          case atStart => exact ⟨0, _, Nat.zero_le _, rfl, h0I⟩
          case round =>
            obtain ⟨k, s, hk, rfl, hI⟩ := hrel
            clear h0I
            obtain ⟨d0, d1, d2, hbe, g1, g2, g3, g4, heq⟩ := hI
            have HEQ := hide heq
            clear heq
            have hsw := hbe.size
            have l1 := d1.lt
            have l2 := d2.lt
            by_cases hlt : k < n
            · have hkp : k < path.length := by rw [← HN.out]; exact hlt
              obtain ⟨bp, op, rfl, _, hcp'⟩ := (h.below hbe (Nat.le_refl _)).int (by omega)
              have hcell := hcp' k hkp
              have hel := HEL.out k hlt
              have HG := hide (folGo_drop hkp s)
              clear hcp'
              generalize iat path k = x at *
              obtain ⟨⟨s1, s2⟩, ⟨s3, s4⟩⟩ := s
              dsimp only at *
              have m1 := mul_mil hel.1 hel.2 g1.1 g1.2
              have m2 := mul_mil hel.1 hel.2 g2.1 g2.2
              have m3 := mul_mil hel.1 hel.2 g3.1 g3.2
              have m4 := mul_mil hel.1 hel.2 g4.1 g4.2
              obtain ⟨v0, v1, f0, f1⟩ := d1.two
              obtain ⟨w0, w1, e0, e1⟩ := d2.two
              rcases Nat.mod_two_eq_zero_or_one k with hpar | hpar
              · have hpi : (((k : Int) % 2) == 0) = true := by simp; omega
                have HST : Hid (folStep k x ((s1, s2), (s3, s4)) = ((s1 + x * s3, s2 + x * s4), (s3, s4))) := hide (by unfold folStep; rw [if_neg (by omega)])
                clear hpar
                go_upto_region 21 with (fail)
                have hBV3 := below_set2 hbe (k := bl) (by omega) (.int .i64 (s1 + x * s3)) (.int .i64 (s2 + x * s4))
                have k0 := d0.other2 (k := bl) (by omega) (.int .i64 (s1 + x * s3)) (.int .i64 (s2 + x * s4))
                have k1 : Blk _ bl #[.int .i64 (s1 + x * s3), .int .i64 (s2 + x * s4)] _ := d1.set2 (.int .i64 (s1 + x * s3)) (.int .i64 (s2 + x * s4))
                have k2 : Blk _ ba #[.int .i64 s3, .int .i64 s4] _ := d2.other2 (k := bl) (by omega) (.int .i64 (s1 + x * s3)) (.int .i64 (s2 + x * s4))
                generalize World.setCell (World.setCell wr _ _) _ _ = V3 at *
                clear v0 v1 f0 f1 w0 w1 e0 e1 d0 d1 d2 hbe hcell l1 l2
                obtain ⟨v0, v1, f0, f1⟩ := k1.two
                obtain ⟨w0, w1, e0, e1⟩ := k2.two
                obtain ⟨z0, z1, y0, y1⟩ := k0.two
                have lz := k0.lt
                by_cases ho1 : 1000000 < (s1 + x * s3) + s3
                · have HF : Hid (followR path = ((0, 0), 16)) := hide (by
                    rw [HR.out, ← HEQ.out, HG.out, HST.out, if_pos]
                    simp [folOver, ho1])
                  clear HEQ HG HST
                  go_wp2_with fail
                  have q2 := k0.set2 (.int .i64 0) (.int .i64 0)
                  have hBf := below_set2 hBV3 (k := w.heap.size) (by omega) (.int .i64 0) (.int .i64 0)
                  refine bodyPost_ret (v := .tuple #[.agg #[.int .i64 0, .int .i64 0], .int .i64 16]) (by simp [results, Try.results25, go_sem, q2.two]) rfl ⟨by rw [HF.out], hBf⟩
                · by_cases ho2 : 1000000 < (s2 + x * s4) + s4
                  · have HF : Hid (followR path = ((0, 0), 16)) := hide (by
                      rw [HR.out, ← HEQ.out, HG.out, HST.out, if_pos]
                      simp [folOver, ho2])
                    clear HEQ HG HST
                    go_wp2_with fail
                    have q2 := k0.set2 (.int .i64 0) (.int .i64 0)
                    have hBf := below_set2 hBV3 (k := w.heap.size) (by omega) (.int .i64 0) (.int .i64 0)
                    refine bodyPost_ret (v := .tuple #[.agg #[.int .i64 0, .int .i64 0], .int .i64 16]) (by simp [results, Try.results25, go_sem, q2.two]) rfl ⟨by rw [HF.out], hBf⟩
                  · have HF : Hid (folGo (k + 1) (((s1 + x * s3), (s2 + x * s4)), (s3, s4)) (path.drop (k + 1)) = folGo 0 ((0, 1), (1, 0)) path) := hide (by
                      rw [← HEQ.out, HG.out, HST.out, if_neg]
                      simp [folOver]; omega)
                    clear HEQ HG HST
                    have ho1' : decide (1000000 < (s1 + x * s3) + s3) = false := by simpa using ho1
                    have ho2' : decide (1000000 < (s2 + x * s4) + s4) = false := by simpa using ho2
                    go_wp2_with fail
                    go_roundw
                    case rel => exact ⟨k + 1, (((s1 + x * s3), (s2 + x * s4)), (s3, s4)), by omega, by go_num, ⟨k0, k1, k2, hBV3, by dsimp only; omega, by dsimp only; omega, by dsimp only; omega, by dsimp only; omega, HF.out⟩⟩
                    case measure => simp [intOf]; omega
              · have hpi : (((k : Int) % 2) == 0) = false := by simp; omega
                have HST : Hid (folStep k x ((s1, s2), (s3, s4)) = ((s1, s2), (s3 + x * s1, s4 + x * s2))) := hide (by unfold folStep; rw [if_pos hpar])
                clear hpar
                go_upto_region 21 with (fail)
                have hBV3 := below_set2 hbe (k := ba) (by omega) (.int .i64 (s3 + x * s1)) (.int .i64 (s4 + x * s2))
                have k0 := d0.other2 (k := ba) (by omega) (.int .i64 (s3 + x * s1)) (.int .i64 (s4 + x * s2))
                have k1 : Blk _ bl #[.int .i64 s1, .int .i64 s2] _ := d1.other2 (k := ba) (by omega) (.int .i64 (s3 + x * s1)) (.int .i64 (s4 + x * s2))
                have k2 : Blk _ ba #[.int .i64 (s3 + x * s1), .int .i64 (s4 + x * s2)] _ := d2.set2 (.int .i64 (s3 + x * s1)) (.int .i64 (s4 + x * s2))
                generalize World.setCell (World.setCell wr _ _) _ _ = V3 at *
                clear v0 v1 f0 f1 w0 w1 e0 e1 d0 d1 d2 hbe hcell l1 l2
                obtain ⟨v0, v1, f0, f1⟩ := k1.two
                obtain ⟨w0, w1, e0, e1⟩ := k2.two
                obtain ⟨z0, z1, y0, y1⟩ := k0.two
                have lz := k0.lt
                by_cases ho1 : 1000000 < s1 + (s3 + x * s1)
                · have HF : Hid (followR path = ((0, 0), 16)) := hide (by
                    rw [HR.out, ← HEQ.out, HG.out, HST.out, if_pos]
                    simp [folOver, ho1])
                  clear HEQ HG HST
                  go_wp2_with fail
                  have q2 := k0.set2 (.int .i64 0) (.int .i64 0)
                  have hBf := below_set2 hBV3 (k := w.heap.size) (by omega) (.int .i64 0) (.int .i64 0)
                  refine bodyPost_ret (v := .tuple #[.agg #[.int .i64 0, .int .i64 0], .int .i64 16]) (by simp [results, Try.results25, go_sem, q2.two]) rfl ⟨by rw [HF.out], hBf⟩
                · by_cases ho2 : 1000000 < s2 + (s4 + x * s2)
                  · have HF : Hid (followR path = ((0, 0), 16)) := hide (by
                      rw [HR.out, ← HEQ.out, HG.out, HST.out, if_pos]
                      simp [folOver, ho2])
                    clear HEQ HG HST
                    go_wp2_with fail
                    have q2 := k0.set2 (.int .i64 0) (.int .i64 0)
                    have hBf := below_set2 hBV3 (k := w.heap.size) (by omega) (.int .i64 0) (.int .i64 0)
                    refine bodyPost_ret (v := .tuple #[.agg #[.int .i64 0, .int .i64 0], .int .i64 16]) (by simp [results, Try.results25, go_sem, q2.two]) rfl ⟨by rw [HF.out], hBf⟩
                  · have HF : Hid (folGo (k + 1) ((s1, s2), ((s3 + x * s1), (s4 + x * s2))) (path.drop (k + 1)) = folGo 0 ((0, 1), (1, 0)) path) := hide (by
                      rw [← HEQ.out, HG.out, HST.out, if_neg]
                      simp [folOver]; omega)
                    clear HEQ HG HST
                    have ho1' : decide (1000000 < s1 + (s3 + x * s1)) = false := by simpa using ho1
                    have ho2' : decide (1000000 < s2 + (s4 + x * s2)) = false := by simpa using ho2
                    go_wp2_with fail
                    go_roundw
                    case rel => exact ⟨k + 1, ((s1, s2), ((s3 + x * s1), (s4 + x * s2))), by omega, by go_num, ⟨k0, k1, k2, hBV3, by dsimp only; omega, by dsimp only; omega, by dsimp only; omega, by dsimp only; omega, HF.out⟩⟩
                    case measure => simp [intOf]; omega
            · have HF : Hid (followR path = ((s.1.1 + s.2.1, s.1.2 + s.2.2), 0)) := hide (by rw [HR.out, ← HEQ.out, List.drop_of_length_le (by rw [← HN.out]; omega)]; rfl)
              obtain ⟨⟨s1, s2⟩, ⟨s3, s4⟩⟩ := s
              dsimp only at *
              obtain ⟨v0, v1, f0, f1⟩ := d1.two
              obtain ⟨w0, w1, e0, e1⟩ := d2.two
              obtain ⟨z0, z1, y0, y1⟩ := d0.two
              have l0 := d0.lt
              go_wp2_with fail
              have q2 := d0.set2 (.int .i64 (s1 + s3)) (.int .i64 (s2 + s4))
              have hBf := below_set2 hbe (k := w.heap.size) (by omega) (.int .i64 (s1 + s3)) (.int .i64 (s2 + s4))
              refine bodyPost_ret (v := .tuple #[.agg #[.int .i64 (s1 + s3), .int .i64 (s2 + s4)], .int .i64 0]) (by simp [results, Try.results25, go_sem, q2.two]) rfl ⟨by rw [HF.out], hBf⟩

end Go.Proofs.Ytjgebepeghgmcaa
