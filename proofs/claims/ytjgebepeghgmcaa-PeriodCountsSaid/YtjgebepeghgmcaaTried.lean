/-
  PeriodTried: the walk.
-/
import Derived.Test.YtjgebepeghgmcaaWatchL
namespace Go.Proofs.Ytjgebepeghgmcaa
open Go.RowKit Go.Shelf
set_option linter.unusedVariables false
set_option linter.unusedSimpArgs false

/-- What PeriodTried keeps in memory. -/
structure TSt (x : WNum) (w : World) (p3 p6 : Nat) (ad : Addr) (cap : Nat) (v : Value) (t0 t1 : Int) (W : World) : Prop where
  be : Below w.heap.size w W
  b3 : Blk W p3 #[.int .i64 x.lo, .int .i64 x.hi, .slice (some ad) x.n cap] 26
  b6 : Blk W p6 #[.int .i64 t0, .int .i64 t1] 23
  row : Row W W.heap.size (some ad) (spans x.log.ps)
  rows : Rows2 W v (allC x.log)
theorem TSt.kept {x : WNum} {w : World} {p3 p6 : Nat} {ad : Addr} {cap : Nat} {v : Value} {t0 t1 : Int} {W W' : World} (h : TSt x w p3 p6 ad cap v t0 t1 W) (hb : Below W.heap.size W W') : TSt x w p3 p6 ad cap v t0 t1 W' :=
  ⟨h.be.trans (hb.mono h.be.size), h.b3.kept hb, h.b6.kept hb, (h.row.below hb (Nat.le_refl _)).mono hb.size, h.rows.below hb⟩

/-- What the reduced ends are, in sixtieths. -/
theorem red60 {r : Int × Int} (h1 : 1 ≤ r.2) (h6 : r.2 ≤ 6) : 1 ≤ (redR r).2 ∧ (redR r).2 ≤ 6 ∧ 60 * (redR r).1 = in60 r * (redR r).2 := by
  have hg : 0 < gcdI r.1 r.2 := by
    unfold gcdI
    have : 0 < Int.gcd r.1 r.2 := Int.gcd_pos_of_ne_zero_right _ (by omega)
    omega
  have e1 : gcdI r.1 r.2 * (redR r).1 = r.1 := Int.mul_ediv_cancel' (Int.gcd_dvd_left ..)
  have e2 : gcdI r.1 r.2 * (redR r).2 = r.2 := Int.mul_ediv_cancel' (Int.gcd_dvd_right ..)
  have e3 := in60_is h1 h6
  generalize gcdI r.1 r.2 = g at *
  generalize (redR r).1 = a at *
  generalize (redR r).2 = b at *
  have hb : 1 ≤ b := by
    by_cases h : 1 ≤ b
    · exact h
    · have : g * b ≤ g * 0 := Int.mul_le_mul_of_nonneg_left (by omega) (by omega)
      omega
  have hb6 : b ≤ g * b := by
    have : 1 * b ≤ g * b := Int.mul_le_mul_of_nonneg_right (by omega) (by omega)
    omega
  refine ⟨hb, by omega, ?_⟩
  have : g * (60 * a) = g * (in60 r * b) := by
    have q1 : g * (60 * a) = 60 * r.1 := by rw [← e1]; grind
    have q2 : g * (in60 r * b) = in60 r * r.2 := by rw [← e2]; grind
    rw [q1, q2, e3]
  exact Int.eq_of_mul_eq_mul_left (by omega) this

/-- What holds at the head of the outer loop. -/
structure TrA (x : WNum) (kk : Nat) (aa lo hi : Int) : Prop where
  a1 : 1 ≤ aa
  a7 : aa ≤ 7
  is : ∃ pre, pre.length = kk ∧ allC x.log = pre ++ (restA x.two aa).filter (possible x.log) ∧ SumI pre lo hi
/-- What holds at the head of the inner loop. -/
structure TrB (x : WNum) (kk : Nat) (aa bb lo hi : Int) : Prop where
  b1 : 1 ≤ bb
  b7 : bb ≤ 7
  is : ∃ pre, pre.length = kk ∧ allC x.log = pre ++ (restB x.two aa bb ++ restA x.two (aa + 1)).filter (possible x.log) ∧ SumI pre lo hi
theorem TrA.inner {x : WNum} {kk : Nat} {aa lo hi : Int} (h : TrA x kk aa lo hi) (h6 : aa ≤ 6) : TrB x kk aa 1 lo hi := by
  obtain ⟨pre, h1, h2, h3⟩ := h.is
  exact ⟨by omega, by omega, pre, h1, by rw [h2, restA_lt h6], h3⟩
theorem TrB.done {x : WNum} {kk : Nat} {aa bb lo hi : Int} (h : TrB x kk aa bb lo hi) (ha : 1 ≤ aa ∧ aa ≤ 6) (he : restB x.two aa bb = []) : TrA x kk (aa + 1) lo hi := by
  obtain ⟨pre, h1, h2, h3⟩ := h.is
  exact ⟨by omega, by omega, pre, h1, by rw [h2, he, List.nil_append], h3⟩
theorem TrB.skip {x : WNum} {kk : Nat} {aa bb lo hi : Int} {c : List Int} (h : TrB x kk aa bb lo hi) (h6 : bb ≤ 6) (he : restB x.two aa bb = c :: restB x.two aa (bb + 1)) (hp : possible x.log c = false) : TrB x kk aa (bb + 1) lo hi := by
  obtain ⟨pre, h1, h2, h3⟩ := h.is
  have := h.b1
  refine ⟨by omega, by omega, pre, h1, ?_, h3⟩
  rw [h2, he, List.cons_append, List.filter_cons, hp]
  rfl
theorem TrB.next {x : WNum} {kk : Nat} {aa bb lo hi : Int} {c : List Int} (h : TrB x kk aa bb lo hi) (h6 : bb ≤ 6) (he : restB x.two aa bb = c :: restB x.two aa (bb + 1)) (hp : possible x.log c = true) (hs : 0 ≤ c.sum ∧ c.sum ≤ 100) :
    TrB x (kk + 1) aa (bb + 1) (min lo c.sum) (max hi c.sum) ∧ kk < (allC x.log).length ∧ (allC x.log)[kk]? = some c := by
  obtain ⟨pre, h1, h2, h3⟩ := h.is
  have := h.b1
  have e : allC x.log = (pre ++ [c]) ++ (restB x.two aa (bb + 1) ++ restA x.two (aa + 1)).filter (possible x.log) := by
    rw [h2, he, List.cons_append, List.filter_cons, hp, if_pos rfl, List.append_assoc]
    rfl
  refine ⟨⟨by omega, by omega, pre ++ [c], by simp [h1], e, h3.more c hs.1 hs.2⟩, ?_, ?_⟩
  · rw [e]
    simp
    omega
  · rw [e, List.append_assoc, List.getElem?_append_right (by omega), h1, Nat.sub_self]
    rfl
theorem TrA.end_ {x : WNum} {kk : Nat} {aa lo hi : Int} (h : TrA x kk aa lo hi) (h6 : 6 < aa) : kk = (allC x.log).length ∧ SumI (allC x.log) lo hi := by
  obtain ⟨pre, h1, h2, h3⟩ := h.is
  rw [restA_ge h6, List.filter_nil, List.append_nil] at h2
  rw [h2]
  exact ⟨h1.symm, h3⟩
theorem TrA.start {x : WNum} (hx : x.Ok) : TrA x 0 1 100 0 := ⟨by omega, by omega, [], rfl, by rw [List.nil_append]; exact watch_counts hx, SumI.start⟩

/-- What Period returns. -/
theorem period_yes {l : PLog} {cs : List Int} (h : countedL l cs = 0) (hp : possible l cs = true) : periodR l cs = (redR (lowEnd l cs), redR (highEnd l cs), 0) := by
  unfold periodR
  rw [if_neg (by rw [h]; simp), if_pos hp]
theorem period_no {l : PLog} {cs : List Int} (h : countedL l cs = 0) (hp : possible l cs = false) : periodR l cs = ((0, 0), (0, 0), 13) := by
  unfold periodR
  rw [if_neg (by rw [h]; simp), if_neg (by rw [hp]; simp)]

theorem Rows2.form {W : World} {v : Value} {xs : List (List Int)} (h : Rows2 W v xs) : ∃ va vcap, v = .slice va xs.length vcap ∧ xs.length ≤ vcap := by
  obtain ⟨ps, h1, ⟨a, cap, h2, h3, h4⟩, h5⟩ := h
  exact ⟨a, cap, h2, h3⟩
theorem Rows2.at_ {W : World} {va : Option Addr} {L vcap : Nat} {xs : List (List Int)} (h : Rows2 W (.slice va L vcap) xs) {k : Nat} {c : List Int} (hk : xs[k]? = some c) :
    ∃ b off g cp, va = some ⟨b, off, none⟩ ∧ W.cell? ⟨b, off + k, none⟩ = some (.slice (some ⟨g, 0, none⟩) c.length cp) ∧ c.length ≤ cp ∧ Row W W.heap.size (some ⟨g, 0, none⟩) (ints c) := by
  obtain ⟨ps, h1, ⟨a, cap, h2, h3, h4⟩, h5⟩ := h
  cases h2
  have hl : ps.length = xs.length := by rw [← h1]; simp
  obtain ⟨hk1, hk2⟩ := List.getElem?_eq_some_iff.1 hk
  have hp : (ps[k]'(by omega)).2 = c := by
    rw [← hk2]
    simp [← h1]
  rcases h4 with h4 | ⟨b, off, rfl, hb, h4⟩
  · simp at h4
    rw [h4] at hl
    simp at hl
    omega
  · obtain ⟨g1, g2⟩ := h5 _ (List.getElem_mem (by omega : k < ps.length))
    refine ⟨b, off, _, _, rfl, ?_, by rw [hp] at g1; exact g1, by rw [hp] at g2; exact g2⟩
    rw [h4 k (by simp; omega)]
    simp [List.getD, slv, hp, show k < ps.length by omega]
theorem csum_six {x : WNum} {c : List Int} (h : CSix x c) : ∀ j, 0 ≤ csum c 0 j ∧ csum c 0 j ≤ 6 := fun j => by
  have h1 := csum_le h.pos 0 j
  have h2 := h.six
  refine ⟨?_, by omega⟩
  unfold csum
  rw [List.drop_zero]
  exact (sum_le_of_pos _ fun c' hc => h.pos c' (List.mem_of_mem_take hc)).1

set_option maxRecDepth 100000 in
set_option maxHeartbeats 4000000 in
theorem ptried_any (x : WNum) (w : World) (hx : x.Ok) :
    Calls Try.prog 5 #[x.val] w fun e w' => e = .returned (.bool true) ∧ Below w.heap.size w w' := by
  have HX := hide hx
  have hmade := fun W => made_any x W hx
  have HV : Hid (x.val = .agg #[.int .u8 x.p0, .int .u8 x.p1, .int .u8 (x.t 0), .int .u8 (x.t 1), .int .u8 (x.t 2), .int .u8 (x.t 3), .int .u8 (x.t 4), .int .u8 (x.t 5), .bool x.two]) := hide rfl
  simp only [HV.out] at hmade
  have HMADE := hide hmade
  have hpl : x.n = x.log.ps.length := (x.ps_len _).symm
  have HPL := hide hpl
  have hn3 : 2 ≤ x.n ∧ x.n ≤ 3 := by have := x.n_is; omega
  have hlh := x.lo_hi HX.out
  have HCR := hide (watch_countsR hx)
  rw [HV.out]
  clear hx hmade HV hpl
  go_enter Try.func5, Try.ntmps5
  go_wp2_with fail
  generalize hW : World.alloc w _ = V
  have hB : Below w.heap.size w V := by rw [← hW]; exact (Below.refl _ _).alloc (Nat.le_refl _) _
  clear hW
  refine (HMADE.out _).mono ?_
  rintro e W1 ⟨ad, cap, rfl, hcap, hr1, hb1⟩
  have hB1 := hB.trans (hb1.mono hB.size)
  clear hB hb1 HMADE V
  go_wp2_with fail
  have S0 := (Blk.new W1 #[.int .i64 x.lo, .int .i64 x.hi, .slice (some ad) x.n cap] 26)
  have hr2 := (hr1.below ((Below.refl _ _).alloc (Nat.le_refl _) (.cells #[.int .i64 x.lo, .int .i64 x.hi, .slice (some ad) x.n cap] 26)) (Nat.le_refl _)).mono (by simp : W1.heap.size ≤ (W1.alloc (.cells #[.int .i64 x.lo, .int .i64 x.hi, .slice (some ad) x.n cap] 26)).heap.size)
  have hB2 := hB1.alloc hB1.size (.cells #[.int .i64 x.lo, .int .i64 x.hi, .slice (some ad) x.n cap] 26)
  clear hr1 hB1
  generalize World.alloc W1 _ = V1 at *
  generalize W1.heap.size = p3 at *
  refine (countsF_any x.log (some ad) x.n cap _ HPL.out (by omega) hr2).mono ?_
  rw [HCR.out]
  rintro e W2 ⟨v, rfl, hrows, hb2⟩
  dsimp only at hrows
  have S2 := S0.kept hb2
  have hr3 := (hr2.below hb2 (Nat.le_refl _)).mono hb2.size
  have hB3 := hB2.trans (hb2.mono hB2.size)
  clear S0 hr2 hB2 hb2
  have u3 := S2.three
  have z3 := S2.lt
  go_wp2_with fail
  refine (totalF_any x.log (some ad) x.n cap _ HPL.out (by omega) hr3).mono ?_
  rintro e W3 ⟨rfl, hb3⟩
  have S3 := S2.kept hb3
  have hr4 := (hr3.below hb3 (Nat.le_refl _)).mono hb3.size
  have hB4 := hB3.trans (hb3.mono hB3.size)
  have hrows4 := hrows.below hb3
  clear S2 hr3 hB3 hb3 hrows u3 z3
  obtain ⟨t0, ht0⟩ : ∃ t0, t0 = (totalR x.log).1.1 := ⟨_, rfl⟩
  obtain ⟨t1, ht1⟩ : ∃ t1, t1 = (totalR x.log).1.2 := ⟨_, rfl⟩
  obtain ⟨t2, ht2⟩ : ∃ t2, t2 = (totalR x.log).2 := ⟨_, rfl⟩
  rw [← ht0, ← ht1, ← ht2]
  have HT0 := hide ht0
  have HT1 := hide ht1
  have HT2 := hide ht2
  clear ht0 ht1 ht2
  have T : TSt x w p3 W3.heap.size ad cap v t0 t1 (W3.alloc (.cells #[.int .i64 t0, .int .i64 t1] 23)) := by
    have hbn : Below W3.heap.size W3 (W3.alloc (.cells #[.int .i64 t0, .int .i64 t1] 23)) := (Below.refl _ _).alloc (Nat.le_refl _) _
    exact ⟨hB4.trans (hbn.mono hB4.size), S3.kept hbn, Blk.new _ _ _, (hr4.below hbn (Nat.le_refl _)).mono hbn.size, hrows4.below hbn⟩
  have hp6 : p3 < W3.heap.size := S3.lt
  have hrowsF := hrows4.form
  clear S3 hr4 hB4 hrows4
  obtain ⟨va, vcap, hv, hvl⟩ := hrowsF
  obtain ⟨L, hL⟩ : ∃ L, L = (allC x.log).length := ⟨_, rfl⟩
  rw [← hL] at hv hvl
  have HL := hide hL
  subst hv
  clear hL
  go_wp2_with fail
  generalize World.alloc W3 _ = V3 at *
  generalize W3.heap.size = p6 at *
  have TA := TrA.start HX.out
  go_loopw [8, 9, 10, 11] (fun k lo hi a wr => ∃ (kk : Nat) (aa l h : Int), k = .int .i64 (kk : Int) ∧ lo = .int .i64 l ∧ hi = .int .i64 h ∧ a = .int .i64 aa ∧ TrA x kk aa l h ∧ TSt x w p3 p6 ad cap (.slice va L vcap) t0 t1 wr) (fun _ _ _ a _ => (7 - intOf a).toNat)
  case atStart => exact ⟨0, 1, 100, 0, rfl, rfl, rfl, rfl, TA, T⟩
  case round =>
    clear T TA
    obtain ⟨kk, aa, l, h, rfl, rfl, rfl, rfl, TA, T⟩ := hrel
    have ha1 := TA.a1
    have ha7 := TA.a7
    by_cases h6 : aa ≤ 6
    · obtain ⟨wo, rfl⟩ : ∃ wo : World, wo = wr := ⟨_, rfl⟩
      have TB0 := TA.inner h6
      go_wp2_with fail
      go_loopw [8, 9, 10, 12] (fun k lo hi b wr => ∃ (kk : Nat) (bb l h : Int), k = .int .i64 (kk : Int) ∧ lo = .int .i64 l ∧ hi = .int .i64 h ∧ b = .int .i64 bb ∧ TrB x kk aa bb l h ∧ TSt x w p3 p6 ad cap (.slice va L vcap) t0 t1 wr) (fun _ _ _ b _ => (7 - intOf b).toNat)
      case atStart => exact ⟨kk, 1, l, h, rfl, rfl, rfl, rfl, TB0, T⟩
      case round =>
        clear T TA TB0
        obtain ⟨kk, bb, l, h, rfl, rfl, rfl, rfl, TB, T⟩ := hrel
        have hb1 := TB.b1
        have hb7 := TB.b7
        have u3 := T.b3.three
        have z3 := T.b3.lt
        by_cases htw : x.two = true
        · have HTW := hide htw
          have HN : Hid (x.n = 2) := hide (by unfold WNum.n; rw [htw]; rfl)
          have e2 : ((x.n : Int) == 2) = true := by rw [HN.out]; rfl
          clear htw
          by_cases hb6 : bb ≤ 6
          · by_cases hb : 1 < bb
            · go_wp2_with fail
              go_roundw
              case rel => exact ⟨kk, aa + 1, l, h, rfl, rfl, rfl, rfl, TB.done ⟨ha1, h6⟩ (by rw [HTW.out]; exact restB_two_no hb), T.kept ((Below.refl _ _).alloc (Nat.le_refl _) _)⟩
              case measure => simp [intOf]; omega
            · have hbb : bb ≤ 1 := by omega
              go_wp2_with fail
              have CS : CSix x [aa] := ⟨by rw [HN.out]; rfl, fun y hy => by simp at hy; omega, by simp; omega⟩
              have HSIX := hide (CS.six_ok HX.out)
              have HSM := hide (csum_six CS)
              have T1 := T.kept ((Below.refl _ _).alloc (Nat.le_refl _) (.cells #[.int .i64 aa, .int .i64 bb] 3))
              have hc1 : Row (wr.alloc (.cells #[.int .i64 aa, .int .i64 bb] 3)) (wr.alloc (.cells #[.int .i64 aa, .int .i64 bb] 3)).heap.size (some ⟨wr.heap.size, 0, none⟩) (ints [aa]) := (row_of_heap (World.alloc_heap_new _ _) (by simp [ints])).mono (by simp)
              have HE : Hid (restB x.two aa bb = [aa] :: restB x.two aa (bb + 1)) := hide (by rw [HTW.out]; exact restB_two hbb)
              clear T u3 z3 CS
              generalize World.alloc wr _ = V4 at *
              generalize wr.heap.size = p13 at *
              refine (tried_any x.lo x.hi x.log.ps [aa] _ _ _ cap _ 2 V4 (by omega) hlh.2.1 (by omega) HPL.out rfl HSIX.out.w T1.row hc1).mono ?_
              rintro e W5 ⟨tl, tg, is, rfl, hTI, hb5⟩
              have HF := hide (HSIX.out.found hTI)
              have htl : is = true → 180 ≤ tl ∧ tl ≤ 480 ∧ 180 ≤ tg ∧ tg ≤ 480 := fun hf => by
                have := hTI.yes hf
                omega
              have T2 := T1.kept hb5
              have hc2 := (hc1.below hb5 (Nat.le_refl _)).mono hb5.size
              have u3 := T2.b3.three
              have z3 := T2.b3.lt
              clear T1 hc1 hb5 hTI
              go_wp2_with fail
              have hcd := countedL_of HSIX.out.lok HSIX.out.cok (by rw [← HPL.out, HN.out]; rfl)
              have HCD := hide hcd
              clear hcd
              refine (periodF_any x.log [aa] _ _ _ cap _ 2 W5 HPL.out rfl (by omega) (by simp) (by simp) T2.row hc2).mono ?_
              cases is with
              | false =>
                have HP : Hid (possible x.log [aa] = false) := hide HF.out.1.symm
                rw [period_no HCD.out HP.out]
                rintro e W6 ⟨rfl, hb6'⟩
                have T3 := T2.kept hb6'
                have hb7' : Below W6.heap.size W6 ((W6.alloc (.cells #[.int .i64 0, .int .i64 0] 41)).alloc (.cells #[.int .i64 0, .int .i64 0] 41)) := ((Below.refl _ _).alloc (Nat.le_refl _) _).alloc (by simp) _
                have T4 := T3.kept hb7'
                clear T2 T3 hc2 hb6' htl u3 z3 hb7'
                go_wp2_with fail
                go_roundw
                case rel => exact ⟨kk, bb + 1, l, h, rfl, rfl, rfl, rfl, TB.skip hb6 HE.out HP.out, T4⟩
                case measure => simp [intOf]; omega
              | true =>
                have HP : Hid (possible x.log [aa] = true) := hide HF.out.1.symm
                rw [period_yes HCD.out HP.out]
                obtain ⟨d1, d2⟩ := HSIX.out.dens
                have r1 := red60 d1.1 d1.2
                have r2 := red60 d2.1 d2.2
                rw [← (HF.out.2 rfl).1] at r1
                rw [← (HF.out.2 rfl).2] at r2
                have htl' := htl rfl
                clear htl d1 d2 u3 z3
                generalize redR (lowEnd x.log [aa]) = A at *
                generalize redR (highEnd x.log [aa]) = B at *
                obtain ⟨A1, A2⟩ := A
                obtain ⟨B1, B2⟩ := B
                dsimp only at r1 r2 ⊢
                rintro e W6 ⟨rfl, hb6'⟩
                have T3 := T2.kept hb6'
                have hc3 := (hc2.below hb6' (Nat.le_refl _)).mono hb6'.size
                have hb7' : Below W6.heap.size W6 ((W6.alloc (.cells #[.int .i64 A1, .int .i64 A2] 41)).alloc (.cells #[.int .i64 B1, .int .i64 B2] 41)) := ((Below.refl _ _).alloc (Nat.le_refl _) _).alloc (by simp) _
                have T4 := T3.kept hb7'
                have hc4 := (hc3.below hb7' (Nat.le_refl _)).mono hb7'.size
                obtain ⟨hnx, hkl, hget⟩ := TB.next hb6 HE.out HP.out (by simp; omega)
                obtain ⟨vb, voff, vg, vcp, hva, vcell, vle, vrow⟩ := T4.rows.at_ hget
                have HNX := hide hnx
                have hkL : kk < L := by rw [HL.out]; exact hkl
                clear T2 T3 hc2 hc3 hb6' hb7' hget hnx hkl
                have aA : 30 ≤ 60 * A1 ∧ 60 * A1 ≤ 3000 := by
                  have q1 : 180 * A2 ≤ tl * A2 := Int.mul_le_mul_of_nonneg_right (by omega) (by omega)
                  have q2 : tl * A2 ≤ 480 * A2 := Int.mul_le_mul_of_nonneg_right (by omega) (by omega)
                  omega
                have aB : 30 ≤ 60 * B1 ∧ 60 * B1 ≤ 3000 := by
                  have q1 : 180 * B2 ≤ tg * B2 := Int.mul_le_mul_of_nonneg_right (by omega) (by omega)
                  have q2 : tg * B2 ≤ 480 * B2 := Int.mul_le_mul_of_nonneg_right (by omega) (by omega)
                  omega
                have tA : 30 ≤ tl * A2 ∧ tl * A2 ≤ 3000 := by omega
                have tB : 30 ≤ tg * B2 ∧ tg * B2 ≤ 3000 := by omega
                have nA : ((60 * A1) != (tl * A2)) = false := by rw [r1.2.2]; simp
                have nB : ((60 * B1) != (tg * B2)) = false := by rw [r2.2.2]; simp
                have rA : 1 ≤ A2 ∧ A2 ≤ 6 := ⟨r1.1, r1.2.1⟩
                have rB : 1 ≤ B2 ∧ B2 ≤ 6 := ⟨r2.1, r2.2.1⟩
                have hk500 : kk ≤ 500 := by have := watch_few HX.out; rw [← HL.out] at this; omega
                clear r1 r2
                subst hva
                go_wp2_with fail
                refine (numbers_any [aa] [aa] _ _ 1 vcp 1 2 _ _ _ rfl rfl (by decide) (by decide) vrow hc4).mono ?_
                rw [show decide ([aa] = [aa]) = true from decide_eq_true rfl]
                rintro e W7 ⟨rfl, hb8⟩
                have T5 := T4.kept hb8
                have hc5 := (hc4.below hb8 (Nat.le_refl _)).mono hb8.size
                clear T4 hc4 hb8 vcell vrow
                go_wp2_with fail
                clear aA aB tA tB nA nB rA rB htl'
                go_loop [20, 139] (fun s i => ∃ j : Nat, j ≤ 1 ∧ i = .int .i64 (j : Int) ∧ s = .int .i64 (csum [aa] 0 j)) (fun _ i => 1 - (intOf i).toNat)
                case atStart => exact ⟨0, by omega, rfl, by rw [csum_zero]⟩
                case round =>
                  obtain ⟨j, hj, rfl, rfl⟩ := hrel
                  have sj := HSM.out j
                  by_cases hjm : j < 1
                  · obtain ⟨b9, o9, h9, hlt9, hcells⟩ := hc5.int (by simp)
                    have hcell := hcells j (by simp; omega)
                    cases h9
                    simp only [Nat.zero_add] at hcell
                    have HS := hide (csum_snoc [aa] j (by simp; omega))
                    have sj1 := HSM.out (j + 1)
                    rw [HS.out] at sj1
                    clear hcells
                    generalize iat [aa] j = y at *
                    go_wp2_with fail
                    go_round
                    case rel => exact ⟨j + 1, by omega, by go_num, by rw [HS.out]⟩
                    case measure => simp [intOf]; omega
                  · have HS : Hid (csum [aa] 0 j = [aa].sum) := hide (by rw [show j = 1 by omega]; simp [csum])
                    have sS : 0 ≤ [aa].sum ∧ [aa].sum ≤ 6 := by rw [← HS.out]; exact sj
                    rw [HS.out]
                    clear sj
                    generalize [aa].sum = S at *
                    go_wp2_with fail
                    refine ⟨⟨kk + 1, bb + 1, min l S, max h S, by go_num, ?_, ?_, rfl, HNX.out, T5⟩, by simp [intOf]; omega⟩
                    · rw [Int.min_def]; congr 1; split <;> split <;> omega
                    · rw [Int.max_def]; congr 1; split <;> split <;> omega
          · go_wp2_with fail
            go_roundw
            case rel => exact ⟨kk, aa + 1, l, h, rfl, rfl, rfl, rfl, TB.done ⟨ha1, h6⟩ (by rw [HTW.out]; exact restB_two_no (by omega)), T⟩
            case measure => simp [intOf]; omega
        · have HTW := hide (Bool.eq_false_iff.2 htw)
          have HN : Hid (x.n = 3) := hide (by unfold WNum.n; rw [HTW.out]; rfl)
          have e2 : ((x.n : Int) == 2) = false := by rw [HN.out]; rfl
          clear htw
          by_cases hb6 : bb ≤ 6
          · by_cases hb : 6 < aa + bb
            · go_wp2_with fail
              go_roundw
              case rel => exact ⟨kk, aa + 1, l, h, rfl, rfl, rfl, rfl, TB.done ⟨ha1, h6⟩ (by rw [HTW.out]; exact restB_three_no hb), T.kept ((Below.refl _ _).alloc (Nat.le_refl _) _)⟩
              case measure => simp [intOf]; omega
            · have hbb : aa + bb ≤ 6 := by omega
              go_wp2_with fail
              have CS : CSix x [aa, bb] := ⟨by rw [HN.out]; rfl, fun y hy => by simp at hy; omega, by simp; omega⟩
              have HSIX := hide (CS.six_ok HX.out)
              have HSM := hide (csum_six CS)
              have T1 := T.kept ((Below.refl _ _).alloc (Nat.le_refl _) (.cells #[.int .i64 aa, .int .i64 bb] 3))
              have hc1 : Row (wr.alloc (.cells #[.int .i64 aa, .int .i64 bb] 3)) (wr.alloc (.cells #[.int .i64 aa, .int .i64 bb] 3)).heap.size (some ⟨wr.heap.size, 0, none⟩) (ints [aa, bb]) := (row_of_heap (World.alloc_heap_new _ _) (by simp [ints])).mono (by simp)
              have HE : Hid (restB x.two aa bb = [aa, bb] :: restB x.two aa (bb + 1)) := hide (by rw [HTW.out]; exact restB_three hbb)
              clear T u3 z3 CS
              generalize World.alloc wr _ = V4 at *
              generalize wr.heap.size = p13 at *
              refine (tried_any x.lo x.hi x.log.ps [aa, bb] _ _ _ cap _ 2 V4 (by omega) hlh.2.1 (by omega) HPL.out rfl HSIX.out.w T1.row hc1).mono ?_
              rintro e W5 ⟨tl, tg, is, rfl, hTI, hb5⟩
              have HF := hide (HSIX.out.found hTI)
              have htl : is = true → 180 ≤ tl ∧ tl ≤ 480 ∧ 180 ≤ tg ∧ tg ≤ 480 := fun hf => by
                have := hTI.yes hf
                omega
              have T2 := T1.kept hb5
              have hc2 := (hc1.below hb5 (Nat.le_refl _)).mono hb5.size
              have u3 := T2.b3.three
              have z3 := T2.b3.lt
              clear T1 hc1 hb5 hTI
              go_wp2_with fail
              have hcd := countedL_of HSIX.out.lok HSIX.out.cok (by rw [← HPL.out, HN.out]; rfl)
              have HCD := hide hcd
              clear hcd
              refine (periodF_any x.log [aa, bb] _ _ _ cap _ 2 W5 HPL.out rfl (by omega) (by simp) (by simp) T2.row hc2).mono ?_
              cases is with
              | false =>
                have HP : Hid (possible x.log [aa, bb] = false) := hide HF.out.1.symm
                rw [period_no HCD.out HP.out]
                rintro e W6 ⟨rfl, hb6'⟩
                have T3 := T2.kept hb6'
                have hb7' : Below W6.heap.size W6 ((W6.alloc (.cells #[.int .i64 0, .int .i64 0] 41)).alloc (.cells #[.int .i64 0, .int .i64 0] 41)) := ((Below.refl _ _).alloc (Nat.le_refl _) _).alloc (by simp) _
                have T4 := T3.kept hb7'
                clear T2 T3 hc2 hb6' htl u3 z3 hb7'
                go_wp2_with fail
                go_roundw
                case rel => exact ⟨kk, bb + 1, l, h, rfl, rfl, rfl, rfl, TB.skip hb6 HE.out HP.out, T4⟩
                case measure => simp [intOf]; omega
              | true =>
                have HP : Hid (possible x.log [aa, bb] = true) := hide HF.out.1.symm
                rw [period_yes HCD.out HP.out]
                obtain ⟨d1, d2⟩ := HSIX.out.dens
                have r1 := red60 d1.1 d1.2
                have r2 := red60 d2.1 d2.2
                rw [← (HF.out.2 rfl).1] at r1
                rw [← (HF.out.2 rfl).2] at r2
                have htl' := htl rfl
                clear htl d1 d2 u3 z3
                generalize redR (lowEnd x.log [aa, bb]) = A at *
                generalize redR (highEnd x.log [aa, bb]) = B at *
                obtain ⟨A1, A2⟩ := A
                obtain ⟨B1, B2⟩ := B
                dsimp only at r1 r2 ⊢
                rintro e W6 ⟨rfl, hb6'⟩
                have T3 := T2.kept hb6'
                have hc3 := (hc2.below hb6' (Nat.le_refl _)).mono hb6'.size
                have hb7' : Below W6.heap.size W6 ((W6.alloc (.cells #[.int .i64 A1, .int .i64 A2] 41)).alloc (.cells #[.int .i64 B1, .int .i64 B2] 41)) := ((Below.refl _ _).alloc (Nat.le_refl _) _).alloc (by simp) _
                have T4 := T3.kept hb7'
                have hc4 := (hc3.below hb7' (Nat.le_refl _)).mono hb7'.size
                obtain ⟨hnx, hkl, hget⟩ := TB.next hb6 HE.out HP.out (by simp; omega)
                obtain ⟨vb, voff, vg, vcp, hva, vcell, vle, vrow⟩ := T4.rows.at_ hget
                have HNX := hide hnx
                have hkL : kk < L := by rw [HL.out]; exact hkl
                clear T2 T3 hc2 hc3 hb6' hb7' hget hnx hkl
                have aA : 30 ≤ 60 * A1 ∧ 60 * A1 ≤ 3000 := by
                  have q1 : 180 * A2 ≤ tl * A2 := Int.mul_le_mul_of_nonneg_right (by omega) (by omega)
                  have q2 : tl * A2 ≤ 480 * A2 := Int.mul_le_mul_of_nonneg_right (by omega) (by omega)
                  omega
                have aB : 30 ≤ 60 * B1 ∧ 60 * B1 ≤ 3000 := by
                  have q1 : 180 * B2 ≤ tg * B2 := Int.mul_le_mul_of_nonneg_right (by omega) (by omega)
                  have q2 : tg * B2 ≤ 480 * B2 := Int.mul_le_mul_of_nonneg_right (by omega) (by omega)
                  omega
                have tA : 30 ≤ tl * A2 ∧ tl * A2 ≤ 3000 := by omega
                have tB : 30 ≤ tg * B2 ∧ tg * B2 ≤ 3000 := by omega
                have nA : ((60 * A1) != (tl * A2)) = false := by rw [r1.2.2]; simp
                have nB : ((60 * B1) != (tg * B2)) = false := by rw [r2.2.2]; simp
                have rA : 1 ≤ A2 ∧ A2 ≤ 6 := ⟨r1.1, r1.2.1⟩
                have rB : 1 ≤ B2 ∧ B2 ≤ 6 := ⟨r2.1, r2.2.1⟩
                have hk500 : kk ≤ 500 := by have := watch_few HX.out; rw [← HL.out] at this; omega
                clear r1 r2
                subst hva
                go_wp2_with fail
                refine (numbers_any [aa, bb] [aa, bb] _ _ 2 vcp 2 2 _ _ _ rfl rfl (by decide) (by decide) vrow hc4).mono ?_
                rw [show decide ([aa, bb] = [aa, bb]) = true from decide_eq_true rfl]
                rintro e W7 ⟨rfl, hb8⟩
                have T5 := T4.kept hb8
                have hc5 := (hc4.below hb8 (Nat.le_refl _)).mono hb8.size
                clear T4 hc4 hb8 vcell vrow
                go_wp2_with fail
                clear aA aB tA tB nA nB rA rB htl'
                go_loop [20, 139] (fun s i => ∃ j : Nat, j ≤ 2 ∧ i = .int .i64 (j : Int) ∧ s = .int .i64 (csum [aa, bb] 0 j)) (fun _ i => 2 - (intOf i).toNat)
                case atStart => exact ⟨0, by omega, rfl, by rw [csum_zero]⟩
                case round =>
                  obtain ⟨j, hj, rfl, rfl⟩ := hrel
                  have sj := HSM.out j
                  by_cases hjm : j < 2
                  · obtain ⟨b9, o9, h9, hlt9, hcells⟩ := hc5.int (by simp)
                    have hcell := hcells j (by simp; omega)
                    cases h9
                    simp only [Nat.zero_add] at hcell
                    have HS := hide (csum_snoc [aa, bb] j (by simp; omega))
                    have sj1 := HSM.out (j + 1)
                    rw [HS.out] at sj1
                    clear hcells
                    generalize iat [aa, bb] j = y at *
                    go_wp2_with fail
                    go_round
                    case rel => exact ⟨j + 1, by omega, by go_num, by rw [HS.out]⟩
                    case measure => simp [intOf]; omega
                  · have HS : Hid (csum [aa, bb] 0 j = [aa, bb].sum) := hide (by rw [show j = 2 by omega]; simp [csum])
                    have sS : 0 ≤ [aa, bb].sum ∧ [aa, bb].sum ≤ 6 := by rw [← HS.out]; exact sj
                    rw [HS.out]
                    clear sj
                    generalize [aa, bb].sum = S at *
                    go_wp2_with fail
                    refine ⟨⟨kk + 1, bb + 1, min l S, max h S, by go_num, ?_, ?_, rfl, HNX.out, T5⟩, by simp [intOf]; omega⟩
                    · rw [Int.min_def]; congr 1; split <;> split <;> omega
                    · rw [Int.max_def]; congr 1; split <;> split <;> omega
          · go_wp2_with fail
            go_roundw
            case rel => exact ⟨kk, aa + 1, l, h, rfl, rfl, rfl, rfl, TB.done ⟨ha1, h6⟩ (by rw [HTW.out]; exact restB_three_no (by omega)), T⟩
            case measure => simp [intOf]; omega
    · obtain ⟨hkl, hsum⟩ := TA.end_ (by omega)
      have hkl' : kk = L := by rw [hkl]; exact HL.out.symm
      have HTT := hide (watch_total HX.out hsum)
      clear hkl hsum TA
      subst hkl'
      have hL5 : kk ≤ 500 := by have := watch_few HX.out; rw [← HL.out] at this; omega
      have u6 := T.b6.two
      have z6 := T.b6.lt
      by_cases hL0 : kk = 0
      · have hnil : allC x.log = [] := List.length_eq_zero_iff.1 (by rw [← HL.out]; exact hL0)
        have ht2 : t2 = 13 := by rw [HT2.out, HTT.out.1 hnil]
        subst hL0
        subst ht2
        clear hnil
        go_wp2_with (go_at_call 13; refine (works_any _).mono ?_; rintro e W9 ⟨rfl, hb9⟩)
        go_ret
        exact ⟨rfl, T.be.trans (hb9.mono T.be.size)⟩
      · have hne : allC x.log ≠ [] := fun e => hL0 (by rw [HL.out, e]; rfl)
        have ht2 : t2 = 0 := by rw [HT2.out, HTT.out.2 hne]
        have ht0 : l = t0 := by rw [HT0.out, HTT.out.2 hne]
        have ht1 : h = t1 := by rw [HT1.out, HTT.out.2 hne]
        have hL0' : ((kk : Int) == 0) = false := by simp; omega
        clear hne HTT HT0 HT1 HT2 hL0
        subst ht2
        subst ht0
        subst ht1
        go_wp2_with (go_at_call 13; refine (works_any _).mono ?_; rintro e W9 ⟨rfl, hb9⟩)
        go_ret
        exact ⟨rfl, T.be.trans (hb9.mono T.be.size)⟩

end Go.Proofs.Ytjgebepeghgmcaa
