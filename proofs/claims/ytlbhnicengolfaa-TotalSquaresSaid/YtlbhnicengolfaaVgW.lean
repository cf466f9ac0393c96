/-
  Package total: group, its closure walked.
-/
import Derived.Test.YtlbhnicengolfaaGrpA
namespace Go.Proofs.Ytlbhnicengolfaa
open Go.RowKit
set_option linter.unusedVariables false
set_option linter.unusedSimpArgs false

theorem GIn.at {W0 : World} {s MB base N bN bl : Nat} {ts : List Tri} {l : List Int} {lk : Int → List Int} {sa ta la : Option Addr} {sc tn tc ln lc : Nat} (h : GIn W0 s MB base N bN bl ts l lk sa ta la sc tn tc ln lc) {W : World} (hf : GFix W0 s MB N bN bl W) :
    Blk W bN #[.slice sa N sc, .slice ta tn tc] 25 ∧ Blk W bl #[.slice la ln lc] 38 ∧ Row W s ta (tris ts) ∧ Row W s la (ints l) :=
  ⟨h.net.below hf.be (by have := h.net.lt; have := hf.hs; omega), h.lb.below hf.be (by have := h.lb.lt; have := hf.hs; omega), h.rt.below hf.be (Nat.le_refl _), h.rl.below hf.be (Nat.le_refl _)⟩
theorem range_snoc {α : Type} (g : α → Nat → α) (a : α) (k : Nat) : (List.range (k + 1)).foldl g a = g ((List.range k).foldl g a) k := by rw [List.range_succ, List.foldl_append]; rfl
theorem foldl_snoc {α β : Type} (g : α → β → α) (a : α) (xs : List β) (k : Nat) (o : β) (h : xs[k]? = some o) : (xs.take (k + 1)).foldl g a = g ((xs.take k).foldl g a) o := by rw [List.take_add_one, h, List.foldl_append]; rfl

set_option maxRecDepth 100000 in
set_option maxHeartbeats 8000000 in
theorem vg_step (f : Nat) (W0 : World) (s MB base N bN bl : Nat) (ts : List Tri) (l : List Int) (lk : Int → List Int) (sa ta la : Option Addr) (sc tn tc ln lc : Nat) (hIn : GIn W0 s MB base N bN bl ts l lk sa ta la sc tn tc ln lc)
    (IH : VgSpec f W0 s MB N bN bl ts l lk tn) : VgSpec (f + 1) W0 s MB N bN bl ts l lk tn := by
  intro i sign from_ st W hi0 hi1 hs0 hs1 hl1 hlf hlm hol hfix hst
  have HIN := hide hIn
  have HIH := hide IH
  have HVG : Hid (vg ts l lk (f + 1) i sign from_ st = (List.range 3).foldl (fun st k => gC (vg ts l lk f) ts l lk i from_ (ownAt sign k) (cAt (tri ts i.toNat) k) st) { st with left := st.left - 1 }) := hide rfl
  have ht5 := hIn.ht5
  have hN := hIn.hN
  have htc := hIn.htc
  obtain ⟨ni, rfl⟩ : ∃ ni : Nat, i = (ni : Int) := ⟨i.toNat, by omega⟩
  have hni : ni < ts.length := by have := hIn.htn; omega
  have hnt : ni < tn := by omega
  obtain ⟨x0, xf⟩ := hst.left.one
  have lx := hst.left.lt
  obtain ⟨kn, _, hrt, _⟩ := hIn.at hfix
  obtain ⟨tb, toff, hta, htb, hcell⟩ := hrt.tri (by omega)
  obtain ⟨t0, t1, t2⟩ := hcell ni hni
  have hcor := hIn.hin (tri ts ni) (by rw [tri_eq hni]; exact List.getElem_mem hni)
  have hst1 := hst.setLeft (st.left - 1)
  have hfix1 := hfix.set (b := s + 3) (.inr (.inl rfl)) 0 (.int .i64 (st.left - 1))
  simp only [Int.toNat_natCast] at HVG
  obtain ⟨tt, htt⟩ : ∃ t, t = tri ts ni := ⟨_, rfl⟩
  rw [← htt] at t0 t1 t2 hcor HVG
  have HTT := hide htt
  clear IH hIn hcell hrt htt hni
  obtain ⟨a, b, c⟩ := tt
  dsimp only at t0 t1 t2
  have ha := hcor a (by simp [cor])
  have hb := hcor b (by simp [cor])
  have hc := hcor c (by simp [cor])
  clear hcor
  subst hta
  have htw : tb < W.heap.size := by have := hfix.k6.lt; omega
  have hs3t : ¬ tb = s + 3 := by omega
  obtain ⟨n0, n1, _⟩ := kn.two
  have ln0 := kn.lt
  have hbN3 : ¬ bN = s + 3 := by have := HIN.out.net.lt; have := hfix.hs; omega
  go_enter Try.func70, Try.ntmps70
  go_wp2_with fail
  refine (corners_any a b c _).mono ?_
  rintro e W2 ⟨rfl, hb2⟩
  have hB12 : Below (W.setCell ⟨s + 3, 0, none⟩ (.int .i64 (st.left - 1))).heap.size (W.setCell ⟨s + 3, 0, none⟩ (.int .i64 (st.left - 1))) W2 := ((Below.refl _ _).alloc (Nat.le_refl _) _).trans (hb2.mono (by simp))
  have hst2 := hst1.kept hB12
  have hfix2 := hfix1.kept hB12
  have hML : Hid (0 ≤ st.left - 1 ∧ st.left - 1 ≤ 1000 ∧ st.left - 1 ≤ f) := hide (by omega)
  clear hst hfix hst1 hfix1 hb2 hB12 x0 xf lx kn t0 t1 t2 n0 n1 ln0
  generalize hL0 : st.left - 1 = L0 at *
  clear hL0
  go_wp2_with fail
  go_loopw [30] (fun ix wr => ∃ (k : Nat) (st' : GS), k ≤ 3 ∧ ix = .int .i64 (k : Int) ∧ Hid (st' = (List.range k).foldl (fun st k => gC (vg ts l lk f) ts l lk (ni : Int) from_ (ownAt sign k) (cAt (a, b, c) k) st) { st with left := L0 }) ∧ Hid (0 ≤ st'.left ∧ st'.left ≤ L0 ∧ st'.out.length = N) ∧ GFix W0 s MB N bN bl wr ∧ GSt s st' wr) (fun ix _ => 3 - (intOf ix).toNat)
  case atStart => exact ⟨0, _, by omega, rfl, hide rfl, hide ⟨hML.out.1, Int.le_refl _, hol⟩, hfix2, hst2⟩
  case round =>
    clear hst2 hfix2
    obtain ⟨k, st', hk, rfl, HST, HM, hfix, hst⟩ := hrel
    by_cases hk3 : k < 3
    · obtain ⟨o, ho1, ho2⟩ : ∃ o : Nat, cAt (a, b, c) k = (o : Int) ∧ o < N := by
        have : k = 0 ∨ k = 1 ∨ k = 2 := by omega
        rcases this with rfl | rfl | rfl
        · exact ⟨a.toNat, by show a = _; omega, by omega⟩
        · exact ⟨b.toNat, by show b = _; omega, by omega⟩
        · exact ⟨c.toNat, by show c = _; omega, by omega⟩
      have hix : ∀ w, (Instr.index 108 (.agg #[.int .i64 a, .int .i64 b, .int .i64 c]) (.int .i64 (k : Int))).run Try.prog w = .ok (.int .i64 (o : Int)) w := by
        have : k = 0 ∨ k = 1 ∨ k = 2 := by omega
        rcases this with rfl | rfl | rfl
        · rw [show a = (o : Int) from ho1]; intro w; kernel_rfl
        · rw [show b = (o : Int) from ho1]; intro w; kernel_rfl
        · rw [show c = (o : Int) from ho1]; intro w; kernel_rfl
      have HNX := hide (range_snoc (fun st k => gC (vg ts l lk f) ts l lk (ni : Int) from_ (ownAt sign k) (cAt (a, b, c) k) st) { st with left := L0 } k)
      rw [← HST.out, ho1] at HNX
      clear ho1
      obtain ⟨c0, cf⟩ := hst.cell (q := o) (by rw [HM.out.2.2]; exact ho2)
      have l1 := hst.out.lt
      obtain ⟨o7, _⟩ := hfix.k7.one
      have l7 := hfix.k7.lt
      have HG : Hid (∀ own, gC (vg ts l lk f) ts l lk (ni : Int) from_ own (o : Int) st' = { ((lk (o : Int)).foldl (gO (vg ts l lk f) ts l (ni : Int) (o : Int) from_ own) (0, { st' with out := addO st'.out (o : Int) own })).2 with good := ((lk (o : Int)).foldl (gO (vg ts l lk f) ts l (ni : Int) (o : Int) from_ own) (0, { st' with out := addO st'.out (o : Int) own })).2.good && decide (((lk (o : Int)).foldl (gO (vg ts l lk f) ts l (ni : Int) (o : Int) from_ own) (0, { st' with out := addO st'.out (o : Int) own })).1 < 3) }) := hide (fun own => rfl)
      generalize hx : st'.out.getD o 0 = x at *
      have HX := hide hx
      clear hx
      have HREL : Hid (∃ kn : Nat, kn ≤ 3 ∧ (kn : Int) = (k : Int) + 1 ∧ (List.range kn).foldl (fun st k => gC (vg ts l lk f) ts l lk (ni : Int) from_ (ownAt sign k) (cAt (a, b, c) k) st) { st with left := L0 } = gC (vg ts l lk f) ts l lk (ni : Int) from_ (ownAt sign k) (o : Int) st') := hide ⟨k + 1, by omega, by omega, HNX.out⟩
      clear HNX
      by_cases hk2 : k = 2
      case' pos =>
        obtain ⟨own, hown⟩ : ∃ own, own = -sign := ⟨_, rfl⟩
        have HOWN : Hid (ownAt sign k = own) := hide (by rw [hown]; unfold ownAt; rw [if_pos hk2])
        have ho0 : -1 ≤ own := by omega
        have ho1 : own ≤ 1 := by omega
        have HKI : Hid ((k : Int) = 2) := hide (by omega)
        have hix2 : ∀ w, (Instr.index 108 (.agg #[.int .i64 a, .int .i64 b, .int .i64 c]) (.int .i64 2)).run Try.prog w = .ok (.int .i64 (o : Int)) w := by rw [HKI.out] at hix; exact hix
        rw [HKI.out]
        clear hix hk2 hk3
        have hk3 : k < 3 := by have := HKI.out; omega
        go_upto_region 8 with (fail)
        rw [← hown]
        clear hown hix2
      case' neg =>
        have d2 : ((k : Int) == 2) = false := by rw [beq_eq_false_iff_ne]; omega
        obtain ⟨own, hown⟩ : ∃ own, own = sign := ⟨_, rfl⟩
        have HOWN : Hid (ownAt sign k = own) := hide (by rw [hown]; unfold ownAt; rw [if_neg hk2])
        have ho0 : -1 ≤ own := by omega
        have ho1 : own ≤ 1 := by omega
        have HKI : Hid ((k : Int) = (k : Int)) := hide rfl
        subst hown
        go_upto_region 8 with (fail)
        clear d2 hk2 hix
      all_goals
        rw [HOWN.out] at HREL
        clear HOWN
        have hst3 := hst.setOut o (wrap64 (x + own))
        have hfix3 := hfix.set (b := s + 1) (.inl rfl) o (.int .i64 (wrap64 (x + own)))
        have HS3 : Hid ({ st' with out := st'.out.set o (wrap64 (x + own)) } = { st' with out := addO st'.out (o : Int) own }) := hide (by unfold addO; rw [Int.toNat_natCast, HX.out])
        rw [HS3.out] at hst3
        go_upto_region 9 with (fail)
        generalize World.setCell wr _ _ = V at *
        obtain ⟨va, vcap, hrun, hl15, hlc, hlm, hrow⟩ := HIN.out.grp.look_in hfix3.hs hfix3.be (by omega) (x := (o : Int)) (by omega) (by omega)
        obtain ⟨k60, _⟩ := hfix3.k6.one
        have l60 := hfix3.k6.lt
        have HLK := hide (fun x hx => HIN.out.hlk (o : Int) x hx)
        have HGC := hide (HG.out own)
        have HM3 : Hid (0 ≤ ({ st' with out := addO st'.out (o : Int) own } : GS).left ∧ ({ st' with out := addO st'.out (o : Int) own } : GS).left ≤ L0 ∧ ({ st' with out := addO st'.out (o : Int) own } : GS).out.length = N) := hide ⟨HM.out.1, HM.out.2.1, by show (addO _ _ _).length = N; rw [addO_len]; exact HM.out.2.2⟩
        have hob : o < 100 := by omega
        clear HG HM HS3 hst hfix c0 cf l1 o7 l7 HX
        generalize ({ st' with out := addO st'.out (o : Int) own } : GS) = st3 at *
        generalize lk (o : Int) = LK at *
        obtain ⟨Ln, hLn⟩ : ∃ Ln, Ln = LK.length := ⟨_, rfl⟩
        rw [← hLn] at hrun hl15 hlc
        have HLN := hide hLn
        clear hLn
        go_wp2_with fail
        clear hrun k60 l60
        go_loopw [17, 50] (fun u ix wr => ∃ (m : Nat) (un : Int) (st2 : GS), m ≤ Ln ∧ ix = .int .i64 (m : Int) ∧ u = .int .i64 un ∧ Hid ((un, st2) = (LK.take m).foldl (gO (vg ts l lk f) ts l (ni : Int) (o : Int) from_ own) (0, st3)) ∧ (0 ≤ un ∧ un ≤ m) ∧ Hid (0 ≤ st2.left ∧ st2.left ≤ L0 ∧ st2.out.length = N) ∧ GFix W0 s MB N bN bl wr ∧ GSt s st2 wr) (fun _ ix _ => Ln - (intOf ix).toNat)
        case atStart => exact ⟨0, 0, st3, Nat.zero_le _, rfl, rfl, hide rfl, by omega, HM3, hfix3, hst3⟩
        case round =>
          clear hst3 hfix3
          obtain ⟨m, un, st2, hm, rfl, rfl, HF2, ⟨hu0, hu1⟩, HM2, hfix, hst⟩ := hrel
          by_cases hml : m < Ln
          · have hmk : m < LK.length := by rw [← HLN.out]; exact hml
            obtain ⟨g, off, hva, hgs, hcel⟩ := (hrow.below hfix.be (Nat.le_refl _)).int (by omega)
            have hc0 := hcel m hmk
            have hp := HLK.out (iat LK m) (by rw [iat_eq LK m hmk]; exact List.getElem_mem hmk)
            have HFN := hide (foldl_snoc (gO (vg ts l lk f) ts l (ni : Int) (o : Int) from_ own) (0, st3) LK m (iat LK m) (by rw [iat_eq LK m hmk]; exact List.getElem?_eq_getElem hmk))
            rw [← HF2.out] at HFN
            clear hcel hmk
            subst hva
            generalize iat LK m = pp at *
            obtain ⟨np, rfl⟩ : ∃ np : Nat, pp = (np : Int) := ⟨pp.toNat, by omega⟩
            obtain ⟨kn, kl, hrt, hrl⟩ := HIN.out.at hfix
            have hnt2 : np < tn := by omega
            obtain ⟨l0, _⟩ := kl.one
            have ll := kl.lt
            have hgw : g < wr.heap.size := by have := hfix.k6.lt; omega
            have HCO := hide (contains_any (np : Int) l la ln lc s wr HIN.out.hln (by have := HIN.out.hl5; omega) hrl)
            have HROWT := hide hrt
            have HKN := hide kn
            clear hrt hrl kn
            go_wp2_with fail
            refine HCO.out.mono ?_
            rintro e W4 ⟨rfl, rfl⟩
            clear HCO l0 ll hc0
            by_cases hpl : (np : Int) ∈ l
            rotate_left
            · have HGO : Hid (gO (vg ts l lk f) ts l (ni : Int) (o : Int) from_ own (un, st2) (np : Int) = (un, st2)) := hide (by unfold gO; rw [if_pos hpl])
              have dpl : decide ((np : Int) ∈ l) = false := decide_eq_false hpl
              rw [dpl]
              clear hpl dpl
              go_wp2_with fail
              go_roundw
              case rel => exact ⟨m + 1, un, st2, by omega, by go_num, rfl, hide (by rw [HFN.out, HGO.out]), by omega, HM2, hfix, hst⟩
              case measure => simp [intOf]; omega
            have dpl : decide ((np : Int) ∈ l) = true := decide_eq_true hpl
            rw [dpl]
            have HPL := hide hpl
            clear hpl dpl
            by_cases hpi : np = ni
            · have HGO : Hid (gO (vg ts l lk f) ts l (ni : Int) (o : Int) from_ own (un, st2) (np : Int) = (un + 1, st2)) := hide (by unfold gO; rw [if_neg (by simpa using HPL.out), if_pos (.inl (by omega))])
              have e1 : ((np : Int) == (ni : Int)) = true := by rw [hpi]; simp
              have HPI := hide hpi
              clear hpi
              go_wp2_with fail
              go_roundw
              case rel => exact ⟨m + 1, un + 1, st2, by omega, by go_num, rfl, hide (by rw [HFN.out, HGO.out]), by omega, HM2, hfix, hst⟩
              case measure => simp [intOf]; omega
            have e1 : ((np : Int) == (ni : Int)) = false := by rw [beq_eq_false_iff_ne]; omega
            by_cases hof : (o : Int) = from_
            · have HGO : Hid (gO (vg ts l lk f) ts l (ni : Int) (o : Int) from_ own (un, st2) (np : Int) = (un + 1, st2)) := hide (by unfold gO; rw [if_neg (by simpa using HPL.out), if_pos (.inr hof)])
              have e2 : ((o : Int) == from_) = true := by rw [hof]; simp
              clear hof
              go_wp2_with fail
              go_roundw
              case rel => exact ⟨m + 1, un + 1, st2, by omega, by go_num, rfl, hide (by rw [HFN.out, HGO.out]), by omega, HM2, hfix, hst⟩
              case measure => simp [intOf]; omega
            have e2 : ((o : Int) == from_) = false := by rw [beq_eq_false_iff_ne]; exact hof
            have HGO : Hid (gO (vg ts l lk f) ts l (ni : Int) (o : Int) from_ own (un, st2) (np : Int) = (un + 1, if 0 < st2.left then vg ts l lk f (np : Int) (if (tri ts np).2.2 = (o : Int) then own else -own) (o : Int) st2 else st2)) := hide (by
              unfold gO; rw [if_neg (by simpa using HPL.out), if_neg (by omega), Int.toNat_natCast])
            clear hpi hof
            obtain ⟨tb2, toff2, hta2, htb2, hcel2⟩ := HROWT.out.tri (by have := HIN.out.htn; omega)
            obtain ⟨_, _, t22⟩ := hcel2 np (by have := HIN.out.htn; omega)
            injection hta2 with hta2
            injection hta2 with hta3 hta4
            subst hta3 hta4
            obtain ⟨n0, n1, _⟩ := HKN.out.two
            have ln0 := HKN.out.lt
            have htw2 : tb < wr.heap.size := by have := hfix.k6.lt; omega
            obtain ⟨x0, _⟩ := hst.left.one
            have lx := hst.left.lt
            obtain ⟨v0, _⟩ := hfix.k10.one
            have lv := hfix.k10.lt
            unfold visF at v0
            have htc3 : np < tc := by omega
            clear hcel2 HROWT
            generalize (tri ts np).2.2 = wh at *
            by_cases hwo : wh = (o : Int)
            case' pos =>
              obtain ⟨tu, htu⟩ : ∃ tu, tu = own := ⟨_, rfl⟩
              have e3 : (wh == (o : Int)) = true := by rw [hwo]; simp
              rw [if_pos hwo, ← htu] at HGO
              have ht0 : -1 ≤ tu := by omega
              have ht1 : tu ≤ 1 := by omega
              have HWO := hide hwo
              clear hwo
              subst htu
              go_upto_region 19 with (fail)
              clear e3
            case' neg =>
              obtain ⟨tu, htu⟩ : ∃ tu, tu = -own := ⟨_, rfl⟩
              have e3 : (wh == (o : Int)) = false := by rw [beq_eq_false_iff_ne]; exact hwo
              rw [if_neg hwo, ← htu] at HGO
              have ht0 : -1 ≤ tu := by omega
              have ht1 : tu ≤ 1 := by omega
              have HWO := hide hwo
              clear hwo
              go_upto_region 19 with (fail)
              rw [← htu]
              clear htu e3
            all_goals
              clear t22
              by_cases hlf : 0 < st2.left
              · have d9 : decide (0 < st2.left) = true := decide_eq_true hlf
                rw [if_pos hlf] at HGO
                have HCALL := hide (HIH.out (np : Int) tu (o : Int) st2 wr hp.1 hp.2 ht0 ht1 hlf (Int.le_trans HM2.out.2.1 hML.out.2.2) (Int.le_trans HM2.out.2.1 hML.out.2.1) HM2.out.2.2 hfix hst)
                have HMN := hide (vg_mn N ts l lk f (np : Int) tu (o : Int) st2 hlf)
                generalize vg ts l lk f (np : Int) tu (o : Int) st2 = st4 at *
                clear hlf
                go_wp2_with fail
                refine HCALL.out.mono ?_
                rintro e W5 ⟨rfl, hfix5, hst5⟩
                clear HCALL n0 n1 ln0 x0 lx v0 lv hfix hst d9
                go_wp2_with fail
                go_roundw
                case rel => exact ⟨m + 1, un + 1, st4, by omega, by go_num, rfl, hide (by rw [HFN.out, HGO.out]), by omega, hide ⟨HMN.out.2.2 HM2.out.1, Int.le_trans HMN.out.1 HM2.out.2.1, HMN.out.2.1 HM2.out.2.2⟩, hfix5, hst5⟩
                case measure => simp [intOf]; omega
              · have d9 : decide (0 < st2.left) = false := decide_eq_false hlf
                rw [if_neg hlf] at HGO
                clear hlf
                go_wp2_with fail
                go_roundw
                case rel => exact ⟨m + 1, un + 1, st2, by omega, by go_num, rfl, hide (by rw [HFN.out, HGO.out]), by omega, HM2, hfix, hst⟩
                case measure => simp [intOf]; omega
          · have hmk : m = Ln := by omega
            have HFF : Hid ((un, st2) = LK.foldl (gO (vg ts l lk f) ts l (ni : Int) (o : Int) from_ own) (0, st3)) := hide (by rw [HF2.out, List.take_of_length_le (by rw [hmk, HLN.out]; exact Nat.le_refl _)])
            have HGF : Hid (gC (vg ts l lk f) ts l lk (ni : Int) from_ own (o : Int) st' = { st2 with good := st2.good && decide (un < 3) }) := hide (by rw [HGC.out, ← HFF.out])
            rw [HGF.out] at HREL
            clear hmk HFF HGF
            obtain ⟨y0, _⟩ := hst.good.one
            have ly := hst.good.lt
            cases hgd : st2.good with
            | false =>
              rw [hgd] at y0
              have hst9 := hst.setGood false
              have hfix9 := hfix.set (b := s + 4) (.inr (.inr rfl)) 0 (.bool false)
              have HE : Hid ({ st2 with good := st2.good && decide (un < 3) } = { st2 with good := false }) := hide (by rw [hgd]; rfl)
              rw [HE.out] at HREL
              clear hgd
              go_wp2_with fail
              obtain ⟨kn, q1, q2, q3⟩ := HREL.out
              first
              | refine ⟨⟨kn, _, q1, congrArg (Value.int .i64) (by have := HKI.out; omega), hide q3.symm, HM2, hfix9, hst9⟩, by simp [intOf]; omega⟩
              | (go_roundw
                 case rel => exact ⟨kn, _, q1, congrArg (Value.int .i64) (by have := HKI.out; omega), hide q3.symm, HM2, hfix9, hst9⟩
                 case measure => (simp [intOf] <;> omega))
            | true =>
              rw [hgd] at y0
              have hst9 := hst.setGood (decide (un < 3))
              have hfix9 := hfix.set (b := s + 4) (.inr (.inr rfl)) 0 (.bool (decide (un < 3)))
              have HE : Hid ({ st2 with good := st2.good && decide (un < 3) } = { st2 with good := decide (un < 3) }) := hide (by rw [hgd]; rfl)
              rw [HE.out] at HREL
              clear hgd
              go_wp2_with fail
              obtain ⟨kn, q1, q2, q3⟩ := HREL.out
              first
              | refine ⟨⟨kn, _, q1, congrArg (Value.int .i64) (by have := HKI.out; omega), hide q3.symm, HM2, hfix9, hst9⟩, by simp [intOf]; omega⟩
              | (go_roundw
                 case rel => exact ⟨kn, _, q1, congrArg (Value.int .i64) (by have := HKI.out; omega), hide q3.symm, HM2, hfix9, hst9⟩
                 case measure => (simp [intOf] <;> omega))
    · have hk3' : k = 3 := by omega
      have HF : Hid (vg ts l lk (f + 1) (ni : Int) sign from_ st = st') := hide (by rw [HVG.out, HST.out, hk3'])
      go_wp2_with fail
      go_end0
      exact ⟨rfl, hfix, by rw [HF.out]; exact hst⟩

theorem vg_any (W0 : World) (s MB base N bN bl : Nat) (ts : List Tri) (l : List Int) (lk : Int → List Int) (sa ta la : Option Addr) (sc tn tc ln lc : Nat) (hIn : GIn W0 s MB base N bN bl ts l lk sa ta la sc tn tc ln lc) : ∀ f, VgSpec f W0 s MB N bN bl ts l lk tn
  | 0 => by intro i sign from_ st W _ _ _ _ h1 h2; exact absurd h2 (by omega)
  | f + 1 => vg_step f W0 s MB base N bN bl ts l lk sa ta la sc tn tc ln lc hIn (vg_any W0 s MB base N bN bl ts l lk sa ta la sc tn tc ln lc hIn f)

end Go.Proofs.Ytlbhnicengolfaa
