/-
  TotalEither: the walk.
-/
import Derived.Test.YtlbhnicengolfaaEithT
namespace Go.Proofs.Ytlbhnicengolfaa
open Go.RowKit
set_option linter.unusedVariables false
set_option linter.unusedSimpArgs false

set_option maxRecDepth 100000 in
set_option maxHeartbeats 8000000 in
theorem either_any (s : TSky) (la : Option Addr) (ln lc : Nat) (w : World) (hs : SkyOk s) (hln : ln = s.lk.length) (hl : ln ≤ 9223372036854775807) (hrow : Row w w.heap.size la (u8p s.lk)) :
    Calls Try.prog 7 #[.agg (skyC la ln lc s)] w fun e w' => e = .returned (.bool true) ∧ Below w.heap.size w w' := by
  have hok := skyNet_ok hs
  have hsl : (skyNet s).sp.length = 1 + 2 * skyK s := by simp [skyNet]
  have HCASE : Hid ((chs (skyNet s) (skyNet s).sp.length [] [] = [] ∧ sqR (skyNet s) = ([], 13) ∧ ∃ l, ClOk (skyNet s) l) ∨
      (chs (skyNet s) (skyNet s).sp.length [] [] = narT (skyNet s).ts (sqs (skyNet s).sp) ∧ sqR (skyNet s) = (narT (skyNet s).ts (sqs (skyNet s).sp), 0) ∧ claR (skyNet s) = ([], 6))) := hide (by
    rcases want_ok hok with ⟨h1, h2⟩ | ⟨⟨x, hx⟩, h2⟩
    · refine .inl ⟨h1, ?_, sky_clash s hs hok hsl rfl h2⟩
      have hn : narOk (skyNet s).ts (sqs (skyNet s).sp) = false := by
        cases h : narOk (skyNet s).ts (sqs (skyNet s).sp) with
        | false => rfl
        | true => exact absurd ((ok_iff hok (sqs_len _)).1 h) h2
      unfold sqR
      rw [if_neg (by rw [check_of hok]; simp), hn]
      rfl
    · exact .inr ⟨h2, (sqR_tru hok hx).1, sky_cla s hok hsl rfl hx⟩)
  have HNZ : Hid (checkT (skyNet s) = 0 → NzAll (skyNet s)) := hide (fun _ => sky_nz s (sp := (skyNet s).sp) hsl)
  have HM := hide (fun (W : World) (hb : Below w.heap.size w W) => made_any s la ln lc W hs hln hl ((hrow.below hb (Nat.le_refl _)).mono hb.size))
  have HLN : Hid ((skyNet s).sp.length = 1 + 2 * skyK s ∧ (skyNet s).ts.length = skyK s ∧ (narT (skyNet s).ts (sqs (skyNet s).sp)).length = 1 + 2 * skyK s) := hide ⟨hsl, skyTs_len _ _, by rw [narT_len, sqs_len, hsl]⟩
  have HOK := hide hok
  have hk7 : skyK s ≤ 3 := by unfold skyK; omega
  clear hs hln hrow hok hsl
  generalize skyNet s = n at *
  generalize skyK s = T at *
  obtain ⟨N, hN⟩ : ∃ N, N = 1 + 2 * T := ⟨_, rfl⟩
  rw [← hN] at HM HLN
  rw [HLN.out.1] at HCASE
  have HN := hide hN
  have hN1 : 1 ≤ N := by omega
  have hN7 : N ≤ 7 := by omega
  clear hN
  unfold skyC at *
  go_enter Try.func7, Try.ntmps7
  go_wp2_with fail
  generalize hW : World.alloc w _ = V at *
  have hbV : Below w.heap.size w V := by rw [← hW]; exact (Below.refl _ _).alloc (Nat.le_refl _) _
  clear hW
  refine (HM.out V hbV).mono ?_
  rintro e W1 ⟨sg, scap, tv, rfl, os, ot, hb1⟩
  obtain ⟨ta, tcap, htv, htc, htm⟩ := own_shape ot
  subst htv
  have hnet : NetIn n (some ⟨sg, 0, none⟩) ta N T tcap W1 := by
    obtain ⟨_, _, e2, r2⟩ := own_row ot
    cases e2
    exact ⟨HLN.out.1.symm, HLN.out.2.1.symm, htc, by unfold maxLen at htm; exact htm, by omega, by omega, own2_row os, r2⟩
  have hB1 := hbV.trans (hb1.mono hbV.size)
  clear os ot hbV hb1 htc htm HM
  obtain ⟨V2, hV2⟩ : ∃ V2, (W1.alloc (.cells #[.slice (some ⟨sg, 0, none⟩) N scap, .slice ta T tcap] 25)).alloc (.cells #[.slice none 0 0] 22) = V2 := ⟨_, rfl⟩
  have hbz : Below W1.heap.size W1 V2 := by rw [← hV2]; exact ((Below.refl _ _).alloc (Nat.le_refl _) _).alloc (by rw [sz1]; omega) _
  have kn : Blk V2 W1.heap.size #[.slice (some ⟨sg, 0, none⟩) N scap, .slice ta T tcap] 25 := by rw [← hV2]; exact (Blk.new _ _ _).alloc _
  have kw : Blk V2 (W1.heap.size + 1) #[.slice none 0 0] 22 := by rw [← hV2]; exact Blk.newAt (by rw [sz1]) _ _
  have hB2 := hB1.trans (hbz.mono hB1.size)
  have hrs := (hnet.rs.below hbz (Nat.le_refl _))
  have hrt := (hnet.rt.below hbz (Nat.le_refl _))
  have hnet2 := hnet.below hbz
  have HT := hide (truths_any n (some ⟨sg, 0, none⟩) ta scap T tcap N (W1.heap.size + 1) V2 hnet2 HOK.out (hrs.mono (Nat.le_succ _)) (hrt.mono (Nat.le_succ _)) kw)
  obtain ⟨n0, n1, _⟩ := kn.two
  have hnl := kn.lt
  have HKN := hide kn
  have HRS := hide hrs
  have HRT := hide hrt
  have HNET := hide hnet2
  have HS1 := hide hB1.size
  have HB2 := hide hB2
  unfold useV at HT
  clear hnet hB1 hbz kn kw hB2 hrs hrt hnet2
  go_wp2_with fail
  refine HT.out.mono ?_
  rintro e W2 ⟨rfl, v, hkv, hov, hrn⟩
  have hsz := hrn.size
  have kn2 := HKN.out.rnd hrn (by omega)
  have hnet2 : NetIn n (some ⟨sg, 0, none⟩) ta N T tcap W2 := by
    have h := HNET.out
    refine ⟨h.hsn, h.htn, h.htc, h.htc2, h.hl, h.hl2, (HRS.out.at fun k hk => ?_).mono (by have := HKN.out.lt; omega), (HRT.out.at fun k hk => ?_).mono (by have := HKN.out.lt; omega)⟩
    · exact hrn.block k (by have := HRS.out.capLt hk; have := HKN.out.lt; omega) (by have := HRS.out.capLt hk; omega)
    · exact hrn.block k (by have := HRT.out.capLt hk; have := HKN.out.lt; omega) (by have := HRT.out.capLt hk; omega)
  have hB3 : Below w.heap.size w W2 := HB2.out.trans (hrn.below (by have := HB2.out.size; omega) (fun k hk => by have := HS1.out; omega))
  obtain ⟨va, vcap, rfl, rv⟩ := own_row hov
  obtain ⟨wb, hwb⟩ : ∃ wb, wb = W1.heap.size + 1 := ⟨_, rfl⟩
  obtain ⟨nb, hnb⟩ : ∃ nb, nb = W1.heap.size := ⟨_, rfl⟩
  clear n0 n1 hnl HT HKN HRS HRT HNET HB2 hrn hov hV2 hsz
  obtain ⟨n0, n1, _⟩ := kn2.two
  have hnl := kn2.lt
  go_wp2_with fail
  refine (squares_any n (some ⟨sg, 0, none⟩) ta N scap T tcap _ hnet2).mono ?_
  rintro e W3 ⟨v3, rfl, hv, hb3⟩
  obtain ⟨al, cl, rfl, rl⟩ := own_row hv
  have hnet3 := hnet2.below hb3
  have kn3 := kn2.kept hb3
  have kv3 := hkv.kept hb3
  have rv3 := row_keep rv hb3
  have hB4 := hB3.trans (hb3.mono hB3.size)
  clear hnet2 kn2 hkv rv hB3 hb3 hv n0 n1 hnl
  obtain ⟨n0, n1, _⟩ := kn3.two
  have hnl := kn3.lt
  have hlen : (sqR n).1.length ≤ 11 := sqR_len _
  go_wp2_with fail
  refine (clash_any n (some ⟨sg, 0, none⟩) ta N scap T tcap _ hnet3 HNZ.out).mono ?_
  rintro e W4 ⟨v4, rfl, hc1, hc2, hb4⟩
  have hnet4 := hnet3.below hb4
  have kn4 := kn3.kept hb4
  have kv4 := kv3.kept hb4
  have rv4 := row_keep rv3 hb4
  have rl4 := row_keep rl hb4
  have hB5 := hB4.trans (hb4.mono hB4.size)
  clear hnet3 kn3 kv3 rv3 rl hB4 hb4 n0 n1 hnl HNZ
  obtain ⟨n0, n1, _⟩ := kn4.two
  have hnl := kn4.lt
  obtain ⟨v0, _⟩ := kv4.one
  have hvl := kv4.lt
  rcases HCASE.out with ⟨e1, e2, l, hc⟩ | ⟨e1, e2, e3⟩
  · rw [hc.cla] at hc1 hc2 ⊢
    rw [e2] at rl4 hlen ⊢
    rw [e1] at rv4 v0
    obtain ⟨cb, ccap, rfl, rc⟩ := hc1 rfl
    have HVER := hide (fun (W : World) (hb : Below W4.heap.size W4 W) => verify_any n l (some ⟨sg, 0, none⟩) ta (some ⟨cb, 0, none⟩) N scap T tcap l.length ccap W (hnet4.below hb) rfl (by have := hc.small; omega) (row_keep rc hb) hc.nz)
    have HVR := hide hc.ver
    have hl3 := hc.small
    clear hc hc1 hc2 e1 e2 rl4 rv4 HCASE
    go_wp2_with fail
    refine (HVER.out _ (Below.refl _ _)).mono ?_
    rintro e W5 ⟨rfl, hb5⟩
    rw [HVR.out]
    have hB6 := hB5.trans (hb5.mono hB5.size)
    clear n0 n1 hnl v0 hvl hB5 hb5 HVER HVR kn4 kv4 hnet4 rc
    go_wp2_with fail
    refine (works_any _).mono ?_
    rintro e W9 ⟨rfl, hb9⟩
    go_wp2_with fail
    go_ret
    exact ⟨rfl, hB6.trans (hb9.mono hB6.size)⟩
  · rw [e3] at hc1 hc2 ⊢
    rw [e2] at rl4 hlen ⊢
    rw [e1] at rv4 v0
    obtain rfl := hc2 (by decide)
    dsimp only at rl4 hlen ⊢
    have HSP := hide (fun (W : World) (hb : Below W4.heap.size W4 W) => spans_law (narT n.ts (sqs n.sp)) (narT n.ts (sqs n.sp)) al va N cl N vcap W.heap.size W.heap.size W HLN.out.2.2.symm HLN.out.2.2.symm (by omega) (by omega) (row_keep rl4 hb) (row_keep rv4 hb))
    rw [HLN.out.2.2] at v0 ⊢
    have d0 : ((N : Int) == 0) = false := beq_eq_false_iff_ne.2 (by omega)
    clear hc1 hc2 e1 e2 e3 rl4 rv4 HCASE hlen
    rw [decide_eq_true (rfl : narT n.ts (sqs n.sp) = narT n.ts (sqs n.sp))] at HSP
    go_wp2_with fail
    refine (HSP.out _ (Below.refl _ _)).mono ?_
    rintro e W5 ⟨rfl, hb5⟩
    have hB6 := hB5.trans (hb5.mono hB5.size)
    clear n0 n1 hnl v0 hvl hB5 hb5 HSP kn4 kv4 hnet4
    go_wp2_with fail
    refine (works_any _).mono ?_
    rintro e W9 ⟨rfl, hb9⟩
    go_wp2_with fail
    go_ret
    exact ⟨rfl, hB6.trans (hb9.mono hB6.size)⟩

end Go.Proofs.Ytlbhnicengolfaa
