/-
  Package agoniclaw03: truth.
-/
import Derived.Test.YtlbhnicengolfaaSkyA
namespace Go.Proofs.Ytlbhnicengolfaa
open Go.RowKit
set_option linter.unusedVariables false
set_option linter.unusedSimpArgs false

attribute [local go_sem high] minI maxI in
set_option maxRecDepth 100000 in
set_option maxHeartbeats 8000000 in
theorem tru_any (s : TSky) (lg : Nat → Int) (la : Option Addr) (ln lc : Nat) (w : World) (hs : SkyOk s) (hlg : LegOk lg) (hln : ln = s.lk.length) (hl : ln ≤ 9223372036854775807) (hrow : Row w w.heap.size la (u8p s.lk)) :
    Calls Try.prog 41 #[.agg (skyC la ln lc s), .agg (legC lg)] w fun e w' =>
      ∃ sg scap tv gx, e = .returned (.tuple #[.agg #[.slice (some ⟨sg, 0, none⟩) (1 + 2 * skyK s) scap, tv], .slice (some ⟨gx, 0, none⟩) (1 + 2 * skyK s) (1 + 2 * skyK s)]) ∧
        w'.ownsRow w.heap.size 53 2 (.slice (some ⟨sg, 0, none⟩) (1 + 2 * skyK s) scap) (1 + 2 * skyK s) (spans (skyTru s lg).sp) ∧
        w'.ownsRow w.heap.size 75 3 tv (skyK s) (tris (skyTru s lg).ts) ∧ Blk w' gx (ints (skyX s lg)).toArray 3 ∧ w.heap.size ≤ gx ∧ Below w.heap.size w w' := by
  have HM := hide (fun (W : World) (hb : Below w.heap.size w W) => made_any s la ln lc W hs hln hl ((hrow.below hb (Nat.le_refl _)).mono hb.size))
  have HS := hide hs
  have HL := hide hlg
  obtain ⟨i0, hi, hz0, hz1, hz2⟩ := info_int
  have hmk : ∀ (sn : Nat) w, sn ≤ 7 → (Instr.makeSlice 38 (.int .i64 (sn : Int)) (.int .i64 (sn : Int))).run Try.prog w = .ok (.slice (some ⟨w.heap.size, 0, none⟩) sn sn) (w.alloc (.cells (ints (List.replicate sn 0)).toArray 3)) := fun sn w hsn => by
    rw [← made_ints]
    exact run_make_row (P := Try.prog) 38 3 i0 _ under_ints hi hz0 hz1 rfl .i64 .i64 sn (by rw [hz2]; omega) (by omega) w
  have HMK := hide hmk
  have hk0 := Blk.new w (skyC la ln lc s) 63
  have hk7 : skyK s ≤ 3 := by unfold skyK; omega
  obtain ⟨b, hb⟩ : ∃ b, w.heap.size = b := ⟨_, rfl⟩
  have HB := hide hb
  clear hs hlg hln hrow hi hz0 hz1 hz2 hmk
  unfold skyC legC
  go_enter Try.func41, Try.ntmps41
  go_wp2_with fail
  generalize hW : World.alloc (World.alloc (World.alloc w _) _) _ = V
  have hbV : Below w.heap.size w V := by rw [← hW]; exact (((Below.refl _ _).alloc (Nat.le_refl _) _).alloc (by simp) _).alloc (by simp; omega) _
  have k0 : Blk V b (skyC la ln lc s) 63 := by rw [← hW]; subst hb; exact (hk0.alloc _).alloc _
  have k1 : Blk V (b + 1) (legC lg) 69 := by rw [← hW]; subst hb; exact (Blk.newAt (by simp) _ _).alloc _
  have k2 : Blk V (b + 1 + 1) #[.slice none 0 0, .slice none 0 0] 25 := by rw [← hW]; subst hb; exact Blk.newAt (by simp) _ _
  have hsV : V.heap.size = b + 1 + 1 + 1 := by rw [← hW]; simp [hb]
  clear hW hk0 hb
  refine (HM.out V hbV).mono ?_
  rintro e W1 ⟨sg, scap, tv, rfl, os, ot, hb1⟩
  rw [hsV] at os ot hb1
  obtain ⟨ta, tcap, htv, htc, htc2⟩ := own_shape ot
  subst htv
  have HX0 : Hid (skyX s lg = tXs lg (skyNet s).ts ((List.range (1 + 2 * skyK s)).map lg)) := hide rfl
  have HTR : Hid (skyTru s lg = ⟨(List.range (1 + 2 * skyK s)).map fun q => truS s q ((skyX s lg).getD q 0), (skyNet s).ts⟩) := hide rfl
  have HSP : Hid ((skyNet s).sp.length = 1 + 2 * skyK s ∧ (skyNet s).ts.length = skyK s) := hide ⟨by simp [skyNet], by simp [skyNet, skyTs_len]⟩
  have HTRI0 := fun k (hk : k < skyK s) => sky_tri HS.out hk
  have HXK0 := fun k (hk : k ≤ skyK s) => skyX_B s HL.out hk
  have HXL0 := skyX_len s lg
  generalize hT : skyK s = T at *
  have HKT := hide hT
  clear hT
  obtain ⟨N, hN⟩ : ∃ N, N = 1 + 2 * T := ⟨_, rfl⟩
  have HN := hide hN
  rw [← hN] at os HSP HX0 HTR HTRI0 HXK0 HXL0 ⊢
  have hN1 : 1 ≤ N := by omega
  have hN7 : N ≤ 7 := by omega
  clear hN
  have hmk := fun W => HMK.out N W hN7
  have K0 := k0.below hb1 (by omega)
  have K1 := k1.below hb1 (by omega)
  have K2 := k2.below hb1 (by omega)
  have hsz1 := hb1.size
  have HB1 : Below b w W1 := (HB.out ▸ hbV).trans (hb1.mono (by omega))
  clear k0 k1 k2 hb1 hbV
  go_wp2_with fail
  generalize hW : World.alloc (World.alloc W1 _) _ = V
  have hin : TruIn w b la ln lc s lg W1.heap.size sg N scap (skyNet s).sp T (skyNet s).ts (.slice ta T tcap) (W1.heap.size + 1) (List.replicate N 0) V := by
    rw [← hW]
    exact ⟨(K0.alloc _).alloc _, (K1.alloc _).alloc _, (K2.alloc _).alloc _, (Blk.newAt rfl _ _).alloc _, Blk.newAt (by simp) _ _, (os.alloc _).alloc _, (ot.alloc _).alloc _, (HB1.alloc (by omega) _).alloc (by simp; omega) _, by omega, by omega⟩
  clear hW K0 K1 K2 os ot HB1 hmk
  generalize W1.heap.size = nb at *
  have HIN := hide hin
  clear hin
  have HTRI : Hid (∀ k, k < T → ∃ a b c : Nat, tri (skyNet s).ts k = ((a : Int), (b : Int), (c : Int)) ∧ a < N ∧ b < N ∧ c < N ∧ a ≠ b ∧ a ≠ c ∧ b ≠ c) := hide HTRI0
  have HXK : Hid (∀ k, k ≤ T → XB 524280 (tXs lg ((skyNet s).ts.take k) ((List.range N).map lg))) := hide HXK0
  have HXL : Hid ((skyX s lg).length = N) := hide HXL0
  have HXB : Hid (XB 524280 (skyX s lg)) := hide (by
    have := HXK.out T (Nat.le_refl _)
    rw [List.take_of_length_le (by rw [HSP.out.2]; exact Nat.le_refl _), ← HX0.out] at this
    exact this)
  clear HTRI0 HXK0 HXL0
  go_loopw [23] (fun i wr => ∃ k : Nat, k ≤ N ∧ i = .int .i64 (k : Int) ∧ TruIn w b la ln lc s lg nb sg N scap (skyNet s).sp T (skyNet s).ts (.slice ta T tcap) (nb + 1) (upd lg (List.replicate N 0) k) wr) (fun i _ => N - (intOf i).toNat)
  case atStart => exact ⟨0, Nat.zero_le _, rfl, by rw [upd_zero]; exact HIN.out⟩
  case round =>
    clear HIN
    obtain ⟨k, hk, rfl, hin⟩ := hrel
    by_cases hlt : k < N
    · have l0 := hin.leg (q := k) (by omega)
      obtain ⟨x0, xf⟩ := hin.x (q := k) (by rw [upd_len _ _ (by simp; omega)]; simpa using hlt)
      have hbl := hin.k1.lt
      have hbr := hin.kx.lt
      have b0 := HL.out.lo k
      have b1 := HL.out.hi k
      have HQ := hide (upd_set lg (List.replicate N 0) (k := k) (by simpa using hlt))
      have HIQ := hide hin
      clear hin
      generalize lg k = x at *
      have w6 : (k : Int) < 7 := by omega
      go_wp2_with fail
      have HID := hide (HIQ.out.setX k x)
      rw [HQ.out] at HID
      go_roundw
      case rel => exact ⟨k + 1, by omega, by go_num, HID.out⟩
      case measure => simp [intOf]; omega
    · have hkN : k = N := by omega
      have HUA : Hid (upd lg (List.replicate N 0) k = (List.range N).map lg) := hide (by rw [upd_all _ _ (by simp [hkN]), hkN])
      have HIN := hide hin
      rw [HUA.out] at HIN
      obtain ⟨n0, n1, _⟩ := hin.k3.two
      have hbr := hin.k3.lt
      clear hin hkN
      go_wp2_with fail
      clear n0 n1 hbr
      go_loopw [37] (fun i wr => ∃ k : Nat, k ≤ T ∧ i = .int .i64 (k : Int) ∧ TruIn w b la ln lc s lg nb sg N scap (skyNet s).sp T (skyNet s).ts (.slice ta T tcap) (nb + 1) (tXs lg ((skyNet s).ts.take k) ((List.range N).map lg)) wr) (fun i _ => T - (intOf i).toNat)
      case atStart => exact ⟨0, Nat.zero_le _, rfl, HIN.out⟩
      case round =>
        clear HIN
        obtain ⟨k, hk, rfl, hin⟩ := hrel
        by_cases hlt : k < T
        · have hkl : k < (skyNet s).ts.length := by rw [HSP.out.2]; exact hlt
          obtain ⟨a', c', e, hrt⟩ := own_row hin.ot
          cases e
          obtain ⟨tb, toff, hta, htb, hcell⟩ := hrt.tri (by omega)
          obtain ⟨t0, t1, t2⟩ := hcell k hkl
          obtain ⟨a, b', c, ht, ha, hb, hc, hab, hac, hbc⟩ := HTRI.out k hlt
          have HST : Hid (tXs lg ((skyNet s).ts.take (k + 1)) ((List.range N).map lg) = tX lg (tXs lg ((skyNet s).ts.take k) ((List.range N).map lg)) ((a : Int), (b' : Int), (c : Int))) := hide (by rw [tri_take hkl, tXs_snoc, ht])
          have HXB := hide (HXK.out k hk)
          rw [ht] at t0 t1 t2
          dsimp only at t0 t1 t2
          have HXL : Hid ((tXs lg ((skyNet s).ts.take k) ((List.range N).map lg)).length = N) := hide (by rw [tXs_len]; simp)
          have HIQ := hide hin
          have hgx := hin.kx.lt
          have hbl := hin.k1.lt
          clear hin hcell ht hrt hkl
          subst hta
          generalize tXs lg ((skyNet s).ts.take k) ((List.range N).map lg) = xs at *
          have h1 := HXB.out a
          have h2 := HXB.out b'
          have h3 := HXB.out c
          obtain ⟨xa, fa⟩ := HIQ.out.x (q := a) (by rw [HXL.out]; exact ha)
          obtain ⟨xb, fb⟩ := HIQ.out.x (q := b') (by rw [HXL.out]; exact hb)
          obtain ⟨xc, fc⟩ := HIQ.out.x (q := c) (by rw [HXL.out]; exact hc)
          have HTX : Hid (tX lg xs ((a : Int), (b' : Int), (c : Int)) = if (a : Int) < (c : Int) ∧ (b' : Int) < (c : Int) then xs.set c (xs.getD a 0 + xs.getD b' 0) else (xs.set a (lg a % (xs.getD c 0 + 1))).set b' (xs.getD c 0 - lg a % (xs.getD c 0 + 1))) := hide rfl
          have HG : Hid (∀ v, ((xs.set a v).getD c 0 = xs.getD c 0) ∧ ((xs.set a v).getD a 0 = v)) := hide fun v => ⟨by rw [List.getD_eq_getElem?_getD, List.getElem?_set, if_neg hac, ← List.getD_eq_getElem?_getD], by rw [List.getD_eq_getElem?_getD, List.getElem?_set, if_pos rfl, if_pos (by rw [HXL.out]; exact ha)]; rfl⟩
          have lga := HIQ.out.leg (q := a) (by omega)
          have l0 := HL.out.lo a
          have l1 := HL.out.hi a
          obtain ⟨V2, hV2⟩ : ∃ V2, wr.alloc (.cells #[.int .i64 (a : Int), .int .i64 (b' : Int), .int .i64 (c : Int)] 75) = V2 := ⟨_, rfl⟩
          have kt : Blk V2 wr.heap.size #[.int .i64 (a : Int), .int .i64 (b' : Int), .int .i64 (c : Int)] 75 := by rw [← hV2]; exact Blk.new _ _ _
          have HIA := hide (HIQ.out.kept (W := V2) (by rw [← hV2]; exact (Below.refl _ _).alloc (Nat.le_refl _) _))
          obtain ⟨q0, q1, q2, _⟩ := kt.three
          have qt := kt.lt
          obtain ⟨ya, ga⟩ := HIA.out.x (q := a) (by rw [HXL.out]; exact ha)
          obtain ⟨yb, gb⟩ := HIA.out.x (q := b') (by rw [HXL.out]; exact hb)
          obtain ⟨yc, gc⟩ := HIA.out.x (q := c) (by rw [HXL.out]; exact hc)
          have ylg := HIA.out.leg (q := a) (by omega)
          have ygx := HIA.out.kx.lt
          have ybl := HIA.out.k1.lt
          generalize xs.getD a 0 = va at *
          generalize xs.getD b' 0 = vb at *
          generalize xs.getD c 0 = vc at *
          generalize lg a = la' at *
          obtain ⟨h10, h11⟩ := h1
          obtain ⟨h20, h21⟩ := h2
          obtain ⟨h30, h31⟩ := h3
          have ia : (a : Int) < N := by omega
          have ib : (b' : Int) < N := by omega
          have ic : (c : Int) < N := by omega
          have ia7 : (a : Int) < 7 := by omega
          by_cases hac2 : (a : Int) < (c : Int)
          · by_cases hbc2 : (b' : Int) < (c : Int)
            · have d1 : decide (a < c) = true := decide_eq_true (by omega)
              have d2 : decide (b' < c) = true := decide_eq_true (by omega)
              have HT2 : Hid (tX lg xs ((a : Int), (b' : Int), (c : Int)) = xs.set c (va + vb)) := hide (by rw [HTX.out, if_pos ⟨hac2, hbc2⟩])
              clear hac2 hbc2
              go_wp2_with fail
              have w1 : IntKind.i64.wrap (va + vb) = va + vb := IntWalk.i64_in _ (by omega)
              clear hV2
              go_still_tail 15, (by kernel_rfl)
              have HID := hide ((HIA.out.kept (Below.refl _ _).drew).setX c (va + vb))
              rw [← HT2.out, ← HST.out] at HID
              go_wp2_with fail
              exact ⟨⟨k + 1, by omega, by go_num, HID.out⟩, by simp [intOf]; omega⟩
            · have d1 : decide (a < c) = true := decide_eq_true (by omega)
              have d2 : decide (b' < c) = false := decide_eq_false (by omega)
              have HT2 : Hid (tX lg xs ((a : Int), (b' : Int), (c : Int)) = (xs.set a (la' % (vc + 1))).set b' (vc - la' % (vc + 1))) := hide (by rw [HTX.out, if_neg (fun h => hbc2 h.2)])
              clear hbc2
              clear hac2
              go_wp2_with fail
              have m0 := Int.emod_nonneg la' (b := vc + 1) (by omega)
              have m1 := Int.emod_lt_of_pos la' (b := vc + 1) (by omega)
              have w1 : IntKind.i64.wrap (vc + 1) = vc + 1 := IntWalk.i64_in _ (by omega)
              have w2 : la'.tmod (vc + 1) = la' % (vc + 1) := Int.tmod_eq_emod_of_nonneg (by omega)
              have w3 : IntKind.i64.wrap (la' % (vc + 1)) = la' % (vc + 1) := IntWalk.i64_in _ (by omega)
              have w4 : IntKind.i64.wrap la' = la' := IntWalk.i64_in _ (by omega)
              have w5 : ¬ (vc + 1 = 0) := by omega
              clear hV2
              go_still_tail 16, (by kernel_rfl)
              have HIC := hide ((HIA.out.setX a (la' % (vc + 1))).kept (Below.refl _ _).drew)
              rw [show ({ heap := V2.heap, tape := V2.tape, drawn := V2.drawn + 1, os := V2.os, output := V2.output } : World) = V2.drew from rfl]
              go_wp2_with fail
              have kt2 := (kt.other (p := ⟨nb + 1, a, none⟩) (show wr.heap.size ≠ nb + 1 by omega) (.int .i64 (la' % (vc + 1)))).drew
              clear q0 q1 q2 qt ya ga yb gb yc gc ylg ygx ybl w1 w2 w3 w4 w5 kt
              generalize (V2.setCell ⟨nb + 1, a, none⟩ (.int .i64 (la' % (vc + 1)))).drew = V3 at *
              obtain ⟨q0, q1, q2, _⟩ := kt2.three
              have qt := kt2.lt
              obtain ⟨ya, ga⟩ := HIC.out.x (q := a) (by rw [List.length_set, HXL.out]; exact ha)
              obtain ⟨yb, gb⟩ := HIC.out.x (q := b') (by rw [List.length_set, HXL.out]; exact hb)
              obtain ⟨yc, gc⟩ := HIC.out.x (q := c) (by rw [List.length_set, HXL.out]; exact hc)
              rw [(HG.out _).1] at yc
              rw [(HG.out _).2] at ya
              have ygx := HIC.out.kx.lt
              generalize (xs.set a (la' % (vc + 1))).getD b' 0 = vb2 at *
              have HTQ : Hid (la' % (vc + 1) = la' % (vc + 1)) := hide rfl
              generalize hm : la' % (vc + 1) = m at *
              have HM2 := hide hm
              clear hm
              have w1 : IntKind.i64.wrap (vc - m) = vc - m := IntWalk.i64_in _ (by omega)
              go_still_tail 15, (by kernel_rfl)
              have HID := hide ((HIC.out.kept (Below.refl _ _).drew).setX b' (vc - m))
              rw [← HT2.out, ← HST.out] at HID
              go_wp2_with fail
              exact ⟨⟨k + 1, by omega, by go_num, HID.out⟩, by simp [intOf]; omega⟩
          · have d1 : decide (a < c) = false := decide_eq_false (by omega)
            have HT2 : Hid (tX lg xs ((a : Int), (b' : Int), (c : Int)) = (xs.set a (la' % (vc + 1))).set b' (vc - la' % (vc + 1))) := hide (by rw [HTX.out, if_neg (fun h => hac2 h.1)])
            clear hac2
            go_wp2_with fail
            have m0 := Int.emod_nonneg la' (b := vc + 1) (by omega)
            have m1 := Int.emod_lt_of_pos la' (b := vc + 1) (by omega)
            have w1 : IntKind.i64.wrap (vc + 1) = vc + 1 := IntWalk.i64_in _ (by omega)
            have w2 : la'.tmod (vc + 1) = la' % (vc + 1) := Int.tmod_eq_emod_of_nonneg (by omega)
            have w3 : IntKind.i64.wrap (la' % (vc + 1)) = la' % (vc + 1) := IntWalk.i64_in _ (by omega)
            have w4 : IntKind.i64.wrap la' = la' := IntWalk.i64_in _ (by omega)
            have w5 : ¬ (vc + 1 = 0) := by omega
            clear hV2
            go_still_tail 16, (by kernel_rfl)
            have HIC := hide ((HIA.out.setX a (la' % (vc + 1))).kept (Below.refl _ _).drew)
            rw [show ({ heap := V2.heap, tape := V2.tape, drawn := V2.drawn + 1, os := V2.os, output := V2.output } : World) = V2.drew from rfl]
            go_wp2_with fail
            have kt2 := (kt.other (p := ⟨nb + 1, a, none⟩) (show wr.heap.size ≠ nb + 1 by omega) (.int .i64 (la' % (vc + 1)))).drew
            clear q0 q1 q2 qt ya ga yb gb yc gc ylg ygx ybl w1 w2 w3 w4 w5 kt
            generalize (V2.setCell ⟨nb + 1, a, none⟩ (.int .i64 (la' % (vc + 1)))).drew = V3 at *
            obtain ⟨q0, q1, q2, _⟩ := kt2.three
            have qt := kt2.lt
            obtain ⟨ya, ga⟩ := HIC.out.x (q := a) (by rw [List.length_set, HXL.out]; exact ha)
            obtain ⟨yb, gb⟩ := HIC.out.x (q := b') (by rw [List.length_set, HXL.out]; exact hb)
            obtain ⟨yc, gc⟩ := HIC.out.x (q := c) (by rw [List.length_set, HXL.out]; exact hc)
            rw [(HG.out _).1] at yc
            rw [(HG.out _).2] at ya
            have ygx := HIC.out.kx.lt
            generalize (xs.set a (la' % (vc + 1))).getD b' 0 = vb2 at *
            have HTQ : Hid (la' % (vc + 1) = la' % (vc + 1)) := hide rfl
            generalize hm : la' % (vc + 1) = m at *
            have HM2 := hide hm
            clear hm
            have w1 : IntKind.i64.wrap (vc - m) = vc - m := IntWalk.i64_in _ (by omega)
            go_still_tail 15, (by kernel_rfl)
            have HID := hide ((HIC.out.kept (Below.refl _ _).drew).setX b' (vc - m))
            rw [← HT2.out, ← HST.out] at HID
            go_wp2_with fail
            exact ⟨⟨k + 1, by omega, by go_num, HID.out⟩, by simp [intOf]; omega⟩
        · have hkT2 : k = T := by omega
          have HIN := hide hin
          have hkT : Hid (tXs lg ((skyNet s).ts.take k) ((List.range N).map lg) = tXs lg (skyNet s).ts ((List.range N).map lg)) := hide (by rw [List.take_of_length_le (by rw [HSP.out.2]; omega)])
          rw [hkT.out, ← HX0.out] at HIN
          have x0 : True := trivial
          have x1 : True := trivial
          have n0 : True := trivial
          have n1 : True := trivial
          have hbl := hin.kx.lt
          have hbr := hin.k3.lt
          clear hin hkT2
          go_wp2_with fail
          clear n0 n1 x0 x1 hbl hbr
          go_loopw [102] (fun i wr => ∃ q : Nat, q ≤ N ∧ i = .int .i64 (q : Int) ∧ TruIn w b la ln lc s lg nb sg N scap (upd (fun q => truS s q ((skyX s lg).getD q 0)) (skyNet s).sp q) T (skyNet s).ts (.slice ta T tcap) (nb + 1) (skyX s lg) wr) (fun i _ => N - (intOf i).toNat)
          case atStart => exact ⟨0, Nat.zero_le _, rfl, by rw [upd_zero]; exact HIN.out⟩
          case round =>
            clear HIN
            obtain ⟨q, hq, rfl, hin⟩ := hrel
            by_cases hlt : q < N
            · obtain ⟨x0, xf⟩ := hin.x (q := q) (by rw [HXL.out]; exact hlt)
              have hb := HXB.out q
              have HIQ := hide hin
              have b0 := HS.out.sb (2 * q)
              have b1 := HS.out.sb (2 * q + 1)
              have HUP := hide (upd_set (fun q => truS s q ((skyX s lg).getD q 0)) (skyNet s).sp (k := q) (by rw [HSP.out.1]; exact hlt))
              have HSQ : Hid (∀ y, truS s q y = (max 0 (rt y - s.sb (2 * q) % 4), rtUp y + s.sb (2 * q + 1) % 4)) := hide (fun y => rfl)
              have hgl := hin.kx.lt
              clear hin
              generalize hsx : s.sb (2 * q) = sx at HSQ b0
              generalize hsy : s.sb (2 * q + 1) = sy at HSQ b1
              have HSX : Hid (s.sb (2 * q) = sx) := hide hsx
              have HSY : Hid (s.sb (2 * q + 1) = sy) := hide hsy
              clear hsx hsy
              generalize (skyX s lg).getD q 0 = y at *
              have HSQ : Hid (truS s q y = (max 0 (rt y - sx % 4), rtUp y + sy % 4)) := hide (HSQ.out y)
              obtain ⟨y0, y1⟩ := hb
              obtain ⟨b00, b01⟩ := b0
              obtain ⟨b10, b11⟩ := b1
              have HRS := hide (rt_spec (s := y) y0 (by omega))
              go_wp2_with fail
              clear x0 xf
              go_loopw [13] (fun v wr2 => ∃ r : Int, v = .int .i64 r ∧ 0 ≤ r ∧ r ≤ 1000 ∧ r * r ≤ y ∧ wr2 = wr) (fun v _ => (1000 - intOf v).toNat)
              case atStart => exact ⟨0, rfl, by omega, by omega, by omega, rfl⟩
              case round =>
                obtain ⟨r, rfl, hr0, hr1, hr2, rfl⟩ := hrel
                have hm1 := Int.mul_nonneg (a := r + 1) (b := r + 1) (by omega) (by omega)
                have hm2 := sq_mono (a := r + 1) (b := 1001) (by omega) (by omega)
                by_cases hle : (r + 1) * (r + 1) ≤ y
                · have d : decide ((r + 1) * (r + 1) ≤ y) = true := decide_eq_true hle
                  have hr3 : r + 1 ≤ 1000 := by
                    rcases Int.lt_or_le 1000 (r + 1) with h | h
                    · have := sq_mono (a := 1001) (b := r + 1) (by omega) (by omega)
                      omega
                    · exact h
                  go_wp2_with fail
                  exact ⟨⟨r + 1, rfl, by omega, hr3, hle, trivial⟩, by simp [intOf]; omega⟩
                · have d : decide ((r + 1) * (r + 1) ≤ y) = false := decide_eq_false hle
                  have HRT : Hid (rt y = r) := hide (by
                    obtain ⟨p0, p1, p2⟩ := HRS.out
                    exact rt_uniq p0 hr0 p1 p2 hr2 (by omega))
                  have hm3 := Int.mul_nonneg (a := r) (b := r) (by omega) (by omega)
                  have hm4 := sq_mono (a := r) (b := 1000) (by omega) (by omega)
                  clear hle
                  by_cases hc : r * r < y
                  · have dc : decide (r * r < y) = true := decide_eq_true hc
                    have HU : Hid (truS s q y = (max 0 (r - sx % 4), (r + 1) + sy % 4)) := hide (by rw [HSQ.out]; unfold rtUp; rw [HRT.out, if_pos hc])
                    clear hc
                    go_wp2_with fail
                    have w1 : IntKind.i64.wrap (sx % 4) = sx % 4 := IntWalk.i64_in _ (by omega)
                    have w2 : IntKind.i64.wrap (r - sx % 4) = r - sx % 4 := IntWalk.i64_in _ (by omega)
                    have w3 : IntKind.i64.wrap (sy % 4) = sy % 4 := IntWalk.i64_in _ (by omega)
                    have w4 : IntKind.i64.wrap ((r + 1) + sy % 4) = (r + 1) + sy % 4 := IntWalk.i64_in _ (by omega)
                    have w5 : (q : Int) < N := by omega
                    have w6 : (q : Int) < 7 := by omega
                    have w7 : sx.tmod 4 = sx % 4 := Int.tmod_eq_emod_of_nonneg (by omega)
                    have w8 : sy.tmod 4 = sy % 4 := Int.tmod_eq_emod_of_nonneg (by omega)
                    have w9 : IntKind.i64.wrap sx = sx := IntWalk.i64_in _ (by omega)
                    have w10 : IntKind.i64.wrap sy = sy := IntWalk.i64_in _ (by omega)
                    obtain ⟨n0, n1, _⟩ := HIQ.out.k3.two
                    obtain ⟨c0, c1, f0, f1⟩ := own2_cell HIQ.out.os hlt
                    obtain ⟨x0, x1⟩ := HIQ.out.lo (q := q) (by omega)
                    have hsg := (HIQ.out.os.lt sg rfl).2
                    have hbl := HIQ.out.k0.lt
                    have hbr := HIQ.out.k3.lt
                    rw [HSX.out] at x0
                    rw [HSY.out] at x1
                    go_still_tail 24, (by kernel_rfl)
                    have HID := hide ((HIQ.out.kept (Below.refl _ _).drew).setS q (max 0 (r - sx % 4)) ((r + 1) + sy % 4))
                    rw [← HU.out, HUP.out] at HID
                    rw [show ({ heap := wr.heap, tape := wr.tape, drawn := wr.drawn + 1, os := wr.os, output := wr.output } : World) = wr.drew from rfl]
                    go_wp2_with fail
                    exact ⟨⟨q + 1, by omega, by go_num, HID.out⟩, by simp [intOf]; omega⟩
                  · have dc : decide (r * r < y) = false := decide_eq_false hc
                    have HU : Hid (truS s q y = (max 0 (r - sx % 4), r + sy % 4)) := hide (by rw [HSQ.out]; unfold rtUp; rw [HRT.out, if_neg hc])
                    clear hc
                    go_wp2_with fail
                    have w1 : IntKind.i64.wrap (sx % 4) = sx % 4 := IntWalk.i64_in _ (by omega)
                    have w2 : IntKind.i64.wrap (r - sx % 4) = r - sx % 4 := IntWalk.i64_in _ (by omega)
                    have w3 : IntKind.i64.wrap (sy % 4) = sy % 4 := IntWalk.i64_in _ (by omega)
                    have w4 : IntKind.i64.wrap (r + sy % 4) = r + sy % 4 := IntWalk.i64_in _ (by omega)
                    have w5 : (q : Int) < N := by omega
                    have w6 : (q : Int) < 7 := by omega
                    have w7 : sx.tmod 4 = sx % 4 := Int.tmod_eq_emod_of_nonneg (by omega)
                    have w8 : sy.tmod 4 = sy % 4 := Int.tmod_eq_emod_of_nonneg (by omega)
                    have w9 : IntKind.i64.wrap sx = sx := IntWalk.i64_in _ (by omega)
                    have w10 : IntKind.i64.wrap sy = sy := IntWalk.i64_in _ (by omega)
                    obtain ⟨n0, n1, _⟩ := HIQ.out.k3.two
                    obtain ⟨c0, c1, f0, f1⟩ := own2_cell HIQ.out.os hlt
                    obtain ⟨x0, x1⟩ := HIQ.out.lo (q := q) (by omega)
                    have hsg := (HIQ.out.os.lt sg rfl).2
                    have hbl := HIQ.out.k0.lt
                    have hbr := HIQ.out.k3.lt
                    rw [HSX.out] at x0
                    rw [HSY.out] at x1
                    go_still_tail 24, (by kernel_rfl)
                    have HID := hide ((HIQ.out.kept (Below.refl _ _).drew).setS q (max 0 (r - sx % 4)) (r + sy % 4))
                    rw [← HU.out, HUP.out] at HID
                    rw [show ({ heap := wr.heap, tape := wr.tape, drawn := wr.drawn + 1, os := wr.os, output := wr.output } : World) = wr.drew from rfl]
                    go_wp2_with fail
                    exact ⟨⟨q + 1, by omega, by go_num, HID.out⟩, by simp [intOf]; omega⟩
            · have hqn : q = N := by omega
              have HF : Hid (upd (fun q => truS s q ((skyX s lg).getD q 0)) (skyNet s).sp q = (skyTru s lg).sp ∧ (skyNet s).ts = (skyTru s lg).ts) := hide ⟨by rw [HTR.out, upd_all _ _ (by rw [hqn, HSP.out.1]), hqn], by rw [HTR.out]⟩
              have HIQ := hide hin
              subst hqn
              obtain ⟨n0, n1, _⟩ := hin.k3.two
              obtain ⟨m0, m1, mf0, mf1⟩ := hin.k2.two
              have nl := hin.k3.lt
              have ml := hin.k2.lt
              clear hin
              go_wp2_with fail
              refine bodyPost_ret (v := .tuple #[.agg #[.slice (some ⟨sg, 0, none⟩) q scap, .slice ta T tcap], .slice (some ⟨nb + 1, 0, none⟩) q q]) (by simp [results, Try.results41, go_sem, m0, m1]) rfl ?_
              have hn := HIQ.out.hn
              have hg := HIQ.out.hg
              refine ⟨sg, scap, .slice ta T tcap, nb + 1, by rw [HKT.out, ← HN.out], ?_, ?_, ?_, ?_, ?_⟩
              · rw [HB.out, HKT.out, ← HN.out, ← HF.out.1]
                exact Go.Joins.ownsRow_le (own_set (own_set HIQ.out.os HIQ.out.k2 (by decide)) (HIQ.out.k2.set 0 _) (by decide)) (show b ≤ b + 1 + 1 + 1 by omega)
              · rw [HB.out, HKT.out, ← HF.out.2]
                exact Go.Joins.ownsRow_le (own_set (own_set HIQ.out.ot HIQ.out.k2 (by decide)) (HIQ.out.k2.set 0 _) (by decide)) (show b ≤ b + 1 + 1 + 1 by omega)
              · exact (HIQ.out.kx.other (p := ⟨b + 1 + 1, 0, none⟩) (show nb + 1 ≠ b + 1 + 1 by omega) _).other (p := ⟨b + 1 + 1, 1, none⟩) (show nb + 1 ≠ b + 1 + 1 by omega) _
              · rw [HB.out]; omega
              · rw [HB.out]
                exact (HIQ.out.be.setCell (p := ⟨b + 1 + 1, 0, none⟩) (show b ≤ b + 1 + 1 by omega) _).setCell (p := ⟨b + 1 + 1, 1, none⟩) (show b ≤ b + 1 + 1 by omega) _

end Go.Proofs.Ytlbhnicengolfaa
