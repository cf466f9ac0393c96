/-
  TotalSharp: the walk.
-/
import Derived.Test.YtlbhnicengolfaaTru
import Derived.Test.YtlbhnicengolfaaSkyA
import Derived.Test.YtlbhnicengolfaaExa
namespace Go.Proofs.Ytlbhnicengolfaa
open Go.RowKit
set_option linter.unusedVariables false
set_option linter.unusedSimpArgs false

theorem within_any (lo hi y : Int) (w : World) : Calls Try.prog 42 #[.agg #[.int .i64 lo, .int .i64 hi], .int .i64 y] w fun e w' => e = .returned (.bool (decide (lo ≤ y) && decide (y ≤ hi))) ∧ Below w.heap.size w w' := by
  by_cases h0 : lo ≤ y
  · have HE : Hid ((decide (lo ≤ y) && decide (y ≤ hi)) = decide (y ≤ hi)) := hide (by simp [h0])
    have d : decide (lo ≤ y) = true := decide_eq_true h0
    clear h0
    go_enter Try.func42, Try.ntmps42
    go_wp2
    go_ret
    exact ⟨by rw [HE.out]; rfl, (Below.refl _ _).alloc (Nat.le_refl _) _⟩
  · have HE : Hid ((decide (lo ≤ y) && decide (y ≤ hi)) = false) := hide (by simp [h0])
    have d : decide (lo ≤ y) = false := decide_eq_false h0
    clear h0
    go_enter Try.func42, Try.ntmps42
    go_wp2
    go_ret
    exact ⟨by rw [HE.out]; rfl, (Below.refl _ _).alloc (Nat.le_refl _) _⟩

/-- truth, where its net is only read from then on. -/
theorem tru_net (s : TSky) (lg : Nat → Int) (la : Option Addr) (ln lc : Nat) (w : World) (hs : SkyOk s) (hlg : LegOk lg) (hln : ln = s.lk.length) (hl : ln ≤ 9223372036854775807) (hrow : Row w w.heap.size la (u8p s.lk)) :
    Calls Try.prog 41 #[.agg (skyC la ln lc s), .agg (legC lg)] w fun e w' =>
      ∃ sa sc ta tc gx, e = .returned (.tuple #[netV sa ta (1 + 2 * skyK s) sc (skyK s) tc, .slice (some ⟨gx, 0, none⟩) (1 + 2 * skyK s) (1 + 2 * skyK s)]) ∧ NetIn (skyTru s lg) sa ta (1 + 2 * skyK s) (skyK s) tc w' ∧
        Row w' w'.heap.size (some ⟨gx, 0, none⟩) (ints (skyX s lg)) ∧ Below w.heap.size w w' := by
  refine (tru_any s lg la ln lc w hs hlg hln hl hrow).mono ?_
  rintro e w' ⟨sg, scap, tv, gx, rfl, os, ot, hx, _, hb⟩
  obtain ⟨ta, tcap, rfl, htc, htm⟩ := own_shape ot
  have hk3 : skyK s ≤ 3 := by unfold skyK; omega
  obtain ⟨_, _, e1, r1⟩ := own_row os
  obtain ⟨_, _, e2, r2⟩ := own_row ot
  cases e1
  cases e2
  refine ⟨_, scap, ta, tcap, gx, rfl, ⟨by simp [skyTru], by show skyK s = (skyNet s).ts.length; exact (skyTs_len _ _).symm, htc, by unfold maxLen at htm; exact htm, by omega, by omega, r1, r2⟩, (row_of_heap hx (by rw [List.toList_toArray, List.take_length])).mono (Blk.lt hx), hb⟩

/-- What is only read while a law runs: the net at nb, its rows, spans at al, squares at at'. -/
structure ShIn (w : World) (n : TNet) (sa : Option Addr) (scap : Nat) (ta : Option Addr) (N T tcap nb : Nat) (al : Option Addr) (L : List Sp) (at' : Option Addr) (xs : List Int) (wr : World) : Prop where
  net : NetIn n sa ta N T tcap wr
  kn : Blk wr nb #[.slice sa N scap, .slice ta T tcap] 25
  rl : Row wr wr.heap.size al (spans L)
  rt : Row wr wr.heap.size at' (ints xs)
  be : Below w.heap.size w wr
theorem ShIn.kept {w : World} {n : TNet} {sa : Option Addr} {scap : Nat} {ta : Option Addr} {N T tcap nb : Nat} {al : Option Addr} {L : List Sp} {at' : Option Addr} {xs : List Int} {wr W : World} (h : ShIn w n sa scap ta N T tcap nb al L at' xs wr) (hb : Below wr.heap.size wr W) : ShIn w n sa scap ta N T tcap nb al L at' xs W :=
  ⟨h.net.below hb, h.kn.kept hb, row_keep h.rl hb, row_keep h.rt hb, h.be.trans (hb.mono h.be.size)⟩

attribute [local go_sem high] minI maxI in
set_option maxRecDepth 100000 in
set_option maxHeartbeats 8000000 in
theorem sharp_any (s : TSky) (lg : Nat → Int) (which : Int) (high : Bool) (la : Option Addr) (ln lc : Nat) (w : World) (hs : SkyOk s) (hlg : LegOk lg) (hw0 : 0 ≤ which) (hw1 : which ≤ 255) (hln : ln = s.lk.length) (hl : ln ≤ 9223372036854775807) (hrow : Row w w.heap.size la (u8p s.lk)) :
    Calls Try.prog 9 #[.agg (skyC la ln lc s), .agg (legC lg), .int .u8 which, .bool high] w fun e w' => e = .returned (.bool true) ∧ Below w.heap.size w w' := by
  have hok := skyTru_ok hs hlg
  have hck := check_of hok
  have htru := skyTru_true hs hlg
  have hnar := (truth_nar (nok_frst hok) (by rw [sqs_len]; exact nok_in hok) htru).1
  have HSQ : Hid (sqR (skyTru s lg) = (narT (skyTru s lg).ts (sqs (skyTru s lg).sp), 0)) := hide (by unfold sqR; rw [if_neg (by rw [hck]; simp), hnar]; rfl)
  have HTR := hide (fun q (hq : q < (skyTru s lg).sp.length) => truth_ok hok hck hnar hq high)
  have HM := hide (fun (W : World) (hb : Below w.heap.size w W) => tru_net s lg la ln lc W hs hlg hln hl ((hrow.below hb (Nat.le_refl _)).mono hb.size))
  have HLN : Hid ((narT (skyTru s lg).ts (sqs (skyTru s lg).sp)).length = 1 + 2 * skyK s ∧ (skyTru s lg).sp.length = 1 + 2 * skyK s ∧ (skyTru s lg).ts.length = skyK s) := hide ⟨by rw [narT_len, sqs_len]; simp [skyTru], by simp [skyTru], skyTs_len _ _⟩
  have HIN := hide (nok_in hok)
  have HOK := hide hok
  have hk7 : skyK s ≤ 3 := by unfold skyK; omega
  clear hs hlg hln hrow hok hck htru hnar
  generalize skyTru s lg = n at *
  generalize skyX s lg = X at *
  generalize skyK s = T at *
  obtain ⟨N, hN⟩ : ∃ N, N = 1 + 2 * T := ⟨_, rfl⟩
  rw [← hN] at HM HLN
  have HN := hide hN
  have hN1 : 1 ≤ N := by omega
  have hN7 : N ≤ 7 := by omega
  clear hN
  unfold skyC legC
  go_enter Try.func9, Try.ntmps9
  go_wp2_with fail
  generalize hW : World.alloc (World.alloc w _) _ = V
  have hbV : Below w.heap.size w V := by rw [← hW]; exact ((Below.refl _ _).alloc (Nat.le_refl _) _).alloc (by simp) _
  clear hW
  refine (HM.out V hbV).mono ?_
  rintro e W1 ⟨sa, scap, ta, tcap, gx, rfl, hnet, rx, hb1⟩
  have hB1 := hbV.trans (hb1.mono hbV.size)
  clear hbV hb1
  have hnet := hnet.below ((Below.refl _ _).alloc (Nat.le_refl _) (.cells #[.slice sa N scap, .slice ta T tcap] 25))
  have rx := row_keep rx ((Below.refl _ _).alloc (Nat.le_refl _) (.cells #[.slice sa N scap, .slice ta T tcap] 25))
  have kn := Blk.new W1 #[.slice sa N scap, .slice ta T tcap] 25
  have hB2 := hB1.alloc hB1.size (.cells #[.slice sa N scap, .slice ta T tcap] 25)
  obtain ⟨q, hq, hqN⟩ : ∃ q : Nat, which % (N : Int) = (q : Int) ∧ q < N := by
    have e0 := Int.emod_nonneg which (b := (N : Int)) (by omega)
    have e1 := Int.emod_lt_of_pos which (b := (N : Int)) (by omega)
    exact ⟨(which % (N : Int)).toNat, by omega, by omega⟩
  clear hB1
  go_wp2_with fail
  refine (squares_any n sa ta N scap T tcap _ hnet).mono ?_
  rintro e W2 ⟨v, rfl, hv, hb2⟩
  rw [HSQ.out] at hv ⊢
  dsimp only at hv
  have HT := hide (HTR.out q (by rw [HLN.out.2.1]; exact hqN))
  obtain ⟨x, hx1, hx2, hx3, hx4⟩ := HT.out.res
  obtain ⟨al, cl, rfl, rl⟩ := own_row hv
  rw [HLN.out.1] at ⊢
  have hnet2 := hnet.below hb2
  have kn2 := kn.kept hb2
  have rx2 := row_keep rx hb2
  have hB3 := hB2.trans (hb2.mono hB2.size)
  clear hnet rx kn hB2 hb2 hv
  obtain ⟨n0, n1, _⟩ := kn2.two
  have hnl := kn2.lt
  have HX4 := hide hx4
  have HX := hide (And.intro hx1 hx2)
  clear hx1 hx2 hx4
  go_wp2_with fail
  refine (truth_any n q high sa ta N scap T tcap _ hnet2 (fun _ _ _ k hk => by rw [Int.toNat_natCast]; exact HT.out.hb k hk)).mono ?_
  rintro e W3 ⟨v, rfl, hv, hb3⟩
  rw [hx3] at hv ⊢
  dsimp only at hv
  rw [List.length_map, List.length_range, HLN.out.2.1] at hv
  obtain ⟨at', ct, rfl, rt⟩ := own_row hv
  have hnet3 := hnet2.below hb3
  have kn3 := kn2.kept hb3
  have rx3 := row_keep rx2 hb3
  have rl3 := row_keep rl hb3
  have hB4 := hB3.trans (hb3.mono hB3.size)
  clear hnet2 rx2 kn2 hB3 hb3 hv rl n0 n1 hnl hx3
  obtain ⟨lb, loff, hal, hlb, hlc⟩ := rl3.span (by rw [HLN.out.1]; omega)
  obtain ⟨tb, toff, hat, htb, htc⟩ := rt.int (by rw [List.length_map, List.length_range]; omega)
  have HLC := hide hlc
  have HTC := hide (fun k (hk : k < N) => (htc k (by rw [List.length_map, List.length_range]; exact hk)).trans (show some (Value.int .i64 (iat ((List.range N).map fun i : Nat => x i) k)) = some (.int .i64 (x k)) by rw [iat_eq _ _ (by rw [List.length_map, List.length_range]; exact hk)]; simp))
  clear hlc htc
  subst hal hat
  have HSH := hide (⟨hnet3, kn3, rl3, rt, hB4⟩ : ShIn w n sa scap ta N T tcap W1.heap.size (some ⟨lb, loff, none⟩) (narT n.ts (sqs n.sp)) (some ⟨tb, toff, none⟩) ((List.range N).map fun i : Nat => x i) W3)
  clear hnet3 rl3 rt hB4 kn3 rx3
  generalize hL : narT n.ts (sqs n.sp) = L at *
  have HL := hide hL
  clear hL
  obtain ⟨l0, l1⟩ := HLC.out q (by rw [HLN.out.1]; exact hqN)
  have t0 := HTC.out q hqN
  have iq : (q : Int) < N := by omega
  cases high with
  | true =>
    have hx4 : x q = his L q := by have := HX4.out; simpa [his] using this
    rw [hx4] at t0
    clear hx4
    generalize his L q = v at *
    go_wp2_with fail
    go_quiet (fail)
    have hsh := HSH.out.kept ((below_drewN (Below.refl _ _) nq : Below W3.heap.size W3 (W3.drewN nq)))
    clear l0 l1 t0 iq HLC HTC hlb htb
    go_wp2_with fail
    generalize W3.drewN nq = V3 at *
    go_loopw [96] (fun i wr => ∃ k : Nat, k ≤ N ∧ i = .int .i64 (k : Int) ∧ ShIn w n sa scap ta N T tcap W1.heap.size (some ⟨lb, loff, none⟩) L (some ⟨tb, toff, none⟩) ((List.range N).map fun i : Nat => x i) wr) (fun i _ => N - (intOf i).toNat)
    case atStart => exact ⟨0, Nat.zero_le _, rfl, hsh⟩
    case round =>
      clear hsh
      obtain ⟨k, hk, rfl, hsh⟩ := hrel
      by_cases hlt : k < N
      · obtain ⟨_, _, e, hlb, hlc⟩ := hsh.rl.span (by rw [HLN.out.1]; omega)
        cases e
        obtain ⟨_, _, e, htb, htc⟩ := hsh.rt.int (by rw [List.length_map, List.length_range]; omega)
        cases e
        obtain ⟨sb, soff, hsa, hsb, hsc⟩ := hsh.net.rs.span (by rw [HLN.out.2.1]; omega)
        subst hsa
        obtain ⟨l0, l1⟩ := hlc k (by rw [HLN.out.1]; exact hlt)
        obtain ⟨s0, s1⟩ := hsc k (by rw [HLN.out.2.1]; exact hlt)
        have t0 := htc k (by rw [List.length_map, List.length_range]; exact hlt)
        rw [iat_eq _ _ (by rw [List.length_map, List.length_range]; exact hlt)] at t0
        simp only [List.getElem_map, List.getElem_range] at t0
        obtain ⟨n0, n1, _⟩ := hsh.kn.two
        have hnl := hsh.kn.lt
        have hin := HX.out.1.sp (k : Int) (by omega) (by rw [sqs_len, HLN.out.2.1]; omega)
        rw [spA_sqs (by omega) (by rw [HLN.out.2.1]; omega), Int.toNat_natCast] at hin
        have hin2 := HX.out.2 (k : Int) (by omega) (by rw [HLN.out.2.1]; omega)
        rw [spA_nat] at hin2
        have hsp := HOK.out.sp k (by rw [HLN.out.2.1]; exact hlt)
        have q0 := sq_small hsp.1 (by omega)
        have q1 := sq_small (x := his n.sp k) (by omega) hsp.2.2
        have HI : Hid (InS (los L k, his L k) (x k)) := hide hin2
        have HSH := hide hsh
        clear hlc hsc htc hsh hin2
        unfold InS at hin
        dsimp only at hin
        generalize x k = y at *
        generalize los L k = ll at *
        generalize his L k = lh at *
        generalize los n.sp k = sl at *
        generalize his n.sp k = sh at *
        obtain ⟨i0, i1⟩ := hin
        obtain ⟨p0, p1, p2⟩ := hsp
        obtain ⟨q00, q01⟩ := q0
        obtain ⟨q10, q11⟩ := q1
        have d0 : decide (y < sl * sl) = false := decide_eq_false (by omega)
        have d1 : decide (sh * sh < y) = false := decide_eq_false (by omega)
        have w0 : IntKind.i64.wrap (sl * sl) = sl * sl := IntWalk.i64_in _ (by omega)
        have w1 : IntKind.i64.wrap (sh * sh) = sh * sh := IntWalk.i64_in _ (by omega)
        have ik : (k : Int) < N := by omega
        have HW := hide (fun X : Ext wr => Ext.call (within_any ll lh y X.w))
        have hI := HI.out
        unfold InS at hI
        dsimp only at hI
        rw [show (decide (ll ≤ y) && decide (y ≤ lh)) = true by rw [decide_eq_true hI.1, decide_eq_true hI.2]; rfl] at HW
        have hX := @Ext.cell wr
        clear hI i0 i1
        go_wp2_with fail
        refine wp_region_all (Ext.w (W := wr)) (by kernel_rfl) (by kernel_rfl) (Ext.start wr) ?_
        repeat (first | go_big_quiet_skip | quiet_step (first | (go_at_call 42; with_reducible exact HW.out _)))
        refine wpQuiet_nil ?_
        intro X
        have hsh := HSH.out.kept X.below
        go_wp2_with fail
        exact ⟨⟨k + 1, by omega, by go_num, hsh⟩, by simp [intOf]; omega⟩
      · have hkN : k = N := by omega
        obtain ⟨n0, n1, _⟩ := hsh.kn.two
        have hnl := hsh.kn.lt
        have HSH := hide hsh
        clear hsh hkN
        go_wp2_with fail
        clear n0 n1 hnl
        go_loopw [146] (fun i wr => ∃ k : Nat, k ≤ T ∧ i = .int .i64 (k : Int) ∧ ShIn w n sa scap ta N T tcap W1.heap.size (some ⟨lb, loff, none⟩) L (some ⟨tb, toff, none⟩) ((List.range N).map fun i : Nat => x i) wr) (fun i _ => T - (intOf i).toNat)
        case atStart => exact ⟨0, Nat.zero_le _, rfl, HSH.out⟩
        case round =>
          clear HSH
          obtain ⟨k, hk, rfl, hsh⟩ := hrel
          by_cases hlt : k < T
          · have hkl : k < n.ts.length := by rw [HLN.out.2.2]; exact hlt
            obtain ⟨gb, goff, hta, hgb, hcell⟩ := hsh.net.rt.tri (by omega)
            obtain ⟨t0, t1, t2⟩ := hcell k hkl
            obtain ⟨_, _, e, htb, htc⟩ := hsh.rt.int (by rw [List.length_map, List.length_range]; omega)
            cases e
            have hmem : tri n.ts k ∈ n.ts := by rw [tri_eq hkl]; exact List.getElem_mem hkl
            have hin := HIN.out _ hmem
            have hhl := HX.out.1.tr _ hmem
            have HSH := hide hsh
            have cx : ∀ o : Int, 0 ≤ o → o < N → wr.cell? ⟨tb, toff + o.toNat, none⟩ = some (.int .i64 (x o)) := fun o h0 h1 => by
              have := htc o.toNat (by rw [List.length_map, List.length_range]; omega)
              rw [iat_eq _ _ (by rw [List.length_map, List.length_range]; omega)] at this
              simp only [List.getElem_map, List.getElem_range] at this
              rwa [Int.toNat_of_nonneg h0] at this
            clear hcell hsh htc hkl hmem
            subst hta
            generalize tri n.ts k = t at *
            obtain ⟨ta', tb', tc'⟩ := t
            have ha := hin ta' (by simp [cor])
            have hb := hin tb' (by simp [cor])
            have hc := hin tc' (by simp [cor])
            rw [HLN.out.2.1] at ha hb hc
            dsimp only at t0 t1 t2
            have xa := cx ta' ha.1 ha.2
            have xb := cx tb' hb.1 hb.2
            have xc := cx tc' hc.1 hc.2
            unfold Hl at hhl
            dsimp only at hhl
            have bx : ∀ o : Int, 0 ≤ o → o < N → 0 ≤ x o ∧ x o ≤ 100000000 := fun o h0 h1 => by
              have h1' := HX.out.1.sp o h0 (by rw [sqs_len, HLN.out.2.1]; exact h1)
              rw [spA_sqs h0 (by rw [HLN.out.2.1]; exact h1)] at h1'
              have hsp := HOK.out.sp o.toNat (by rw [HLN.out.2.1]; omega)
              have q0 := sq_small hsp.1 (by omega)
              have q1 := sq_small (x := his n.sp o.toNat) (by omega) hsp.2.2
              unfold InS at h1'
              dsimp only at h1'
              omega
            have ba := bx ta' ha.1 ha.2
            have bb := bx tb' hb.1 hb.2
            have bc := bx tc' hc.1 hc.2
            clear cx bx hin
            rw [← hhl] at xc
            generalize x ta' = va at *
            generalize x tb' = vb at *
            have wv : IntKind.i64.wrap (va + vb) = va + vb := IntWalk.i64_in _ (by omega)
            clear hhl bc
            obtain ⟨a0, a1⟩ := ha
            obtain ⟨b0, b1⟩ := hb
            obtain ⟨c0, c1⟩ := hc
            obtain ⟨n0, n1, _⟩ := HSH.out.kn.two
            have hnl := HSH.out.kn.lt
            obtain ⟨V2, hV2⟩ : ∃ V2, wr.alloc (.cells #[.int .i64 ta', .int .i64 tb', .int .i64 tc'] 75) = V2 := ⟨_, rfl⟩
            have hbv : Below wr.heap.size wr V2 := by rw [← hV2]; exact (Below.refl _ _).alloc (Nat.le_refl _) _
            have kt : Blk V2 wr.heap.size #[.int .i64 ta', .int .i64 tb', .int .i64 tc'] 75 := by rw [← hV2]; exact Blk.new _ _ _
            have HSV := hide (HSH.out.kept hbv)
            obtain ⟨y0, y1, y2, _⟩ := kt.three
            have ya : V2.cell? ⟨tb, toff + ta'.toNat, none⟩ = some (.int .i64 va) := (hbv.cell (p := ⟨tb, toff + ta'.toNat, none⟩) htb).trans xa
            have yb : V2.cell? ⟨tb, toff + tb'.toNat, none⟩ = some (.int .i64 vb) := (hbv.cell (p := ⟨tb, toff + tb'.toNat, none⟩) htb).trans xb
            have yc : V2.cell? ⟨tb, toff + tc'.toNat, none⟩ = some (.int .i64 (va + vb)) := (hbv.cell (p := ⟨tb, toff + tc'.toNat, none⟩) htb).trans xc
            have lt := kt.lt
            clear hbv kt
            go_wp2_with fail
            go_quiet (fail)
            have hsh := HSV.out.kept ((below_drewN (Below.refl _ _) nq : Below V2.heap.size V2 (V2.drewN nq)))
            go_wp2_with fail
            exact ⟨⟨k + 1, by omega, by go_num, hsh⟩, by simp [intOf]; omega⟩
          · have hB := hsh.be
            clear hsh
            go_wp2_with fail
            refine (works_any _).mono ?_
            rintro e W9 ⟨rfl, hb9⟩
            go_wp2_with fail
            go_ret
            exact ⟨rfl, hB.trans (hb9.mono hB.size)⟩
  | false =>
    have hx4 : x q = los L q := by have := HX4.out; simpa [los] using this
    rw [hx4] at t0
    clear hx4
    generalize los L q = v at *
    go_wp2_with fail
    go_quiet (fail)
    have hsh := HSH.out.kept ((below_drewN (Below.refl _ _) nq : Below W3.heap.size W3 (W3.drewN nq)))
    clear l0 l1 t0 iq HLC HTC hlb htb
    go_wp2_with fail
    generalize W3.drewN nq = V3 at *
    go_loopw [96] (fun i wr => ∃ k : Nat, k ≤ N ∧ i = .int .i64 (k : Int) ∧ ShIn w n sa scap ta N T tcap W1.heap.size (some ⟨lb, loff, none⟩) L (some ⟨tb, toff, none⟩) ((List.range N).map fun i : Nat => x i) wr) (fun i _ => N - (intOf i).toNat)
    case atStart => exact ⟨0, Nat.zero_le _, rfl, hsh⟩
    case round =>
      clear hsh
      obtain ⟨k, hk, rfl, hsh⟩ := hrel
      by_cases hlt : k < N
      · obtain ⟨_, _, e, hlb, hlc⟩ := hsh.rl.span (by rw [HLN.out.1]; omega)
        cases e
        obtain ⟨_, _, e, htb, htc⟩ := hsh.rt.int (by rw [List.length_map, List.length_range]; omega)
        cases e
        obtain ⟨sb, soff, hsa, hsb, hsc⟩ := hsh.net.rs.span (by rw [HLN.out.2.1]; omega)
        subst hsa
        obtain ⟨l0, l1⟩ := hlc k (by rw [HLN.out.1]; exact hlt)
        obtain ⟨s0, s1⟩ := hsc k (by rw [HLN.out.2.1]; exact hlt)
        have t0 := htc k (by rw [List.length_map, List.length_range]; exact hlt)
        rw [iat_eq _ _ (by rw [List.length_map, List.length_range]; exact hlt)] at t0
        simp only [List.getElem_map, List.getElem_range] at t0
        obtain ⟨n0, n1, _⟩ := hsh.kn.two
        have hnl := hsh.kn.lt
        have hin := HX.out.1.sp (k : Int) (by omega) (by rw [sqs_len, HLN.out.2.1]; omega)
        rw [spA_sqs (by omega) (by rw [HLN.out.2.1]; omega), Int.toNat_natCast] at hin
        have hin2 := HX.out.2 (k : Int) (by omega) (by rw [HLN.out.2.1]; omega)
        rw [spA_nat] at hin2
        have hsp := HOK.out.sp k (by rw [HLN.out.2.1]; exact hlt)
        have q0 := sq_small hsp.1 (by omega)
        have q1 := sq_small (x := his n.sp k) (by omega) hsp.2.2
        have HI : Hid (InS (los L k, his L k) (x k)) := hide hin2
        have HSH := hide hsh
        clear hlc hsc htc hsh hin2
        unfold InS at hin
        dsimp only at hin
        generalize x k = y at *
        generalize los L k = ll at *
        generalize his L k = lh at *
        generalize los n.sp k = sl at *
        generalize his n.sp k = sh at *
        obtain ⟨i0, i1⟩ := hin
        obtain ⟨p0, p1, p2⟩ := hsp
        obtain ⟨q00, q01⟩ := q0
        obtain ⟨q10, q11⟩ := q1
        have d0 : decide (y < sl * sl) = false := decide_eq_false (by omega)
        have d1 : decide (sh * sh < y) = false := decide_eq_false (by omega)
        have w0 : IntKind.i64.wrap (sl * sl) = sl * sl := IntWalk.i64_in _ (by omega)
        have w1 : IntKind.i64.wrap (sh * sh) = sh * sh := IntWalk.i64_in _ (by omega)
        have ik : (k : Int) < N := by omega
        have HW := hide (fun X : Ext wr => Ext.call (within_any ll lh y X.w))
        have hI := HI.out
        unfold InS at hI
        dsimp only at hI
        rw [show (decide (ll ≤ y) && decide (y ≤ lh)) = true by rw [decide_eq_true hI.1, decide_eq_true hI.2]; rfl] at HW
        have hX := @Ext.cell wr
        clear hI i0 i1
        go_wp2_with fail
        refine wp_region_all (Ext.w (W := wr)) (by kernel_rfl) (by kernel_rfl) (Ext.start wr) ?_
        repeat (first | go_big_quiet_skip | quiet_step (first | (go_at_call 42; with_reducible exact HW.out _)))
        refine wpQuiet_nil ?_
        intro X
        have hsh := HSH.out.kept X.below
        go_wp2_with fail
        exact ⟨⟨k + 1, by omega, by go_num, hsh⟩, by simp [intOf]; omega⟩
      · have hkN : k = N := by omega
        obtain ⟨n0, n1, _⟩ := hsh.kn.two
        have hnl := hsh.kn.lt
        have HSH := hide hsh
        clear hsh hkN
        go_wp2_with fail
        clear n0 n1 hnl
        go_loopw [146] (fun i wr => ∃ k : Nat, k ≤ T ∧ i = .int .i64 (k : Int) ∧ ShIn w n sa scap ta N T tcap W1.heap.size (some ⟨lb, loff, none⟩) L (some ⟨tb, toff, none⟩) ((List.range N).map fun i : Nat => x i) wr) (fun i _ => T - (intOf i).toNat)
        case atStart => exact ⟨0, Nat.zero_le _, rfl, HSH.out⟩
        case round =>
          clear HSH
          obtain ⟨k, hk, rfl, hsh⟩ := hrel
          by_cases hlt : k < T
          · have hkl : k < n.ts.length := by rw [HLN.out.2.2]; exact hlt
            obtain ⟨gb, goff, hta, hgb, hcell⟩ := hsh.net.rt.tri (by omega)
            obtain ⟨t0, t1, t2⟩ := hcell k hkl
            obtain ⟨_, _, e, htb, htc⟩ := hsh.rt.int (by rw [List.length_map, List.length_range]; omega)
            cases e
            have hmem : tri n.ts k ∈ n.ts := by rw [tri_eq hkl]; exact List.getElem_mem hkl
            have hin := HIN.out _ hmem
            have hhl := HX.out.1.tr _ hmem
            have HSH := hide hsh
            have cx : ∀ o : Int, 0 ≤ o → o < N → wr.cell? ⟨tb, toff + o.toNat, none⟩ = some (.int .i64 (x o)) := fun o h0 h1 => by
              have := htc o.toNat (by rw [List.length_map, List.length_range]; omega)
              rw [iat_eq _ _ (by rw [List.length_map, List.length_range]; omega)] at this
              simp only [List.getElem_map, List.getElem_range] at this
              rwa [Int.toNat_of_nonneg h0] at this
            clear hcell hsh htc hkl hmem
            subst hta
            generalize tri n.ts k = t at *
            obtain ⟨ta', tb', tc'⟩ := t
            have ha := hin ta' (by simp [cor])
            have hb := hin tb' (by simp [cor])
            have hc := hin tc' (by simp [cor])
            rw [HLN.out.2.1] at ha hb hc
            dsimp only at t0 t1 t2
            have xa := cx ta' ha.1 ha.2
            have xb := cx tb' hb.1 hb.2
            have xc := cx tc' hc.1 hc.2
            unfold Hl at hhl
            dsimp only at hhl
            have bx : ∀ o : Int, 0 ≤ o → o < N → 0 ≤ x o ∧ x o ≤ 100000000 := fun o h0 h1 => by
              have h1' := HX.out.1.sp o h0 (by rw [sqs_len, HLN.out.2.1]; exact h1)
              rw [spA_sqs h0 (by rw [HLN.out.2.1]; exact h1)] at h1'
              have hsp := HOK.out.sp o.toNat (by rw [HLN.out.2.1]; omega)
              have q0 := sq_small hsp.1 (by omega)
              have q1 := sq_small (x := his n.sp o.toNat) (by omega) hsp.2.2
              unfold InS at h1'
              dsimp only at h1'
              omega
            have ba := bx ta' ha.1 ha.2
            have bb := bx tb' hb.1 hb.2
            have bc := bx tc' hc.1 hc.2
            clear cx bx hin
            rw [← hhl] at xc
            generalize x ta' = va at *
            generalize x tb' = vb at *
            have wv : IntKind.i64.wrap (va + vb) = va + vb := IntWalk.i64_in _ (by omega)
            clear hhl bc
            obtain ⟨a0, a1⟩ := ha
            obtain ⟨b0, b1⟩ := hb
            obtain ⟨c0, c1⟩ := hc
            obtain ⟨n0, n1, _⟩ := HSH.out.kn.two
            have hnl := HSH.out.kn.lt
            obtain ⟨V2, hV2⟩ : ∃ V2, wr.alloc (.cells #[.int .i64 ta', .int .i64 tb', .int .i64 tc'] 75) = V2 := ⟨_, rfl⟩
            have hbv : Below wr.heap.size wr V2 := by rw [← hV2]; exact (Below.refl _ _).alloc (Nat.le_refl _) _
            have kt : Blk V2 wr.heap.size #[.int .i64 ta', .int .i64 tb', .int .i64 tc'] 75 := by rw [← hV2]; exact Blk.new _ _ _
            have HSV := hide (HSH.out.kept hbv)
            obtain ⟨y0, y1, y2, _⟩ := kt.three
            have ya : V2.cell? ⟨tb, toff + ta'.toNat, none⟩ = some (.int .i64 va) := (hbv.cell (p := ⟨tb, toff + ta'.toNat, none⟩) htb).trans xa
            have yb : V2.cell? ⟨tb, toff + tb'.toNat, none⟩ = some (.int .i64 vb) := (hbv.cell (p := ⟨tb, toff + tb'.toNat, none⟩) htb).trans xb
            have yc : V2.cell? ⟨tb, toff + tc'.toNat, none⟩ = some (.int .i64 (va + vb)) := (hbv.cell (p := ⟨tb, toff + tc'.toNat, none⟩) htb).trans xc
            have lt := kt.lt
            clear hbv kt
            go_wp2_with fail
            go_quiet (fail)
            have hsh := HSV.out.kept ((below_drewN (Below.refl _ _) nq : Below V2.heap.size V2 (V2.drewN nq)))
            go_wp2_with fail
            exact ⟨⟨k + 1, by omega, by go_num, hsh⟩, by simp [intOf]; omega⟩
          · have hB := hsh.be
            clear hsh
            go_wp2_with fail
            refine (works_any _).mono ?_
            rintro e W9 ⟨rfl, hb9⟩
            go_wp2_with fail
            go_ret
            exact ⟨rfl, hB.trans (hb9.mono hB.size)⟩

end Go.Proofs.Ytlbhnicengolfaa
