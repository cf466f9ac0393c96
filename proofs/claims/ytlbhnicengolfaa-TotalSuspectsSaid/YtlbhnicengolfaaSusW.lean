/-
  TotalSuspects: the walk.
-/
import Derived.Test.YtlbhnicengolfaaTru
import Derived.Test.YtlbhnicengolfaaSusA
namespace Go.Proofs.Ytlbhnicengolfaa
open Go.RowKit
set_option linter.unusedVariables false
set_option linter.unusedSimpArgs false

structure SuIn (w : World) (n : TNet) (sa : Option Addr) (scap : Nat) (ta : Option Addr) (N T tcap nb : Nat) (al : Option Addr) (xs : List Int) (wr : World) : Prop where
  net : NetIn n sa ta N T tcap wr
  kn : Blk wr nb #[.slice sa N scap, .slice ta T tcap] 25
  rl : Row wr wr.heap.size al (ints xs)
  be : Below w.heap.size w wr
theorem SuIn.kept {w : World} {n : TNet} {sa : Option Addr} {scap : Nat} {ta : Option Addr} {N T tcap nb : Nat} {al : Option Addr} {xs : List Int} {wr W : World} (h : SuIn w n sa scap ta N T tcap nb al xs wr) (hb : Below wr.heap.size wr W) : SuIn w n sa scap ta N T tcap nb al xs W :=
  ⟨h.net.below hb, h.kn.kept hb, row_keep h.rl hb, h.be.trans (hb.mono h.be.size)⟩
/-- A net that has just been copied, with one span written anew. -/
theorem netin_own {n : TNet} {sa ta : Option Addr} {N T tcap : Nat} {w W : World} (h : NetIn n sa ta N T tcap w) (hb : Below w.heap.size w W) {B g c : Nat} {sp' : List Sp} (ho : W.ownsRow B 53 2 (.slice (some ⟨g, 0, none⟩) N c) N (spans sp')) (hl : sp'.length = N) : NetIn ⟨sp', n.ts⟩ (some ⟨g, 0, none⟩) ta N T tcap W :=
  have h' := h.below hb
  ⟨hl.symm, h'.htn, h'.htc, h'.htc2, h'.hl, h'.hl2, own2_row ho, h'.rt⟩

def lastS (S : List Nat) (j : Nat) : Int := if j = 0 then -1 else ((S.getD (j - 1) 0 : Nat) : Int)
theorem lastS_lt {S : List Nat} (h : S.Pairwise (· < ·)) {j : Nat} (hj : j < S.length) : lastS S j < ((S.getD j 0 : Nat) : Int) := by
  unfold lastS
  split
  · omega
  · have := List.pairwise_iff_getElem.1 h (j - 1) j (by omega) hj (by omega)
    rw [List.getD_eq_getElem?_getD, List.getD_eq_getElem?_getD, List.getElem?_eq_getElem hj, List.getElem?_eq_getElem (by omega)]
    simp only [Option.getD_some]
    omega

attribute [local go_sem] grows growAt growUpon in
set_option maxRecDepth 100000 in
set_option maxHeartbeats 8000000 in
theorem tsus_any (s : TSky) (lg : Nat → Int) (which lo wide : Int) (la : Option Addr) (ln lc : Nat) (w : World) (hs : SkyOk s) (hlg : LegOk lg) (hw0 : 0 ≤ which) (hw1 : which ≤ 255) (ho0 : 0 ≤ lo) (ho1 : lo ≤ 255) (hd0 : 0 ≤ wide) (hd1 : wide ≤ 255) (hln : ln = s.lk.length) (hl : ln ≤ 9223372036854775807) (hrow : Row w w.heap.size la (u8p s.lk)) :
    Calls Try.prog 11 #[.agg (skyC la ln lc s), .agg (legC lg), .int .u8 which, .int .u8 lo, .int .u8 wide] w fun e w' => e = .returned (.bool true) ∧ Below w.heap.size w w' := by
  have hok := skyTru_ok hs hlg
  have hck := check_of hok
  have htru := skyTru_true hs hlg
  have hsm := skyTru_small hs hlg
  have hxr := skyX_range s hlg
  have HM := hide (fun (W : World) (hb : Below w.heap.size w W) => tru_any s lg la ln lc W hs hlg hln hl ((hrow.below hb (Nat.le_refl _)).mono hb.size))
  have HLN : Hid ((skyTru s lg).sp.length = 1 + 2 * skyK s ∧ (skyTru s lg).ts.length = skyK s) := hide ⟨by simp [skyTru], skyTs_len _ _⟩
  have HPL := hide (And.intro hok (And.intro htru (And.intro hsm hxr)))
  have hk7 : skyK s ≤ 3 := by unfold skyK; omega
  clear hs hlg hln hrow hok hck htru hsm hxr
  generalize skyTru s lg = n at *
  generalize skyX s lg = X at *
  generalize skyK s = T at *
  obtain ⟨N, hN⟩ : ∃ N, N = 1 + 2 * T := ⟨_, rfl⟩
  rw [← hN] at HM HLN
  have HN := hide hN
  have hN1 : 1 ≤ N := by omega
  have hN7 : N ≤ 7 := by omega
  clear hN
  unfold skyC legC
  go_enter Try.func11, Try.ntmps11
  go_wp2_with fail
  generalize hW : World.alloc (World.alloc w _) _ = V
  have hbV : Below w.heap.size w V := by rw [← hW]; exact ((Below.refl _ _).alloc (Nat.le_refl _) _).alloc (by simp) _
  clear hW
  refine (HM.out V hbV).mono ?_
  rintro e W1 ⟨sg, scap, tv, gx, rfl, os, ot, hx, hgx, hb1⟩
  obtain ⟨ta, tcap, htv, htc, htm⟩ := own_shape ot
  subst htv
  have hB1 := hbV.trans (hb1.mono hbV.size)
  have os := os.alloc (.cells #[.slice (some ⟨sg, 0, none⟩) N scap, .slice ta T tcap] 25)
  have ot := ot.alloc (.cells #[.slice (some ⟨sg, 0, none⟩) N scap, .slice ta T tcap] 25)
  have kn := Blk.new W1 #[.slice (some ⟨sg, 0, none⟩) N scap, .slice ta T tcap] 25
  have hB2 := hB1.alloc hB1.size (.cells #[.slice (some ⟨sg, 0, none⟩) N scap, .slice ta T tcap] 25)
  obtain ⟨q, hq, hqN⟩ : ∃ q : Nat, which % (N : Int) = (q : Int) ∧ q < N := by
    have e0 := Int.emod_nonneg which (b := (N : Int)) (by omega)
    have e1 := Int.emod_lt_of_pos which (b := (N : Int)) (by omega)
    exact ⟨(which % (N : Int)).toNat, by omega, by omega⟩
  obtain ⟨wd, hwd, hwd0, hwd8⟩ : ∃ d : Int, wide % 9 = d ∧ 0 ≤ d ∧ d ≤ 8 := ⟨_, rfl, by omega, by omega⟩
  have hne : sg ≠ W1.heap.size := fun e => ownBlk os rfl kn (by decide) e
  generalize hV1 : W1.alloc (.cells #[.slice (some ⟨sg, 0, none⟩) N scap, .slice ta T tcap] 25) = V1 at *
  obtain ⟨c0, c1, f0, f1⟩ := own2_cell os hqN
  have os2 := own2_set os q lo (lo + wd)
  have g2 := grownBy_trans (own2_grown V1 sg (q * 2) (.int .i64 lo)) (own2_grown (V1.setCell ⟨sg, q * 2, none⟩ (.int .i64 lo)) sg (q * 2 + 1) (.int .i64 (lo + wd)))
  have ot2 := ot.kept g2 (own_ne ot os (by decide))
  have kn2 := blk_grown kn g2 (fun j e => by cases e; exact hne)
  have hB3 := below_own hB2 os (by have := hbV.size; omega) (by have := hB2.size; omega) g2
  obtain ⟨n0, n1, _⟩ := kn.two
  have hnl := kn.lt
  have hsgl := (os.lt sg rfl).2
  have hsgn := hne
  have iq : (q : Int) < N := by omega
  have HNE : Hid (NetIn (withS n q (lo, lo + wd)) (some ⟨sg, 0, none⟩) ta N T tcap ((V1.setCell ⟨sg, q * 2, none⟩ (.int .i64 lo)).setCell ⟨sg, q * 2 + 1, none⟩ (.int .i64 (lo + wd)))) := hide (by
    obtain ⟨_, _, e2, r2⟩ := own_row ot2
    cases e2
    exact ⟨by show N = (n.sp.set q (lo, lo + wd)).length; rw [List.length_set, HLN.out.1], by show T = n.ts.length; exact HLN.out.2.symm, htc, by unfold maxLen at htm; exact htm, by omega, by omega, own2_row os2, r2⟩)
  clear os ot os2 g2 ot2 kn hB2 hgx hx hb1 hbV hB1
  go_wp2_with fail
  have kn3 : Blk _ W1.heap.size #[.slice (some ⟨sg, 0, none⟩) N scap, .slice ta T tcap] 25 := kn2
  clear n0 n1 hnl hsgl hsgn c0 c1 f0 f1 hV1 iq
  generalize World.setCell (World.setCell V1 _ _) _ _ = V2 at *
  have hokn : NOk (withS n q (lo, lo + wd)) := withS_ok HPL.out.1 (by rw [HLN.out.1]; exact hqN) ho0 (by dsimp only; omega) (by dsimp only; omega)
  have hckn := check_of hokn
  refine (squares_any (withS n q (lo, lo + wd)) (some ⟨sg, 0, none⟩) ta N scap T tcap _ HNE.out).mono ?_
  rintro e W3 ⟨v, rfl, hv, hb3⟩
  obtain ⟨al1, cl1, e1, _⟩ := own_row hv
  subst e1
  have hnet3 := HNE.out.below hb3
  have kn4 := kn3.kept hb3
  have hB4 := hB3.trans (hb3.mono hB3.size)
  obtain ⟨n0, n1, _⟩ := kn4.two
  have hnl := kn4.lt
  clear HNE kn2 kn3 hB3 hb3 hv
  have HSU := hide (fun W (h : NetIn (withS n q (lo, lo + wd)) (some ⟨sg, 0, none⟩) ta N T tcap W) => suspects_any (withS n q (lo, lo + wd)) (some ⟨sg, 0, none⟩) ta N scap T tcap W h)
  have hlen : (sqR (withS n q (lo, lo + wd))).1.length ≤ 11 := sqR_len _
  by_cases hnar : narOk (withS n q (lo, lo + wd)).ts (sqs (withS n q (lo, lo + wd)).sp) = true
  · have hsq : (sqR (withS n q (lo, lo + wd))).2 = 0 := by unfold sqR; rw [if_neg (by rw [hckn]; simp), hnar]; rfl
    have hsu : susR (withS n q (lo, lo + wd)) = ([], 6) := by unfold susR; rw [if_pos hsq]
    rw [hsq]
    clear hnar hlen
    go_wp2_with fail
    refine (HSU.out _ hnet3).mono ?_
    rintro e W4 ⟨v, rfl, hv, hb4⟩
    rw [hsu] at hv ⊢
    obtain ⟨al, cl, e2, _⟩ := own_row hv
    subst e2
    have hB5 := hB4.trans (hb4.mono hB4.size)
    clear hsq hsu hv hb4 n0 n1 hnl kn4 hB4
    go_wp2_with fail
    refine (works_any _).mono ?_
    rintro e W9 ⟨rfl, hb9⟩
    go_wp2_with fail
    go_ret
    exact ⟨rfl, hB5.trans (hb9.mono hB5.size)⟩
  · have hsq : (sqR (withS n q (lo, lo + wd))).2 = 13 := by unfold sqR; rw [if_neg (by rw [hckn]; simp), if_neg hnar]
    obtain ⟨S, hS⟩ : ∃ S, S = (List.range N).filter (freeOk (withS n q (lo, lo + wd))) := ⟨_, rfl⟩
    have hnl' : (withS n q (lo, lo + wd)).sp.length = N := by show (n.sp.set q _).length = N; rw [List.length_set, HLN.out.1]
    have hsu : susR (withS n q (lo, lo + wd)) = (S.map fun i : Nat => (i : Int), 0) := by unfold susR; rw [if_neg (by rw [hsq]; decide), if_pos hsq, hS]; unfold susL; rw [hnl']
    have HSS : Hid (S.Pairwise (· < ·) ∧ q ∈ S ∧ ∀ i ∈ S, i < N ∧ (sqR (withS (withS n q (lo, lo + wd)) i (0, 10000))).2 = 0) := hide (by
      rw [hS]
      refine ⟨sus_sorted _ _, List.mem_filter.2 ⟨List.mem_range.2 hqN, sus_mem HPL.out.1 HPL.out.2.1 (by rw [HLN.out.1]; exact hqN) (HPL.out.2.2.2 q).1 (by have := (HPL.out.2.2.2 q).2; unfold xF; rw [Int.toNat_natCast]; omega) _⟩, fun i hi => ?_⟩
      obtain ⟨h1, h2⟩ := List.mem_filter.1 hi
      have h1 := List.mem_range.1 h1
      exact ⟨h1, sus_ok hokn (withS_small HPL.out.2.2.1 (by rw [HLN.out.1]; exact hqN) (by dsimp only; omega)) (by rw [hnl']; exact h1) h2⟩)
    have HSL : Hid ((withS n q (lo, lo + wd)).sp.length = N) := hide hnl'
    have HOKN := hide hokn
    have hSl : S.length ≤ 7 := by rw [hS]; exact Nat.le_trans (List.length_filter_le _ _) (by simpa using hN7)
    rw [hsq]
    clear hnar hlen hS hnl'
    go_wp2_with fail
    refine (HSU.out _ hnet3).mono ?_
    rintro e W4 ⟨v, rfl, hv, hb4⟩
    rw [hsu] at hv ⊢
    dsimp only at hv
    obtain ⟨al, cl, e2, rl⟩ := own_row hv
    subst e2
    have hB5 := hB4.trans (hb4.mono hB4.size)
    have hnet4 := hnet3.below hb4
    have kn5 := kn4.kept hb4
    rw [List.length_map]
    have hS1 : 0 < S.length := by have := List.length_pos_of_mem HSS.out.2.1; exact this
    obtain ⟨sb, soff, hsa, hsbl, _⟩ := hnet4.rs.span (by rw [HSL.out]; omega)
    obtain ⟨ab, aoff, haa, habl, _⟩ := rl.int (by rw [List.length_map]; exact hS1)
    cases hsa
    subst haa
    have hsu5 : SuIn w (withS n q (lo, lo + wd)) (some ⟨sg, 0, none⟩) scap ta N T tcap W1.heap.size (some ⟨ab, aoff, none⟩) (S.map fun i : Nat => (i : Int)) W4 := ⟨hnet4, kn5, rl, hB5⟩
    clear hsq hsu hv hb4 n0 n1 hnl kn4 hB4 hB5 hnet4 kn5 rl hsbl habl hnet3 hokn hckn
    go_wp2_with fail
    go_loopw [18, 19, 73] (fun f l i wr => ∃ j : Nat, j ≤ S.length ∧ i = .int .i64 (j : Int) ∧ f = .bool (decide (q ∈ S.take j)) ∧ l = .int .i64 (lastS S j) ∧ SuIn w (withS n q (lo, lo + wd)) (some ⟨sg, 0, none⟩) scap ta N T tcap W1.heap.size (some ⟨ab, aoff, none⟩) (S.map fun i : Nat => (i : Int)) wr) (fun _ _ i _ => S.length - (intOf i).toNat)
    case atStart => exact ⟨0, Nat.zero_le _, rfl, by simp, rfl, hsu5⟩
    case round =>
      clear hsu5
      obtain ⟨j, hj, rfl, hf, rfl, hsh⟩ := hrel
      by_cases hlt : j < S.length
      · obtain ⟨i, hi⟩ : ∃ i, S.getD j 0 = i := ⟨_, rfl⟩
        have hmem : i ∈ S := by rw [← hi, List.getD_eq_getElem?_getD, List.getElem?_eq_getElem hlt]; exact List.getElem_mem hlt
        obtain ⟨hiN, hiok⟩ := HSS.out.2.2 i hmem
        have hls := lastS_lt HSS.out.1 hlt
        have hls1 : -1 ≤ lastS S j := by unfold lastS; split <;> omega
        have hls2 : lastS S (j + 1) = (i : Int) := by unfold lastS; rw [if_neg (by omega), Nat.add_sub_cancel, hi]
        have htk : S.take (j + 1) = S.take j ++ [i] := by rw [List.take_succ_eq_append_getElem hlt, ← hi, List.getD_eq_getElem?_getD, List.getElem?_eq_getElem hlt]; rfl
        obtain ⟨_, _, e, habl, hac⟩ := hsh.rl.int (by rw [List.length_map]; omega)
        cases e
        have a0 := hac j (by rw [List.length_map]; exact hlt)
        have e0 : iat (S.map fun i : Nat => (i : Int)) j = (i : Int) := by
          rw [iat_eq _ _ (by rw [List.length_map]; exact hlt), List.getElem_map, ← hi, List.getD_eq_getElem?_getD, List.getElem?_eq_getElem hlt]; rfl
        rw [e0] at a0
        rw [hi] at hls
        have HSH := hide hsh
        have HIO := hide hiok
        have HLS := hide hls2
        have hcase : (decide (q ∈ S.take j) = true ∧ Hid (decide (q ∈ S.take (j + 1)) = true)) ∨ (decide (q ∈ S.take j) = false ∧ i = q ∧ Hid (decide (q ∈ S.take (j + 1)) = true)) ∨ (decide (q ∈ S.take j) = false ∧ i ≠ q ∧ Hid (decide (q ∈ S.take (j + 1)) = false)) := by
          rw [htk]
          by_cases h1 : q ∈ S.take j
          · exact .inl ⟨decide_eq_true h1, hide (by simp [h1])⟩
          · by_cases h2 : i = q
            · exact .inr (.inl ⟨decide_eq_false h1, h2, hide (by simp [h2])⟩)
            · exact .inr (.inr ⟨decide_eq_false h1, h2, hide (by simp [h1, Ne.symm h2])⟩)
        clear hac e0 hi hmem hiok hls2 htk hsh
        generalize lastS S j = ls at *
        have d1 : decide ((i : Int) ≤ ls) = false := decide_eq_false (by omega)
        have d2 : decide ((N : Int) ≤ (i : Int)) = false := decide_eq_false (by omega)
        have d3 : decide (N ≤ i) = false := decide_eq_false (by omega)
        have iN : (i : Int) < N := by omega
        generalize hfb : decide (q ∈ S.take j) = fb at *
        clear hfb
        have hbr := HSH.out.kn.lt
        rcases hcase with ⟨rfl, HF⟩ | ⟨rfl, heq, HF⟩ | ⟨rfl, hneq, HF⟩
        · subst hf
          go_wp2_with fail
          have HC := hide (fun (W : World) (hb : Below wr.heap.size wr W) => (HSH.out.kept hb))
          have hbz := HSH.out.kn.lt
          obtain ⟨i0, hi0, hz0, hz1, hz2⟩ := info_asp
          have HI := hide hi0
          clear hi0
          refine wp_region_monoF wr _ 8 (cpGood W1.heap.size wr.heap.size N (.slice (some ⟨sg, 0, none⟩) N scap) (.slice ta T tcap) (withS n q (lo, lo + wd)).sp) (n := 125) (by kernel_rfl) (by decide +kernel) rfl cpGood_below ?steps ?_
          case steps =>
            refine ⟨?_, ?_, ?_, ?_, ?_, ?_, ?_, ?_, trivial⟩
            · intro ac w' h
              have e1 : ac.tmps.getD 11 undef = .pointer (some ⟨W1.heap.size, 0, none⟩) := h.old 11 rfl
              refine ⟨wanted_none rfl, ?_⟩
              simp at e1
              have HBE := hide h.be
              clear h
              go_simp
              exact ⟨Below.refl _ _, rfl⟩
            · intro ac w' h
              have e1 : ac.tmps.getD 93 undef = .pointer (some ⟨W1.heap.size, 1, none⟩) := h.val 0 93 rfl rfl
              refine ⟨wanted_none rfl, ?_⟩
              simp at e1
              have q := (HC.out w' h.be).kn.two
              have HBE := hide h.be
              clear h
              go_simp
              exact ⟨Below.refl _ _, rfl⟩
            · intro ac w' h
              refine ⟨wanted_none rfl, ?_⟩
              have HBE := hide h.be
              clear h
              go_simp
              exact ⟨(Below.refl _ _).alloc (Nat.le_refl _) _, ⟨_, rfl⟩⟩
            · intro ac w' h
              have e1 : ac.tmps.getD 11 undef = .pointer (some ⟨W1.heap.size, 0, none⟩) := h.old 11 rfl
              refine ⟨wanted_none rfl, ?_⟩
              simp at e1
              have HBE := hide h.be
              clear h
              go_simp
              exact ⟨Below.refl _ _, rfl⟩
            · intro ac w' h
              have e1 : ac.tmps.getD 96 undef = .pointer (some ⟨W1.heap.size, 0, none⟩) := h.val 3 96 rfl rfl
              refine ⟨wanted_none rfl, ?_⟩
              simp at e1
              have q := (HC.out w' h.be).kn.two
              have HBE := hide h.be
              clear h
              go_simp
              exact ⟨Below.refl _ _, rfl⟩
            · intro ac w' h
              obtain ⟨b46, e46⟩ : cpNil (ac.tmps.getD 95 undef) := h.val 2 95 rfl rfl
              have e48 : ac.tmps.getD 97 undef = .slice (some ⟨sg, 0, none⟩) N scap := h.val 4 97 rfl rfl
              refine ⟨wanted_none rfl, ?_⟩
              simp at e46 e48
              have hbs := h.be.size
              obtain ⟨v', w1, hr, ho, hg⟩ := run_append_arg_grows (P := Try.prog) w' 22 22 53 i0 (.agg #[.int .i64 0, .int .i64 0]) 2 16 under_asps HI.out hz0 hz1 hz2 rfl (by decide) ⟨b46, 0, none⟩ 0 0 [] rfl (by simp) ⟨sg, 0, none⟩ N scap (spans (withS n q (lo, lo + wd)).sp) (by rw [spans_length, HSL.out]; omega) (fun j u hj => row_reads (HC.out w' h.be).net.rs j u hj) (by omega) (by unfold maxLen; omega) (by omega)
              have hs1 : ac.eval (.tmp 95) = .slice (some ⟨b46, 0, none⟩) 0 0 := by simpa [Act.eval] using e46
              have hs2 : ac.eval (.tmp 97) = .slice (some ⟨sg, 0, none⟩) N scap := by simpa [Act.eval] using e48
              clear h e46 e48
              unfold stepUpon
              simp [execOp, resolve, invoke, builtin, hs1, hs2, hr, Result.andThen]
              refine ⟨below_of_grown hg, ?_⟩
              have ho' := Go.Joins.ownsRow_le ho hbs
              rw [Nat.zero_add, List.nil_append] at ho'
              obtain ⟨ga, gc, e, _, _⟩ := own_shape ho'
              subst e
              obtain ⟨g, c, e2, _, _⟩ := ho'.form (by omega)
              cases e2
              exact ⟨g, gc, rfl, ho'⟩
            · intro ac w' h
              have e45 : ac.tmps.getD 94 undef = .slice ta T tcap := h.val 1 94 rfl rfl
              obtain ⟨g49, c49, e49, hv49⟩ : (cpOwn wr.heap.size N (withS n q (lo, lo + wd)).sp) w' (ac.tmps.getD 98 undef) := h.val 5 98 rfl rfl
              refine ⟨wanted_none rfl, ?_⟩
              simp at e45 e49
              have Hhv49 := hide hv49
              clear hv49
              clear h
              go_simp
              exact ⟨Below.refl _ _, ⟨_, _, rfl, Hhv49.out⟩⟩
            · intro ac w' h
              refine ⟨wanted_none rfl, ?_⟩
              have hbs := h.be.size
              clear h
              go_simp
              exact ⟨(Below.refl _ _).alloc (Nat.le_refl _) _, ⟨_, rfl, hbs, Blk.new _ _ _⟩⟩
          intro vs w2 hb2 hv
          have v0 := hv 0 (by omega)
          have v1 := hv 1 (by omega)
          obtain ⟨g2, v2⟩ := hv 2 (by omega)
          have v3 := hv 3 (by omega)
          have v4 := hv 4 (by omega)
          obtain ⟨g5, c5, v5, -⟩ := hv 5 (by omega)
          obtain ⟨g6, c6, v6, hown⟩ := hv 6 (by omega)
          obtain ⟨p7, v7, hp7, k7⟩ := hv 7 (by omega)
          simp only [cpGood] at v0 v1 v3 v4
          simp only [List.take_succ_cons, List.take_zero, List.drop_succ_cons, List.drop_zero, putSeq, Act.put, List.setIfInBounds_toArray, List.set_cons_zero, List.set_cons_succ, v0, v1, v2, v3, v4, v5, v6, v7, Nat.reduceAdd]
          clear hv v0 v1 v2 v3 v4 v5 v6 v7 HI hz0 hz1 hz2 hbz
          have hsh2 := HC.out w2 hb2
          have hne : g6 ≠ p7 := ownBlk hown rfl k7 (by decide)
          have hg6 := hown.lt g6 rfl
          obtain ⟨q0, q1, qf0, qf1⟩ := k7.two
          have ql := k7.lt
          clear HC
          obtain ⟨c0, c1, f0, f1⟩ := own2_cell hown hiN
          have hne' := hne.symm
          have hg2 := hg6.2
          have ho1 := own_set (i := 0) (u := .slice (some ⟨g6, 0, none⟩) N c6) hown k7 (by decide)
          have k7a := k7.set 0 (.slice (some ⟨g6, 0, none⟩) N c6)
          have ho2 := own_set (i := 1) (u := .slice ta T tcap) ho1 k7a (by decide)
          have k7b := k7a.set 1 (.slice ta T tcap)
          have ho3 := own2_set ho2 i 0 10000
          have hbW : Below wr.heap.size wr ((((w2.setCell ⟨p7, 0, none⟩ (.slice (some ⟨g6, 0, none⟩) N c6)).setCell ⟨p7, 1, none⟩ (.slice ta T tcap)).setCell ⟨g6, i * 2, none⟩ (.int .i64 0)).setCell ⟨g6, i * 2 + 1, none⟩ (.int .i64 10000)) :=
            (((hb2.setCell (p := ⟨p7, 0, none⟩) hp7 _).setCell (p := ⟨p7, 1, none⟩) hp7 _).setCell (p := ⟨g6, i * 2, none⟩) hg6.1 _).setCell (p := ⟨g6, i * 2 + 1, none⟩) hg6.1 _
          have HNI := hide (netin_own HSH.out.net hbW ho3 (by rw [List.length_set]; exact HSL.out))
          have HSW := hide (HSH.out.kept hbW)
          clear ho1 k7a ho2 k7b ho3 hbW hown k7 hb2 hsh2
          go_wp2_with fail
          refine (squares_any (withS (withS n q (lo, lo + wd)) i (0, 10000)) (some ⟨g6, 0, none⟩) ta N c6 T tcap _ HNI.out).mono ?_
          rintro e W6 ⟨v, rfl, hv, hb6⟩
          obtain ⟨al6, cl6, e6, _⟩ := own_row hv
          subst e6
          rw [HIO.out]
          have hsh6 := HSW.out.kept hb6
          clear HNI HSW hv hb6 q0 q1 qf0 qf1 ql c0 c1 f0 f1 hne' hne hg2 hg6 hp7
          go_wp2_with fail
          exact ⟨⟨j + 1, by omega, by go_num, by rw [HF.out], by rw [HLS.out], hsh6⟩, by simp [intOf]; omega⟩
        · subst hf
          have d4 : ((i : Int) == (q : Int)) = true := by rw [beq_iff_eq]; omega
          have d5 : (i == q) = true := by rw [beq_iff_eq]; omega
          clear heq
          go_wp2_with fail
          have HC := hide (fun (W : World) (hb : Below wr.heap.size wr W) => (HSH.out.kept hb))
          have hbz := HSH.out.kn.lt
          obtain ⟨i0, hi0, hz0, hz1, hz2⟩ := info_asp
          have HI := hide hi0
          clear hi0
          refine wp_region_monoF wr _ 8 (cpGood W1.heap.size wr.heap.size N (.slice (some ⟨sg, 0, none⟩) N scap) (.slice ta T tcap) (withS n q (lo, lo + wd)).sp) (n := 125) (by kernel_rfl) (by decide +kernel) rfl cpGood_below ?steps ?_
          case steps =>
            refine ⟨?_, ?_, ?_, ?_, ?_, ?_, ?_, ?_, trivial⟩
            · intro ac w' h
              have e1 : ac.tmps.getD 11 undef = .pointer (some ⟨W1.heap.size, 0, none⟩) := h.old 11 rfl
              refine ⟨wanted_none rfl, ?_⟩
              simp at e1
              have HBE := hide h.be
              clear h
              go_simp
              exact ⟨Below.refl _ _, rfl⟩
            · intro ac w' h
              have e1 : ac.tmps.getD 93 undef = .pointer (some ⟨W1.heap.size, 1, none⟩) := h.val 0 93 rfl rfl
              refine ⟨wanted_none rfl, ?_⟩
              simp at e1
              have q := (HC.out w' h.be).kn.two
              have HBE := hide h.be
              clear h
              go_simp
              exact ⟨Below.refl _ _, rfl⟩
            · intro ac w' h
              refine ⟨wanted_none rfl, ?_⟩
              have HBE := hide h.be
              clear h
              go_simp
              exact ⟨(Below.refl _ _).alloc (Nat.le_refl _) _, ⟨_, rfl⟩⟩
            · intro ac w' h
              have e1 : ac.tmps.getD 11 undef = .pointer (some ⟨W1.heap.size, 0, none⟩) := h.old 11 rfl
              refine ⟨wanted_none rfl, ?_⟩
              simp at e1
              have HBE := hide h.be
              clear h
              go_simp
              exact ⟨Below.refl _ _, rfl⟩
            · intro ac w' h
              have e1 : ac.tmps.getD 96 undef = .pointer (some ⟨W1.heap.size, 0, none⟩) := h.val 3 96 rfl rfl
              refine ⟨wanted_none rfl, ?_⟩
              simp at e1
              have q := (HC.out w' h.be).kn.two
              have HBE := hide h.be
              clear h
              go_simp
              exact ⟨Below.refl _ _, rfl⟩
            · intro ac w' h
              obtain ⟨b46, e46⟩ : cpNil (ac.tmps.getD 95 undef) := h.val 2 95 rfl rfl
              have e48 : ac.tmps.getD 97 undef = .slice (some ⟨sg, 0, none⟩) N scap := h.val 4 97 rfl rfl
              refine ⟨wanted_none rfl, ?_⟩
              simp at e46 e48
              have hbs := h.be.size
              obtain ⟨v', w1, hr, ho, hg⟩ := run_append_arg_grows (P := Try.prog) w' 22 22 53 i0 (.agg #[.int .i64 0, .int .i64 0]) 2 16 under_asps HI.out hz0 hz1 hz2 rfl (by decide) ⟨b46, 0, none⟩ 0 0 [] rfl (by simp) ⟨sg, 0, none⟩ N scap (spans (withS n q (lo, lo + wd)).sp) (by rw [spans_length, HSL.out]; omega) (fun j u hj => row_reads (HC.out w' h.be).net.rs j u hj) (by omega) (by unfold maxLen; omega) (by omega)
              have hs1 : ac.eval (.tmp 95) = .slice (some ⟨b46, 0, none⟩) 0 0 := by simpa [Act.eval] using e46
              have hs2 : ac.eval (.tmp 97) = .slice (some ⟨sg, 0, none⟩) N scap := by simpa [Act.eval] using e48
              clear h e46 e48
              unfold stepUpon
              simp [execOp, resolve, invoke, builtin, hs1, hs2, hr, Result.andThen]
              refine ⟨below_of_grown hg, ?_⟩
              have ho' := Go.Joins.ownsRow_le ho hbs
              rw [Nat.zero_add, List.nil_append] at ho'
              obtain ⟨ga, gc, e, _, _⟩ := own_shape ho'
              subst e
              obtain ⟨g, c, e2, _, _⟩ := ho'.form (by omega)
              cases e2
              exact ⟨g, gc, rfl, ho'⟩
            · intro ac w' h
              have e45 : ac.tmps.getD 94 undef = .slice ta T tcap := h.val 1 94 rfl rfl
              obtain ⟨g49, c49, e49, hv49⟩ : (cpOwn wr.heap.size N (withS n q (lo, lo + wd)).sp) w' (ac.tmps.getD 98 undef) := h.val 5 98 rfl rfl
              refine ⟨wanted_none rfl, ?_⟩
              simp at e45 e49
              have Hhv49 := hide hv49
              clear hv49
              clear h
              go_simp
              exact ⟨Below.refl _ _, ⟨_, _, rfl, Hhv49.out⟩⟩
            · intro ac w' h
              refine ⟨wanted_none rfl, ?_⟩
              have hbs := h.be.size
              clear h
              go_simp
              exact ⟨(Below.refl _ _).alloc (Nat.le_refl _) _, ⟨_, rfl, hbs, Blk.new _ _ _⟩⟩
          intro vs w2 hb2 hv
          have v0 := hv 0 (by omega)
          have v1 := hv 1 (by omega)
          obtain ⟨g2, v2⟩ := hv 2 (by omega)
          have v3 := hv 3 (by omega)
          have v4 := hv 4 (by omega)
          obtain ⟨g5, c5, v5, -⟩ := hv 5 (by omega)
          obtain ⟨g6, c6, v6, hown⟩ := hv 6 (by omega)
          obtain ⟨p7, v7, hp7, k7⟩ := hv 7 (by omega)
          simp only [cpGood] at v0 v1 v3 v4
          simp only [List.take_succ_cons, List.take_zero, List.drop_succ_cons, List.drop_zero, putSeq, Act.put, List.setIfInBounds_toArray, List.set_cons_zero, List.set_cons_succ, v0, v1, v2, v3, v4, v5, v6, v7, Nat.reduceAdd]
          clear hv v0 v1 v2 v3 v4 v5 v6 v7 HI hz0 hz1 hz2 hbz
          have hsh2 := HC.out w2 hb2
          have hne : g6 ≠ p7 := ownBlk hown rfl k7 (by decide)
          have hg6 := hown.lt g6 rfl
          obtain ⟨q0, q1, qf0, qf1⟩ := k7.two
          have ql := k7.lt
          clear HC
          obtain ⟨c0, c1, f0, f1⟩ := own2_cell hown hiN
          have hne' := hne.symm
          have hg2 := hg6.2
          have ho1 := own_set (i := 0) (u := .slice (some ⟨g6, 0, none⟩) N c6) hown k7 (by decide)
          have k7a := k7.set 0 (.slice (some ⟨g6, 0, none⟩) N c6)
          have ho2 := own_set (i := 1) (u := .slice ta T tcap) ho1 k7a (by decide)
          have k7b := k7a.set 1 (.slice ta T tcap)
          have ho3 := own2_set ho2 i 0 10000
          have hbW : Below wr.heap.size wr ((((w2.setCell ⟨p7, 0, none⟩ (.slice (some ⟨g6, 0, none⟩) N c6)).setCell ⟨p7, 1, none⟩ (.slice ta T tcap)).setCell ⟨g6, i * 2, none⟩ (.int .i64 0)).setCell ⟨g6, i * 2 + 1, none⟩ (.int .i64 10000)) :=
            (((hb2.setCell (p := ⟨p7, 0, none⟩) hp7 _).setCell (p := ⟨p7, 1, none⟩) hp7 _).setCell (p := ⟨g6, i * 2, none⟩) hg6.1 _).setCell (p := ⟨g6, i * 2 + 1, none⟩) hg6.1 _
          have HNI := hide (netin_own HSH.out.net hbW ho3 (by rw [List.length_set]; exact HSL.out))
          have HSW := hide (HSH.out.kept hbW)
          clear ho1 k7a ho2 k7b ho3 hbW hown k7 hb2 hsh2
          go_wp2_with fail
          refine (squares_any (withS (withS n q (lo, lo + wd)) i (0, 10000)) (some ⟨g6, 0, none⟩) ta N c6 T tcap _ HNI.out).mono ?_
          rintro e W6 ⟨v, rfl, hv, hb6⟩
          obtain ⟨al6, cl6, e6, _⟩ := own_row hv
          subst e6
          rw [HIO.out]
          have hsh6 := HSW.out.kept hb6
          clear HNI HSW hv hb6 q0 q1 qf0 qf1 ql c0 c1 f0 f1 hne' hne hg2 hg6 hp7
          go_wp2_with fail
          exact ⟨⟨j + 1, by omega, by go_num, by rw [HF.out], by rw [HLS.out], hsh6⟩, by simp [intOf]; omega⟩
        · subst hf
          have d4 : ((i : Int) == (q : Int)) = false := by rw [beq_eq_false_iff_ne]; omega
          have d5 : (i == q) = false := by rw [beq_eq_false_iff_ne]; omega
          go_wp2_with fail
          have HC := hide (fun (W : World) (hb : Below wr.heap.size wr W) => (HSH.out.kept hb))
          have hbz := HSH.out.kn.lt
          obtain ⟨i0, hi0, hz0, hz1, hz2⟩ := info_asp
          have HI := hide hi0
          clear hi0
          refine wp_region_monoF wr _ 8 (cpGood W1.heap.size wr.heap.size N (.slice (some ⟨sg, 0, none⟩) N scap) (.slice ta T tcap) (withS n q (lo, lo + wd)).sp) (n := 125) (by kernel_rfl) (by decide +kernel) rfl cpGood_below ?steps ?_
          case steps =>
            refine ⟨?_, ?_, ?_, ?_, ?_, ?_, ?_, ?_, trivial⟩
            · intro ac w' h
              have e1 : ac.tmps.getD 11 undef = .pointer (some ⟨W1.heap.size, 0, none⟩) := h.old 11 rfl
              refine ⟨wanted_none rfl, ?_⟩
              simp at e1
              have HBE := hide h.be
              clear h
              go_simp
              exact ⟨Below.refl _ _, rfl⟩
            · intro ac w' h
              have e1 : ac.tmps.getD 93 undef = .pointer (some ⟨W1.heap.size, 1, none⟩) := h.val 0 93 rfl rfl
              refine ⟨wanted_none rfl, ?_⟩
              simp at e1
              have q := (HC.out w' h.be).kn.two
              have HBE := hide h.be
              clear h
              go_simp
              exact ⟨Below.refl _ _, rfl⟩
            · intro ac w' h
              refine ⟨wanted_none rfl, ?_⟩
              have HBE := hide h.be
              clear h
              go_simp
              exact ⟨(Below.refl _ _).alloc (Nat.le_refl _) _, ⟨_, rfl⟩⟩
            · intro ac w' h
              have e1 : ac.tmps.getD 11 undef = .pointer (some ⟨W1.heap.size, 0, none⟩) := h.old 11 rfl
              refine ⟨wanted_none rfl, ?_⟩
              simp at e1
              have HBE := hide h.be
              clear h
              go_simp
              exact ⟨Below.refl _ _, rfl⟩
            · intro ac w' h
              have e1 : ac.tmps.getD 96 undef = .pointer (some ⟨W1.heap.size, 0, none⟩) := h.val 3 96 rfl rfl
              refine ⟨wanted_none rfl, ?_⟩
              simp at e1
              have q := (HC.out w' h.be).kn.two
              have HBE := hide h.be
              clear h
              go_simp
              exact ⟨Below.refl _ _, rfl⟩
            · intro ac w' h
              obtain ⟨b46, e46⟩ : cpNil (ac.tmps.getD 95 undef) := h.val 2 95 rfl rfl
              have e48 : ac.tmps.getD 97 undef = .slice (some ⟨sg, 0, none⟩) N scap := h.val 4 97 rfl rfl
              refine ⟨wanted_none rfl, ?_⟩
              simp at e46 e48
              have hbs := h.be.size
              obtain ⟨v', w1, hr, ho, hg⟩ := run_append_arg_grows (P := Try.prog) w' 22 22 53 i0 (.agg #[.int .i64 0, .int .i64 0]) 2 16 under_asps HI.out hz0 hz1 hz2 rfl (by decide) ⟨b46, 0, none⟩ 0 0 [] rfl (by simp) ⟨sg, 0, none⟩ N scap (spans (withS n q (lo, lo + wd)).sp) (by rw [spans_length, HSL.out]; omega) (fun j u hj => row_reads (HC.out w' h.be).net.rs j u hj) (by omega) (by unfold maxLen; omega) (by omega)
              have hs1 : ac.eval (.tmp 95) = .slice (some ⟨b46, 0, none⟩) 0 0 := by simpa [Act.eval] using e46
              have hs2 : ac.eval (.tmp 97) = .slice (some ⟨sg, 0, none⟩) N scap := by simpa [Act.eval] using e48
              clear h e46 e48
              unfold stepUpon
              simp [execOp, resolve, invoke, builtin, hs1, hs2, hr, Result.andThen]
              refine ⟨below_of_grown hg, ?_⟩
              have ho' := Go.Joins.ownsRow_le ho hbs
              rw [Nat.zero_add, List.nil_append] at ho'
              obtain ⟨ga, gc, e, _, _⟩ := own_shape ho'
              subst e
              obtain ⟨g, c, e2, _, _⟩ := ho'.form (by omega)
              cases e2
              exact ⟨g, gc, rfl, ho'⟩
            · intro ac w' h
              have e45 : ac.tmps.getD 94 undef = .slice ta T tcap := h.val 1 94 rfl rfl
              obtain ⟨g49, c49, e49, hv49⟩ : (cpOwn wr.heap.size N (withS n q (lo, lo + wd)).sp) w' (ac.tmps.getD 98 undef) := h.val 5 98 rfl rfl
              refine ⟨wanted_none rfl, ?_⟩
              simp at e45 e49
              have Hhv49 := hide hv49
              clear hv49
              clear h
              go_simp
              exact ⟨Below.refl _ _, ⟨_, _, rfl, Hhv49.out⟩⟩
            · intro ac w' h
              refine ⟨wanted_none rfl, ?_⟩
              have hbs := h.be.size
              clear h
              go_simp
              exact ⟨(Below.refl _ _).alloc (Nat.le_refl _) _, ⟨_, rfl, hbs, Blk.new _ _ _⟩⟩
          intro vs w2 hb2 hv
          have v0 := hv 0 (by omega)
          have v1 := hv 1 (by omega)
          obtain ⟨g2, v2⟩ := hv 2 (by omega)
          have v3 := hv 3 (by omega)
          have v4 := hv 4 (by omega)
          obtain ⟨g5, c5, v5, -⟩ := hv 5 (by omega)
          obtain ⟨g6, c6, v6, hown⟩ := hv 6 (by omega)
          obtain ⟨p7, v7, hp7, k7⟩ := hv 7 (by omega)
          simp only [cpGood] at v0 v1 v3 v4
          simp only [List.take_succ_cons, List.take_zero, List.drop_succ_cons, List.drop_zero, putSeq, Act.put, List.setIfInBounds_toArray, List.set_cons_zero, List.set_cons_succ, v0, v1, v2, v3, v4, v5, v6, v7, Nat.reduceAdd]
          clear hv v0 v1 v2 v3 v4 v5 v6 v7 HI hz0 hz1 hz2 hbz
          have hsh2 := HC.out w2 hb2
          have hne : g6 ≠ p7 := ownBlk hown rfl k7 (by decide)
          have hg6 := hown.lt g6 rfl
          obtain ⟨q0, q1, qf0, qf1⟩ := k7.two
          have ql := k7.lt
          clear HC
          obtain ⟨c0, c1, f0, f1⟩ := own2_cell hown hiN
          have hne' := hne.symm
          have hg2 := hg6.2
          have ho1 := own_set (i := 0) (u := .slice (some ⟨g6, 0, none⟩) N c6) hown k7 (by decide)
          have k7a := k7.set 0 (.slice (some ⟨g6, 0, none⟩) N c6)
          have ho2 := own_set (i := 1) (u := .slice ta T tcap) ho1 k7a (by decide)
          have k7b := k7a.set 1 (.slice ta T tcap)
          have ho3 := own2_set ho2 i 0 10000
          have hbW : Below wr.heap.size wr ((((w2.setCell ⟨p7, 0, none⟩ (.slice (some ⟨g6, 0, none⟩) N c6)).setCell ⟨p7, 1, none⟩ (.slice ta T tcap)).setCell ⟨g6, i * 2, none⟩ (.int .i64 0)).setCell ⟨g6, i * 2 + 1, none⟩ (.int .i64 10000)) :=
            (((hb2.setCell (p := ⟨p7, 0, none⟩) hp7 _).setCell (p := ⟨p7, 1, none⟩) hp7 _).setCell (p := ⟨g6, i * 2, none⟩) hg6.1 _).setCell (p := ⟨g6, i * 2 + 1, none⟩) hg6.1 _
          have HNI := hide (netin_own HSH.out.net hbW ho3 (by rw [List.length_set]; exact HSL.out))
          have HSW := hide (HSH.out.kept hbW)
          clear ho1 k7a ho2 k7b ho3 hbW hown k7 hb2 hsh2
          go_wp2_with fail
          refine (squares_any (withS (withS n q (lo, lo + wd)) i (0, 10000)) (some ⟨g6, 0, none⟩) ta N c6 T tcap _ HNI.out).mono ?_
          rintro e W6 ⟨v, rfl, hv, hb6⟩
          obtain ⟨al6, cl6, e6, _⟩ := own_row hv
          subst e6
          rw [HIO.out]
          have hsh6 := HSW.out.kept hb6
          clear HNI HSW hv hb6 q0 q1 qf0 qf1 ql c0 c1 f0 f1 hne' hne hg2 hg6 hp7
          go_wp2_with fail
          exact ⟨⟨j + 1, by omega, by go_num, by rw [HF.out], by rw [HLS.out], hsh6⟩, by simp [intOf]; omega⟩
      · have hjn : j = S.length := by omega
        have hft : decide (q ∈ S.take j) = true := by rw [hjn, List.take_length]; exact decide_eq_true HSS.out.2.1
        rw [hft] at hf
        subst hf
        have hB := hsh.be
        clear hsh hft hjn
        go_wp2_with fail
        refine (works_any _).mono ?_
        rintro e W9 ⟨rfl, hb9⟩
        go_wp2_with fail
        go_ret
        exact ⟨rfl, hB.trans (hb9.mono hB.size)⟩

end Go.Proofs.Ytlbhnicengolfaa
