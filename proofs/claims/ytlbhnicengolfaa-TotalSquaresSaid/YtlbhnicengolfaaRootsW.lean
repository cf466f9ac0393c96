/-
  Package agonicref03: Check. TotalRoots: the walk.
-/
import Derived.Test.YtlbhnicengolfaaGiven
import Derived.Test.YtlbhnicengolfaaSusF
/-! ## RChk: Package agonicref03: Check. -/
namespace Go.Proofs.Ytlbhnicengolfaa
open Go.RowKit
set_option linter.unusedVariables false
set_option linter.unusedSimpArgs false

section
variable {W : World} {B g m cap : Nat} {e : TypeId} {xs : List Int}
theorem own1_blk (h : W.ownsRow B e 1 (.slice (some ⟨g, 0, none⟩) m cap) m (ints xs)) : ∃ cur, Blk W g cur e ∧ B ≤ g ∧ m ≤ cap ∧ cap ≤ maxLen ∧ cur.size = cap * 1 ∧ cur.toList.take (m * 1) = ints xs := by
  rcases h.2 with ⟨hv, _⟩ | ⟨g', cp, cur, hv, hb, hc, hle, hm, hs, ht⟩
  · cases hv
  · cases hv
    exact ⟨cur, hc, hb, hle, hm, hs, ht⟩
theorem own1_len (h : W.ownsRow B e 1 (.slice (some ⟨g, 0, none⟩) m cap) m (ints xs)) : m = xs.length := by
  have := h.1
  rw [ints_length] at this
  omega
theorem own1_cell (h : W.ownsRow B e 1 (.slice (some ⟨g, 0, none⟩) m cap) m (ints xs)) {q : Nat} (hq : q < m) : W.cell? ⟨g, q, none⟩ = some (.int .i64 (xs.getD q 0)) ∧ W.frozen? ⟨g, q, none⟩ = false := by
  have hl := own1_len h
  obtain ⟨cur, hk, _⟩ := own1_blk h
  have c1 := h.cellAt q (by omega)
  refine ⟨?_, hk.frozen _⟩
  rw [c1]
  simp [ints, List.getD, show q < xs.length by omega]
theorem own1_set (h : W.ownsRow B e 1 (.slice (some ⟨g, 0, none⟩) m cap) m (ints xs)) (q : Nat) (x : Int) : (W.setCell ⟨g, q, none⟩ (.int .i64 x)).ownsRow B e 1 (.slice (some ⟨g, 0, none⟩) m cap) m (ints (xs.set q x)) := by
  have hl := own1_len h
  obtain ⟨cur, hk, hb, hle, hm, hs, ht⟩ := own1_blk h
  refine ⟨by rw [ints_length, List.length_set]; omega, .inr ⟨g, cap, _, rfl, hb, hk.set q (.int .i64 x), hle, hm, by simpa using hs, ?_⟩⟩
  rw [Array.toList_setIfInBounds, List.take_set, ht]
  simp [ints, List.map_set]
end

/-- While the reference's Check runs. -/
structure RcIn (w : World) (n : TNet) (sa ta : Option Addr) (sn sc tn tc : Nat) (wr : World) : Prop where
  net : NetIn n sa ta sn tn tc wr
  kn : Blk wr w.heap.size #[.slice sa sn sc, .slice ta tn tc] 35
  be : Below w.heap.size w wr
theorem RcIn.kept {w : World} {n : TNet} {sa ta : Option Addr} {sn sc tn tc : Nat} {wr W : World} (h : RcIn w n sa ta sn sc tn tc wr) (hb : Below wr.heap.size wr W) : RcIn w n sa ta sn sc tn tc W :=
  ⟨h.net.below hb, h.kn.kept hb, h.be.trans (hb.mono h.be.size)⟩
theorem row_grown {W W' : World} {a : Option Addr} {vs : List Value} {r : Option Nat} {b0 : Nat} (h : Row W b0 a vs) (hb0 : b0 ≤ W.heap.size) (g : W.grownBy W' r) (hr : ∀ j, r = some j → b0 ≤ j) : Row W' b0 a vs := h.grownBy g hb0 hr
theorem RcIn.grown {w : World} {n : TNet} {sa ta : Option Addr} {sn sc tn tc : Nat} {wr W : World} {w1 : World} (h1 : NetIn n sa ta sn tn tc w1) (hw : w1 = w) (h : RcIn w n sa ta sn sc tn tc wr) {r : Option Nat} (g : wr.grownBy W r) (hr : ∀ j, r = some j → w.heap.size + 1 ≤ j) : RcIn w n sa ta sn sc tn tc W := by
  subst hw
  have hlt := h.kn.lt
  have hbe : Below w1.heap.size w1 W := ⟨g.os.trans h.be.os, g.tape.trans h.be.tape, g.output.trans h.be.output, Nat.le_trans h.be.size g.size, fun k hk => (g.block k (by have := h.be.size; omega) (fun e => by have := hr k e.symm; omega)).trans (h.be.block k hk)⟩
  exact ⟨h1.below hbe, blk_grown h.kn g fun j e => by have := hr j e; omega, hbe⟩

theorem rpartK_zero (part : List Int) (a b c : Int) : rPartK part a b c 0 = part := by simp [rPartK]
theorem rpartK_all {part : List Int} {a b c : Int} {k : Nat} (h : part.length ≤ k) : rPartK part a b c k = rPart part a b c := by
  unfold rPartK rPart
  rw [List.take_of_length_le h, List.drop_of_length_le h, List.append_nil]
theorem rpartK_len (part : List Int) (a b c : Int) {k : Nat} (h : k ≤ part.length) : (rPartK part a b c k).length = part.length := by simp [rPartK]; omega
theorem rpartK_at {part : List Int} {a b c : Int} {k : Nat} (h : k < part.length) : (rPartK part a b c k).getD k 0 = part.getD k 0 := by
  unfold rPartK
  rw [List.getD_eq_getElem?_getD, List.getElem?_append_right (by simp; omega), List.getD_eq_getElem?_getD]
  simp [Nat.min_eq_left (Nat.le_of_lt h)]
theorem rpartK_step {part : List Int} {a b c : Int} {k : Nat} (h : k < part.length) : (rPartK part a b c k).set k (if inP a b c (part.getD k 0) then min3 a b c else part.getD k 0) = rPartK part a b c (k + 1) := by
  have e2 : ∀ v : Int, (part.drop k).set 0 v = v :: part.drop (k + 1) := fun v => by rw [List.drop_eq_getElem_cons h]; rfl
  unfold rPartK
  rw [List.set_append_right _ _ (by simp; omega), List.take_succ_eq_append_getElem h, List.map_append, List.append_assoc]
  have e : part.getD k 0 = part[k] := by rw [List.getD_eq_getElem?_getD, List.getElem?_eq_getElem h]; rfl
  rw [e]
  simp [Nat.min_eq_left (Nat.le_of_lt h), e2]
theorem rpartK_same {part : List Int} {a b c : Int} {k : Nat} (h : k < part.length) (hn : ¬ inP a b c (part.getD k 0)) : rPartK part a b c (k + 1) = rPartK part a b c k := by
  rw [← rpartK_step h, if_neg hn, ← rpartK_at (a := a) (b := b) (c := c) h]
  have hk : k < (rPartK part a b c k).length := by rw [rpartK_len _ _ _ _ (Nat.le_of_lt h)]; exact h
  rw [List.getD_eq_getElem?_getD, List.getElem?_eq_getElem hk]
  exact List.set_getElem_self hk

theorem minI3 (ats : Array TypeId) (ty : TypeId) (k k' k'' : IntKind) (x y z : Int) : Builtin.min_ ats ty #[.int k x, .int k' y, .int k'' z] = pure (.int k (min3 x y z)) := by
  have e : Builtin.min_ ats ty #[.int k x, .int k' y, .int k'' z] = (Builtin.min2 (.int k x) (.int k' y) >>= fun s => Builtin.min2 s (.int k'' z) >>= fun s => pure s) := by simp only [Builtin.min_, List.foldlM_cons, List.foldlM_nil]
  have e2 : ∀ (k k' : IntKind) (x y : Int), Builtin.min2 (.int k x) (.int k' y) = pure (.int k (min x y)) := fun k k' x y => by
    simp only [Builtin.min2]
    by_cases h : y < x
    · rw [if_pos h, Int.min_eq_right (by omega)]
    · rw [if_neg h, Int.min_eq_left (by omega)]
  rw [e, e2]
  show (Builtin.min2 (.int k (min x y)) (.int k'' z) >>= fun s => pure s) = _
  rw [e2]
  rfl

attribute [local go_sem high] minI3 in
set_option maxRecDepth 100000 in
set_option maxHeartbeats 8000000 in
theorem refCheck_any (n : TNet) (sa ta : Option Addr) (sn sc tn tc : Nat) (w : World) (h : NetIn n sa ta sn tn tc w) :
    Calls Try.prog 20 #[netV sa ta sn sc tn tc] w fun e w' => e = .returned (.int .i64 (rCheck n)) ∧ Below w.heap.size w w' := by
  have H := hide h
  obtain ⟨R, hR⟩ : ∃ R, R = rCheck n := ⟨_, rfl⟩
  rw [← hR]
  have HR := hide hR
  have hsn := h.hl
  have htn := h.hl2
  have hk := Blk.new w #[.slice sa sn sc, .slice ta tn tc] 35
  have hb1 : Below w.heap.size w (w.alloc (.cells #[.slice sa sn sc, .slice ta tn tc] 35)) := (Below.refl _ _).alloc (Nat.le_refl _) _
  obtain ⟨it, hit, hz0, hz1, hz2⟩ := info_int
  have HIT := hide hit
  clear hR h hit
  go_enter Try.func20, Try.ntmps20
  by_cases h0 : sn = 0
  · have HE : Hid (R = 2) := hide (by rw [HR.out]; unfold rCheck; rw [if_pos (by rw [← H.out.hsn]; exact h0)])
    have d0 : ((sn : Int) == 0) = true := by simpa using h0
    clear h0
    go_wp2_with fail
    go_ret
    exact ⟨by rw [HE.out]; rfl, hb1⟩
  have d0 : ((sn : Int) == 0) = false := by rw [beq_eq_false_iff_ne]; omega
  by_cases h1 : 11 < sn
  · have HE : Hid (R = 3) := hide (by rw [HR.out]; unfold rCheck; rw [if_neg (by rw [← H.out.hsn]; exact h0), if_pos (.inl (by rw [← H.out.hsn]; exact h1))])
    have d1 : decide ((11 : Int) < (sn : Int)) = true := decide_eq_true (by omega)
    have d1' : decide (11 < sn) = true := decide_eq_true h1
    clear h0
    go_wp2_with fail
    go_ret
    exact ⟨by rw [HE.out]; rfl, hb1⟩
  have d1 : decide ((11 : Int) < (sn : Int)) = false := decide_eq_false (by omega)
  have d1' : decide (11 < sn) = false := decide_eq_false h1
  by_cases h2 : 5 < tn
  · have HE : Hid (R = 3) := hide (by rw [HR.out]; unfold rCheck; rw [if_neg (by rw [← H.out.hsn]; exact h0), if_pos (.inr (by rw [← H.out.htn]; exact h2))])
    have d2 : decide ((5 : Int) < (tn : Int)) = true := decide_eq_true (by omega)
    have d2' : decide (5 < tn) = true := decide_eq_true h2
    clear h0 h1
    go_wp2_with fail
    go_ret
    exact ⟨by rw [HE.out]; rfl, hb1⟩
  have d2 : decide ((5 : Int) < (tn : Int)) = false := decide_eq_false (by omega)
  have d2' : decide (5 < tn) = false := decide_eq_false h2
  have HRR : Hid (R = if n.sp.any badS then 1 else rChkL sn (part0 sn) n.ts) := hide (by rw [HR.out]; unfold rCheck; rw [if_neg (by rw [← H.out.hsn]; exact h0), if_neg (by rw [← H.out.hsn, ← H.out.htn]; omega), ← H.out.hsn])
  have hs1 : 1 ≤ sn := by omega
  have hs11 : sn ≤ 11 := by omega
  have ht5 : tn ≤ 5 := by omega
  clear h0
  go_wp2_with fail
  generalize hW : World.alloc w _ = V
  have hrc : RcIn w n sa ta sn sc tn tc V := by rw [← hW]; exact ⟨H.out.below hb1, hk, hb1⟩
  clear hW hb1 hk d0 d1 d1' d2 d2' h1 h2
  go_loopw [3] (fun i wr => ∃ k : Nat, k ≤ sn ∧ i = .int .i64 (k : Int) ∧ Hid ((n.sp.take k).any badS = false) ∧ RcIn w n sa ta sn sc tn tc wr) (fun i _ => sn - (intOf i).toNat)
  case atStart => exact ⟨0, Nat.zero_le _, rfl, hide (by simp), hrc⟩
  case round =>
    clear hrc
    obtain ⟨k, hk, rfl, HG, hrc⟩ := hrel
    have hbn := hrc.kn.lt
    obtain ⟨n0, n1, _⟩ := hrc.kn.two
    by_cases hlt : k < sn
    · obtain ⟨sb, soff, hsa, hsb, hsc⟩ := hrc.net.rs.span (by rw [← H.out.hsn]; omega)
      obtain ⟨s0, s1⟩ := hsc k (by rw [← H.out.hsn]; exact hlt)
      have HTK : Hid (n.sp.take (k + 1) = n.sp.take k ++ [(los n.sp k, his n.sp k)]) := hide (by rw [List.take_succ_eq_append_getElem (by rw [← H.out.hsn]; exact hlt), span_eq])
      have HBD : Hid (badS (los n.sp k, his n.sp k) = true → R = 1) := hide (fun hb => by
        rw [HRR.out, if_pos]
        rw [List.any_eq_true]
        exact ⟨_, List.getElem_mem (show k < n.sp.length by rw [← H.out.hsn]; exact hlt), by rw [span_eq]; exact hb⟩)
      have HRC := hide hrc
      clear hsc hrc
      subst hsa
      generalize los n.sp k = lo at *
      generalize his n.sp k = hi at *
      have HIS := hide (fun X : Ext wr => Ext.call_same (is_any lo 0 hi X.w))
      have ik : (k : Int) < sn := by omega
      have hX := @Ext.cell wr
      by_cases c1 : 0 ≤ lo ∧ lo ≤ hi
      · rw [show (decide (0 ≤ lo) && decide (lo ≤ hi)) = true by simp [c1]] at HIS
        by_cases c2 : 10000 < hi
        · have d : decide (10000 < hi) = true := decide_eq_true c2
          have HE : Hid (R = 1) := hide (HBD.out (by simp [badS]; omega))
          clear c1 c2
          go_wp2_with fail
          refine wp_region_all (Ext.w (W := wr)) (by kernel_rfl) (by kernel_rfl) (Ext.start wr) ?_
          repeat (first | go_big_quiet_skip | quiet_step (first | (go_at_call 46; with_reducible exact HIS.out _)))
          refine wpQuiet_nil ?_
          intro X
          have hrc := HRC.out.kept X.below
          go_wp2_with fail
          go_ret
          exact ⟨by rw [HE.out]; rfl, hrc.be⟩
        · have d : decide (10000 < hi) = false := decide_eq_false c2
          have HG2 : Hid ((n.sp.take (k + 1)).any badS = false) := hide (by rw [HTK.out, List.any_append, HG.out]; simp [badS]; omega)
          clear c1 c2
          go_wp2_with fail
          refine wp_region_all (Ext.w (W := wr)) (by kernel_rfl) (by kernel_rfl) (Ext.start wr) ?_
          repeat (first | go_big_quiet_skip | quiet_step (first | (go_at_call 46; with_reducible exact HIS.out _)))
          refine wpQuiet_nil ?_
          intro X
          have hrc := HRC.out.kept X.below
          go_wp2_with fail
          exact ⟨⟨k + 1, by omega, by go_num, HG2, hrc⟩, by simp [intOf]; omega⟩
      · rw [show (decide (0 ≤ lo) && decide (lo ≤ hi)) = false by
          rw [Bool.and_eq_false_iff]
          by_cases c0 : 0 ≤ lo
          · exact .inr (decide_eq_false (by omega))
          · exact .inl (decide_eq_false c0)] at HIS
        have HE : Hid (R = 1) := hide (HBD.out (by simp [badS]; omega))
        clear c1
        go_wp2_with fail
        refine wp_region_all (Ext.w (W := wr)) (by kernel_rfl) (by kernel_rfl) (Ext.start wr) ?_
        repeat (first | go_big_quiet_skip | quiet_step (first | (go_at_call 46; with_reducible exact HIS.out _)))
        refine wpQuiet_nil ?_
        intro X
        have hrc := HRC.out.kept X.below
        go_wp2_with fail
        go_ret
        exact ⟨by rw [HE.out]; rfl, hrc.be⟩
    · have hkn : k = sn := by omega
      have HE : Hid (R = rChkL sn (part0 sn) n.ts) := hide (by
        have := HG.out
        rw [List.take_of_length_le (by rw [hkn, H.out.hsn]; exact Nat.le_refl _)] at this
        rw [HRR.out, this]; rfl)
      clear hkn
      go_wp2_with fail
      clear n0 n1 hbn
      go_loopw [4, 5] (fun v i wr => ∃ k : Nat, k ≤ sn ∧ i = .int .i64 (k : Int) ∧ wr.ownsRow (w.heap.size + 1) 3 1 v k (ints ((part0 sn).take k)) ∧ RcIn w n sa ta sn sc tn tc wr) (fun _ i _ => sn - (intOf i).toNat)
      case atStart => exact ⟨0, Nat.zero_le _, rfl, World.ownsRow_nil _ _ _ _, hrc⟩
      case round =>
        clear hrc
        obtain ⟨k, hk, rfl, hown, hrc⟩ := hrel
        obtain ⟨n0, n1, _⟩ := hrc.kn.two
        have hbn := hrc.kn.lt
        by_cases hlt : k < sn
        · have HTK : Hid ((part0 sn).take (k + 1) = (part0 sn).take k ++ [(k : Int)]) := hide (by
            rw [List.take_succ_eq_append_getElem (by simpa [part0] using hlt)]
            simp [part0])
          have HO := hide hown
          have HRC := hide hrc
          clear hown hrc
          go_wp2_with (
            at_builtin
            refine wpList_append_lies _ rfl (.tmp 64) (.tmp 66) 38 rfl (w.heap.size + 1) 3 it (.int .i64 0) 1 8 under_ints HIT.out hz0 hz1 hz2 rfl (by decide) _ k (ints ((part0 sn).take k)) rfl (HO.out.alloc _) ⟨wr.heap.size, 0, none⟩ 1 1 [.int .i64 (k : Int)] rfl rfl
              (World.news_of_block (cs := #[.int .i64 (k : Int)]) (t := 3) (fr := (0, 0)) (Blk.newAt rfl _ _)) (by intro u hu; simp at hu; subst hu; rfl) (by decide) (by unfold maxLen; omega) (by omega) (by simp; omega) _ rfl ?_
            intro g2 cap2 W4 ow4 gr4 at4 lt4)
          have HRN := hide (RcIn.grown H.out rfl (HRC.out.kept ((Below.refl _ _).alloc (Nat.le_refl _) _)) gr4 (fun j e => ((HO.out.alloc (.cells #[.int .i64 (k : Int)] 3)).lt j e).1))
          clear gr4 at4 lt4 n0 n1 hbn
          go_roundw
          case rel => exact ⟨k + 1, by omega, by go_num, by rw [HTK.out]; simpa [ints] using ow4, HRN.out⟩
          case measure => simp [intOf]; omega
        · have hkn : k = sn := by omega
          have hp : (part0 sn).take k = part0 sn := List.take_of_length_le (by simp [part0, hkn])
          rw [hp, hkn] at hown
          obtain ⟨g, cap, hv, _, _⟩ := hown.form (by omega)
          subst hv
          have HPI : Hid (PInv sn (n.ts.take 0) (part0 sn)) := hide (pinv_start sn)
          have HO := hide hown
          have HRC := hide hrc
          clear hkn hp hown hrc
          go_wp2_with fail
          clear n0 n1 hbn
          go_loopw [6] (fun i wr => ∃ k : Nat, k ≤ tn ∧ i = .int .i64 (k : Int) ∧ ∃ part : List Int, Hid (R = rChkL sn part (n.ts.drop k)) ∧ Hid (part.length = sn) ∧ wr.ownsRow (w.heap.size + 1) 3 1 (.slice (some ⟨g, 0, none⟩) sn cap) sn (ints part) ∧ RcIn w n sa ta sn sc tn tc wr) (fun i _ => tn - (intOf i).toNat)
          case atStart => exact ⟨0, Nat.zero_le _, rfl, part0 sn, hide (by rw [List.drop_zero]; exact HE.out), hide (by simp [part0]), HO.out, HRC.out⟩
          case round =>
            clear HRC HO HPI HE HG
            obtain ⟨k, hk, rfl, part, HK, HPL, hown, hrc⟩ := hrel
            obtain ⟨n0, n1, _⟩ := hrc.kn.two
            have hbn := hrc.kn.lt
            by_cases hlt : k < tn
            · have hkl : k < n.ts.length := by rw [← H.out.htn]; exact hlt
              obtain ⟨tb, toff, hta, htb, hcell⟩ := hrc.net.rt.tri (by omega)
              obtain ⟨t0, t1, t2⟩ := hcell k hkl
              have HK : Hid (R = if rChk1 sn part (tri n.ts k) ≠ 0 then rChk1 sn part (tri n.ts k) else rChkL sn (rNext part (tri n.ts k)) (n.ts.drop (k + 1))) := hide (by rw [HK.out, List.drop_eq_getElem_cons hkl, tri_eq hkl]; rfl)
              have HO := hide hown
              have HRC := hide hrc
              have htcs := H.out.htc
              have htc2 := H.out.htc2
              clear hcell hkl hown hrc
              subst hta
              generalize tri n.ts k = t at *
              obtain ⟨a, b, c⟩ := t
              dsimp only at t0 t1 t2
              go_wp2_with fail
              refine (rcorners_any a b c _).mono ?_
              rintro e W3 ⟨gc, rfl, hbc, hgc, hb3⟩
              have hrc3 := HRC.out.kept hb3
              have hown3 := own_kept HO.out hb3
              have hgne : gc ≠ g := by have := (HO.out.lt g rfl).2; omega
              clear n0 n1 hbn HRC HO hb3 t0 t1 t2 hgc
              go_wp2_with fail
              go_loopw [8] (fun j wr => ∃ q : Nat, q ≤ 3 ∧ j = .int .i64 (q : Int) ∧ Hid (∀ i, i < q → inR sn (cAt (a, b, c) i) = true) ∧ Blk wr gc #[.int .i64 a, .int .i64 b, .int .i64 c] 3 ∧ wr.ownsRow (w.heap.size + 1) 3 1 (.slice (some ⟨g, 0, none⟩) sn cap) sn (ints part) ∧ RcIn w n sa (some ⟨tb, toff, none⟩) sn sc tn tc wr) (fun j _ => 3 - (intOf j).toNat)
              case atStart => exact ⟨0, by omega, rfl, hide (fun i hi => by omega), hbc, hown3, hrc3⟩
              case round =>
                clear hbc hown3 hrc3
                obtain ⟨q, hq, rfl, HQ, hbc, hown, hrc⟩ := hrel
                obtain ⟨n0, n1, _⟩ := hrc.kn.two
                have hbn := hrc.kn.lt
                by_cases hlq : q < 3
                · have cj : wr.cell? ⟨gc, q, none⟩ = some (.int .i64 (cAt (a, b, c) q)) := by
                    rw [hbc.cell]
                    rcases q with _ | _ | _ | q <;> first | rfl | omega
                  have HM : Hid (cAt (a, b, c) q ∈ cor (a, b, c)) := hide (by
                    rcases q with _ | _ | _ | q
                    · simp [cAt, cor]
                    · simp [cAt, cor]
                    · simp [cAt, cor]
                    · omega)
                  have HO := hide hown
                  have HRC := hide hrc
                  have HBC := hide hbc
                  have hgl := hbc.lt
                  clear hown hrc hbc
                  generalize hco : cAt (a, b, c) q = o at *
                  have HCO := hide hco
                  have iq : (q : Int) < 3 := by omega
                  have w0 : IntKind.i64.wrap ((sn : Int) - 1) = (sn : Int) - 1 := IntWalk.i64_in _ (by omega)
                  have HIS := hide (fun X : Ext wr => Ext.call_same (is_any o 0 ((sn : Int) - 1) X.w))
                  have hX := @Ext.cell wr
                  clear hco
                  by_cases hr : 0 ≤ o ∧ o < (sn : Int)
                  · have HQ2 : Hid (∀ i, i < q + 1 → inR sn (cAt (a, b, c) i) = true) := hide (fun i hi => by
                      rcases Nat.lt_succ_iff_lt_or_eq.1 hi with h | rfl
                      · exact HQ.out i h
                      · rw [HCO.out]; simpa [inR] using hr)
                    rw [show (decide (0 ≤ o) && decide (o ≤ (sn : Int) - 1)) = true by
                      rw [decide_eq_true hr.1, decide_eq_true (show o ≤ (sn : Int) - 1 by omega)]; rfl] at HIS
                    clear hr
                    go_wp2_with fail
                    refine wp_region_all (Ext.w (W := wr)) (by kernel_rfl) (by kernel_rfl) (Ext.start wr) ?_
                    repeat (first | go_big_quiet_skip | quiet_step (first | (go_at_call 46; with_reducible exact HIS.out _)))
                    refine wpQuiet_nil ?_
                    intro X
                    have hrc := HRC.out.kept X.below
                    have hown := own_kept HO.out X.below
                    have hbc := HBC.out.kept X.below
                    go_wp2_with fail
                    exact ⟨⟨q + 1, by omega, by go_num, HQ2, hbc, hown, hrc⟩, by simp [intOf]; omega⟩
                  · have HE : Hid (R = 6) := hide (by
                      have h6 : rChk1 sn part (a, b, c) = 6 := by
                        unfold rChk1
                        rw [if_pos]
                        rw [List.any_eq_true]
                        exact ⟨o, HM.out, by simp [inR]; omega⟩
                      rw [HK.out, if_pos (by rw [h6]; decide)]; exact h6)
                    rw [show (decide (0 ≤ o) && decide (o ≤ (sn : Int) - 1)) = false by
                      rw [Bool.and_eq_false_iff]
                      by_cases c0 : 0 ≤ o
                      · exact .inr (decide_eq_false (by omega))
                      · exact .inl (decide_eq_false c0)] at HIS
                    clear hr
                    go_wp2_with fail
                    refine wp_region_all (Ext.w (W := wr)) (by kernel_rfl) (by kernel_rfl) (Ext.start wr) ?_
                    repeat (first | go_big_quiet_skip | quiet_step (first | (go_at_call 46; with_reducible exact HIS.out _)))
                    refine wpQuiet_nil ?_
                    intro X
                    have hrc := HRC.out.kept X.below
                    go_wp2_with fail
                    go_ret
                    exact ⟨by rw [HE.out]; rfl, hrc.be⟩
                · have HA : Hid ((0 ≤ a ∧ a < (sn : Int)) ∧ (0 ≤ b ∧ b < (sn : Int)) ∧ (0 ≤ c ∧ c < (sn : Int))) := hide (by
                    have h0 := HQ.out 0 (by omega)
                    have h1 := HQ.out 1 (by omega)
                    have h2 := HQ.out 2 (by omega)
                    simpa [inR, cAt, cor] using And.intro h0 (And.intro h1 h2))
                  have HNI : Hid (¬ (cor (a, b, c)).any (fun q => !inR sn q) = true) := hide (by
                    have h := HA.out
                    simp only [cor, inR, List.any_cons, List.any_nil, Bool.or_false, Bool.or_eq_true, Bool.not_eq_true', decide_eq_false_iff_not, not_or, Classical.not_not]
                    exact ⟨h.1, h.2.1, h.2.2⟩)
                  obtain ⟨g0, g1, g2, _⟩ := hbc.three
                  have hgl := hbc.lt
                  have hrc4 := hrc
                  have HO := hide hown
                  have HBC := hide hbc
                  clear hown hrc hbc
                  by_cases hab : a = b
                  · have HE : Hid (R = 7) := hide (by
                      have h7 : rChk1 sn part (a, b, c) = 7 := by unfold rChk1; rw [if_neg HNI.out, if_pos (.inl hab)]
                      rw [HK.out, if_pos (by rw [h7]; decide)]; exact h7)
                    have e1 : (a == b) = true := beq_iff_eq.2 hab
                    clear hab
                    go_wp2_with fail
                    go_quiet (fail)
                    go_wp2_with fail
                    go_ret
                    exact ⟨by rw [HE.out]; rfl, (hrc4.kept (below_drewN (Below.refl _ _) nq)).be⟩
                  have e1 : (a == b) = false := beq_eq_false_iff_ne.2 hab
                  by_cases hac : a = c
                  · have HE : Hid (R = 7) := hide (by
                      have h7 : rChk1 sn part (a, b, c) = 7 := by unfold rChk1; rw [if_neg HNI.out, if_pos (.inr (.inl hac))]
                      rw [HK.out, if_pos (by rw [h7]; decide)]; exact h7)
                    have e2 : (a == c) = true := beq_iff_eq.2 hac
                    clear hac hab
                    go_wp2_with fail
                    go_quiet (fail)
                    go_wp2_with fail
                    go_ret
                    exact ⟨by rw [HE.out]; rfl, (hrc4.kept (below_drewN (Below.refl _ _) nq)).be⟩
                  have e2 : (a == c) = false := beq_eq_false_iff_ne.2 hac
                  by_cases hbc' : b = c
                  · have HE : Hid (R = 7) := hide (by
                      have h7 : rChk1 sn part (a, b, c) = 7 := by unfold rChk1; rw [if_neg HNI.out, if_pos (.inr (.inr hbc'))]
                      rw [HK.out, if_pos (by rw [h7]; decide)]; exact h7)
                    have e3 : (b == c) = true := beq_iff_eq.2 hbc'
                    clear hac hab hbc'
                    go_wp2_with fail
                    go_quiet (fail)
                    go_wp2_with fail
                    go_ret
                    exact ⟨by rw [HE.out]; rfl, (hrc4.kept (below_drewN (Below.refl _ _) nq)).be⟩
                  have e3 : (b == c) = false := beq_eq_false_iff_ne.2 hbc'
                  have HND : Hid (¬ (a = b ∨ a = c ∨ b = c)) := hide (by simp [hab, hac, hbc'])
                  clear hab hac hbc'
                  go_wp2_with fail
                  go_quiet (fail)
                  have hrc5 := hrc4.kept (below_drewN (Below.refl _ _) nq)
                  have hown5 := own_kept HO.out (below_drewN (Below.refl wr.heap.size wr) nq)
                  have hbc5 := HBC.out.kept (below_drewN (Below.refl wr.heap.size wr) nq)
                  go_wp2_with fail
                  clear g0 g1 g2 hgl hrc4 HO HBC n0 n1 hbn
                  generalize wr.drewN nq = V5 at *
                  obtain ⟨⟨a0, a1⟩, ⟨b0, b1⟩, ⟨d0, d1⟩⟩ := HA.out
                  obtain ⟨g0, g1, g2, _⟩ := hbc5.three
                  have hgl := hbc5.lt
                  have hgl2 := (hown5.lt g rfl).2
                  have pa0 := (own1_cell hown5 (q := a.toNat) (by omega)).1
                  have pb0 := (own1_cell hown5 (q := b.toNat) (by omega)).1
                  have pc0 := (own1_cell hown5 (q := c.toNat) (by omega)).1
                  obtain ⟨pa, hpa⟩ : ∃ x, part.getD a.toNat 0 = x := ⟨_, rfl⟩
                  obtain ⟨pb, hpb⟩ : ∃ x, part.getD b.toNat 0 = x := ⟨_, rfl⟩
                  obtain ⟨pc, hpc⟩ : ∃ x, part.getD c.toNat 0 = x := ⟨_, rfl⟩
                  rw [hpa] at pa0
                  rw [hpb] at pb0
                  rw [hpc] at pc0
                  have HP : Hid (pa = partA part a ∧ pb = partA part b ∧ pc = partA part c) := hide ⟨hpa.symm, hpb.symm, hpc.symm⟩
                  have HCK : Hid (rChk1 sn part (a, b, c) = if pa = pb ∨ pa = pc ∨ pb = pc then 21 else 0) := hide (by unfold rChk1; rw [if_neg HNI.out, if_neg HND.out, HP.out.1, HP.out.2.1, HP.out.2.2])
                  have HRC5 := hide hrc5
                  have HO5 := hide hown5
                  clear hpa hpb hpc hrc5 hown5 hbc5 e1 e2 e3
                  go_quiet (fail)
                  have hrc5 := HRC5.out.kept (below_drewN (Below.refl _ _) nq)
                  have hown5 := own_kept HO5.out (below_drewN (Below.refl V5.heap.size V5) nq)
                  generalize V5.drewN nq = V6 at *
                  clear HRC5 HO5 g0 g1 g2 hgl hgl2 pa0 pb0 pc0
                  by_cases q1 : pa = pb
                  · have HE : Hid (R = 21) := hide (by
                      have h7 : rChk1 sn part (a, b, c) = 21 := by rw [HCK.out, if_pos (.inl q1)]
                      rw [HK.out, if_pos (by rw [h7]; decide)]; exact h7)
                    have e1 : (pa == pb) = true := beq_iff_eq.2 q1
                    clear q1
                    go_wp2_with fail
                    go_ret
                    exact ⟨by rw [HE.out]; rfl, hrc5.be⟩
                  have e1 : (pa == pb) = false := beq_eq_false_iff_ne.2 q1
                  by_cases q2 : pa = pc
                  · have HE : Hid (R = 21) := hide (by
                      have h7 : rChk1 sn part (a, b, c) = 21 := by rw [HCK.out, if_pos (.inr (.inl q2))]
                      rw [HK.out, if_pos (by rw [h7]; decide)]; exact h7)
                    have e2 : (pa == pc) = true := beq_iff_eq.2 q2
                    clear q1 q2
                    go_wp2_with fail
                    go_ret
                    exact ⟨by rw [HE.out]; rfl, hrc5.be⟩
                  have e2 : (pa == pc) = false := beq_eq_false_iff_ne.2 q2
                  by_cases q3 : pb = pc
                  · have HE : Hid (R = 21) := hide (by
                      have h7 : rChk1 sn part (a, b, c) = 21 := by rw [HCK.out, if_pos (.inr (.inr q3))]
                      rw [HK.out, if_pos (by rw [h7]; decide)]; exact h7)
                    have e3 : (pb == pc) = true := beq_iff_eq.2 q3
                    clear q1 q2 q3
                    go_wp2_with fail
                    go_ret
                    exact ⟨by rw [HE.out]; rfl, hrc5.be⟩
                  have e3 : (pb == pc) = false := beq_eq_false_iff_ne.2 q3
                  have HNX : Hid (R = rChkL sn (rNext part (a, b, c)) (n.ts.drop (k + 1))) := hide (by
                    have h0 : rChk1 sn part (a, b, c) = 0 := by rw [HCK.out, if_neg (by simp [q1, q2, q3])]
                    rw [HK.out, if_neg (by rw [h0]; simp)])
                  clear q1 q2 q3
                  go_wp2_with fail
                  clear e1 e2 e3
                  go_loopw [12] (fun i wr => ∃ q : Nat, q ≤ sn ∧ i = .int .i64 (q : Int) ∧ wr.ownsRow (w.heap.size + 1) 3 1 (.slice (some ⟨g, 0, none⟩) sn cap) sn (ints (rPartK part pa pb pc q)) ∧ RcIn w n sa (some ⟨tb, toff, none⟩) sn sc tn tc wr) (fun i _ => sn - (intOf i).toNat)
                  case atStart => exact ⟨0, Nat.zero_le _, rfl, by rw [rpartK_zero]; exact hown5, hrc5⟩
                  case round =>
                    clear hown5 hrc5
                    obtain ⟨q, hq, rfl, hown, hrc⟩ := hrel
                    have hpl : part.length = sn := HPL.out
                    by_cases hlt5 : q < sn
                    · have hql : q < part.length := by rw [hpl]; exact hlt5
                      obtain ⟨c0, f0⟩ := own1_cell hown hlt5
                      rw [rpartK_at hql] at c0
                      have hgl := (hown.lt g rfl).2
                      have HO := hide hown
                      have HRC := hide hrc
                      have HSM : Hid (¬ inP pa pb pc (part.getD q 0) → rPartK part pa pb pc (q + 1) = rPartK part pa pb pc q) := hide (fun hn => rpartK_same hql hn)
                      have iq : (q : Int) < sn := by omega
                      clear hown hrc hpl
                      have hin0 : inP pa pb pc (part.getD q 0) ∨ ¬ inP pa pb pc (part.getD q 0) := Classical.em _
                      generalize hv : part.getD q 0 = v at c0 HSM hin0
                      rcases hin0 with hin | hin
                      · have hin' := hin
                        rw [← hv] at hin
                        clear hv HSM
                        rcases hin' with e1 | e1 | e1
                        · have e1' : (v == pa) = true := beq_iff_eq.2 e1
                          clear e1
                          have HS : Hid ((rPartK part pa pb pc q).set q (min3 pa pb pc) = rPartK part pa pb pc (q + 1)) := hide (by have := rpartK_step (a := pa) (b := pb) (c := pc) (k := q) hql; rwa [if_pos hin] at this)
                          clear hin hql
                          go_wp2_with fail
                          have HO2 := hide (own1_set HO.out q (min3 pa pb pc))
                          have HR2 := hide (RcIn.grown H.out rfl HRC.out (own2_grown _ g q (.int .i64 (min3 pa pb pc))) (fun j e => by cases e; exact (HO.out.lt g rfl).1))
                          rw [HS.out] at HO2
                          exact ⟨⟨q + 1, by omega, by go_num, HO2.out, HR2.out⟩, by simp [intOf]; omega⟩
                        · by_cases e2 : v = pa
                          · have e1' : (v == pa) = true := beq_iff_eq.2 e2
                            clear e1 e2
                            have HS : Hid ((rPartK part pa pb pc q).set q (min3 pa pb pc) = rPartK part pa pb pc (q + 1)) := hide (by have := rpartK_step (a := pa) (b := pb) (c := pc) (k := q) hql; rwa [if_pos hin] at this)
                            clear hin hql
                            go_wp2_with fail
                            have HO2 := hide (own1_set HO.out q (min3 pa pb pc))
                            have HR2 := hide (RcIn.grown H.out rfl HRC.out (own2_grown _ g q (.int .i64 (min3 pa pb pc))) (fun j e => by cases e; exact (HO.out.lt g rfl).1))
                            rw [HS.out] at HO2
                            exact ⟨⟨q + 1, by omega, by go_num, HO2.out, HR2.out⟩, by simp [intOf]; omega⟩
                          · have e1' : (v == pb) = true := beq_iff_eq.2 e1
                            have e2' : (v == pa) = false := beq_eq_false_iff_ne.2 e2
                            clear e1 e2
                            have HS : Hid ((rPartK part pa pb pc q).set q (min3 pa pb pc) = rPartK part pa pb pc (q + 1)) := hide (by have := rpartK_step (a := pa) (b := pb) (c := pc) (k := q) hql; rwa [if_pos hin] at this)
                            clear hin hql
                            go_wp2_with fail
                            have HO2 := hide (own1_set HO.out q (min3 pa pb pc))
                            have HR2 := hide (RcIn.grown H.out rfl HRC.out (own2_grown _ g q (.int .i64 (min3 pa pb pc))) (fun j e => by cases e; exact (HO.out.lt g rfl).1))
                            rw [HS.out] at HO2
                            exact ⟨⟨q + 1, by omega, by go_num, HO2.out, HR2.out⟩, by simp [intOf]; omega⟩
                        · by_cases e2 : v = pa
                          · have e1' : (v == pa) = true := beq_iff_eq.2 e2
                            clear e1 e2
                            have HS : Hid ((rPartK part pa pb pc q).set q (min3 pa pb pc) = rPartK part pa pb pc (q + 1)) := hide (by have := rpartK_step (a := pa) (b := pb) (c := pc) (k := q) hql; rwa [if_pos hin] at this)
                            clear hin hql
                            go_wp2_with fail
                            have HO2 := hide (own1_set HO.out q (min3 pa pb pc))
                            have HR2 := hide (RcIn.grown H.out rfl HRC.out (own2_grown _ g q (.int .i64 (min3 pa pb pc))) (fun j e => by cases e; exact (HO.out.lt g rfl).1))
                            rw [HS.out] at HO2
                            exact ⟨⟨q + 1, by omega, by go_num, HO2.out, HR2.out⟩, by simp [intOf]; omega⟩
                          · by_cases e3 : v = pb
                            · have e1' : (v == pb) = true := beq_iff_eq.2 e3
                              have e2' : (v == pa) = false := beq_eq_false_iff_ne.2 e2
                              clear e1 e2 e3
                              have HS : Hid ((rPartK part pa pb pc q).set q (min3 pa pb pc) = rPartK part pa pb pc (q + 1)) := hide (by have := rpartK_step (a := pa) (b := pb) (c := pc) (k := q) hql; rwa [if_pos hin] at this)
                              clear hin hql
                              go_wp2_with fail
                              have HO2 := hide (own1_set HO.out q (min3 pa pb pc))
                              have HR2 := hide (RcIn.grown H.out rfl HRC.out (own2_grown _ g q (.int .i64 (min3 pa pb pc))) (fun j e => by cases e; exact (HO.out.lt g rfl).1))
                              rw [HS.out] at HO2
                              exact ⟨⟨q + 1, by omega, by go_num, HO2.out, HR2.out⟩, by simp [intOf]; omega⟩
                            · have e1' : (v == pc) = true := beq_iff_eq.2 e1
                              have e2' : (v == pa) = false := beq_eq_false_iff_ne.2 e2
                              have e3' : (v == pb) = false := beq_eq_false_iff_ne.2 e3
                              clear e1 e2 e3
                              have HS : Hid ((rPartK part pa pb pc q).set q (min3 pa pb pc) = rPartK part pa pb pc (q + 1)) := hide (by have := rpartK_step (a := pa) (b := pb) (c := pc) (k := q) hql; rwa [if_pos hin] at this)
                              clear hin hql
                              go_wp2_with fail
                              have HO2 := hide (own1_set HO.out q (min3 pa pb pc))
                              have HR2 := hide (RcIn.grown H.out rfl HRC.out (own2_grown _ g q (.int .i64 (min3 pa pb pc))) (fun j e => by cases e; exact (HO.out.lt g rfl).1))
                              rw [HS.out] at HO2
                              exact ⟨⟨q + 1, by omega, by go_num, HO2.out, HR2.out⟩, by simp [intOf]; omega⟩
                      · have HS := hide (HSM.out hin)
                        unfold inP at hin
                        have e1' : (v == pa) = false := beq_eq_false_iff_ne.2 (fun e => hin (.inl e))
                        have e2' : (v == pb) = false := beq_eq_false_iff_ne.2 (fun e => hin (.inr (.inl e)))
                        have e3' : (v == pc) = false := beq_eq_false_iff_ne.2 (fun e => hin (.inr (.inr e)))
                        clear hin hv HSM
                        go_wp2_with fail
                        exact ⟨⟨q + 1, by omega, by go_num, by rw [HS.out]; exact HO.out, HRC.out⟩, by simp [intOf]; omega⟩
                    · have hqn : q = sn := by omega
                      have e : rPartK part pa pb pc q = rNext part (a, b, c) := by rw [rpartK_all (by omega)]; unfold rNext; rw [← HP.out.1, ← HP.out.2.1, ← HP.out.2.2]
                      rw [e] at hown
                      have HO := hide hown
                      have HRC := hide hrc
                      have HLN : Hid ((rNext part (a, b, c)).length = sn) := hide (by unfold rNext rPart; rw [List.length_map]; exact hpl)
                      clear hqn e hown hrc hpl
                      go_wp2_with fail
                      exact ⟨⟨k + 1, by omega, by go_num, rNext part (a, b, c), HNX.out, HLN, HO.out, HRC.out⟩, by simp [intOf]; omega⟩
            · have HF : Hid (R = 0) := hide (by rw [HK.out, List.drop_of_length_le (by rw [← H.out.htn]; omega)]; rfl)
              have hB := hrc.be
              clear hrc hown
              go_wp2_with fail
              go_ret
              exact ⟨by rw [HF.out]; rfl, hB⟩

end Go.Proofs.Ytlbhnicengolfaa

/-! ## Roots: TotalRoots: the walk. -/
namespace Go.Proofs.Ytlbhnicengolfaa
open Go.RowKit
set_option linter.unusedVariables false
set_option linter.unusedSimpArgs false

/-- What given leaves. -/
def rtGiven (n : TNet) (sa : Option Addr) (sn sc tn : Nat) (w : World) (v : Value) : Prop := ∃ a' tc', v = netV sa a' sn sc tn tc' ∧ NetIn n sa a' sn tn tc' w
theorem rtGiven_below {n : TNet} {sa : Option Addr} {sn sc tn : Nat} {w w' : World} {v : Value} (h : rtGiven n sa sn sc tn w v) (hb : Below w.heap.size w w') : rtGiven n sa sn sc tn w' v := by
  obtain ⟨a', tc', e, hn⟩ := h
  exact ⟨a', tc', e, hn.below hb⟩
def rtGood (n : TNet) (sa ta : Option Addr) (sn sc tn tc : Nat) (r1 r2 e1 ck : Int) : Nat → World → Value → Prop
  | 0, _, v => v = .int .i64 r1
  | 1, _, v => v = .int .i64 r1
  | 4, _, v => v = .int .i64 r2
  | 5, _, v => v = .int .i64 r2
  | 9, _, v => v = .int .i64 e1
  | 10, _, v => v = .int .i64 e1
  | 14, _, v => v = netV sa ta sn sc tn tc
  | 15, _, v => v = .int .i64 ck
  | 16, _, v => v = netV sa ta sn sc tn tc
  | 17, w, v => rtGiven n sa sn sc tn w v
  | 18, _, v => v = .int .i64 ck
  | _, _, v => v = .bool true
theorem rtGood_below {n : TNet} {sa ta : Option Addr} {sn sc tn tc : Nat} {r1 r2 e1 ck : Int} (i : Nat) (w w' : World) (v : Value) (h : (rtGood n sa ta sn sc tn tc r1 r2 e1 ck) i w v) (hb : Below w.heap.size w w') : (rtGood n sa ta sn sc tn tc r1 r2 e1 ck) i w' v := by
  unfold rtGood at h
  split at h <;> first | exact rtGiven_below h hb | exact h | (unfold rtGood; split <;> first | exact h | (exfalso; simp_all))

set_option maxRecDepth 100000 in
set_option maxHeartbeats 8000000 in
theorem roots_any (n : TNet) (x : Int) (sa ta : Option Addr) (sn sc tn tc : Nat) (w : World) (h : NetArg n sa ta sn tn tc w) :
    Calls Try.prog 3 #[netV sa ta sn sc tn tc, .int .i64 x] w fun e w' => e = .returned (.bool true) ∧ Below w.heap.size w w' := by
  have H := hide h
  have HLG := hide (fun W => large_any n sa ta sn sc tn tc W)
  have hk := Blk.new w #[.slice sa sn sc, .slice ta tn tc] 25
  have hb1 : Below w.heap.size w (w.alloc (.cells #[.slice sa sn sc, .slice ta tn tc] 25)) := (Below.refl _ _).alloc (Nat.le_refl _) _
  clear h
  go_enter Try.func3, Try.ntmps3
  by_cases hlg : (decide (40 < sn) || decide (40 < tn)) = true
  · rw [hlg] at HLG
    clear hlg
    go_wp2_with fail
    refine (HLG.out _).mono ?_
    rintro e W1 ⟨rfl, hb2⟩
    have hB := hb1.trans (hb2.mono hb1.size)
    go_wp2_with fail
    refine (works_any _).mono ?_
    rintro e W9 ⟨rfl, hb9⟩
    go_wp2_with fail
    go_ret
    exact ⟨rfl, hB.trans (hb9.mono hB.size)⟩
  · have hs40 : ¬ 40 < sn := fun h => hlg (by simp [h])
    have ht40 : ¬ 40 < tn := fun h => hlg (by simp [h])
    have hlg' : (decide (40 < sn) || decide (40 < tn)) = false := by simpa using hlg
    rw [hlg'] at HLG
    have HN := hide (H.out.small hs40 ht40)
    have HT40 := hide (show tn ≤ 40 by omega)
    clear hlg hlg' hs40 ht40
    go_wp2_with fail
    refine (HLG.out _).mono ?_
    rintro e W1 ⟨rfl, hb2⟩
    have hB := hb1.trans (hb2.mono hb1.size)
    have hk1 := hk.kept hb2
    clear hb1 hb2 hk
    go_wp2_with fail
    refine (rootF_any x _).mono ?_
    rintro e W2 ⟨rfl, rfl⟩
    go_wp2_with fail
    refine (refRoot_any x _).mono ?_
    rintro e W3 ⟨rfl, rfl⟩
    go_wp2_with fail
    have HCH := hide (fun (X : World) (hx : Below W1.heap.size W1 X) => (((HN.out.below hB).below hx)).check sc)
    have HGV := hide (fun (X : World) (hx : Below W1.heap.size W1 X) => given_any n sa ta sn sc tn tc X ((HN.out.below hB).below hx) HT40.out)
    have HRC : Hid (∀ (X : World) (a' : Option Addr) (tc' : Nat), NetIn n sa a' sn tn tc' X → Calls Try.prog 20 #[netV sa a' sn sc tn tc'] X fun e w'' => e = .returned (.int .i64 (checkT n)) ∧ Below X.heap.size X w'') := hide (fun X a' tc' h => by have := refCheck_any n sa a' sn sc tn tc' X h; rwa [rCheck_eq] at this)
    have HKK := hide (fun (X : World) (hx : Below W1.heap.size W1 X) => hk1.kept hx)
    generalize checkT n = ck at *
    generalize (rootR x).1.1 = r1 at *
    generalize (rootR x).1.2 = r2 at *
    generalize (rootR x).2 = e1 at *
    clear hk1
    refine wp_region_mono W1 _ (rtGood n sa ta sn sc tn tc r1 r2 e1 ck) (n := 50) (by kernel_rfl) (by decide +kernel) rfl rtGood_below ?steps ?_
    case steps =>
      refine ⟨?_, ?_, ?_, ?_, ?_, ?_, ?_, ?_, ?_, ?_, ?_, ?_, ?_, ?_, ?_, ?_, ?_, ?_, ?_, ?_, ?_, ?_, ?_, ?_, ?_, trivial⟩
      · intro a w' h
        have e5 : a.tmps.getD 5 undef = .int .i64 r1 := h.old 5 rfl
        refine ⟨wanted_none rfl, ?_⟩
        simp at e5
        clear h
        go_simp
        exact ⟨Below.refl _ _, rfl⟩
      · intro a w' h
        have e8 : a.tmps.getD 8 undef = .int .i64 r1 := h.old 8 rfl
        refine ⟨wanted_none rfl, ?_⟩
        simp at e8
        clear h
        go_simp
        exact ⟨Below.refl _ _, rfl⟩
      · intro a w' h
        have e26 : a.tmps.getD 26 undef = .int .i64 r1 := h.val 0 26 rfl rfl
        have e27 : a.tmps.getD 27 undef = .int .i64 r1 := h.val 1 27 rfl rfl
        refine ⟨wanted_none rfl, ?_⟩
        simp at e26 e27
        clear h
        go_simp
        exact ⟨Below.refl _ _, rfl⟩
      · intro a w' h
        have e28 : a.tmps.getD 28 undef = .bool true := h.val 2 28 rfl rfl
        refine ⟨wanted_none rfl, ?_⟩
        simp at e28
        clear h
        go_simp
        exact ⟨Below.refl _ _, rfl⟩
      · intro a w' h
        have e6 : a.tmps.getD 6 undef = .int .i64 r2 := h.old 6 rfl
        refine ⟨wanted_some (g := 3) (b := true) (t := 29) rfl rfl (h.val 3 29 rfl rfl), ?_⟩
        simp at e6
        clear h
        go_simp
        exact ⟨Below.refl _ _, rfl⟩
      · intro a w' h
        have e9 : a.tmps.getD 9 undef = .int .i64 r2 := h.old 9 rfl
        refine ⟨wanted_some (g := 3) (b := true) (t := 29) rfl rfl (h.val 3 29 rfl rfl), ?_⟩
        simp at e9
        clear h
        go_simp
        exact ⟨Below.refl _ _, rfl⟩
      · intro a w' h
        have e30 : a.tmps.getD 30 undef = .int .i64 r2 := h.val 4 30 rfl rfl
        have e31 : a.tmps.getD 31 undef = .int .i64 r2 := h.val 5 31 rfl rfl
        refine ⟨wanted_some (g := 3) (b := true) (t := 29) rfl rfl (h.val 3 29 rfl rfl), ?_⟩
        simp at e30 e31
        clear h
        go_simp
        exact ⟨Below.refl _ _, rfl⟩
      · intro a w' h
        have e29 : a.tmps.getD 29 undef = .bool true := h.val 3 29 rfl rfl
        have e32 : a.tmps.getD 32 undef = .bool true := h.val 6 32 rfl rfl
        refine ⟨wanted_none rfl, ?_⟩
        simp at e29 e32
        clear h
        go_simp
        exact ⟨Below.refl _ _, rfl⟩
      · intro a w' h
        have e33 : a.tmps.getD 33 undef = .bool true := h.val 7 33 rfl rfl
        refine ⟨wanted_none rfl, ?_⟩
        simp at e33
        clear h
        go_simp
        exact ⟨Below.refl _ _, rfl⟩
      · intro a w' h
        have e7 : a.tmps.getD 7 undef = .int .i64 e1 := h.old 7 rfl
        refine ⟨wanted_some (g := 8) (b := true) (t := 34) rfl rfl (h.val 8 34 rfl rfl), ?_⟩
        simp at e7
        clear h
        go_simp
        exact ⟨Below.refl _ _, rfl⟩
      · intro a w' h
        have e10 : a.tmps.getD 10 undef = .int .i64 e1 := h.old 10 rfl
        refine ⟨wanted_some (g := 8) (b := true) (t := 34) rfl rfl (h.val 8 34 rfl rfl), ?_⟩
        simp at e10
        clear h
        go_simp
        exact ⟨Below.refl _ _, rfl⟩
      · intro a w' h
        have e35 : a.tmps.getD 35 undef = .int .i64 e1 := h.val 9 35 rfl rfl
        have e36 : a.tmps.getD 36 undef = .int .i64 e1 := h.val 10 36 rfl rfl
        refine ⟨wanted_some (g := 8) (b := true) (t := 34) rfl rfl (h.val 8 34 rfl rfl), ?_⟩
        simp at e35 e36
        clear h
        go_simp
        exact ⟨Below.refl _ _, rfl⟩
      · intro a w' h
        have e34 : a.tmps.getD 34 undef = .bool true := h.val 8 34 rfl rfl
        have e37 : a.tmps.getD 37 undef = .bool true := h.val 11 37 rfl rfl
        refine ⟨wanted_none rfl, ?_⟩
        simp at e34 e37
        clear h
        go_simp
        exact ⟨Below.refl _ _, rfl⟩
      · intro a w' h
        have e38 : a.tmps.getD 38 undef = .bool true := h.val 12 38 rfl rfl
        refine ⟨wanted_none rfl, ?_⟩
        simp at e38
        clear h
        go_simp
        exact ⟨Below.refl _ _, rfl⟩
      · intro a w' h
        have e2 : a.tmps.getD 2 undef = .pointer (some ⟨w.heap.size, 0, none⟩) := h.old 2 rfl
        refine ⟨wanted_some (g := 13) (b := true) (t := 39) rfl rfl (h.val 13 39 rfl rfl), ?_⟩
        simp at e2
        have q := (HKK.out w' h.be).two
        clear h
        go_simp
        exact ⟨Below.refl _ _, rfl⟩
      · intro a w' h
        have e40 : a.tmps.getD 40 undef = netV sa ta sn sc tn tc := h.val 14 40 rfl rfl
        refine ⟨wanted_some (g := 13) (b := true) (t := 39) rfl rfl (h.val 13 39 rfl rfl), ?_⟩
        simp at e40
        have HBE := hide h.be
        clear h
        go_simp
        exact (HCH.out w' HBE.out).mono fun e w'' ⟨he, hb⟩ => ⟨_, he, hb, rfl⟩
      · intro a w' h
        have e2 : a.tmps.getD 2 undef = .pointer (some ⟨w.heap.size, 0, none⟩) := h.old 2 rfl
        refine ⟨wanted_some (g := 13) (b := true) (t := 39) rfl rfl (h.val 13 39 rfl rfl), ?_⟩
        simp at e2
        have q := (HKK.out w' h.be).two
        clear h
        go_simp
        exact ⟨Below.refl _ _, rfl⟩
      · intro a w' h
        have e42 : a.tmps.getD 42 undef = netV sa ta sn sc tn tc := h.val 16 42 rfl rfl
        refine ⟨wanted_some (g := 13) (b := true) (t := 39) rfl rfl (h.val 13 39 rfl rfl), ?_⟩
        simp at e42
        have HBE := hide h.be
        clear h
        go_simp
        exact (HGV.out w' HBE.out).mono fun e w'' ⟨a', tc', he, hn, hb⟩ => ⟨_, he, hb, a', tc', rfl, hn⟩
      · intro a w' h
        obtain ⟨ga43, gc43, e43, hn43⟩ : (rtGiven n sa sn sc tn) w' (a.tmps.getD 43 undef) := h.val 17 43 rfl rfl
        refine ⟨wanted_some (g := 13) (b := true) (t := 39) rfl rfl (h.val 13 39 rfl rfl), ?_⟩
        simp at e43
        have Hhn43 := hide hn43
        clear hn43
        clear h
        go_simp
        exact (HRC.out w' _ _ Hhn43.out).mono fun e w'' ⟨he, hb⟩ => ⟨_, he, hb, rfl⟩
      · intro a w' h
        have e41 : a.tmps.getD 41 undef = .int .i64 ck := h.val 15 41 rfl rfl
        have e44 : a.tmps.getD 44 undef = .int .i64 ck := h.val 18 44 rfl rfl
        refine ⟨wanted_some (g := 13) (b := true) (t := 39) rfl rfl (h.val 13 39 rfl rfl), ?_⟩
        simp at e41 e44
        clear h
        go_simp
        exact ⟨Below.refl _ _, rfl⟩
      · intro a w' h
        have e39 : a.tmps.getD 39 undef = .bool true := h.val 13 39 rfl rfl
        have e45 : a.tmps.getD 45 undef = .bool true := h.val 19 45 rfl rfl
        refine ⟨wanted_none rfl, ?_⟩
        simp at e39 e45
        clear h
        go_simp
        exact ⟨Below.refl _ _, rfl⟩
      · intro a w' h
        have e46 : a.tmps.getD 46 undef = .bool true := h.val 20 46 rfl rfl
        refine ⟨wanted_none rfl, ?_⟩
        simp at e46
        clear h
        go_simp
        exact ⟨Below.refl _ _, rfl⟩
      · intro a w' h
        refine ⟨wanted_some (g := 21) (b := true) (t := 47) rfl rfl (h.val 21 47 rfl rfl), ?_⟩
        clear h
        go_simp
        exact (works_any w').mono fun e w'' ⟨he, hb⟩ => ⟨_, he, hb, rfl⟩
      · intro a w' h
        have e47 : a.tmps.getD 47 undef = .bool true := h.val 21 47 rfl rfl
        have e48 : a.tmps.getD 48 undef = .bool true := h.val 22 48 rfl rfl
        refine ⟨wanted_none rfl, ?_⟩
        simp at e47 e48
        clear h
        go_simp
        exact ⟨Below.refl _ _, rfl⟩
      · intro a w' h
        have e49 : a.tmps.getD 49 undef = .bool true := h.val 23 49 rfl rfl
        refine ⟨wanted_none rfl, ?_⟩
        simp at e49
        clear h
        go_simp
        exact ⟨Below.refl _ _, rfl⟩
    intro a w' h
    rename_i K hK
    refine hK _ _ ?_
    have e0 : a.tmps.getD 4 undef = .bool true := h.val 24 4 rfl rfl
    have hd : a.defers = [] := h.defers
    have hBf := hB.trans (h.be.mono hB.size)
    clear h hK
    simp at e0
    go_wp2
    exact bodyPost_ret (v := .bool true) (by simp [results, Try.results3, go_sem, e0]) hd ⟨rfl, hBf⟩

end Go.Proofs.Ytlbhnicengolfaa
