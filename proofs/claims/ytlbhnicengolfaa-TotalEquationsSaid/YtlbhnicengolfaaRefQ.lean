/-
  The reference of total: Equation.
-/
import Derived.Test.YtlbhnicengolfaaRefL
import Derived.Test.YtlbhnicengolfaaRootsW
namespace Go.Proofs.Ytlbhnicengolfaa
open Go.RowKit
set_option linter.unusedVariables false
set_option linter.unusedSimpArgs false

theorem is_below (n lo hi : Int) (w : World) : Calls Try.prog 46 #[.int .i64 n, .int .i64 lo, .int .i64 hi] w fun e w' => e = .returned (.bool (decide (lo ≤ n) && decide (n ≤ hi))) ∧ Below w.heap.size w w' :=
  (is_any n lo hi w).mono (by rintro e w' ⟨h1, rfl⟩; exact ⟨h1, Below.refl _ _⟩)
/-- The set of the first k triangles of a list. -/
def setK (l : List Int) : Nat → Nat
  | 0 => 0
  | k + 1 => setK l k + 2 ^ (l.getD k 0).toNat
/-- What the reference's Equation returns. -/
def rEqu (n : TNet) (l : List Int) : List Int × Int :=
  if checkT n ≠ 0 then ([], checkT n) else if l.length = 0 then ([], 2) else if ordOk n.ts.length (-1) l ≠ 0 then ([], ordOk n.ts.length (-1) l) else
  if (rEq n.ts n.sp.length (setK l l.length)).2 = true then ((rEq n.ts n.sp.length (setK l l.length)).1, 0) else ([], 4)
def lastK (l : List Int) (i : Nat) : Int := if i = 0 then -1 else l.getD (i - 1) 0
theorem shl_is : ∀ x : Fin 5, wrap64 (2 ^ (x : Nat)) = ((2 ^ (x : Nat) : Nat) : Int) := by decide +kernel
theorem wsum (a b : Nat) (ha : a < 32) (hb : 2 ^ b ≤ 16) : Value.int IntKind.i64 (wrap64 ((a : Int) + 2 ^ b)) = .int .i64 ((a + 2 ^ b : Nat) : Int) := by
  have e : ((a : Int) + 2 ^ b) = ((a + 2 ^ b : Nat) : Int) := by push_cast; rfl
  rw [e]
  generalize 2 ^ b = c at *
  rw [IntWalk.wrap64_in ((a + c : Nat) : Int) (by omega)]
/-- While Equation looks at its list. -/
structure EqI (T : Nat) (l : List Int) (i : Nat) : Prop where
  ord : ordOk (T : Int) (lastK l i) (l.drop i) = ordOk (T : Int) (-1) l
  lo : -1 ≤ lastK l i
  hi : lastK l i < (T : Int)
  st : setK l i < 2 ^ (lastK l i + 1).toNat
theorem EqI.start {T : Nat} {l : List Int} : EqI T l 0 := ⟨by simp [lastK], by simp [lastK], by simp [lastK]; omega, by simp [lastK, setK]⟩
theorem EqI.step {T : Nat} {l : List Int} {i : Nat} (h : EqI T l i) (hi : i < l.length) : (l.getD i 0 < 0 ∨ (T : Int) ≤ l.getD i 0 → ordOk (T : Int) (-1) l = 6) ∧
    (0 ≤ l.getD i 0 → l.getD i 0 < (T : Int) → (l.getD i 0 ≤ lastK l i → ordOk (T : Int) (-1) l = 5) ∧ (lastK l i < l.getD i 0 → EqI T l (i + 1))) := by
  have e : l.drop i = l.getD i 0 :: l.drop (i + 1) := by rw [List.drop_eq_getElem_cons hi]; simp [List.getD, hi]
  have ho := h.ord
  rw [e, ordOk_cons] at ho
  have hl : lastK l (i + 1) = l.getD i 0 := by unfold lastK; rw [if_neg (by omega), Nat.add_sub_cancel]
  refine ⟨fun hx => by rw [← ho, if_pos hx], fun h0 h1 => ⟨fun h2 => by rw [← ho, if_neg (by omega), if_pos h2], fun h2 => ?_⟩⟩
  rw [if_neg (by omega), if_neg (by omega)] at ho
  refine ⟨by rw [hl]; exact ho, by rw [hl]; omega, by rw [hl]; exact h1, ?_⟩
  rw [hl]
  have hs := h.st
  have e1 : setK l (i + 1) = setK l i + 2 ^ (l.getD i 0).toNat := rfl
  have e2 : (l.getD i 0 + 1).toNat = (l.getD i 0).toNat + 1 := by omega
  have hle : 2 ^ (lastK l i + 1).toNat ≤ 2 ^ (l.getD i 0).toNat := Nat.pow_le_pow_right (by omega) (by omega)
  rw [e1, e2, Nat.pow_succ]
  omega
theorem EqI.small {T : Nat} {l : List Int} {i : Nat} (h : EqI T l i) (hT : T ≤ 5) : setK l i < 32 := by
  have := h.st
  have h1 := h.hi
  have : 2 ^ (lastK l i + 1).toNat ≤ 2 ^ 5 := Nat.pow_le_pow_right (by omega) (by omega)
  omega

set_option maxRecDepth 100000 in
set_option maxHeartbeats 8000000 in
theorem refEqu_any (n : TNet) (l : List Int) (sa ta la : Option Addr) (sn sc tn tc ln lc : Nat) (w : World) (h : NetIn n sa ta sn tn tc w) (hln : ln = l.length) (hl : ln ≤ 1000000000) (hrl : Row w w.heap.size la (ints l)) :
    Calls Try.prog 23 #[netV sa ta sn sc tn tc, .slice la ln lc] w fun e w' => eqPost (rEqu n l) sn w e w' := by
  have HH := hide h
  have HL := hide (And.intro hln hrl)
  have HR : Hid (rEqu n l = if checkT n ≠ 0 then ([], checkT n) else if l.length = 0 then ([], 2) else if ordOk n.ts.length (-1) l ≠ 0 then ([], ordOk n.ts.length (-1) l) else if (rEq n.ts n.sp.length (setK l l.length)).2 = true then ((rEq n.ts n.sp.length (setK l l.length)).1, 0) else ([], 4)) := hide rfl
  have hb1 : Below w.heap.size w (w.alloc (.cells #[.slice sa sn sc, .slice ta tn tc] 35)) := (Below.refl _ _).alloc (Nat.le_refl _) _
  have kn := Blk.new w #[.slice sa sn sc, .slice ta tn tc] 35
  have HCK := hide (refCheck_any n sa ta sn sc tn tc _ (h.below hb1))
  rw [rCheck_eq] at HCK
  have HN : Hid (checkT n = 0 → NOk n) := hide nok_of_check
  clear h hln hrl
  generalize hC : checkT n = C at *
  clear hC
  go_enter Try.func23, Try.ntmps23
  obtain ⟨n0, n1, _⟩ := kn.two
  have ln0 := kn.lt
  go_wp2_with fail
  refine HCK.out.mono ?_
  rintro e W2 ⟨rfl, hb2⟩
  have kn2 := kn.kept hb2
  have hB2 := hb1.trans (hb2.mono hb1.size)
  clear hb1 hb2 HCK kn n0 n1 ln0
  by_cases h0 : C = 0
  rotate_left
  · have HF : Hid (rEqu n l = ([], C)) := hide (by rw [HR.out, if_pos h0])
    have HC := hide h0
    have d0 : (C != 0) = true := by rw [bne_iff_ne]; exact h0
    clear h0
    go_wp2_with fail
    go_ret2
    exact eqPost_none HF.out HC.out hB2
  have HNO := hide (HN.out h0)
  have d0 : (C != 0) = false := by rw [h0]; rfl
  have HR1 : Hid (rEqu n l = if l.length = 0 then ([], 2) else if ordOk n.ts.length (-1) l ≠ 0 then ([], ordOk n.ts.length (-1) l) else if (rEq n.ts n.sp.length (setK l l.length)).2 = true then ((rEq n.ts n.sp.length (setK l l.length)).1, 0) else ([], 4)) := hide (by rw [HR.out, if_neg (by rw [h0]; simp)])
  clear h0 HN HR
  have hT5 : tn ≤ 5 := by have := HH.out.htn; have := HNO.out.l3; omega
  have hN11 : sn ≤ 11 := by have := HH.out.hsn; have := HNO.out.l2; omega
  by_cases hl0 : ln = 0
  · have HF : Hid (rEqu n l = ([], 2)) := hide (by rw [HR1.out, if_pos (by rw [← HL.out.1]; exact hl0)])
    have d1 : ((ln : Int) == 0) = true := by simp [hl0]
    clear hl0
    go_wp2_with fail
    go_ret2
    exact eqPost_none HF.out (by decide) hB2
  have d1 : ((ln : Int) == 0) = false := beq_eq_false_iff_ne.2 (by omega)
  have HR2 : Hid (rEqu n l = if ordOk tn (-1) l ≠ 0 then ([], ordOk tn (-1) l) else if (rEq n.ts n.sp.length (setK l ln)).2 = true then ((rEq n.ts n.sp.length (setK l ln)).1, 0) else ([], 4)) := hide (by rw [HR1.out, if_neg (by rw [← HL.out.1]; exact hl0), HH.out.htn, HL.out.1])
  clear HR1
  go_wp2_with fail
  clear d0 d1
  go_loopw [7, 8] (fun st ix wr => ∃ i : Nat, i ≤ ln ∧ ix = .int .i64 (i : Int) ∧ st = .int .i64 ((setK l i : Nat) : Int) ∧ Hid (EqI tn l i) ∧ Below w.heap.size w wr ∧ Blk wr w.heap.size #[.slice sa sn sc, .slice ta tn tc] 35) (fun _ ix _ => ln - (intOf ix).toNat)
  case atStart => exact ⟨0, Nat.zero_le _, rfl, rfl, hide EqI.start, hB2, kn2⟩
  case round =>
    clear hB2 kn2
    obtain ⟨i, hi, rfl, rfl, HI, hB, kn⟩ := hrel
    have HB := hide hB
    have HKN := hide kn
    obtain ⟨n0, n1, _⟩ := kn.two
    have ln0 := kn.lt
    clear kn hB
    by_cases hlt : i < ln
    · obtain ⟨g, off, hla, hgb, hgc⟩ := (HL.out.2.below HB.out (Nat.le_refl _)).int (by have := HL.out.1; omega)
      have c0 := hgc i (by have := HL.out.1; omega)
      have hprev : i ≠ 0 → wr.cell? ⟨g, off + (i - 1), none⟩ = some (.int .i64 (lastK l i)) := fun h => by
        have := hgc (i - 1) (by have := HL.out.1; omega)
        unfold lastK
        rw [if_neg h]
        exact this
      have HPREV := hide hprev
      have hst := HI.out.step (by have := HL.out.1; omega)
      have hsm := HI.out.small hT5
      have hlo := HI.out.lo
      have HNXT : Hid (setK l (i + 1) = setK l i + 2 ^ (l.getD i 0).toNat) := hide rfl
      have hgl : g < wr.heap.size := by omega
      clear hgc hprev
      subst hla
      unfold iat at c0
      have HL0 : Hid (i = 0 → lastK l i = -1) := hide (fun h => by unfold lastK; rw [if_pos h])
      generalize l.getD i 0 = x at *
      generalize lastK l i = lst at *
      have HST := hide hst
      clear hst
      have HIS := hide (fun X : Ext wr => Ext.call (is_below x 0 ((tn : Int) - 1) X.w))
      have il : (i : Int) < ln := by omega
      have w1 : IntKind.i64.wrap ((tn : Int) - 1) = (tn : Int) - 1 := IntWalk.i64_in _ (by omega)
      have hX := @Ext.cell wr
      by_cases hin : x < 0 ∨ (tn : Int) ≤ x
      · have HV : (decide (0 ≤ x) && decide (x ≤ (tn : Int) - 1)) = false := by
          rcases hin with h | h
          · rw [decide_eq_false (by omega)]; rfl
          · rw [decide_eq_false (by omega : ¬ x ≤ (tn : Int) - 1)]; exact Bool.and_false _
        have HF : Hid (rEqu n l = ([], 6)) := hide (by rw [HR2.out, HST.out.1 hin]; rfl)
        rw [HV] at HIS
        clear HV hin
        go_wp2_with fail
        refine wp_region_all (Ext.w (W := wr)) (by kernel_rfl) (by kernel_rfl) (Ext.start wr) ?_
        repeat (first | go_big_quiet_skip | quiet_step (first | (go_at_call 46; with_reducible exact HIS.out _)))
        refine wpQuiet_nil ?_
        intro X
        have hB := HB.out.trans (X.below.mono HB.out.size)
        go_wp2_with fail
        go_ret2
        exact eqPost_none HF.out (by decide) hB
      · have HV : (decide (0 ≤ x) && decide (x ≤ (tn : Int) - 1)) = true := by
          rw [decide_eq_true (by omega : 0 ≤ x), decide_eq_true (by omega : x ≤ (tn : Int) - 1)]; rfl
        rw [HV] at HIS
        have hx0 : 0 ≤ x := by omega
        have hx1 : x < (tn : Int) := by omega
        have HST2 := hide (HST.out.2 hx0 hx1)
        obtain ⟨xn, rfl⟩ : ∃ xn : Nat, x = (xn : Int) := ⟨x.toNat, by omega⟩
        rw [Int.toNat_natCast] at HNXT
        have hsh := shl_is ⟨xn, by omega⟩
        dsimp only at hsh
        have hpw : 2 ^ xn ≤ 16 := by
          have : (2 : Nat) ^ xn ≤ 2 ^ 4 := Nat.pow_le_pow_right (by omega) (by omega)
          omega
        clear HV hin HST
        go_wp2_with fail
        refine wp_region_all (Ext.w (W := wr)) (by kernel_rfl) (by kernel_rfl) (Ext.start wr) ?_
        repeat (first | go_big_quiet_skip | quiet_step (first | (go_at_call 46; with_reducible exact HIS.out _)))
        refine wpQuiet_nil ?_
        intro X
        have HB2 := hide (HB.out.trans (X.below.mono HB.out.size))
        have HKN2 := hide (HKN.out.kept X.below)
        have c1 : X.w.cell? ⟨g, off + i, none⟩ = some (.int .i64 (xn : Int)) := (X.below.cell (p := ⟨g, off + i, none⟩) hgl).trans c0
        have hg2 : g < X.w.heap.size := by have := X.below.size; omega
        have HPREV2 : Hid (i ≠ 0 → X.w.cell? ⟨g, off + (i - 1), none⟩ = some (.int .i64 lst)) := hide (fun h => (X.below.cell (p := ⟨g, off + (i - 1), none⟩) hgl).trans (HPREV.out h))
        have hXX := HIS
        clear n0 n1 ln0 c0 hX hgl HIS hXX
        generalize X.w = V2 at *
        generalize setK l i = sk at *
        have HW : Hid (Value.int IntKind.i64 (wrap64 ((sk : Int) + 2 ^ xn)) = .int .i64 ((sk + 2 ^ xn : Nat) : Int)) := hide (wsum sk xn hsm hpw)
        by_cases hi0 : i = 0
        · have hl1 := HL0.out hi0
          have dp : decide ((0 : Int) < (i : Int)) = false := decide_eq_false (by omega)
          have dp' : decide (0 < i) = false := decide_eq_false (by omega)
          have HI2 := hide (HST2.out.2 (by omega))
          clear hi0
          go_wp2_with fail
          go_quiet (fail)
          go_wp2_with fail
          refine ⟨⟨i + 1, by omega, rfl, ?_, HI2, HB2.out.trans (below_drewN (Below.refl _ _) _), HKN2.out.kept (below_drewN (Below.refl _ _) _)⟩, by simp [intOf]; omega⟩
          rw [HNXT.out]
          exact HW.out
        · obtain ⟨j, rfl⟩ : ∃ j, i = j + 1 := ⟨i - 1, by omega⟩
          have cp := HPREV2.out hi0
          simp only [Nat.add_sub_cancel] at cp
          have dp : decide ((0 : Int) < ((j + 1 : Nat) : Int)) = true := decide_eq_true (by omega)
          clear hi0
          by_cases hle : (xn : Int) ≤ lst
          · have dl : decide ((xn : Int) ≤ lst) = true := decide_eq_true hle
            have HF : Hid (rEqu n l = ([], 5)) := hide (by rw [HR2.out, HST2.out.1 hle]; rfl)
            clear hle
            go_wp2_with fail
            go_quiet (fail)
            go_wp2_with fail
            go_ret2
            exact eqPost_none HF.out (by decide) (HB2.out.trans (below_drewN (Below.refl _ _) _))
          · have dl : decide ((xn : Int) ≤ lst) = false := decide_eq_false hle
            have HI2 := hide (HST2.out.2 (by omega))
            clear hle
            go_wp2_with fail
            go_quiet (fail)
            go_wp2_with fail
            refine ⟨⟨j + 1 + 1, by omega, rfl, ?_, HI2, HB2.out.trans (below_drewN (Below.refl _ _) _), HKN2.out.kept (below_drewN (Below.refl _ _) _)⟩, by simp [intOf]; omega⟩
            rw [HNXT.out]
            exact HW.out
    · have hie : i = ln := by omega
      have hord := HI.out.ord
      have hsm := HI.out.small hT5
      rw [List.drop_of_length_le (by rw [hie, HL.out.1]; exact Nat.le_refl _)] at hord
      have HR3 : Hid (rEqu n l = if (rEq n.ts sn (setK l i)).2 = true then ((rEq n.ts sn (setK l i)).1, 0) else ([], 4)) := hide (by
        rw [HR2.out, if_neg (by rw [← hord]; simp [ordOk]), HH.out.hsn, hie])
      have HEQ := hide (refEq_any n (setK l i) sa ta sn sc tn tc wr (HH.out.below HB.out) hN11 hT5 hsm)
      clear hord hsm hie HI HR2
      generalize setK l i = sk at *
      generalize rEq n.ts sn sk = R at *
      go_wp2_with fail
      refine HEQ.out.mono ?_
      rintro e W5 ⟨v, rfl, hv, hb5⟩
      have hB := HB.out.trans (hb5.mono HB.out.size)
      obtain ⟨ro, rb⟩ := R
      dsimp only at hv HR3 ⊢
      cases rb with
      | false =>
        have HF : Hid (rEqu n l = ([], 4)) := hide (by rw [HR3.out]; rfl)
        clear hv HR3
        go_wp2_with fail
        go_ret2
        exact eqPost_none HF.out (by decide) hB
      | true =>
        obtain ⟨gg, rfl, hg, hkg⟩ := hv rfl
        have HF : Hid (rEqu n l = (ro, 0)) := hide (by rw [HR3.out]; rfl)
        have hs := HB.out.size
        clear hv HR3
        go_wp2_with fail
        go_ret2
        exact eqPost_some HF.out (by omega) hkg hB

end Go.Proofs.Ytlbhnicengolfaa
