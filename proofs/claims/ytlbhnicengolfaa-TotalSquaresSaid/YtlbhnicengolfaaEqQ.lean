/-
  The reference of total: Equation. Equations of groups: the program's and the reference's are the same (plain). The reference of total: Verify. TotalEquations: the walk.
-/
import Derived.Test.YtlbhnicengolfaaRefL
import Derived.Test.YtlbhnicengolfaaRootsW
import Derived.Test.YtlbhnicengolfaaRefB
/-! ## RefQ: The reference of total: Equation. -/
namespace Go.Proofs.Ytlbhnicengolfaa
open Go.RowKit
set_option linter.unusedVariables false
set_option linter.unusedSimpArgs false

theorem is_below (n lo hi : Int) (w : World) : Calls Try.prog 46 #[.int .i64 n, .int .i64 lo, .int .i64 hi] w fun e w' => e = .returned (.bool (decide (lo ≤ n) && decide (n ≤ hi))) ∧ Below w.heap.size w w' :=
  (is_any n lo hi w).mono (by rintro e w' ⟨h1, rfl⟩; exact ⟨h1, Below.refl _ _⟩)
/-- The set of the first k triangles of a list. -/
def setK (l : List Int) : Nat → Nat
  | 0 => 0
  | k + 1 => setK l k + 2 ^ (l.getD k 0).toNat
/-- What the reference's Equation returns. -/
def rEqu (n : TNet) (l : List Int) : List Int × Int :=
  if checkT n ≠ 0 then ([], checkT n) else if l.length = 0 then ([], 2) else if ordOk n.ts.length (-1) l ≠ 0 then ([], ordOk n.ts.length (-1) l) else
  if (rEq n.ts n.sp.length (setK l l.length)).2 = true then ((rEq n.ts n.sp.length (setK l l.length)).1, 0) else ([], 4)
def lastK (l : List Int) (i : Nat) : Int := if i = 0 then -1 else l.getD (i - 1) 0
theorem shl_is : ∀ x : Fin 5, wrap64 (2 ^ (x : Nat)) = ((2 ^ (x : Nat) : Nat) : Int) := by decide +kernel
theorem wsum (a b : Nat) (ha : a < 32) (hb : 2 ^ b ≤ 16) : Value.int IntKind.i64 (wrap64 ((a : Int) + 2 ^ b)) = .int .i64 ((a + 2 ^ b : Nat) : Int) := by
  have e : ((a : Int) + 2 ^ b) = ((a + 2 ^ b : Nat) : Int) := by push_cast; rfl
  rw [e]
  generalize 2 ^ b = c at *
  rw [IntWalk.wrap64_in ((a + c : Nat) : Int) (by omega)]
/-- While Equation looks at its list. -/
structure EqI (T : Nat) (l : List Int) (i : Nat) : Prop where
  ord : ordOk (T : Int) (lastK l i) (l.drop i) = ordOk (T : Int) (-1) l
  lo : -1 ≤ lastK l i
  hi : lastK l i < (T : Int)
  st : setK l i < 2 ^ (lastK l i + 1).toNat
theorem EqI.start {T : Nat} {l : List Int} : EqI T l 0 := ⟨by simp [lastK], by simp [lastK], by simp [lastK]; omega, by simp [lastK, setK]⟩
theorem EqI.step {T : Nat} {l : List Int} {i : Nat} (h : EqI T l i) (hi : i < l.length) : (l.getD i 0 < 0 ∨ (T : Int) ≤ l.getD i 0 → ordOk (T : Int) (-1) l = 6) ∧
    (0 ≤ l.getD i 0 → l.getD i 0 < (T : Int) → (l.getD i 0 ≤ lastK l i → ordOk (T : Int) (-1) l = 5) ∧ (lastK l i < l.getD i 0 → EqI T l (i + 1))) := by
  have e : l.drop i = l.getD i 0 :: l.drop (i + 1) := by rw [List.drop_eq_getElem_cons hi]; simp [List.getD, hi]
  have ho := h.ord
  rw [e, ordOk_cons] at ho
  have hl : lastK l (i + 1) = l.getD i 0 := by unfold lastK; rw [if_neg (by omega), Nat.add_sub_cancel]
  refine ⟨fun hx => by rw [← ho, if_pos hx], fun h0 h1 => ⟨fun h2 => by rw [← ho, if_neg (by omega), if_pos h2], fun h2 => ?_⟩⟩
  rw [if_neg (by omega), if_neg (by omega)] at ho
  refine ⟨by rw [hl]; exact ho, by rw [hl]; omega, by rw [hl]; exact h1, ?_⟩
  rw [hl]
  have hs := h.st
  have e1 : setK l (i + 1) = setK l i + 2 ^ (l.getD i 0).toNat := rfl
  have e2 : (l.getD i 0 + 1).toNat = (l.getD i 0).toNat + 1 := by omega
  have hle : 2 ^ (lastK l i + 1).toNat ≤ 2 ^ (l.getD i 0).toNat := Nat.pow_le_pow_right (by omega) (by omega)
  rw [e1, e2, Nat.pow_succ]
  omega
theorem EqI.small {T : Nat} {l : List Int} {i : Nat} (h : EqI T l i) (hT : T ≤ 5) : setK l i < 32 := by
  have := h.st
  have h1 := h.hi
  have : 2 ^ (lastK l i + 1).toNat ≤ 2 ^ 5 := Nat.pow_le_pow_right (by omega) (by omega)
  omega

set_option maxRecDepth 100000 in
set_option maxHeartbeats 8000000 in
theorem refEqu_any (n : TNet) (l : List Int) (sa ta la : Option Addr) (sn sc tn tc ln lc : Nat) (w : World) (h : NetIn n sa ta sn tn tc w) (hln : ln = l.length) (hl : ln ≤ 1000000000) (hrl : Row w w.heap.size la (ints l)) :
    Calls Try.prog 23 #[netV sa ta sn sc tn tc, .slice la ln lc] w fun e w' => eqPost (rEqu n l) sn w e w' := by
  have HH := hide h
  have HL := hide (And.intro hln hrl)
  have HR : Hid (rEqu n l = if checkT n ≠ 0 then ([], checkT n) else if l.length = 0 then ([], 2) else if ordOk n.ts.length (-1) l ≠ 0 then ([], ordOk n.ts.length (-1) l) else if (rEq n.ts n.sp.length (setK l l.length)).2 = true then ((rEq n.ts n.sp.length (setK l l.length)).1, 0) else ([], 4)) := hide rfl
  have hb1 : Below w.heap.size w (w.alloc (.cells #[.slice sa sn sc, .slice ta tn tc] 35)) := (Below.refl _ _).alloc (Nat.le_refl _) _
  have kn := Blk.new w #[.slice sa sn sc, .slice ta tn tc] 35
  have HCK := hide (refCheck_any n sa ta sn sc tn tc _ (h.below hb1))
  rw [rCheck_eq] at HCK
  have HN : Hid (checkT n = 0 → NOk n) := hide nok_of_check
  clear h hln hrl
  generalize hC : checkT n = C at *
  clear hC
  go_enter Try.func23, Try.ntmps23
  obtain ⟨n0, n1, _⟩ := kn.two
  have ln0 := kn.lt
  go_wp2_with fail
  refine HCK.out.mono ?_
  rintro e W2 ⟨rfl, hb2⟩
  have kn2 := kn.kept hb2
  have hB2 := hb1.trans (hb2.mono hb1.size)
  clear hb1 hb2 HCK kn n0 n1 ln0
  by_cases h0 : C = 0
  rotate_left
  · have HF : Hid (rEqu n l = ([], C)) := hide (by rw [HR.out, if_pos h0])
    have HC := hide h0
    have d0 : (C != 0) = true := by rw [bne_iff_ne]; exact h0
    clear h0
    go_wp2_with fail
    go_ret2
    exact eqPost_none HF.out HC.out hB2
  have HNO := hide (HN.out h0)
  have d0 : (C != 0) = false := by rw [h0]; rfl
  have HR1 : Hid (rEqu n l = if l.length = 0 then ([], 2) else if ordOk n.ts.length (-1) l ≠ 0 then ([], ordOk n.ts.length (-1) l) else if (rEq n.ts n.sp.length (setK l l.length)).2 = true then ((rEq n.ts n.sp.length (setK l l.length)).1, 0) else ([], 4)) := hide (by rw [HR.out, if_neg (by rw [h0]; simp)])
  clear h0 HN HR
  have hT5 : tn ≤ 5 := by have := HH.out.htn; have := HNO.out.l3; omega
  have hN11 : sn ≤ 11 := by have := HH.out.hsn; have := HNO.out.l2; omega
  by_cases hl0 : ln = 0
  · have HF : Hid (rEqu n l = ([], 2)) := hide (by rw [HR1.out, if_pos (by rw [← HL.out.1]; exact hl0)])
    have d1 : ((ln : Int) == 0) = true := by simp [hl0]
    clear hl0
    go_wp2_with fail
    go_ret2
    exact eqPost_none HF.out (by decide) hB2
  have d1 : ((ln : Int) == 0) = false := beq_eq_false_iff_ne.2 (by omega)
  have HR2 : Hid (rEqu n l = if ordOk tn (-1) l ≠ 0 then ([], ordOk tn (-1) l) else if (rEq n.ts n.sp.length (setK l ln)).2 = true then ((rEq n.ts n.sp.length (setK l ln)).1, 0) else ([], 4)) := hide (by rw [HR1.out, if_neg (by rw [← HL.out.1]; exact hl0), HH.out.htn, HL.out.1])
  clear HR1
  go_wp2_with fail
  clear d0 d1
  go_loopw [7, 8] (fun st ix wr => ∃ i : Nat, i ≤ ln ∧ ix = .int .i64 (i : Int) ∧ st = .int .i64 ((setK l i : Nat) : Int) ∧ Hid (EqI tn l i) ∧ Below w.heap.size w wr ∧ Blk wr w.heap.size #[.slice sa sn sc, .slice ta tn tc] 35) (fun _ ix _ => ln - (intOf ix).toNat)
  case atStart => exact ⟨0, Nat.zero_le _, rfl, rfl, hide EqI.start, hB2, kn2⟩
  case round =>
    clear hB2 kn2
    obtain ⟨i, hi, rfl, rfl, HI, hB, kn⟩ := hrel
    have HB := hide hB
    have HKN := hide kn
    obtain ⟨n0, n1, _⟩ := kn.two
    have ln0 := kn.lt
    clear kn hB
    by_cases hlt : i < ln
    · obtain ⟨g, off, hla, hgb, hgc⟩ := (HL.out.2.below HB.out (Nat.le_refl _)).int (by have := HL.out.1; omega)
      have c0 := hgc i (by have := HL.out.1; omega)
      have hprev : i ≠ 0 → wr.cell? ⟨g, off + (i - 1), none⟩ = some (.int .i64 (lastK l i)) := fun h => by
        have := hgc (i - 1) (by have := HL.out.1; omega)
        unfold lastK
        rw [if_neg h]
        exact this
      have HPREV := hide hprev
      have hst := HI.out.step (by have := HL.out.1; omega)
      have hsm := HI.out.small hT5
      have hlo := HI.out.lo
      have HNXT : Hid (setK l (i + 1) = setK l i + 2 ^ (l.getD i 0).toNat) := hide rfl
      have hgl : g < wr.heap.size := by omega
      clear hgc hprev
      subst hla
      unfold iat at c0
      have HL0 : Hid (i = 0 → lastK l i = -1) := hide (fun h => by unfold lastK; rw [if_pos h])
      generalize l.getD i 0 = x at *
      generalize lastK l i = lst at *
      have HST := hide hst
      clear hst
      have HIS := hide (fun X : Ext wr => Ext.call (is_below x 0 ((tn : Int) - 1) X.w))
      have il : (i : Int) < ln := by omega
      have w1 : IntKind.i64.wrap ((tn : Int) - 1) = (tn : Int) - 1 := IntWalk.i64_in _ (by omega)
      have hX := @Ext.cell wr
      by_cases hin : x < 0 ∨ (tn : Int) ≤ x
      · have HV : (decide (0 ≤ x) && decide (x ≤ (tn : Int) - 1)) = false := by
          rcases hin with h | h
          · rw [decide_eq_false (by omega)]; rfl
          · rw [decide_eq_false (by omega : ¬ x ≤ (tn : Int) - 1)]; exact Bool.and_false _
        have HF : Hid (rEqu n l = ([], 6)) := hide (by rw [HR2.out, HST.out.1 hin]; rfl)
        rw [HV] at HIS
        clear HV hin
        go_wp2_with fail
        refine wp_region_all (Ext.w (W := wr)) (by kernel_rfl) (by kernel_rfl) (Ext.start wr) ?_
        repeat (first | go_big_quiet_skip | quiet_step (first | (go_at_call 46; with_reducible exact HIS.out _)))
        refine wpQuiet_nil ?_
        intro X
        have hB := HB.out.trans (X.below.mono HB.out.size)
        go_wp2_with fail
        go_ret2
        exact eqPost_none HF.out (by decide) hB
      · have HV : (decide (0 ≤ x) && decide (x ≤ (tn : Int) - 1)) = true := by
          rw [decide_eq_true (by omega : 0 ≤ x), decide_eq_true (by omega : x ≤ (tn : Int) - 1)]; rfl
        rw [HV] at HIS
        have hx0 : 0 ≤ x := by omega
        have hx1 : x < (tn : Int) := by omega
        have HST2 := hide (HST.out.2 hx0 hx1)
        obtain ⟨xn, rfl⟩ : ∃ xn : Nat, x = (xn : Int) := ⟨x.toNat, by omega⟩
        rw [Int.toNat_natCast] at HNXT
        have hsh := shl_is ⟨xn, by omega⟩
        dsimp only at hsh
        have hpw : 2 ^ xn ≤ 16 := by
          have : (2 : Nat) ^ xn ≤ 2 ^ 4 := Nat.pow_le_pow_right (by omega) (by omega)
          omega
        clear HV hin HST
        go_wp2_with fail
        refine wp_region_all (Ext.w (W := wr)) (by kernel_rfl) (by kernel_rfl) (Ext.start wr) ?_
        repeat (first | go_big_quiet_skip | quiet_step (first | (go_at_call 46; with_reducible exact HIS.out _)))
        refine wpQuiet_nil ?_
        intro X
        have HB2 := hide (HB.out.trans (X.below.mono HB.out.size))
        have HKN2 := hide (HKN.out.kept X.below)
        have c1 : X.w.cell? ⟨g, off + i, none⟩ = some (.int .i64 (xn : Int)) := (X.below.cell (p := ⟨g, off + i, none⟩) hgl).trans c0
        have hg2 : g < X.w.heap.size := by have := X.below.size; omega
        have HPREV2 : Hid (i ≠ 0 → X.w.cell? ⟨g, off + (i - 1), none⟩ = some (.int .i64 lst)) := hide (fun h => (X.below.cell (p := ⟨g, off + (i - 1), none⟩) hgl).trans (HPREV.out h))
        have hXX := HIS
        clear n0 n1 ln0 c0 hX hgl HIS hXX
        generalize X.w = V2 at *
        generalize setK l i = sk at *
        have HW : Hid (Value.int IntKind.i64 (wrap64 ((sk : Int) + 2 ^ xn)) = .int .i64 ((sk + 2 ^ xn : Nat) : Int)) := hide (wsum sk xn hsm hpw)
        by_cases hi0 : i = 0
        · have hl1 := HL0.out hi0
          have dp : decide ((0 : Int) < (i : Int)) = false := decide_eq_false (by omega)
          have dp' : decide (0 < i) = false := decide_eq_false (by omega)
          have HI2 := hide (HST2.out.2 (by omega))
          clear hi0
          go_wp2_with fail
          go_quiet (fail)
          go_wp2_with fail
          refine ⟨⟨i + 1, by omega, rfl, ?_, HI2, HB2.out.trans (below_drewN (Below.refl _ _) _), HKN2.out.kept (below_drewN (Below.refl _ _) _)⟩, by simp [intOf]; omega⟩
          rw [HNXT.out]
          exact HW.out
        · obtain ⟨j, rfl⟩ : ∃ j, i = j + 1 := ⟨i - 1, by omega⟩
          have cp := HPREV2.out hi0
          simp only [Nat.add_sub_cancel] at cp
          have dp : decide ((0 : Int) < ((j + 1 : Nat) : Int)) = true := decide_eq_true (by omega)
          clear hi0
          by_cases hle : (xn : Int) ≤ lst
          · have dl : decide ((xn : Int) ≤ lst) = true := decide_eq_true hle
            have HF : Hid (rEqu n l = ([], 5)) := hide (by rw [HR2.out, HST2.out.1 hle]; rfl)
            clear hle
            go_wp2_with fail
            go_quiet (fail)
            go_wp2_with fail
            go_ret2
            exact eqPost_none HF.out (by decide) (HB2.out.trans (below_drewN (Below.refl _ _) _))
          · have dl : decide ((xn : Int) ≤ lst) = false := decide_eq_false hle
            have HI2 := hide (HST2.out.2 (by omega))
            clear hle
            go_wp2_with fail
            go_quiet (fail)
            go_wp2_with fail
            refine ⟨⟨j + 1 + 1, by omega, rfl, ?_, HI2, HB2.out.trans (below_drewN (Below.refl _ _) _), HKN2.out.kept (below_drewN (Below.refl _ _) _)⟩, by simp [intOf]; omega⟩
            rw [HNXT.out]
            exact HW.out
    · have hie : i = ln := by omega
      have hord := HI.out.ord
      have hsm := HI.out.small hT5
      rw [List.drop_of_length_le (by rw [hie, HL.out.1]; exact Nat.le_refl _)] at hord
      have HR3 : Hid (rEqu n l = if (rEq n.ts sn (setK l i)).2 = true then ((rEq n.ts sn (setK l i)).1, 0) else ([], 4)) := hide (by
        rw [HR2.out, if_neg (by rw [← hord]; simp [ordOk]), HH.out.hsn, hie])
      have HEQ := hide (refEq_any n (setK l i) sa ta sn sc tn tc wr (HH.out.below HB.out) hN11 hT5 hsm)
      clear hord hsm hie HI HR2
      generalize setK l i = sk at *
      generalize rEq n.ts sn sk = R at *
      go_wp2_with fail
      refine HEQ.out.mono ?_
      rintro e W5 ⟨v, rfl, hv, hb5⟩
      have hB := HB.out.trans (hb5.mono HB.out.size)
      obtain ⟨ro, rb⟩ := R
      dsimp only at hv HR3 ⊢
      cases rb with
      | false =>
        have HF : Hid (rEqu n l = ([], 4)) := hide (by rw [HR3.out]; rfl)
        clear hv HR3
        go_wp2_with fail
        go_ret2
        exact eqPost_none HF.out (by decide) hB
      | true =>
        obtain ⟨gg, rfl, hg, hkg⟩ := hv rfl
        have HF : Hid (rEqu n l = (ro, 0)) := hide (by rw [HR3.out]; rfl)
        have hs := HB.out.size
        clear hv HR3
        go_wp2_with fail
        go_ret2
        exact eqPost_some HF.out (by omega) hkg hB

end Go.Proofs.Ytlbhnicengolfaa

/-! ## EqL: Equations of groups: the program's and the reference's are the same (plain). The reference of total: Verify. TotalEquations: the walk. -/
/-! ## EqT: Equations of groups: the program's and the reference's are the same (plain). -/
namespace Go.Proofs.Ytlbhnicengolfaa
open Go.RowKit
set_option linter.unusedVariables false
set_option linter.unusedSimpArgs false

theorem bitsK_congr {a b : Nat} : ∀ k, (∀ j, j < k → a.testBit j = b.testBit j) → bitsK a k = bitsK b k
  | 0, _ => rfl
  | k + 1, h => by
    have ih := bitsK_congr k fun j hj => h j (by omega)
    have e := h k (by omega)
    cases hb : b.testBit k with
    | true => rw [bitsK_yes hb, bitsK_yes (e.trans hb), ih]
    | false => rw [bitsK_no hb, bitsK_no (e.trans hb), ih]
theorem bitsK_stop {a m : Nat} (h : a < 2 ^ m) : ∀ k, m ≤ k → bitsK a k = bitsK a m
  | 0, hk => by obtain rfl : m = 0 := by omega
                rfl
  | k + 1, hk => by
    by_cases e : m = k + 1
    · rw [e]
    · rw [bitsK_no (Nat.testBit_lt_two_pow (Nat.lt_of_lt_of_le h (Nat.pow_le_pow_right (by omega) (by omega)))), bitsK_stop h k (by omega)]
theorem bitsK_all (k : Nat) : bitsK 0 k = [] := by
  rw [bitsK_stop (m := 0) (by decide) k (by omega)]; rfl
theorem take_bits {T : Nat} {l : List Int} (ho : ordOk (T : Int) (-1) l = 0) : ∀ i, i ≤ l.length → EqI T l i ∧ bitsK (setK l i) (lastK l i + 1).toNat = l.take i
  | 0, _ => ⟨.start, by simp [setK, lastK, bitsK]⟩
  | i + 1, hi => by
    obtain ⟨h, ih⟩ := take_bits ho i (by omega)
    obtain ⟨s1, s2⟩ := h.step (by omega)
    have hx : 0 ≤ l.getD i 0 ∧ l.getD i 0 < (T : Int) := Classical.byContradiction fun hn => by
      have := s1 (by omega)
      omega
    obtain ⟨s3, s4⟩ := s2 hx.1 hx.2
    have hlt : lastK l i < l.getD i 0 := Classical.byContradiction fun hn => by
      have := s3 (by omega)
      omega
    refine ⟨s4 hlt, ?_⟩
    have hl : lastK l (i + 1) = l.getD i 0 := by unfold lastK; rw [if_neg (by omega), Nat.add_sub_cancel]
    have e1 : setK l (i + 1) = setK l i + 2 ^ (l.getD i 0).toNat := rfl
    have htk : l.take (i + 1) = l.take i ++ [l.getD i 0] := by
      rw [List.take_add_one, List.getElem?_eq_getElem (by omega)]
      simp [List.getD, (by omega : i < l.length)]
    rw [hl, e1, htk, ← ih]
    have hst := h.st
    have hlo := h.lo
    generalize l.getD i 0 = x at *
    generalize setK l i = a at *
    generalize lastK l i = y at *
    obtain ⟨xn, rfl⟩ : ∃ xn : Nat, x = (xn : Int) := ⟨x.toNat, by omega⟩
    have e2 : ((xn : Int) + 1).toNat = xn + 1 := by omega
    rw [e2, Int.toNat_natCast]
    have hax : a < 2 ^ xn := Nat.lt_of_lt_of_le hst (Nat.pow_le_pow_right (by omega) (by omega))
    have hb : (a + 2 ^ xn).testBit xn = true := by
      rw [Nat.add_comm, Nat.testBit_two_pow_add_eq, Nat.testBit_lt_two_pow hax]; rfl
    rw [bitsK_yes hb, bitsK_congr xn (b := a) fun j hj => by rw [Nat.add_comm, Nat.testBit_two_pow_add_gt hj], bitsK_stop hst xn (by omega)]
theorem ord_bits {T : Nat} {l : List Int} (ho : ordOk (T : Int) (-1) l = 0) : l = bitsK (setK l l.length) T ∧ setK l l.length < 2 ^ T := by
  obtain ⟨h, e⟩ := take_bits ho l.length (Nat.le_refl _)
  have h1 := h.hi
  have h2 := h.st
  have hp : setK l l.length < 2 ^ T := Nat.lt_of_lt_of_le h2 (Nat.pow_le_pow_right (by omega) (by omega))
  refine ⟨?_, hp⟩
  rw [bitsK_stop h2 T (by omega), e, List.take_length]
theorem bits_lok {ts : List Tri} (hf : FPs ts) (m : Nat) : LOk ts (bitsK m ts.length) := ⟨hf, fun x hx => by obtain ⟨k, h1, _, rfl⟩ := mem_bitsK.1 hx; omega, bitsK_nd m _⟩
theorem nok_lok {n : TNet} (h : NOk n) (m : Nat) : LOk n.ts (bitsK m n.ts.length) := bits_lok (fps_of (nok_frst h)) m
/-- What group returns has 1, -1 and 0 alone. -/
theorem grp_ones {n : TNet} (h : NOk n) {m : Nat} (hl : (bitsK m n.ts.length).length ≠ 0) (hg : (grpR n.ts (bitsK m n.ts.length) n.sp.length).2 = true) :
    (grpR n.ts (bitsK m n.ts.length) n.sp.length).1.length = n.sp.length ∧ (∀ q, q < n.sp.length → (grpR n.ts (bitsK m n.ts.length) n.sp.length).1.getD q 0 = 1 ∨ (grpR n.ts (bitsK m n.ts.length) n.sp.length).1.getD q 0 = -1 ∨ (grpR n.ts (bitsK m n.ts.length) n.sp.length).1.getD q 0 = 0) ∧ nzIdx (grpS n.ts (bitsK m n.ts.length) n.sp.length).out < n.sp.length := by
  have hlo := nok_lok h m
  have hl2 := h.l2
  have hl3 := h.l3
  have hlen := bitsK_len m n.ts.length
  refine ⟨grpR_len _ _ _ hl hg, ?_⟩
  unfold grpR at hg ⊢
  by_cases hy : (grpS n.ts (bitsK m n.ts.length) n.sp.length).good = true ∧ (grpS n.ts (bitsK m n.ts.length) n.sp.length).left = 0
  · obtain ⟨hT, hL⟩ := (grp_yes hlo hl (nok_in h)).1 hy
    obtain ⟨s, hs⟩ := grp_is hlo hl (N := n.sp.length) (by omega) (by omega) (nok_in h) hT hL
    refine ⟨fun q hq => ?_, hs.nz⟩
    have h1 := hs.one q hq
    rw [← hs.out q hq] at h1
    have hlx := hs.len
    rw [if_pos hy]
    generalize (grpS n.ts (bitsK m n.ts.length) n.sp.length).out = xs at *
    split
    · dsimp only
      rw [List.getD_eq_getElem?_getD, List.getElem?_map]
      rw [List.getD_eq_getElem?_getD] at h1
      rw [List.getElem?_eq_getElem (by omega : q < xs.length)] at h1 ⊢
      simp only [Option.map_some, Option.getD_some] at h1 ⊢
      unfold negW
      rw [IntWalk.wrap64_in _ (by omega)]
      omega
    · exact h1
  · rw [if_neg hy] at hg
    cases hg

theorem nz_ok (n : TNet) (l : List Int) : NzOk n l := fun hc hl ho hg => by
  have hn := nok_of_check hc
  have hb := (ord_bits ho).1
  rw [hb] at hg hl ⊢
  exact (grp_ones hn hl hg).2.2
theorem bits_ne {m T : Nat} (h1 : 1 ≤ m) (h2 : m < 2 ^ T) : (bitsK m T).length ≠ 0 := fun h => by
  have h0 : bitsK m T = [] := List.length_eq_zero_iff.1 h
  have : m = 0 := Nat.eq_of_testBit_eq fun k => by
    rw [Nat.zero_testBit]
    cases hb : m.testBit k with
    | false => rfl
    | true =>
      have hk : k < T := Classical.byContradiction fun hk => by
        rw [Nat.testBit_lt_two_pow (Nat.lt_of_lt_of_le h2 (Nat.pow_le_pow_right (by omega) (by omega)))] at hb
        cases hb
      have : (k : Int) ∈ bitsK m T := mem_bitsK.2 ⟨k, hk, hb, rfl⟩
      rw [h0] at this
      cases this
  omega
theorem nz_all {n : TNet} (h : NOk n) : NzAll n := fun m h1 h2 hg => by
  have : 0 < 2 ^ n.ts.length := Nat.two_pow_pos _
  exact (grp_ones h (bits_ne h1 (by omega)) hg).2.2
theorem sqs_at {sp : List Sp} {k : Nat} (hk : k < sp.length) : (sqs sp).getD k (0, 0) = (los sp k * los sp k, his sp k * his sp k) := by
  rw [List.getD_eq_getElem?_getD, List.getElem?_eq_getElem (by rw [sqs_len]; exact hk), Option.getD_some]
  unfold sqs
  rw [List.getElem_map, span_eq hk]
  rfl
theorem reK_brk {sp : List Sp} {cs : List Int} (h1 : ∀ q, q < sp.length → cs.getD q 0 = 1 ∨ cs.getD q 0 = -1 ∨ cs.getD q 0 = 0) : ∀ k, k ≤ sp.length → reK sp cs (-1) k = brkL cs (sqs sp) k
  | 0, _ => rfl
  | k + 1, hk => by
    have ih := reK_brk h1 k (by omega)
    have h := h1 k (by omega)
    rw [brkL_snoc, ← ih, sqs_at (by omega)]
    show reS sp cs (-1) _ k = _
    unfold reS brkS
    generalize cs.getD k 0 = c at *
    rcases h with e | e | e
    · rw [if_pos ⟨by omega, by omega⟩, if_pos e]
    · rw [if_neg (by omega), if_pos ⟨by omega, by omega⟩, if_neg (by omega), if_pos e]
    · rw [if_neg (by omega), if_neg (by omega), if_neg (by omega), if_neg (by omega)]
theorem rEqu_is (n : TNet) (l : List Int) : rEqu n l = eqR n l := by
  unfold rEqu eqR
  by_cases hc : checkT n = 0
  · have hn := nok_of_check hc
    rw [if_neg (Decidable.not_not.2 hc), if_neg (Decidable.not_not.2 hc)]
    by_cases hl : l.length = 0
    · rw [if_pos hl, if_pos hl]
    · rw [if_neg hl, if_neg hl]
      by_cases ho : ordOk n.ts.length (-1) l = 0
      · rw [if_neg (Decidable.not_not.2 ho), if_neg (Decidable.not_not.2 ho)]
        obtain ⟨hb, hlt⟩ := ord_bits ho
        have hlo := nok_lok hn (setK l l.length)
        rw [← hb] at hlo
        have := hn.l2
        have := hn.l3
        have hll := bitsK_len (setK l l.length) n.ts.length
        rw [← hb] at hll
        rw [rEq_is hb hlo hl (fun k hk => Classical.byContradiction fun hx => by
          rw [Nat.testBit_lt_two_pow (Nat.lt_of_lt_of_le hlt (Nat.pow_le_pow_right (by omega) (by omega)))] at hk
          cases hk) (nok_in hn) (by omega) (by omega)]
      · rw [if_pos ho, if_pos ho]
  · rw [if_pos hc, if_pos hc]
theorem eqR_ones {n : TNet} {l : List Int} (h : (eqR n l).2 = 0) : ∀ q, q < n.sp.length → (eqR n l).1.getD q 0 = 1 ∨ (eqR n l).1.getD q 0 = -1 ∨ (eqR n l).1.getD q 0 = 0 := by
  unfold eqR at *
  by_cases h1 : checkT n = 0
  · rw [if_neg (by simpa using h1)] at *
    by_cases h2 : l.length = 0
    · rw [if_pos h2] at h; cases h
    · rw [if_neg h2] at *
      by_cases h3 : ordOk n.ts.length (-1) l = 0
      · rw [if_neg (by simpa using h3)] at *
        by_cases h4 : (grpR n.ts l n.sp.length).2 = true
        · rw [if_pos h4] at *
          have hb := (ord_bits h3).1
          rw [hb] at h2 h4 ⊢
          exact (grp_ones (nok_of_check h1) h2 h4).2.1
        · rw [if_neg h4] at h; cases h
      · rw [if_pos h3] at h; exact absurd h h3
  · rw [if_pos h1] at h; exact absurd h h1
/-- What the reference's Verify returns. -/
def rVer (n : TNet) (l : List Int) : Int := if (eqR n l).2 ≠ 0 then (eqR n l).2 else if (reK n.sp (eqR n l).1 (-1) n.sp.length).1 ≤ 0 ∧ 0 ≤ (reK n.sp (eqR n l).1 (-1) n.sp.length).2 then 12 else 0
theorem rVer_is (n : TNet) (l : List Int) : rVer n l = verR n l := by
  unfold rVer verR
  by_cases h : (eqR n l).2 = 0
  · rw [if_neg (Decidable.not_not.2 h), if_neg (Decidable.not_not.2 h), reK_brk (eqR_ones h) _ (Nat.le_refl _)]
    unfold brkR
    generalize brkL (eqR n l).1 (sqs n.sp) n.sp.length = b
    by_cases hb : b.1 ≤ 0 ∧ 0 ≤ b.2
    · rw [if_pos hb, if_pos (by rw [decide_eq_false (by omega), decide_eq_false (by omega)]; rfl)]
    · rw [if_neg hb, if_neg]
      intro hx
      rw [Bool.or_eq_false_iff, decide_eq_false_iff_not, decide_eq_false_iff_not] at hx
      omega
  · rw [if_pos h, if_pos h]

end Go.Proofs.Ytlbhnicengolfaa

/-! ## RefW: The reference of total: Verify. -/
namespace Go.Proofs.Ytlbhnicengolfaa
open Go.RowKit
set_option linter.unusedVariables false
set_option linter.unusedSimpArgs false

theorem refEqu_is (n : TNet) (l : List Int) (sa ta la : Option Addr) (sn sc tn tc ln lc : Nat) (w : World) (h : NetIn n sa ta sn tn tc w) (hln : ln = l.length) (hl : ln ≤ 1000000000) (hrl : Row w w.heap.size la (ints l)) :
    Calls Try.prog 23 #[netV sa ta sn sc tn tc, .slice la ln lc] w fun e w' => eqPost (eqR n l) sn w e w' := by
  rw [← rEqu_is]
  exact refEqu_any n l sa ta la sn sc tn tc ln lc w h hln hl hrl
theorem nok_spw {n : TNet} (h : NOk n) : SpW n.sp := fun k hk => by
  have := h.sp k hk
  omega

set_option maxRecDepth 100000 in
set_option maxHeartbeats 8000000 in
theorem refVer_any (n : TNet) (l : List Int) (sa ta la : Option Addr) (sn sc tn tc ln lc : Nat) (w : World) (h : NetIn n sa ta sn tn tc w)
    (hln : ln = l.length) (hl : ln ≤ 1000000000) (hrl : Row w w.heap.size la (ints l)) :
    Calls Try.prog 26 #[netV sa ta sn sc tn tc, .slice la ln lc] w fun e w' => e = .returned (.int .i64 (verR n l)) ∧ Below w.heap.size w w' := by
  have H := hide h
  have HR : Hid (verR n l = if (eqR n l).2 ≠ 0 then (eqR n l).2 else if (reK n.sp (eqR n l).1 (-1) n.sp.length).1 ≤ 0 ∧ 0 ≤ (reK n.sp (eqR n l).1 (-1) n.sp.length).2 then 12 else 0) := hide (rVer_is n l).symm
  have hb1 : Below w.heap.size w (w.alloc (.cells #[.slice sa sn sc, .slice ta tn tc] 35)) := (Below.refl _ _).alloc (Nat.le_refl _) _
  have kn := Blk.new w #[.slice sa sn sc, .slice ta tn tc] 35
  have HEQ := hide (refEqu_is n l sa ta la sn sc tn tc ln lc _ (h.below hb1) hln hl (hrl.below hb1 (Nat.le_refl _) |>.mono hb1.size))
  have HLEN := hide (fun h => eqR_len (n := n) (l := l) h)
  have HCK := hide (fun h => eqR_chk (n := n) (l := l) h)
  clear h hln hl hrl
  generalize eqR n l = R at *
  go_enter Try.func26, Try.ntmps26
  go_wp2_with fail
  refine HEQ.out.mono ?_
  rintro e W2 ⟨v, rfl, hv1, hv2, hb2⟩
  have kn2 := kn.kept hb2
  have hB2 := hb1.trans (hb2.mono hb1.size)
  clear hb1 HEQ kn
  obtain ⟨n0, n1, _⟩ := kn2.two
  have ln0 := kn2.lt
  by_cases h0 : R.2 = 0
  rotate_left
  · have HF : Hid (verR n l = R.2) := hide (by rw [HR.out, if_pos h0])
    have d0 : (R.2 != 0) = true := by rw [bne_iff_ne]; exact h0
    clear h0 hv1 hv2
    generalize R.2 = E at *
    go_wp2_with fail
    exact bodyPost_ret (v := .int .i64 E) (by simp [results, Try.results26, go_sem]) rfl ⟨by rw [HF.out], hB2⟩
  obtain ⟨g, rfl, hgs, hbk⟩ := hv1 h0
  have hg2 := hbk.lt
  have hlen := HLEN.out h0
  have hn := nok_of_check (HCK.out h0)
  have hsn := (H.out.below hB2).hsn
  have hs11 : sn ≤ 11 := by have := hn.l2; omega
  have HRE := hide (reach_any n R.1 (-1) sa (some ⟨g, 0, none⟩) (.slice ta tn tc) sn sc sn W2 hsn hs11 (nok_spw hn) (H.out.below hB2).rs (by rw [hlen]; exact hsn.symm) ((row_of_heap hbk (by rw [List.toList_toArray, List.take_length])).mono (by omega)))
  have HR1 : Hid (verR n l = if (reK n.sp R.1 (-1) sn).1 ≤ 0 ∧ 0 ≤ (reK n.sp R.1 (-1) sn).2 then 12 else 0) := hide (by rw [HR.out, if_neg (by simpa using h0), hsn])
  have d0 : (R.2 != 0) = false := by rw [h0]; rfl
  clear h0 hv1 hv2 hlen hn HLEN HCK HR hbk hsn hs11
  generalize reK n.sp R.1 (-1) sn = S at *
  obtain ⟨x, y⟩ := S
  dsimp only at HR1 HRE
  generalize R.2 = E at *
  go_wp2_with fail
  refine HRE.out.mono ?_
  rintro e W3 ⟨rfl, hb3⟩
  have hB3 := hB2.trans (hb3.mono hB2.size)
  obtain ⟨V3, hV3⟩ : ∃ V3, W3.alloc (.cells #[.int .i64 x, .int .i64 y] 53) = V3 := ⟨_, rfl⟩
  have hB4 : Below w.heap.size w V3 := by rw [← hV3]; exact hB3.alloc hB3.size _
  have k3 : Blk V3 W3.heap.size #[.int .i64 x, .int .i64 y] 53 := by rw [← hV3]; exact Blk.new _ _ _
  obtain ⟨t0, t1, _⟩ := k3.two
  have lt := k3.lt
  clear HRE k3 n0 n1 ln0
  by_cases hx : x ≤ 0
  · have d1 : decide (x ≤ 0) = true := decide_eq_true hx
    by_cases hy : 0 ≤ y
    · have d2 : decide (0 ≤ y) = true := decide_eq_true hy
      have HF : Hid (verR n l = 12) := hide (by rw [HR1.out, if_pos ⟨hx, hy⟩])
      clear hx hy
      go_wp2_with fail
      trace_state
      exact bodyPost_ret (v := .int .i64 12) (by simp [results, Try.results26, go_sem]) rfl ⟨by rw [HF.out], hB4⟩
    · have d2 : decide (0 ≤ y) = false := decide_eq_false hy
      have HF : Hid (verR n l = 0) := hide (by rw [HR1.out, if_neg (fun h => hy h.2)])
      clear hx hy
      go_wp2_with fail
      exact bodyPost_ret (v := .int .i64 0) (by simp [results, Try.results26, go_sem]) rfl ⟨by rw [HF.out], hB4⟩
  · have d1 : decide (x ≤ 0) = false := decide_eq_false hx
    have HF : Hid (verR n l = 0) := hide (by rw [HR1.out, if_neg (fun h => hx h.1)])
    clear hx
    go_wp2_with fail
    exact bodyPost_ret (v := .int .i64 0) (by simp [results, Try.results26, go_sem]) rfl ⟨by rw [HF.out], hB4⟩

end Go.Proofs.Ytlbhnicengolfaa

/-! ## EqW: TotalEquations: the walk. -/
namespace Go.Proofs.Ytlbhnicengolfaa
open Go.RowKit
set_option linter.unusedVariables false
set_option linter.unusedSimpArgs false

theorem eqR_nil {n : TNet} {l : List Int} (h : (eqR n l).2 ≠ 0) : (eqR n l).1 = [] := by
  unfold eqR at *
  split
  · rfl
  · rename_i h1
    rw [if_neg h1] at h
    split
    · rfl
    · rename_i h2
      rw [if_neg h2] at h
      split
      · rfl
      · rename_i h3
        rw [if_neg h3] at h
        split
        · rename_i h4
          rw [if_pos h4] at h
          exact absurd rfl h
        · rfl
theorem eqPost_row {n : TNet} {l : List Int} {sn : Nat} {w : World} {e : Ending} {w' : World} (hs : sn = n.sp.length) (h : eqPost (eqR n l) sn w e w') :
    ∃ a m, e = .returned (.tuple #[.slice a m m, .int .i64 (eqR n l).2]) ∧ m = (eqR n l).1.length ∧ Row w' w'.heap.size a (ints (eqR n l).1) ∧ Below w.heap.size w w' := by
  obtain ⟨v, h1, h2, h3, hb⟩ := h
  by_cases h0 : (eqR n l).2 = 0
  · obtain ⟨g, rfl, hg, hk⟩ := h2 h0
    exact ⟨_, sn, h1, by rw [eqR_len h0]; exact hs, (row_of_heap hk (by rw [List.toList_toArray, List.take_length])).mono hk.lt, hb⟩
  · have := h3 h0
    subst this
    refine ⟨none, 0, h1, by rw [eqR_nil h0]; rfl, ?_, hb⟩
    rw [eqR_nil h0]
    exact .nil _ _ _

set_option maxRecDepth 100000 in
set_option maxHeartbeats 8000000 in
theorem equations_any (n : TNet) (l : List Int) (sa ta la : Option Addr) (sn sc tn tc ln lc : Nat) (w : World) (h : NetArg n sa ta sn tn tc w)
    (hln : ln = l.length) (hrl : Row w w.heap.size la (ints l)) :
    Calls Try.prog 4 #[netV sa ta sn sc tn tc, .slice la ln lc] w fun e w' => e = .returned (.bool true) ∧ Below w.heap.size w w' := by
  have H := hide h
  have HL := hide (And.intro hln hrl)
  have HLG := hide (fun W => large_any n sa ta sn sc tn tc W)
  have hk := Blk.new w #[.slice sa sn sc, .slice ta tn tc] 25
  have hb1 : Below w.heap.size w (w.alloc (.cells #[.slice sa sn sc, .slice ta tn tc] 25)) := (Below.refl _ _).alloc (Nat.le_refl _) _
  clear h hln hrl
  go_enter Try.func4, Try.ntmps4
  by_cases hlg : (decide (40 < sn) || decide (40 < tn)) = true
  · rw [hlg] at HLG
    clear hlg
    go_wp2_with fail
    refine (HLG.out _).mono ?_
    rintro e W1 ⟨rfl, hb2⟩
    have hB := hb1.trans (hb2.mono hb1.size)
    go_wp2_with fail
    refine (works_any _).mono ?_
    rintro e W9 ⟨rfl, hb9⟩
    go_wp2_with fail
    go_ret
    exact ⟨rfl, hB.trans (hb9.mono hB.size)⟩
  have hs40 : ¬ 40 < sn := fun h => hlg (by simp [h])
  have ht40 : ¬ 40 < tn := fun h => hlg (by simp [h])
  have hlg' : (decide (40 < sn) || decide (40 < tn)) = false := by simpa using hlg
  rw [hlg'] at HLG
  have HN := hide (H.out.small hs40 ht40)
  have HT40 := hide (show tn ≤ 40 by omega)
  clear hlg hlg' hs40 ht40 H
  by_cases hl40 : 40 < ln
  · have d1 : decide ((40 : Int) < (ln : Int)) = true := decide_eq_true (by omega)
    have d2 : decide (40 < ln) = true := decide_eq_true hl40
    clear hl40
    go_wp2_with fail
    refine (HLG.out _).mono ?_
    rintro e W1 ⟨rfl, hb2⟩
    have hB := hb1.trans (hb2.mono hb1.size)
    go_wp2_with fail
    refine (works_any _).mono ?_
    rintro e W9 ⟨rfl, hb9⟩
    go_wp2_with fail
    go_ret
    exact ⟨rfl, hB.trans (hb9.mono hB.size)⟩
  have d1 : decide ((40 : Int) < (ln : Int)) = false := decide_eq_false (by omega)
  have d2 : decide (40 < ln) = false := decide_eq_false hl40
  have HL40 := hide (show ln ≤ 1000000000 by omega)
  clear hl40
  go_wp2_with fail
  refine (HLG.out _).mono ?_
  rintro e W1 ⟨rfl, hb2⟩
  have hB := hb1.trans (hb2.mono hb1.size)
  have hk1 := hk.kept hb2
  clear hb1 hb2 hk
  obtain ⟨n0, n1, _⟩ := hk1.two
  have ln0 := hk1.lt
  go_wp2_with fail
  refine (given_any n sa ta sn sc tn tc W1 (HN.out.below hB) HT40.out).mono ?_
  rintro e W2 ⟨a', tc', rfl, hn2, hb2⟩
  obtain ⟨V3, hV3⟩ : ∃ V3, W2.alloc (.cells #[.slice sa sn sc, .slice a' tn tc'] 35) = V3 := ⟨_, rfl⟩
  have hb3 : Below W2.heap.size W2 V3 := by rw [← hV3]; exact (Below.refl _ _).alloc (Nat.le_refl _) _
  have k3 : Blk V3 W2.heap.size #[.slice sa sn sc, .slice a' tn tc'] 35 := by rw [← hV3]; exact Blk.new _ _ _
  have hk2 := (hk1.kept hb2).kept hb3
  have hB2 := hB.trans (hb2.mono hB.size)
  have hB3 := hB2.trans (hb3.mono hB2.size)
  have hnr := hn2.below hb3
  clear hk1 n0 n1 ln0 hB hb2 hn2 hb3 hB2 HLG d1 d2
  obtain ⟨n0, n1, _⟩ := hk2.two
  have ln0 := hk2.lt
  obtain ⟨m0, m1, _⟩ := k3.two
  have lm0 := k3.lt
  go_wp2_with fail
  have hr3 : Row V3 V3.heap.size la (ints l) := (HL.out.2.below hB3 (Nat.le_refl _)).mono hB3.size
  refine (equation_any n l sa ta la sn sc tn tc ln lc _ (HN.out.below hB3) HL.out.1 HL40.out hr3 (nz_ok n l)).mono ?_
  rintro e W4 h4
  obtain ⟨x, m, rfl, hm, hx, hb4⟩ := eqPost_row (HN.out.below hB3).hsn h4
  have HX := hide (And.intro hm hx)
  have hk4 := hk2.kept hb4
  have k4 := k3.kept hb4
  have hB4 := hB3.trans (hb4.mono hB3.size)
  have hn4 := hnr.below hb4
  clear h4 hk2 k3 hnr hr3 n0 n1 ln0 m0 m1 lm0 hB3 hb4 hm hx hV3
  obtain ⟨n0, n1, _⟩ := hk4.two
  have ln0 := hk4.lt
  obtain ⟨m0, m1, _⟩ := k4.two
  have lm0 := k4.lt
  go_wp2_with fail
  have hr4 : Row W4 W4.heap.size la (ints l) := (HL.out.2.below hB4 (Nat.le_refl _)).mono hB4.size
  refine (refEqu_is n l sa a' la sn sc tn tc' ln lc _ hn4 HL.out.1 HL40.out hr4).mono ?_
  rintro e W5 h5
  obtain ⟨y, m', rfl, hm', hy, hb5⟩ := eqPost_row hn4.hsn h5
  have hk5 := hk4.kept hb5
  have k5 := k4.kept hb5
  have hB5 := hB4.trans (hb5.mono hB4.size)
  have hn5 := hn4.below hb5
  have hx5 : Row W5 W5.heap.size x (ints (eqR n l).1) := (HX.out.2.below hb5 (Nat.le_refl _)).mono hb5.size
  have hml : m ≤ 1000000000 := by
    rw [HX.out.1]
    by_cases h0 : (eqR n l).2 = 0
    · rw [eqR_len h0]
      have := (nok_of_check (eqR_chk h0)).l2
      omega
    · rw [eqR_nil h0]; decide
  have hmm : m = m' := HX.out.1.trans hm'.symm
  subst hmm
  have HNUM := hide (fun X : Ext W5 => Ext.call (W := W5) (numbers_any (eqR n l).1 (eqR n l).1 x y m m m m _ _ X.w HX.out.1 HX.out.1 hml hml (hx5.below X.below (Nat.le_refl _)) (hy.below X.below (Nat.le_refl _))))
  have HVER := hide (fun X : Ext W5 => Ext.call (W := W5) (verify_any n l sa ta la sn sc tn tc ln lc X.w ((HN.out.below hB5).below X.below) HL.out.1 HL40.out (((HL.out.2.below hB5 (Nat.le_refl _)).below X.below (hB5.size)).mono (Nat.le_trans hB5.size X.below.size)) (nz_ok n l)))
  have HREF := hide (fun X : Ext W5 => Ext.call (W := W5) (refVer_any n l sa a' la sn sc tn tc' ln lc X.w (hn5.below X.below) HL.out.1 HL40.out (((HL.out.2.below hB5 (Nat.le_refl _)).below X.below (hB5.size)).mono (Nat.le_trans hB5.size X.below.size))))
  have HWK := hide (fun X : Ext W5 => Ext.call (W := W5) (works_any X.w))
  rw [decide_eq_true (rfl : (eqR n l).1 = (eqR n l).1)] at HNUM
  clear h5 hk4 k4 hn4 hr4 n0 n1 ln0 m0 m1 lm0 hB4 hb5 hm' HX hx5 hy hml hn5
  obtain ⟨n0, n1, _⟩ := hk5.two
  have ln0 := hk5.lt
  obtain ⟨m0, m1, _⟩ := k5.two
  have lm0 := k5.lt
  generalize verR n l = E at *
  have dE : (E == E) = true := beq_self_eq_true E
  generalize (eqR n l).2 = E2 at *
  have dE2 : (E2 == E2) = true := beq_self_eq_true E2
  have hX := @Ext.cell W5
  clear hk5 k5
  go_wp2_with fail
  refine wp_region_all (Ext.w (W := W5)) (by kernel_rfl) (by kernel_rfl) (Ext.start W5) ?_
  repeat (first | go_big_quiet_skip | quiet_step (first | (go_at_call 24; with_reducible exact HNUM.out _) | (go_at_call 25; with_reducible exact HVER.out _) | (go_at_call 26; with_reducible exact HREF.out _) | (go_at_call 16; with_reducible exact HWK.out _)))
  refine wpQuiet_nil ?_
  intro X
  have hBf := hB5.trans (X.below.mono hB5.size)
  go_wp2_with fail
  go_ret
  exact ⟨rfl, hBf⟩

end Go.Proofs.Ytlbhnicengolfaa
