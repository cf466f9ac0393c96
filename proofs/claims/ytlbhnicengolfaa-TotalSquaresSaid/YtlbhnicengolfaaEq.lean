/-
  Package total: Equation, broken, Verify.
-/
import Derived.Test.YtlbhnicengolfaaGroup
namespace Go.Proofs.Ytlbhnicengolfaa
open Go.RowKit
set_option linter.unusedVariables false
set_option linter.unusedSimpArgs false

/-- Is a list of triangles in order, and within? -/
def ordOk (N : Int) : Int → List Int → Int
  | _, [] => 0
  | last, i :: r => if i < 0 ∨ N ≤ i then 6 else if i ≤ last then 5 else ordOk N i r
theorem ordOk_in (N : Int) : ∀ (l : List Int) (last : Int), ordOk N last l = 0 → ∀ x ∈ l, 0 ≤ x ∧ x < N
  | [], last, _, x, hx => by cases hx
  | i :: r, last, h, x, hx => by
    unfold ordOk at h
    split at h
    · cases h
    · split at h
      · cases h
      · rcases List.mem_cons.1 hx with rfl | hx
        · omega
        · exact ordOk_in N r i h x hx
theorem ordOk_len (N : Int) : ∀ (l : List Int) (last : Int), ordOk N last l = 0 → -1 ≤ last → last < N → (l.length : Int) ≤ N - 1 - last
  | [], last, _, _, _ => by simp; omega
  | i :: r, last, h, h0, h1 => by
    unfold ordOk at h
    split at h
    · cases h
    · split at h
      · cases h
      · have := ordOk_len N r i h (by omega) (by omega)
        simp; omega
theorem ordOk_cons (N last i : Int) (r : List Int) : ordOk N last (i :: r) = if i < 0 ∨ N ≤ i then 6 else if i ≤ last then 5 else ordOk N i r := rfl
/-- What Equation returns. -/
def eqR (n : TNet) (l : List Int) : List Int × Int :=
  if checkT n ≠ 0 then ([], checkT n) else if l.length = 0 then ([], 2) else if ordOk n.ts.length (-1) l ≠ 0 then ([], ordOk n.ts.length (-1) l) else
  if (grpR n.ts l n.sp.length).2 = true then ((grpR n.ts l n.sp.length).1, 0) else ([], 4)
/-- A group that is good has a quantity in its equation. -/
def NzOk (n : TNet) (l : List Int) : Prop := checkT n = 0 → l.length ≠ 0 → ordOk n.ts.length (-1) l = 0 → (grpR n.ts l n.sp.length).2 = true → nzIdx (grpS n.ts l n.sp.length).out < n.sp.length

def eqPost (R : List Int × Int) (sn : Nat) (w : World) (e : Ending) (w' : World) : Prop :=
  ∃ v, e = .returned (.tuple #[v, .int .i64 R.2]) ∧ (R.2 = 0 → ∃ g, v = .slice (some ⟨g, 0, none⟩) sn sn ∧ w.heap.size ≤ g ∧ Blk w' g (ints R.1).toArray 3) ∧ (R.2 ≠ 0 → v = .slice none 0 0) ∧ Below w.heap.size w w'
theorem eqPost_none {R : List Int × Int} {sn : Nat} {w w' : World} {E : Int} (hR : R = ([], E)) (hE : E ≠ 0) (hb : Below w.heap.size w w') : eqPost R sn w (.returned (.tuple #[.slice none 0 0, .int .i64 E])) w' := by
  subst hR
  exact ⟨_, rfl, (fun h => absurd h hE), fun _ => rfl, hb⟩
theorem eqPost_some {R : List Int × Int} {sn : Nat} {w w' : World} {out : List Int} {g : Nat} (hR : R = (out, 0)) (hg : w.heap.size ≤ g) (hk : Blk w' g (ints out).toArray 3) (hb : Below w.heap.size w w') : eqPost R sn w (.returned (.tuple #[.slice (some ⟨g, 0, none⟩) sn sn, .int .i64 0])) w' := by
  subst hR
  exact ⟨_, rfl, (fun _ => ⟨_, rfl, hg, hk⟩), (fun h => absurd rfl h), hb⟩

set_option maxRecDepth 100000 in
set_option maxHeartbeats 8000000 in
theorem equation_any (n : TNet) (l : List Int) (sa ta la : Option Addr) (sn sc tn tc ln lc : Nat) (w : World) (h : NetIn n sa ta sn tn tc w)
    (hln : ln = l.length) (hl : ln ≤ 1000000000) (hrl : Row w w.heap.size la (ints l)) (hnz : NzOk n l) :
    Calls Try.prog 22 #[netV sa ta sn sc tn tc, .slice la ln lc] w fun e w' => eqPost (eqR n l) sn w e w' := by
  have H := hide h
  have HL := hide (And.intro hln hrl)
  have HNZ := hide hnz
  have HR : Hid (eqR n l = if checkT n ≠ 0 then ([], checkT n) else if l.length = 0 then ([], 2) else if ordOk n.ts.length (-1) l ≠ 0 then ([], ordOk n.ts.length (-1) l) else if (grpR n.ts l n.sp.length).2 = true then ((grpR n.ts l n.sp.length).1, 0) else ([], 4)) := hide rfl
  have hb1 : Below w.heap.size w (w.alloc (.cells #[.slice sa sn sc, .slice ta tn tc] 25)) := (Below.refl _ _).alloc (Nat.le_refl _) _
  have kn := Blk.new w #[.slice sa sn sc, .slice ta tn tc] 25
  have HCK := hide ((h.below hb1).check sc)
  have HN : Hid (checkT n = 0 → NOk n) := hide nok_of_check
  unfold NzOk at HNZ
  clear h hln hrl hnz
  generalize hC : checkT n = C at *
  clear hC
  go_enter Try.func22, Try.ntmps22
  go_wp2_with fail
  refine HCK.out.mono ?_
  rintro e W2 ⟨rfl, hb2⟩
  have kn2 := kn.kept hb2
  have hB2 := hb1.trans (hb2.mono hb1.size)
  clear hb1 hb2 HCK kn
  by_cases h0 : C = 0
  rotate_left
  · have HF : Hid (eqR n l = ([], C)) := hide (by rw [HR.out, if_pos h0])
    have HC := hide h0
    have d0 : (C != 0) = true := by rw [bne_iff_ne]; exact h0
    clear h0
    go_wp2_with fail
    exact bodyPost_ret (v := .tuple #[.slice none 0 0, .int .i64 C]) (by simp [results, Try.results22, go_sem]) rfl (eqPost_none HF.out HC.out hB2)
  have d0 : (C != 0) = false := by simpa using h0
  have hn := HN.out h0
  have HN2 := hide hn
  have HNZ2 := hide (HNZ.out h0)
  have HR1 : Hid (eqR n l = if ln = 0 then ([], 2) else if ordOk tn (-1) l ≠ 0 then ([], ordOk tn (-1) l) else if (grpR n.ts l n.sp.length).2 = true then ((grpR n.ts l n.sp.length).1, 0) else ([], 4)) := hide (by rw [HR.out, if_neg (by simpa using h0), ← HL.out.1, ← H.out.htn])
  clear HR HN HNZ h0 hn
  by_cases hl0 : ln = 0
  · have HF : Hid (eqR n l = ([], 2)) := hide (by rw [HR1.out, if_pos hl0])
    have d1 : ((ln : Int) == 0) = true := by rw [hl0]; rfl
    clear hl0
    go_wp2_with fail
    exact bodyPost_ret (v := .tuple #[.slice none 0 0, .int .i64 2]) (by simp [results, Try.results22, go_sem]) rfl (eqPost_none HF.out (by decide) hB2)
  have d1 : ((ln : Int) == 0) = false := by rw [beq_eq_false_iff_ne]; omega
  have HR2 : Hid (eqR n l = if ordOk tn (-1) l ≠ 0 then ([], ordOk tn (-1) l) else if (grpR n.ts l n.sp.length).2 = true then ((grpR n.ts l n.sp.length).1, 0) else ([], 4)) := hide (by rw [HR1.out, if_neg hl0])
  have hln1 : 1 ≤ ln := by omega
  have HSTART : Hid (ordOk tn (-1) l = ordOk tn (-1) (l.drop 0)) := hide (by simp)
  clear HR1 hl0
  obtain ⟨n0, n1, _⟩ := kn2.two
  have ln0 := kn2.lt
  have ht5 : tn ≤ 5 := by have := H.out.htn; have := HN2.out.l3; omega
  go_wp2_with fail
  go_loopw [7, 22] (fun la ix wr => ∃ (k : Nat) (last : Int), k ≤ ln ∧ ix = .int .i64 (k : Int) ∧ la = .int .i64 last ∧ Hid (ordOk tn (-1) l = ordOk tn last (l.drop k)) ∧ Below w.heap.size w wr ∧ Blk wr w.heap.size #[.slice sa sn sc, .slice ta tn tc] 25) (fun _ ix _ => ln - (intOf ix).toNat)
  case atStart => exact ⟨0, -1, Nat.zero_le _, rfl, rfl, HSTART, hB2, kn2⟩
  case round =>
    clear hB2 kn2 n0 n1 ln0 HSTART
    obtain ⟨k, last, hk, rfl, rfl, HO, hB, kn⟩ := hrel
    obtain ⟨n0, n1, _⟩ := kn.two
    have ln0 := kn.lt
    by_cases hlt : k < ln
    · have hkl : k < l.length := by rw [← HL.out.1]; exact hlt
      obtain ⟨g, off, hla, hgw, hcel⟩ := (HL.out.2.below hB (Nat.le_refl _)).int (by omega)
      have c0 := hcel k hkl
      have hgw2 : g < wr.heap.size := by have := hB.size; omega
      have HD : Hid (l.drop k = iat l k :: l.drop (k + 1)) := hide (by rw [iat_eq l k hkl]; exact List.drop_eq_getElem_cons hkl)
      have HO2 : Hid (ordOk tn (-1) l = if iat l k < 0 ∨ (tn : Int) ≤ iat l k then 6 else if iat l k ≤ last then 5 else ordOk tn (iat l k) (l.drop (k + 1))) := hide (by rw [HO.out, HD.out, ordOk_cons])
      clear HO HD hcel hkl
      subst hla
      generalize iat l k = x at *
      by_cases hx0 : x < 0
      · have HF : Hid (eqR n l = ([], 6)) := hide (by rw [HR2.out, show ordOk tn (-1) l = 6 from (by rw [HO2.out, if_pos (.inl hx0)])]; rfl)
        have d2 : decide (x < 0) = true := decide_eq_true hx0
        clear hx0
        go_wp2_with fail
        exact bodyPost_ret (v := .tuple #[.slice none 0 0, .int .i64 6]) (by simp [results, Try.results22, go_sem]) rfl (eqPost_none HF.out (by decide) hB)
      have d2 : decide (x < 0) = false := decide_eq_false hx0
      by_cases hx1 : (tn : Int) ≤ x
      · have HF : Hid (eqR n l = ([], 6)) := hide (by rw [HR2.out, show ordOk tn (-1) l = 6 from (by rw [HO2.out, if_pos (.inr hx1)])]; rfl)
        have d3 : decide ((tn : Int) ≤ x) = true := decide_eq_true hx1
        clear hx1 hx0
        go_wp2_with fail
        exact bodyPost_ret (v := .tuple #[.slice none 0 0, .int .i64 6]) (by simp [results, Try.results22, go_sem]) rfl (eqPost_none HF.out (by decide) hB)
      have d3 : decide ((tn : Int) ≤ x) = false := decide_eq_false hx1
      have HO3 : Hid (ordOk tn (-1) l = if x ≤ last then 5 else ordOk tn x (l.drop (k + 1))) := hide (by rw [HO2.out, if_neg (by omega)])
      clear HO2
      by_cases hx2 : x ≤ last
      · have HF : Hid (eqR n l = ([], 5)) := hide (by rw [HR2.out, show ordOk tn (-1) l = 5 from (by rw [HO3.out, if_pos hx2])]; rfl)
        have d4 : decide (x ≤ last) = true := decide_eq_true hx2
        clear hx2 hx1 hx0
        go_wp2_with fail
        exact bodyPost_ret (v := .tuple #[.slice none 0 0, .int .i64 5]) (by simp [results, Try.results22, go_sem]) rfl (eqPost_none HF.out (by decide) hB)
      have d4 : decide (x ≤ last) = false := decide_eq_false hx2
      have HO4 : Hid (ordOk tn (-1) l = ordOk tn x (l.drop (k + 1))) := hide (by rw [HO3.out, if_neg hx2])
      clear HO3 hx0 hx1 hx2
      go_wp2_with fail
      go_roundw
      case rel => exact ⟨k + 1, x, by omega, by go_num, rfl, HO4, hB, kn⟩
      case measure => simp [intOf]; omega
    · have hO : ordOk tn (-1) l = 0 := by rw [HO.out, List.drop_of_length_le (by rw [← HL.out.1]; omega)]; rfl
      have HO0 := hide hO
      have HNZ3 := hide (HNZ2.out (by rw [← HL.out.1]; omega) (by rw [← H.out.htn]; exact hO))
      have HR3 : Hid (eqR n l = if (grpR n.ts l n.sp.length).2 = true then ((grpR n.ts l n.sp.length).1, 0) else ([], 4)) := hide (by rw [HR2.out, if_neg (by simpa using hO)])
      have htn1 : 1 ≤ tn := by
        have hm := ordOk_in tn l (-1) hO (iat l 0) (by rw [iat_eq l 0 (by have := HL.out.1; omega)]; exact List.getElem_mem _)
        omega
      have hln5 : ln ≤ 5 := by
        have := ordOk_len tn l (-1) hO (by omega) (by omega)
        have := HL.out.1
        omega
      have HIN := hide (ordOk_in tn l (-1) hO)
      have HGR := hide (group_any n l sa ta la sn sc tn tc ln lc wr (H.out.below hB) HN2.out HL.out.1 hln1 (by omega) HIN.out (by have := HL.out.2.below hB (Nat.le_refl _); exact this.mono hB.size) HNZ3.out)
      clear HO hO HNZ2 HNZ3 HR2
      go_wp2_with fail
      refine HGR.out.mono ?_
      rintro e W4 ⟨v, rfl, hv1, hv2, hb4⟩
      have hB4 := hB.trans (hb4.mono hB.size)
      have hsz := hB.size
      cases hg : (grpR n.ts l n.sp.length).2 with
      | true =>
        obtain ⟨g, rfl, hgs, hbk⟩ := hv1 hg
        have HF : Hid (eqR n l = ((grpR n.ts l n.sp.length).1, 0)) := hide (by rw [HR3.out, if_pos hg])
        clear hg hv1 hv2
        go_wp2_with fail
        exact bodyPost_ret (v := .tuple #[.slice (some ⟨g, 0, none⟩) sn sn, .int .i64 0]) (by simp [results, Try.results22, go_sem]) rfl (eqPost_some HF.out (by omega) hbk hB4)
      | false =>
        have HF : Hid (eqR n l = ([], 4)) := hide (by rw [HR3.out, if_neg (by rw [hg]; simp)])
        clear hg hv1 hv2
        go_wp2_with fail
        exact bodyPost_ret (v := .tuple #[.slice none 0 0, .int .i64 4]) (by simp [results, Try.results22, go_sem]) rfl (eqPost_none HF.out (by decide) hB4)

end Go.Proofs.Ytlbhnicengolfaa
