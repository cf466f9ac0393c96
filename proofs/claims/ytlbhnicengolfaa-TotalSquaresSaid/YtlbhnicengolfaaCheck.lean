/-
  Package total: check, Check.
-/
import Derived.Test.YtlbhnicengolfaaCVis
import Derived.Test.YtlbhnicengolfaaRegs
namespace Go.Proofs.Ytlbhnicengolfaa
open Go.RowKit
set_option linter.unusedVariables false
set_option linter.unusedSimpArgs false

theorem check1_any (sa ta : Option Addr) (sn sc tn tc bn : Nat) (q : Int) (W : World) (hsn : sn ≤ 1000000000) (hk : Blk W bn #[.slice sa sn sc, .slice ta tn tc] 25) :
    Calls Try.prog 67 #[.int .i64 q, .pointer (some ⟨bn, 0, none⟩)] W fun e W' => e = .returned (.bool (!inR sn q)) ∧ W = W' := by
  obtain ⟨n0, n1, _⟩ := hk.two
  have l1 := hk.lt
  by_cases h0 : q < 0
  · have HE : Hid ((!inR sn q) = true) := hide (by unfold inR; simp; omega)
    have hd : decide (q < 0) = true := decide_eq_true h0
    go_enter Try.func67, Try.ntmps67
    go_wp2
    go_ret
    exact ⟨by rw [HE.out]; rfl, rfl⟩
  · have hd : decide (q < 0) = false := decide_eq_false h0
    by_cases h1 : (sn : Int) ≤ q
    · have HE : Hid ((!inR sn q) = true) := hide (by unfold inR; simp; omega)
      have hd1 : decide ((sn : Int) ≤ q) = true := decide_eq_true h1
      clear h0
      go_enter Try.func67, Try.ntmps67
      go_wp2
      go_ret
      exact ⟨by rw [HE.out]; rfl, rfl⟩
    · have HE : Hid ((!inR sn q) = false) := hide (by unfold inR; simp; omega)
      have hd1 : decide ((sn : Int) ≤ q) = false := decide_eq_false h1
      clear h0
      go_enter Try.func67, Try.ntmps67
      go_wp2
      go_ret
      exact ⟨by rw [HE.out]; rfl, rfl⟩

def gMap (A : List Int) (w : World) (v : Value) : Prop := ∃ MB, v = .map (some MB) ∧ SetAt w MB A
theorem gMap_below {A : List Int} {w w' : World} {v : Value} (h : gMap A w v) (hb : Below w.heap.size w w') : gMap A w' v := by
  obtain ⟨MB, e, hs⟩ := h
  exact ⟨MB, e, hs.below hb⟩

def cGood (agn : Value) (p5 : Nat) (a b c ii : Int) (A B : List Int) : Nat → World → Value → Prop
  | 0, _, v => v = agn
  | 1, _, v => v = .pointer (some ⟨p5, 0, none⟩)
  | 2, _, v => v = .int .i64 a
  | 3, _, v => v = .int .i64 ii
  | 4, w, v => (gMap A) w v
  | 5, _, v => v = agn
  | 6, _, v => v = .pointer (some ⟨p5, 1, none⟩)
  | 7, _, v => v = .int .i64 b
  | 8, _, v => v = .int .i64 ii
  | 9, w, v => (gMap B) w v
  | _, _, v => v = .bool true
theorem cGood_below {agn : Value} {p5 : Nat} {a b c ii : Int} {A B : List Int} (i : Nat) (w w' : World) (v : Value) (h : (cGood agn p5 a b c ii A B) i w v) (hb : Below w.heap.size w w') : (cGood agn p5 a b c ii A B) i w' v := by
  unfold cGood at h
  split at h <;> first | exact gMap_below h hb | exact gMap_below h hb | exact h | (unfold cGood; split <;> first | exact h | (exfalso; simp_all))

set_option maxRecDepth 100000 in
set_option maxHeartbeats 4000000 in
theorem checkOne_any (N : Nat) (ts : List Tri) (sa ta : Option Addr) (sc tn tc i : Nat) (w : World) (hN : N ≤ 11) (hi : i < tn) (hU : ∀ t ∈ ts.take i, ∀ o ∈ cor t, 0 ≤ o ∧ o < N) (htn : tn = ts.length) (htc : tn ≤ tc) (htc2 : tc ≤ 9223372036854775807)
    (hrow : Row w w.heap.size ta (tris ts)) :
    Calls Try.prog 51 #[.agg #[.slice sa N sc, .slice ta tn tc], .int .i64 (i : Int)] w fun e w' => e = .returned (.int .i64 (chk1 N (ts.take i) (tri ts i))) ∧ Below w.heap.size w w' := by
  obtain ⟨tb, toff, hta, htb, hcell⟩ := hrow.tri (by omega)
  obtain ⟨t0, t1, t2⟩ := hcell i (by omega)
  have HCO := hide (fun (q : Int) (W : World) (hq : 0 ≤ q ∧ q < N) (hr : Row W W.heap.size ta (tris ts)) => connected_any N ts sa ta N sc tn tc i q W hN hU hq htn (by omega) htc htc2 hr)
  obtain ⟨R, hR⟩ : ∃ R, R = chk1 N (ts.take i) (tri ts i) := ⟨_, rfl⟩
  rw [← hR]
  have HCK := hide hR
  clear hR
  have HROW := hide hrow
  clear hcell htn hU hrow
  subst hta
  generalize tri ts i = t at *
  obtain ⟨a, b, c⟩ := t
  dsimp only at t0 t1 t2
  go_enter Try.func51, Try.ntmps51
  go_wp2_with fail
  refine (corners_any a b c _).mono ?_
  rintro e W2 ⟨rfl, hb2⟩
  go_upto_region 2 with (fail)
  have kn0 := Blk.new w #[.slice sa N sc, .slice (some ⟨tb, toff, none⟩) tn tc] 25
  have hkn := (kn0.kept hb2).alloc (.cells #[.int .i64 a, .int .i64 b, .int .i64 c] 108)
  have hk5 := Blk.new W2 #[.int .i64 a, .int .i64 b, .int .i64 c] 108
  have hrow5 := row_new W2 [.int .i64 a, .int .i64 b, .int .i64 c] 108
  have hB : Below w.heap.size w (W2.alloc (.cells #[.int .i64 a, .int .i64 b, .int .i64 c] 108)) := (((Below.refl _ _).alloc (Nat.le_refl _) _).trans (hb2.mono (by simp))).alloc (by have := hb2.size; simp at this; omega) _
  have hs2 : w.heap.size < W2.heap.size := by have := hb2.size; simp at this; omega
  generalize hV : W2.alloc (.cells #[.int .i64 a, .int .i64 b, .int .i64 c] 108) = V at *
  generalize W2.heap.size = p5 at *
  clear hV hb2 kn0 t0 t1 t2
  obtain ⟨c0, c1, c2, _⟩ := hk5.three
  have l5 := hk5.lt
  obtain ⟨n0, n1, _⟩ := hkn.two
  have ln := hkn.lt
  have HCF := hide (containsFuncI (fun q => !inR N q) 67 #[.pointer (some ⟨w.heap.size, 0, none⟩)] [a, b, c] (some ⟨p5, 0, none⟩) 3 3 V rfl (by decide) hrow5 (enters_of Try.func67 (by kernel_rfl) rfl)
    (fun x W _ hb => (check1_any sa (some ⟨tb, toff, none⟩) N sc tn tc w.heap.size x W (by omega) (hkn.kept hb)).mono fun e W' ⟨h1, h2⟩ => ⟨h1, h2 ▸ Below.refl _ _⟩))
  go_wp2_with fail
  refine HCF.out.mono ?_
  rintro e V2 ⟨rfl, hb3⟩
  have hkn2 := hkn.kept hb3
  have hk52 := hk5.kept hb3
  have hB2 := hB.trans (hb3.mono hB.size)
  clear hkn hk5 hB hb3 c0 c1 c2 l5 n0 n1 ln HCF hrow5
  obtain ⟨c0, c1, c2, _⟩ := hk52.three
  have l5 := hk52.lt
  by_cases hout : ([a, b, c] : List Int).any (fun q => !inR N q) = true
  · have HE : Hid (R = 6) := hide (by rw [HCK.out]; unfold chk1; rw [if_pos (by exact hout)])
    rw [hout]
    clear hout
    go_wp2_with fail
    go_ret
    exact ⟨by rw [HE.out]; rfl, hB2⟩
  · have hout' : ([a, b, c] : List Int).any (fun q => !inR N q) = false := by simpa using hout
    have HIN : Hid ((0 ≤ a ∧ a < N) ∧ (0 ≤ b ∧ b < N) ∧ (0 ≤ c ∧ c < N)) := hide (by
      simp [inR] at hout'
      omega)
    rw [hout']
    by_cases hab : a = b
    · have HE : Hid (R = 7) := hide (by rw [HCK.out]; unfold chk1; rw [if_neg (by exact hout), if_pos (.inl hab)])
      have e1 : (a == b) = true := by simpa using hab
      clear hout hout' hab
      go_wp2_with fail
      go_ret
      exact ⟨by rw [HE.out]; rfl, hB2⟩
    have e1 : (a == b) = false := by simpa using hab
    by_cases hac : a = c
    · have HE : Hid (R = 7) := hide (by rw [HCK.out]; unfold chk1; rw [if_neg (by exact hout), if_pos (.inr (.inl hac))])
      have e2 : (a == c) = true := by simpa using hac
      clear hout hout' hab hac
      go_wp2_with fail
      go_ret
      exact ⟨by rw [HE.out]; rfl, hB2⟩
    have e2 : (a == c) = false := by simpa using hac
    by_cases hbc : b = c
    · have HE : Hid (R = 7) := hide (by rw [HCK.out]; unfold chk1; rw [if_neg (by exact hout), if_pos (.inr (.inr hbc))])
      have e3 : (b == c) = true := by simpa using hbc
      clear hout hout' hab hac hbc
      go_wp2_with fail
      go_ret
      exact ⟨by rw [HE.out]; rfl, hB2⟩
    have e3 : (b == c) = false := by simpa using hbc
    have HE : Hid (R = if conB (ts.take i) a b || conB (ts.take i) a c || conB (ts.take i) b c then 21 else 0) := hide (by rw [HCK.out]; unfold chk1; rw [if_neg (by exact hout), if_neg (by simp [hab, hac, hbc])])
    clear hout hout' hab hac hbc
    go_wp2_with fail
    have HCA := hide (fun (W : World) (hb : Below V2.heap.size V2 W) => HCO.out a W HIN.out.1 (((HROW.out.below hB2 (Nat.le_refl _)).below hb hB2.size).mono (by have := hB2.size; have := hb.size; omega)))
    have HCB := hide (fun (W : World) (hb : Below V2.heap.size V2 W) => HCO.out b W HIN.out.2.1 (((HROW.out.below hB2 (Nat.le_refl _)).below hb hB2.size).mono (by have := hB2.size; have := hb.size; omega)))
    have hkn := hkn2
    have hk5 := hk52
    clear e1 e2 e3 c0 c1 c2 l5
    refine wp_region_monoF V2 _ 10 (cGood (.agg #[.slice sa N sc, .slice (some ⟨tb, toff, none⟩) tn tc]) p5 a b c (i : Int) (vis 11 (ts.take i) a []) (vis 11 (ts.take i) b [])) (n := 62) (by kernel_rfl) (by decide +kernel) rfl cGood_below ?steps ?_
    case steps =>
      refine ⟨?_, ?_, ?_, ?_, ?_, ?_, ?_, ?_, ?_, ?_, trivial⟩
      · intro ac w' h
        have e2 : ac.tmps.getD 2 undef = .pointer (some ⟨w.heap.size, 0, none⟩) := h.old 2 rfl
        refine ⟨wanted_none rfl, ?_⟩
        simp at e2
        have q := (hkn.kept h.be).two
        have HBE := hide h.be
        clear h
        go_simp
        exact ⟨Below.refl _ _, rfl⟩
      · intro ac w' h
        have e5 : ac.tmps.getD 5 undef = .pointer (some ⟨p5, 0, none⟩) := h.old 5 rfl
        refine ⟨wanted_none rfl, ?_⟩
        simp at e5
        have HBE := hide h.be
        clear h
        go_simp
        exact ⟨Below.refl _ _, rfl⟩
      · intro ac w' h
        have e37 : ac.tmps.getD 37 undef = .pointer (some ⟨p5, 0, none⟩) := h.val 1 37 rfl rfl
        refine ⟨wanted_none rfl, ?_⟩
        simp at e37
        have q := (hk5.kept h.be).three
        have HBE := hide h.be
        clear h
        go_simp
        exact ⟨Below.refl _ _, rfl⟩
      · intro ac w' h
        have e1 : ac.tmps.getD 1 undef = .int .i64 (i : Int) := h.old 1 rfl
        refine ⟨wanted_none rfl, ?_⟩
        simp at e1
        have HBE := hide h.be
        clear h
        go_simp
        exact ⟨Below.refl _ _, rfl⟩
      · intro ac w' h
        have e36 : ac.tmps.getD 36 undef = .agg #[.slice sa N sc, .slice (some ⟨tb, toff, none⟩) tn tc] := h.val 0 36 rfl rfl
        have e38 : ac.tmps.getD 38 undef = .int .i64 a := h.val 2 38 rfl rfl
        have e39 : ac.tmps.getD 39 undef = .int .i64 (i : Int) := h.val 3 39 rfl rfl
        refine ⟨wanted_none rfl, ?_⟩
        simp at e36 e38 e39
        have HBE := hide h.be
        clear h
        go_simp
        exact (HCA.out w' HBE.out).mono fun e w'' ⟨MB, he, hs, hb⟩ => ⟨_, he, hb, MB, rfl, hs⟩
      · intro ac w' h
        have e2 : ac.tmps.getD 2 undef = .pointer (some ⟨w.heap.size, 0, none⟩) := h.old 2 rfl
        refine ⟨wanted_none rfl, ?_⟩
        simp at e2
        have q := (hkn.kept h.be).two
        have HBE := hide h.be
        clear h
        go_simp
        exact ⟨Below.refl _ _, rfl⟩
      · intro ac w' h
        have e5 : ac.tmps.getD 5 undef = .pointer (some ⟨p5, 0, none⟩) := h.old 5 rfl
        refine ⟨wanted_none rfl, ?_⟩
        simp at e5
        have HBE := hide h.be
        clear h
        go_simp
        exact ⟨Below.refl _ _, rfl⟩
      · intro ac w' h
        have e42 : ac.tmps.getD 42 undef = .pointer (some ⟨p5, 1, none⟩) := h.val 6 42 rfl rfl
        refine ⟨wanted_none rfl, ?_⟩
        simp at e42
        have q := (hk5.kept h.be).three
        have HBE := hide h.be
        clear h
        go_simp
        exact ⟨Below.refl _ _, rfl⟩
      · intro ac w' h
        have e1 : ac.tmps.getD 1 undef = .int .i64 (i : Int) := h.old 1 rfl
        refine ⟨wanted_none rfl, ?_⟩
        simp at e1
        have HBE := hide h.be
        clear h
        go_simp
        exact ⟨Below.refl _ _, rfl⟩
      · intro ac w' h
        have e41 : ac.tmps.getD 41 undef = .agg #[.slice sa N sc, .slice (some ⟨tb, toff, none⟩) tn tc] := h.val 5 41 rfl rfl
        have e43 : ac.tmps.getD 43 undef = .int .i64 b := h.val 7 43 rfl rfl
        have e44 : ac.tmps.getD 44 undef = .int .i64 (i : Int) := h.val 8 44 rfl rfl
        refine ⟨wanted_none rfl, ?_⟩
        simp at e41 e43 e44
        have HBE := hide h.be
        clear h
        go_simp
        exact (HCB.out w' HBE.out).mono fun e w'' ⟨MB, he, hs, hb⟩ => ⟨_, he, hb, MB, rfl, hs⟩
    intro vs w2 hb2 hv
    have v0 := hv 0 (by omega)
    have v1 := hv 1 (by omega)
    have v2 := hv 2 (by omega)
    have v3 := hv 3 (by omega)
    have v4 := hv 4 (by omega)
    have v5 := hv 5 (by omega)
    have v6 := hv 6 (by omega)
    have v7 := hv 7 (by omega)
    have v8 := hv 8 (by omega)
    have v9 := hv 9 (by omega)
    obtain ⟨m4, v4, s4⟩ := v4
    obtain ⟨m9, v9, s9⟩ := v9
    simp only [cGood] at v0 v1 v2 v3 v5 v6 v7 v8
    simp only [List.take_succ_cons, List.take_zero, List.drop_succ_cons, List.drop_zero, putSeq, Act.put, List.setIfInBounds_toArray, List.set_cons_zero, List.set_cons_succ, v0, v1, v2, v3, v4, v5, v6, v7, v8, v9]
    have hk53 := hk5.kept hb2
    have hBf := hB2.trans (hb2.mono hB2.size)
    clear hv v0 v1 v2 v3 v4 v5 v6 v7 v8 v9 HCA HCB hkn hk5 hkn2 hk52 hb2 hB2
    obtain ⟨c0, c1, c2, _⟩ := hk53.three
    have l5 := hk53.lt
    obtain ⟨⟨a0, a1⟩, ⟨b0, b1⟩, ⟨d0, d1⟩⟩ := HIN.out
    have HA : Hid (conB (ts.take i) a b = decide (b ∈ vis 11 (ts.take i) a []) ∧ conB (ts.take i) a c = decide (c ∈ vis 11 (ts.take i) a []) ∧ conB (ts.take i) b c = decide (c ∈ vis 11 (ts.take i) b [])) := hide ⟨rfl, rfl, rfl⟩
    rw [HA.out.1, HA.out.2.1, HA.out.2.2] at HE
    clear HA
    generalize vis 11 (ts.take i) a [] = A at *
    generalize vis 11 (ts.take i) b [] = B at *
    have r1 := s4.look (x := b) b0 (by omega)
    have r2 := s4.look (x := c) d0 (by omega)
    have r3 := s9.look (x := c) d0 (by omega)
    by_cases x1 : b ∈ A
    · have y1 : decide (b ∈ A) = true := decide_eq_true x1
      have HE2 : Hid (R = 21) := hide (by rw [HE.out, y1]; rfl)
      rw [y1] at r1
      clear x1 y1
      go_wp2_with fail
      go_ret
      exact ⟨by rw [HE2.out]; rfl, hBf⟩
    have y1 : decide (b ∈ A) = false := decide_eq_false x1
    by_cases x2 : c ∈ A
    · have y2 : decide (c ∈ A) = true := decide_eq_true x2
      have HE2 : Hid (R = 21) := hide (by rw [HE.out, y1, y2]; rfl)
      rw [y1] at r1
      rw [y2] at r2
      clear x1 y1 x2 y2
      go_wp2_with fail
      go_ret
      exact ⟨by rw [HE2.out]; rfl, hBf⟩
    have y2 : decide (c ∈ A) = false := decide_eq_false x2
    by_cases x3 : c ∈ B
    · have y3 : decide (c ∈ B) = true := decide_eq_true x3
      have HE2 : Hid (R = 21) := hide (by rw [HE.out, y1, y2, y3]; rfl)
      rw [y1] at r1
      rw [y2] at r2
      rw [y3] at r3
      clear x1 y1 x2 y2 x3 y3
      go_wp2_with fail
      go_ret
      exact ⟨by rw [HE2.out]; rfl, hBf⟩
    have y3 : decide (c ∈ B) = false := decide_eq_false x3
    have HE2 : Hid (R = 0) := hide (by rw [HE.out, y1, y2, y3]; rfl)
    rw [y1] at r1
    rw [y2] at r2
    rw [y3] at r3
    clear x1 y1 x2 y2 x3 y3
    go_wp2_with fail
    go_ret
    exact ⟨by rw [HE2.out]; rfl, hBf⟩

end Go.Proofs.Ytlbhnicengolfaa

