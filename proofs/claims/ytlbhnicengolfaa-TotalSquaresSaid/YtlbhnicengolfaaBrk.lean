/-
  Package total: broken, Verify.
-/
import Derived.Test.YtlbhnicengolfaaEq
namespace Go.Proofs.Ytlbhnicengolfaa
open Go.RowKit
set_option linter.unusedVariables false
set_option linter.unusedSimpArgs false

def brkS (s : Sp) (c : Int) (q : Sp) : Sp := if c = 1 then plusS s q else if c = -1 then minusS s q else s
def brkL (cs : List Int) (ls : List Sp) (k : Nat) : Sp := (List.range k).foldl (fun s i => brkS s (cs.getD i 0) (ls.getD i (0, 0))) (0, 0)
/-- Is the sum of the squares, by these numbers, surely not 0? -/
def brkR (n : TNet) (cs : List Int) : Bool := decide (0 < (brkL cs (sqs n.sp) n.sp.length).1) || decide ((brkL cs (sqs n.sp) n.sp.length).2 < 0)
def BdB (M : Int) (s : Sp) : Prop := -M ≤ s.1 ∧ s.1 ≤ M ∧ -M ≤ s.2 ∧ s.2 ≤ M
theorem sqs_Bd {n : TNet} (h : NOk n) (k : Nat) : BdB 100000000 ((sqs n.sp).getD k (0, 0)) := by
  by_cases hk : k < (sqs n.sp).length
  · rw [List.getD_eq_getElem?_getD, List.getElem?_eq_getElem hk]
    have hs : (sqs n.sp)[k] ∈ sqs n.sp := List.getElem_mem hk
    obtain ⟨t, ht, e⟩ := List.mem_map.1 hs
    obtain ⟨i, hi, rfl⟩ := List.mem_iff_getElem.1 ht
    have := h.sp i hi
    rw [span_eq hi] at e
    have a := sq_small this.1 (by omega)
    have b := sq_small (x := his n.sp i) (by omega) this.2.2
    show BdB _ (sqs n.sp)[k]
    rw [← e]
    unfold BdB sqS
    dsimp only
    omega
  · rw [List.getD_eq_getElem?_getD, List.getElem?_eq_none (by omega)]
    unfold BdB; simp
theorem brkS_B {M : Int} {s q : Sp} (c : Int) (h : BdB M s) (hq : BdB 100000000 q) : BdB (M + 100000000) (brkS s c q) := by
  obtain ⟨a, b⟩ := s
  obtain ⟨u, v⟩ := q
  unfold brkS
  unfold BdB plusS minusS at *
  dsimp only at *
  split
  · dsimp only; omega
  · split
    · dsimp only; omega
    · dsimp only; omega
theorem brkL_B {cs : List Int} {ls : List Sp} (h : ∀ k, BdB 100000000 (ls.getD k (0, 0))) : ∀ k : Nat, BdB (100000000 * (k : Int)) (brkL cs ls k)
  | 0 => by unfold BdB brkL; simp
  | k + 1 => by
    have ih := brkS_B (cs.getD k 0) (brkL_B (cs := cs) h k) (h k)
    rw [show (100000000 * ((k + 1 : Nat) : Int)) = 100000000 * (k : Int) + 100000000 by omega]
    unfold brkL at *
    rw [range_snoc]
    exact ih
theorem brkL_snoc (cs : List Int) (ls : List Sp) (k : Nat) : brkL cs ls (k + 1) = brkS (brkL cs ls k) (cs.getD k 0) (ls.getD k (0, 0)) := range_snoc _ _ _

theorem plusB_any (s o : Sp) (w : World) (M : Int) (hM : M ≤ 1000000000000000000) (hs : BdB M s) (ho : BdB M o) :
    Calls Try.prog 76 #[.agg #[.int .i64 s.1, .int .i64 s.2], .agg #[.int .i64 o.1, .int .i64 o.2]] w fun e w' => e = .returned (.agg #[.int .i64 (plusS s o).1, .int .i64 (plusS s o).2]) ∧ Below w.heap.size w w' := by
  obtain ⟨a1, a2, a3, a4⟩ := hs
  obtain ⟨b1, b2, b3, b4⟩ := ho
  obtain ⟨x, y⟩ := s
  obtain ⟨u, v⟩ := o
  dsimp only at *
  go_enter Try.func76, Try.ntmps76
  go_wp2
  refine bodyPost_ret (v := .agg #[.int .i64 (x + u), .int .i64 (y + v)]) (by simp [results, Try.results76, go_sem]) rfl ⟨rfl, (((Below.refl _ _).alloc (Nat.le_refl _) _).alloc (by simp) _).alloc (by simp; omega) _⟩
theorem minusB_any (s o : Sp) (w : World) (M : Int) (hM : M ≤ 1000000000000000000) (hs : BdB M s) (ho : BdB M o) :
    Calls Try.prog 77 #[.agg #[.int .i64 s.1, .int .i64 s.2], .agg #[.int .i64 o.1, .int .i64 o.2]] w fun e w' => e = .returned (.agg #[.int .i64 (minusS s o).1, .int .i64 (minusS s o).2]) ∧ Below w.heap.size w w' := by
  obtain ⟨a1, a2, a3, a4⟩ := hs
  obtain ⟨b1, b2, b3, b4⟩ := ho
  obtain ⟨x, y⟩ := s
  obtain ⟨u, v⟩ := o
  dsimp only at *
  go_enter Try.func77, Try.ntmps77
  go_wp2
  refine bodyPost_ret (v := .agg #[.int .i64 (x - v), .int .i64 (y - u)]) (by simp [results, Try.results77, go_sem]) rfl ⟨rfl, (((Below.refl _ _).alloc (Nat.le_refl _) _).alloc (by simp) _).alloc (by simp; omega) _⟩

set_option maxRecDepth 100000 in
set_option maxHeartbeats 8000000 in
theorem broken_any (n : TNet) (cs : List Int) (sa ta ca : Option Addr) (sn sc tn tc cc : Nat) (w : World) (h : NetIn n sa ta sn tn tc w) (hn : NOk n)
    (hcl : sn = cs.length) (hrc : Row w w.heap.size ca (ints cs)) :
    Calls Try.prog 55 #[netV sa ta sn sc tn tc, .slice ca sn cc] w fun e w' => e = .returned (.bool (brkR n cs)) ∧ Below w.heap.size w w' := by
  have H := hide h
  have HC := hide (And.intro hcl hrc)
  have HN := hide hn
  have hs11 : sn ≤ 11 := by have := h.hsn; have := hn.l2; omega
  have HB := hide (brkL_B (cs := cs) (sqs_Bd hn))
  have HBD := hide (sqs_Bd hn)
  have HR : Hid (brkR n cs = (decide (0 < (brkL cs (sqs n.sp) sn).1) || decide ((brkL cs (sqs n.sp) sn).2 < 0))) := hide (by rw [h.hsn]; rfl)
  have hb1 : Below w.heap.size w ((w.alloc (.cells #[.slice sa sn sc, .slice ta tn tc] 25)).alloc (.cells #[.int .i64 0, .int .i64 0] 99)) := ((Below.refl _ _).alloc (Nat.le_refl _) _).alloc (by rw [sz1]; omega) _
  have ks := Blk.newAt (W := w.alloc (.cells #[.slice sa sn sc, .slice ta tn tc] 25)) (k := w.heap.size + 1) (by rw [sz1]) #[.int .i64 0, .int .i64 0] 99
  have HSP := hide ((h.below hb1).spans hn sc)
  clear h hn hcl hrc
  go_enter Try.func55, Try.ntmps55
  go_wp2_with fail
  refine HSP.out.mono ?_
  rintro e W2 ⟨g, cap, rfl, own, hb2⟩
  have ks2 := ks.kept hb2
  have hB2 := hb1.trans (hb2.mono hb1.size)
  have hg1 := own.lt g rfl
  rw [size_two] at hg1
  obtain ⟨cur, hcur, _⟩ := own2_blk own
  have HCEL := hide (fun q hq => own2_cell (q := q) own hq)
  simp only [hcur.cell] at HCEL
  clear hb1 hb2 HSP ks own
  generalize hLS : sqs n.sp = ls at *
  clear hLS
  have ks0 : Blk W2 (w.heap.size + 1) #[.int .i64 (brkL cs ls 0).1, .int .i64 (brkL cs ls 0).2] 99 := ks2
  clear ks2
  go_wp2_with fail
  go_loopw [11] (fun ix wr => ∃ k : Nat, k ≤ sn ∧ ix = .int .i64 (k : Int) ∧ Blk wr (w.heap.size + 1) #[.int .i64 (brkL cs ls k).1, .int .i64 (brkL cs ls k).2] 99 ∧ Blk wr g cur 99 ∧ Below w.heap.size w wr) (fun ix _ => sn - (intOf ix).toNat)
  case atStart => exact ⟨0, Nat.zero_le _, rfl, ks0, hcur, hB2⟩
  case round =>
    clear ks0 hcur hB2
    obtain ⟨k, hk, rfl, ks, hcur, hB⟩ := hrel
    obtain ⟨s0, s1, sf0, sf1⟩ := ks.two
    have ls0 := ks.lt
    have lg := hcur.lt
    by_cases hlt : k < sn
    · have hkl : k < cs.length := by rw [← HC.out.1]; exact hlt
      obtain ⟨cb, coff, hca, hcw, hcel⟩ := (HC.out.2.below hB (Nat.le_refl _)).int (by omega)
      have c0 := hcel k hkl
      have hcw2 : cb < wr.heap.size := by have := hB.size; omega
      obtain ⟨q0, q1, _, _⟩ := HCEL.out k hlt
      rw [← hcur.cell] at q0 q1
      have hb := HB.out k
      have hbd := HBD.out k
      have HS := hide (brkL_snoc cs ls k)
      have HIA : Hid (iat cs k = cs.getD k 0) := hide rfl
      rw [← HIA.out] at HS
      clear hcel hkl HIA
      subst hca
      generalize brkL cs ls k = s at *
      generalize ls.getD k (0, 0) = q at *
      generalize iat cs k = c at *
      have hM : 100000000 * (k : Int) ≤ 1100000000 := by omega
      have hbs : BdB 1200000000 s := by unfold BdB at *; omega
      have hbq : BdB 1200000000 q := by unfold BdB at *; omega
      have HPL := hide (fun W => plusB_any s q W 1200000000 (by omega) hbs hbq)
      have HMI := hide (fun W => minusB_any s q W 1200000000 (by omega) hbs hbq)
      clear hb hbd hbs hbq hM
      by_cases h1 : c = 1
      · have HSN : Hid (brkL cs ls (k + 1) = plusS s q) := hide (by rw [HS.out]; unfold brkS; rw [if_pos h1])
        have e1 : (c == 1) = true := by rw [h1]; rfl
        clear h1 HS
        go_wp2_with fail
        refine (HPL.out _).mono ?_
        rintro e W4 ⟨rfl, hb4⟩
        have hb5 : Below wr.heap.size wr W4 := ((Below.refl _ _).alloc (Nat.le_refl _) _).trans (hb4.mono (by rw [sz1]; omega))
        have ks4 := ks.kept hb5
        have hc4 := hcur.kept hb5
        have hB4 := hB.trans (hb5.mono hB.size)
        clear hb4 hb5 ks hcur hB HPL HMI s0 s1 sf0 sf1 ls0 lg q0 q1 c0
        obtain ⟨s0, s1, sf0, sf1⟩ := ks4.two
        have ls0 := ks4.lt
        have ks5 := ks4.set2 (.int .i64 (plusS s q).1) (.int .i64 (plusS s q).2)
        have hc5 := hc4.other2 (k := w.heap.size + 1) (by omega) (.int .i64 (plusS s q).1) (.int .i64 (plusS s q).2)
        have hB5 := below_set2 hB4 (k := w.heap.size + 1) (by omega) (.int .i64 (plusS s q).1) (.int .i64 (plusS s q).2)
        go_wp2_with fail
        exact ⟨⟨k + 1, by omega, by go_num, by rw [HSN.out]; exact ks5, hc5, hB5⟩, by simp [intOf]; omega⟩
      have e1 : (c == 1) = false := by rw [beq_eq_false_iff_ne]; exact h1
      by_cases h2 : c = -1
      · have HSN : Hid (brkL cs ls (k + 1) = minusS s q) := hide (by rw [HS.out]; unfold brkS; rw [if_neg h1, if_pos h2])
        have e2 : (c == -1) = true := by rw [h2]; rfl
        clear h1 h2 HS
        go_wp2_with fail
        refine (HMI.out _).mono ?_
        rintro e W4 ⟨rfl, hb4⟩
        have hb5 : Below wr.heap.size wr W4 := ((Below.refl _ _).alloc (Nat.le_refl _) _).trans (hb4.mono (by rw [sz1]; omega))
        have ks4 := ks.kept hb5
        have hc4 := hcur.kept hb5
        have hB4 := hB.trans (hb5.mono hB.size)
        clear hb4 hb5 ks hcur hB HPL HMI s0 s1 sf0 sf1 ls0 lg q0 q1 c0
        obtain ⟨s0, s1, sf0, sf1⟩ := ks4.two
        have ls0 := ks4.lt
        have ks5 := ks4.set2 (.int .i64 (minusS s q).1) (.int .i64 (minusS s q).2)
        have hc5 := hc4.other2 (k := w.heap.size + 1) (by omega) (.int .i64 (minusS s q).1) (.int .i64 (minusS s q).2)
        have hB5 := below_set2 hB4 (k := w.heap.size + 1) (by omega) (.int .i64 (minusS s q).1) (.int .i64 (minusS s q).2)
        go_wp2_with fail
        exact ⟨⟨k + 1, by omega, by go_num, by rw [HSN.out]; exact ks5, hc5, hB5⟩, by simp [intOf]; omega⟩
      have e2 : (c == -1) = false := by rw [beq_eq_false_iff_ne]; exact h2
      have HSN : Hid (brkL cs ls (k + 1) = s) := hide (by rw [HS.out]; unfold brkS; rw [if_neg h1, if_neg h2])
      clear h1 h2 HS HPL HMI
      have hb5 : ∀ o, Below wr.heap.size wr (wr.alloc o) := fun o => (Below.refl _ _).alloc (Nat.le_refl _) _
      go_wp2_with fail
      exact ⟨⟨k + 1, by omega, by go_num, by rw [HSN.out]; exact ks.kept (hb5 _), hcur.kept (hb5 _), hB.trans ((hb5 _).mono hB.size)⟩, by simp [intOf]; omega⟩
    · have hkn : k = sn := by omega
      have HRK : Hid (brkR n cs = (decide (0 < (brkL cs ls k).1) || decide ((brkL cs ls k).2 < 0))) := hide (by rw [hkn]; exact HR.out)
      clear hkn HR
      generalize brkL cs ls k = s at *
      obtain ⟨x, y⟩ := s
      dsimp only at s0 s1 HRK
      by_cases hx : 0 < x
      · have d1 : decide (0 < x) = true := decide_eq_true hx
        clear hx
        go_wp2_with fail
        exact bodyPost_ret (v := .bool true) (by simp [results, Try.results55, go_sem]) rfl ⟨by rw [HRK.out, d1]; rfl, hB⟩
      · have d1 : decide (0 < x) = false := decide_eq_false hx
        clear hx
        go_wp2_with fail
        exact bodyPost_ret (v := .bool (decide (y < 0))) (by simp [results, Try.results55, go_sem]) rfl ⟨by rw [HRK.out, d1]; rfl, hB⟩

/-! ### Verify -/
theorem grpS_len (ts : List Tri) (l : List Int) (sn : Nat) (hl : l.length ≠ 0) : (grpS ts l sn).out.length = sn :=
  (vg_mn sn ts l (linkM ts ts.length) l.length (l.getD 0 0) 1 (-1) _ (show (0 : Int) < (l.length : Int) by omega)).2.1 (by simp)
theorem grpR_len (ts : List Tri) (l : List Int) (sn : Nat) (hl : l.length ≠ 0) (h : (grpR ts l sn).2 = true) : (grpR ts l sn).1.length = sn := by
  unfold grpR at *
  split
  · show (if _ then _ else _ : List Int).length = sn
    split
    · rw [List.length_map, grpS_len ts l sn hl]
    · exact grpS_len ts l sn hl
  · rename_i h1
    rw [if_neg h1] at h
    cases h
theorem eqR_len {n : TNet} {l : List Int} (h : (eqR n l).2 = 0) : (eqR n l).1.length = n.sp.length := by
  unfold eqR at *
  by_cases h1 : checkT n = 0
  · rw [if_neg (by simpa using h1)] at *
    by_cases h2 : l.length = 0
    · rw [if_pos h2] at h; cases h
    · rw [if_neg h2] at *
      by_cases h3 : ordOk n.ts.length (-1) l = 0
      · rw [if_neg (by simpa using h3)] at *
        by_cases h4 : (grpR n.ts l n.sp.length).2 = true
        · rw [if_pos h4] at *
          exact grpR_len _ _ _ h2 h4
        · rw [if_neg h4] at h; cases h
      · rw [if_pos h3] at h; exact absurd h h3
  · rw [if_pos h1] at h; exact absurd h h1
theorem eqR_chk {n : TNet} {l : List Int} (h : (eqR n l).2 = 0) : checkT n = 0 := by
  unfold eqR at h
  by_cases h1 : checkT n = 0
  · exact h1
  · rw [if_pos h1] at h; exact h
/-- What Verify returns. -/
def verR (n : TNet) (l : List Int) : Int := if (eqR n l).2 ≠ 0 then (eqR n l).2 else if brkR n (eqR n l).1 = false then 12 else 0

set_option maxRecDepth 100000 in
set_option maxHeartbeats 8000000 in
theorem verify_any (n : TNet) (l : List Int) (sa ta la : Option Addr) (sn sc tn tc ln lc : Nat) (w : World) (h : NetIn n sa ta sn tn tc w)
    (hln : ln = l.length) (hl : ln ≤ 1000000000) (hrl : Row w w.heap.size la (ints l)) (hnz : NzOk n l) :
    Calls Try.prog 25 #[netV sa ta sn sc tn tc, .slice la ln lc] w fun e w' => e = .returned (.int .i64 (verR n l)) ∧ Below w.heap.size w w' := by
  have H := hide h
  have HR : Hid (verR n l = if (eqR n l).2 ≠ 0 then (eqR n l).2 else if brkR n (eqR n l).1 = false then 12 else 0) := hide rfl
  have hb1 : Below w.heap.size w (w.alloc (.cells #[.slice sa sn sc, .slice ta tn tc] 25)) := (Below.refl _ _).alloc (Nat.le_refl _) _
  have kn := Blk.new w #[.slice sa sn sc, .slice ta tn tc] 25
  have HEQ := hide (equation_any n l sa ta la sn sc tn tc ln lc _ (h.below hb1) hln hl (hrl.below hb1 (Nat.le_refl _) |>.mono hb1.size) hnz)
  have HLEN := hide (fun h => eqR_len (n := n) (l := l) h)
  have HCK := hide (fun h => eqR_chk (n := n) (l := l) h)
  clear h hln hl hrl hnz
  generalize eqR n l = R at *
  go_enter Try.func25, Try.ntmps25
  go_wp2_with fail
  refine HEQ.out.mono ?_
  rintro e W2 ⟨v, rfl, hv1, hv2, hb2⟩
  have kn2 := kn.kept hb2
  have hB2 := hb1.trans (hb2.mono hb1.size)
  clear hb1 HEQ kn
  obtain ⟨n0, n1, _⟩ := kn2.two
  have ln0 := kn2.lt
  by_cases h0 : R.2 = 0
  rotate_left
  · have HF : Hid (verR n l = R.2) := hide (by rw [HR.out, if_pos h0])
    have d0 : (R.2 != 0) = true := by rw [bne_iff_ne]; exact h0
    clear h0 hv1 hv2
    generalize R.2 = E at *
    go_wp2_with fail
    exact bodyPost_ret (v := .int .i64 E) (by simp [results, Try.results25, go_sem]) rfl ⟨by rw [HF.out], hB2⟩
  obtain ⟨g, rfl, hgs, hbk⟩ := hv1 h0
  have hg2 := hbk.lt
  have hlen := HLEN.out h0
  have hn := nok_of_check (HCK.out h0)
  have HBR := hide (broken_any n R.1 sa ta (some ⟨g, 0, none⟩) sn sc tn tc sn W2 (H.out.below hB2) hn (by rw [hlen]; exact H.out.hsn) ((row_of_heap hbk (by rw [List.toList_toArray, List.take_length])).mono (by omega)))
  have HR1 : Hid (verR n l = if brkR n R.1 = false then 12 else 0) := hide (by rw [HR.out, if_neg (by simpa using h0)])
  have d0 : (R.2 != 0) = false := by rw [h0]; rfl
  clear h0 hv1 hv2 hlen hn HLEN HCK HR hbk
  generalize R.2 = E at *
  go_wp2_with fail
  refine HBR.out.mono ?_
  rintro e W3 ⟨rfl, hb3⟩
  have hB3 := hB2.trans (hb3.mono hB2.size)
  clear HBR
  cases hb : brkR n R.1 with
  | true =>
    have HF : Hid (verR n l = 0) := hide (by rw [HR1.out, hb]; rfl)
    clear hb
    go_wp2_with fail
    exact bodyPost_ret (v := .int .i64 0) (by simp [results, Try.results25, go_sem]) rfl ⟨by rw [HF.out], hB3⟩
  | false =>
    have HF : Hid (verR n l = 12) := hide (by rw [HR1.out, hb]; rfl)
    clear hb
    go_wp2_with fail
    exact bodyPost_ret (v := .int .i64 12) (by simp [results, Try.results25, go_sem]) rfl ⟨by rw [HF.out], hB3⟩

end Go.Proofs.Ytlbhnicengolfaa
