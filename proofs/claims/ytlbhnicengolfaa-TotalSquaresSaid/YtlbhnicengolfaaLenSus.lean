/-
  Package total: Lengths. Package total: Suspects.
-/
import Derived.Test.YtlbhnicengolfaaSquares
import Derived.Test.YtlbhnicengolfaaRtRoot
/-! ## Lengths: Package total: Lengths. -/
namespace Go.Proofs.Ytlbhnicengolfaa
open Go.RowKit
set_option linter.unusedVariables false
set_option linter.unusedSimpArgs false

def lenS (s : Sp) : Sp := ((rootR s.1).1.1, (rootR s.2).1.2)
/-- What Lengths returns. -/
def lenR (n : TNet) : List Sp × Int := ((sqR n).1.map lenS, (sqR n).2)
def stL (L : List Sp) (k : Nat) : List Sp := (L.take k).map lenS ++ L.drop k
theorem stL_len (L : List Sp) (k : Nat) (h : k ≤ L.length) : (stL L k).length = L.length := by simp [stL]; omega
theorem stL_get {L : List Sp} {k : Nat} (h : k < L.length) : (stL L k).getD k (0, 0) = L.getD k (0, 0) := by
  unfold stL
  rw [List.getD_eq_getElem?_getD, List.getD_eq_getElem?_getD, List.getElem?_append_right (by simp; omega)]
  simp [Nat.min_eq_left (Nat.le_of_lt h)]
theorem stL_set {L : List Sp} {k : Nat} (h : k < L.length) : (stL L k).set k (lenS (L.getD k (0, 0))) = stL L (k + 1) := by
  unfold stL
  have e : L[k] = L.getD k (0, 0) := by simp [List.getD, h]
  rw [List.set_append_right _ _ (by simp; omega), List.take_succ_eq_append_getElem h, List.map_append, List.append_assoc, List.drop_eq_getElem_cons h, e]
  simp [Nat.min_eq_left (Nat.le_of_lt h)]
theorem own_shape {w : World} {base : Nat} {e : TypeId} {s n : Nat} {v : Value} {xs : List Value} (h : w.ownsRow base e s v n xs) : ∃ a cap, v = .slice a n cap ∧ n ≤ cap ∧ cap ≤ maxLen := by
  rcases h.2 with ⟨rfl, rfl⟩ | ⟨g, cap, cur, rfl, _, _, h1, h2, _⟩
  · exact ⟨none, 0, rfl, Nat.le_refl _, by decide⟩
  · exact ⟨_, _, rfl, h1, h2⟩
theorem sqR_len (n : TNet) : (sqR n).1.length ≤ 11 := by
  unfold sqR
  split
  · simp
  · rename_i h
    have := (nok_of_check (Decidable.not_not.1 h)).l2
    split
    · rw [narT_len, sqs_len]; exact this
    · simp

set_option maxRecDepth 100000 in
set_option maxHeartbeats 4000000 in
theorem lengths_any (n : TNet) (sa ta : Option Addr) (sn sc tn tc : Nat) (w : World) (h : NetIn n sa ta sn tn tc w) :
    Calls Try.prog 29 #[netV sa ta sn sc tn tc] w fun e w' =>
      ∃ v, e = .returned (.tuple #[v, .int .i64 (lenR n).2]) ∧ w'.ownsRow w.heap.size 53 2 v (lenR n).1.length (spans (lenR n).1) ∧ Below w.heap.size w w' := by
  have hb1 : Below w.heap.size w (w.alloc (.cells #[.slice sa sn sc, .slice ta tn tc] 25)) := (Below.refl _ _).alloc (Nat.le_refl _) _
  have HSQ := hide (squares_any n sa ta sn sc tn tc _ (h.below hb1))
  have HL := hide (sqR_len n)
  have HR : Hid (lenR n = ((sqR n).1.map lenS, (sqR n).2)) := hide rfl
  clear h
  generalize lenR n = R at *
  generalize (sqR n).1 = L at *
  generalize (sqR n).2 = E at *
  go_enter Try.func29, Try.ntmps29
  go_wp2_with fail
  refine HSQ.out.mono ?_
  rintro e W2 ⟨v, rfl, own2, hb2⟩
  have hB2 := hb1.trans (hb2.mono hb1.size)
  have own2' := Go.Joins.ownsRow_le own2 hb1.size
  clear own2 hb1 hb2 HSQ
  obtain ⟨va, cap, rfl, hvc, hvm⟩ := own_shape own2'
  unfold maxLen at hvm
  obtain ⟨N, hN⟩ : ∃ N, N = L.length := ⟨_, rfl⟩
  rw [← hN] at own2' hvc ⊢
  have HN := hide hN
  have hN11 : N ≤ 11 := by rw [hN]; exact HL.out
  clear hN
  go_wp2_with fail
  go_loopw [21] (fun i wr => ∃ k : Nat, k ≤ N ∧ i = .int .i64 (k : Int) ∧ wr.ownsRow w.heap.size 53 2 (.slice va N cap) N (spans (stL L k)) ∧ Below w.heap.size w wr) (fun i _ => N - (intOf i).toNat)
  case atStart => exact ⟨0, Nat.zero_le _, rfl, own2', hB2⟩
  case round =>
    clear own2' hB2
    obtain ⟨k, hk, rfl, own, hB⟩ := hrel
    have hsz := hB.size
    by_cases hlt : k < N
    · obtain ⟨g, cap', hv, _, _⟩ := own.form (by omega)
      injection hv with hva _ hcap
      subst hva hcap
      have hgl := own.lt g rfl
      have hkl : k < L.length := by rw [← HN.out]; exact hlt
      obtain ⟨c0, c1, f0, f1⟩ := own2_cell own hlt
      rw [stL_get hkl] at c0 c1
      have HST := hide (stL_set hkl)
      have HOW := hide own
      clear own hkl
      have HLS : Hid (lenS (L.getD k (0, 0)) = ((rootR (L.getD k (0, 0)).1).1.1, (rootR (L.getD k (0, 0)).2).1.2)) := hide rfl
      generalize L.getD k (0, 0) = S at *
      obtain ⟨x, y⟩ := S
      dsimp only at c0 c1 HLS
      have HR1 := hide (fun W => rootF_any x W)
      have HR2 := hide (fun W => rootF_any y W)
      generalize lenS (x, y) = lS at *
      generalize rootR x = rx at *
      generalize rootR y = ry at *
      obtain ⟨⟨rx1, rx2⟩, rx3⟩ := rx
      obtain ⟨⟨ry1, ry2⟩, ry3⟩ := ry
      dsimp only at HR1 HR2 HLS
      go_wp2_with fail
      refine (HR1.out _).mono ?_
      rintro e W3 ⟨rfl, rfl⟩
      go_wp2_with fail
      refine (HR2.out _).mono ?_
      rintro e W3 ⟨rfl, rfl⟩
      have hgne : ¬ wr.heap.size = g := by omega
      go_wp2_with fail
      have ow5 := (own2_set HOW.out k rx1 ry2).alloc (.cells #[.int .i64 x, .int .i64 y] 53)
      have hB5 := ((hB.setCell (p := ⟨g, k * 2, none⟩) hgl.1 (.int .i64 rx1)).setCell (p := ⟨g, k * 2 + 1, none⟩) hgl.1 (.int .i64 ry2)).alloc (by simp [World.setCell]; omega) (.cells #[.int .i64 x, .int .i64 y] 53)
      go_roundw
      case rel => exact ⟨k + 1, by omega, by go_num, by rw [← HST.out, HLS.out]; exact ow5, hB5⟩
      case measure => simp [intOf]; omega
    · have hkn : k = N := by omega
      have HF : Hid (stL L k = R.1) := hide (by rw [HR.out, hkn, HN.out]; simp [stL])
      have HF2 : Hid (N = R.1.length) := hide (by rw [HR.out, HN.out]; simp)
      have HF3 : Hid (R.2 = E) := hide (by rw [HR.out])
      rw [HF.out] at own
      clear hkn
      go_wp2_with fail
      refine bodyPost_ret (v := .tuple #[.slice va N cap, .int .i64 E]) (by simp [results, Try.results29, go_sem]) rfl ⟨_, by rw [HF3.out], by rw [← HF2.out]; exact own, hB⟩

end Go.Proofs.Ytlbhnicengolfaa

/-! ## Suspects: Package total: Suspects. -/
namespace Go.Proofs.Ytlbhnicengolfaa
open Go.RowKit
set_option linter.unusedVariables false
set_option linter.unusedSimpArgs false

theorem info_int0 : (Try.prog.info? 3).map (fun i => (i.zero, i.size, i.bytes)) = some (some (.int .i64 0), 1, 8) := by kernel_rfl
theorem under_ints : Try.prog.underlying 38 = some (.slice 3) := by kernel_rfl
theorem info_int : ∃ i : TypeInfo, Try.prog.info? 3 = some i ∧ i.zero = some (.int .i64 0) ∧ i.size = 1 ∧ i.bytes = 8 := info_parts info_int0

/-- Would the net be possible without the reading of q? -/
def freeOk (n : TNet) (q : Nat) : Bool := narOk n.ts ((sqs n.sp).set q (0, 1125899906842624))
def susL (n : TNet) (k : Nat) : List Int := ((List.range k).filter (freeOk n)).map fun q : Nat => (q : Int)
/-- What Suspects returns. -/
def susR (n : TNet) : List Int × Int := if (sqR n).2 = 0 then ([], 6) else if (sqR n).2 = 13 then (susL n n.sp.length, 0) else ([], (sqR n).2)
theorem susL_yes {n : TNet} {k : Nat} (h : freeOk n k = true) : susL n (k + 1) = susL n k ++ [(k : Int)] := by simp [susL, List.range_succ, List.filter_append, h]
theorem susL_no {n : TNet} {k : Nat} (h : freeOk n k = false) : susL n (k + 1) = susL n k := by simp [susL, List.range_succ, List.filter_append, h]
theorem susL_len (n : TNet) (k : Nat) : (susL n k).length ≤ k := by
  unfold susL
  rw [List.length_map]
  exact Nat.le_trans (List.length_filter_le _ _) (by simp)
theorem chk1_val (N : Nat) (pre : List Tri) (t : Tri) : chk1 N pre t = 6 ∨ chk1 N pre t = 7 ∨ chk1 N pre t = 21 ∨ chk1 N pre t = 0 := by
  unfold chk1
  split
  · exact .inl rfl
  · split
    · exact .inr (.inl rfl)
    · split
      · exact .inr (.inr (.inl rfl))
      · exact .inr (.inr (.inr rfl))
theorem chkL_val (N : Nat) : ∀ (r pre : List Tri), chkL N pre r = 6 ∨ chkL N pre r = 7 ∨ chkL N pre r = 21 ∨ chkL N pre r = 0
  | [], _ => .inr (.inr (.inr rfl))
  | t :: r, pre => by
    unfold chkL
    split
    · exact chk1_val N pre t
    · exact chkL_val N r _
theorem checkT_ne (n : TNet) : checkT n ≠ 13 := by
  unfold checkT
  split
  · decide
  · split
    · decide
    · split
      · decide
      · have := chkL_val n.sp.length n.ts []
        omega
theorem clash_ok {n : TNet} (h : (sqR n).2 = 13) : checkT n = 0 ∧ narOk n.ts (sqs n.sp) = false := by
  unfold sqR at h
  split at h
  · exact absurd h (checkT_ne n)
  · rename_i h1
    refine ⟨Decidable.not_not.1 h1, ?_⟩
    split at h
    · cases h
    · rename_i h2; simpa using h2
theorem ints_append (a b : List Int) : ints (a ++ b) = ints a ++ ints b := by simp [ints]

set_option maxRecDepth 100000 in
set_option maxHeartbeats 4000000 in
theorem suspects_any (n : TNet) (sa ta : Option Addr) (sn sc tn tc : Nat) (w : World) (h : NetIn n sa ta sn tn tc w) :
    Calls Try.prog 36 #[netV sa ta sn sc tn tc] w fun e w' =>
      ∃ v, e = .returned (.tuple #[v, .int .i64 (susR n).2]) ∧ w'.ownsRow w.heap.size 3 1 v (susR n).1.length (ints (susR n).1) ∧ Below w.heap.size w w' := by
  have hb1 : Below w.heap.size w (w.alloc (.cells #[.slice sa sn sc, .slice ta tn tc] 25)) := (Below.refl _ _).alloc (Nat.le_refl _) _
  have kn := Blk.new w #[.slice sa sn sc, .slice ta tn tc] 25
  have HSQ := hide (squares_any n sa ta sn sc tn tc _ (h.below hb1))
  have H := hide h
  have HR : Hid (susR n = if (sqR n).2 = 0 then ([], 6) else if (sqR n).2 = 13 then (susL n n.sp.length, 0) else ([], (sqR n).2)) := hide rfl
  have HCL := hide (fun h => clash_ok (n := n) h)
  clear h
  generalize (sqR n).1 = L at *
  generalize (sqR n).2 = E at *
  go_enter Try.func36, Try.ntmps36
  go_wp2_with fail
  refine HSQ.out.mono ?_
  rintro e W2 ⟨v0, rfl, _, hb2⟩
  have kn2 := kn.kept hb2
  have hB2 := hb1.trans (hb2.mono hb1.size)
  have hsz2 : w.heap.size < W2.heap.size := by have := hb2.size; simp at this; omega
  clear hb1 hb2 HSQ kn
  by_cases h0 : E = 0
  · have HF : Hid (susR n = ([], 6)) := hide (by rw [HR.out, if_pos h0])
    have d0 : (E == 0) = true := by simpa using h0
    clear h0
    go_wp2_with fail
    exact bodyPost_ret (v := .tuple #[.slice none 0 0, .int .i64 6]) (by simp [results, Try.results36, go_sem]) rfl ⟨_, by rw [HF.out], by rw [HF.out]; exact World.ownsRow_nil _ _ _ _, hB2⟩
  have d0 : (E == 0) = false := by rw [beq_eq_false_iff_ne]; exact h0
  by_cases h1 : E = 13
  rotate_left
  · have HF : Hid (susR n = ([], E)) := hide (by rw [HR.out, if_neg h0, if_neg h1])
    have d1 : (E == 13) = false := by rw [beq_eq_false_iff_ne]; exact h1
    clear h0 h1
    go_wp2_with fail
    exact bodyPost_ret (v := .tuple #[.slice none 0 0, .int .i64 E]) (by simp [results, Try.results36, go_sem]) rfl ⟨_, by rw [HF.out], by rw [HF.out]; exact World.ownsRow_nil _ _ _ _, hB2⟩
  have HF : Hid (susR n = (susL n sn, 0)) := hide (by rw [HR.out, if_neg h0, if_pos h1, H.out.hsn])
  have hn := nok_of_check (HCL.out h1).1
  have HN := hide hn
  have hs11 : sn ≤ 11 := by have := H.out.hsn; have := hn.l2; omega
  have d1 : (E == 13) = true := by simpa using h1
  obtain ⟨i0, hi, hz0, hz1, hz2⟩ := info_int
  have HI := hide hi
  clear h0 h1 HCL HR hn hi
  obtain ⟨n0, n1, _⟩ := kn2.two
  have ln := kn2.lt
  go_wp2_with fail
  clear n0 n1 ln
  go_loopw [6, 23] (fun v i wr => ∃ k : Nat, k ≤ sn ∧ i = .int .i64 (k : Int) ∧ wr.ownsRow (w.heap.size + 1) 3 1 v (susL n k).length (ints (susL n k)) ∧ Below w.heap.size w wr ∧ Blk wr w.heap.size #[.slice sa sn sc, .slice ta tn tc] 25) (fun _ i _ => sn - (intOf i).toNat)
  case atStart => exact ⟨0, Nat.zero_le _, rfl, World.ownsRow_nil _ _ _ _, hB2, kn2⟩
  case round =>
    clear hB2 kn2 hsz2
    obtain ⟨k, hk, rfl, own, hB, kn⟩ := hrel
    have hsz := kn.lt
    obtain ⟨n0, n1, _⟩ := kn.two
    by_cases hlt : k < sn
    · have HSP := hide ((H.out.below hB).spans HN.out sc)
      obtain ⟨va, vcap, hva, hvc, hvm⟩ := own_shape own
      subst hva
      have HOW := hide own
      have hlen := susL_len n k
      clear own
      go_wp2_with fail
      refine HSP.out.mono ?_
      rintro e W3 ⟨g, cap, rfl, own3, hb3⟩
      have kn3 := kn.kept hb3
      have hB3 := hB.trans (hb3.mono (by omega))
      have HOW3 := hide (own_kept HOW.out hb3)
      have hgl := own3.lt g rfl
      obtain ⟨_, _, _, hsc, _⟩ := own2_blk own3
      obtain ⟨_, _, f0, f1⟩ := own2_cell own3 hlt
      obtain ⟨c0, c1, _, _⟩ := own2_cell own3 hlt
      have ow4 := own2_set own3 k 0 1125899906842624
      have hB4 := (hB3.setCell (p := ⟨g, k * 2, none⟩) (show _ ≤ g by omega) (.int .i64 0)).setCell (p := ⟨g, k * 2 + 1, none⟩) (show _ ≤ g by omega) (.int .i64 1125899906842624)
      have hsz4 : ((W3.setCell ⟨g, k * 2, none⟩ (.int .i64 0)).setCell ⟨g, k * 2 + 1, none⟩ (.int .i64 1125899906842624)).heap.size = W3.heap.size := by simp [World.setCell]
      have hkg : w.heap.size ≠ g := by omega
      have kn4 := (kn3.other (p := ⟨g, k * 2, none⟩) hkg (.int .i64 0)).other (p := ⟨g, k * 2 + 1, none⟩) hkg (.int .i64 1125899906842624)
      have HOW4 := hide ((HOW3.out.kept (own2_grown W3 g (k * 2) (.int .i64 0)) (.inr (fun e => by have := (HOW.out.lt g e).2; omega))).kept (own2_grown _ g (k * 2 + 1) (.int .i64 1125899906842624)) (.inr (fun e => by have := (HOW.out.lt g e).2; omega)))
      go_upto_region 13 with (fail)
      generalize World.setCell (World.setCell W3 _ _) _ _ = W4 at *
      clear own3 hB3 kn3 HOW3 f0 f1 c0 c1 hb3 n0 n1 HSP
      have HNA := hide (H.out.narrow HN.out sc ((sqs n.sp).set k (0, 1125899906842624)) (wr.heap.size + 1) g cap hB4 (by omega) (by omega) ((sqs_B HN.out).set (k : Int) (s := (0, 1125899906842624)) ⟨by decide, by decide, by decide, by decide⟩) ow4)
      have HFO : Hid (narOk n.ts ((sqs n.sp).set k (0, 1125899906842624)) = freeOk n k) := hide rfl
      rw [HFO.out] at HNA
      clear HFO ow4
      obtain ⟨n0, n1, _⟩ := kn4.two
      have ln := kn4.lt
      go_wp2_with fail
      refine HNA.out.mono ?_
      rintro e W5 ⟨rfl, _, gr5⟩
      have hB5 : Below w.heap.size w W5 := ⟨gr5.os.trans hB4.os, gr5.tape.trans hB4.tape, gr5.output.trans hB4.output, Nat.le_trans hB4.size gr5.size, fun j hj => (gr5.block j (by have := hB4.size; omega) (fun e => by injection e; omega)).trans (hB4.block j hj)⟩
      have kn5 : Blk W5 w.heap.size #[.slice sa sn sc, .slice ta tn tc] 25 := (gr5.block _ kn4.lt (fun e => by injection e; omega)).trans kn4
      have HOW5 := hide (HOW4.out.kept gr5 (.inr (fun e => by have := (HOW.out.lt g e).2; omega)))
      have hsz5 : w.heap.size < W5.heap.size := kn5.lt
      clear HNA hB4 kn4 HOW4 gr5 n0 n1 ln
      cases hfo : freeOk n k with
      | true =>
        have HS := hide (susL_yes hfo)
        clear hfo
        generalize hm : (susL n k).length = m at *
        have HM := hide hm
        clear hm
        go_wp2_with (
          at_builtin
          refine wpList_append_lies _ rfl (.tmp 36) (.tmp 38) 38 rfl (w.heap.size + 1) 3 i0 (.int .i64 0) 1 8 under_ints HI.out hz0 hz1 hz2 rfl (by decide) _ m (ints (susL n k)) rfl (HOW5.out.alloc _) ⟨W5.heap.size, 0, none⟩ 1 1 [.int .i64 (k : Int)] rfl rfl
            (World.news_of_block (cs := #[.int .i64 (k : Int)]) (t := 3) (fr := (0, 0)) (Blk.newAt (by simp) _ _)) (by intro u hu; simp at hu; subst hu; rfl) (by decide) (by unfold maxLen; omega) (by omega) (by simp; omega) _ rfl ?_
          intro g2 cap2 W6 ow6 gr6 at6 lt6)
        have hB6 : Below w.heap.size w W6 := below_own (hB5.alloc hB5.size _) (HOW5.out.alloc _) (Nat.le_succ _) (by simp; omega) gr6
        have kn6 : Blk W6 w.heap.size #[.slice sa sn sc, .slice ta tn tc] 25 := (gr6.block _ (by simp; omega) (fun e => by have := (HOW5.out.lt _ e.symm).1; omega)).trans (kn5.alloc _)
        go_roundw
        case rel => exact ⟨k + 1, by omega, by go_num, by rw [HS.out, ints_append, List.length_append, HM.out]; exact ow6, hB6, kn6⟩
        case measure => simp [intOf]; omega
      | false =>
        have HS := hide (susL_no hfo)
        clear hfo
        go_wp2_with fail
        go_roundw
        case rel => exact ⟨k + 1, by omega, by go_num, by rw [HS.out]; exact HOW5.out, hB5, kn5⟩
        case measure => simp [intOf]; omega
    · have hkn : k = sn := by omega
      rw [hkn] at own
      have own' := Go.Joins.ownsRow_le own (Nat.le_succ w.heap.size)
      obtain ⟨va, cap, rfl, _, _⟩ := own_shape own'
      clear hkn own
      go_wp2_with fail
      refine bodyPost_ret (v := .tuple #[.slice va (susL n sn).length cap, .int .i64 0]) (by simp [results, Try.results36, go_sem]) rfl ⟨_, by rw [HF.out], by rw [HF.out]; exact own', hB⟩

end Go.Proofs.Ytlbhnicengolfaa
