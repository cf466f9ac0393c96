/-
  Package total: group.
-/
import Derived.Test.YtlbhnicengolfaaVgW
import Derived.Deep.OwnRows
import Derived.StillTailTactics
namespace Go.Proofs.Ytlbhnicengolfaa
open Go.RowKit
set_option linter.unusedVariables false
set_option linter.unusedSimpArgs false

def grpS (ts : List Tri) (l : List Int) (sn : Nat) : GS := vg ts l (linkM ts ts.length) l.length (l.getD 0 0) 1 (-1) ⟨List.replicate sn 0, (l.length : Int), true⟩
def negW (c : Int) : Int := wrap64 (-c)
def nzIdx (out : List Int) : Nat := out.findIdx (fun c => c != 0)
/-- The equation of a group, and whether there is one. -/
def grpR (ts : List Tri) (l : List Int) (sn : Nat) : List Int × Bool :=
  if (grpS ts l sn).good = true ∧ (grpS ts l sn).left = 0 then
    (if (grpS ts l sn).out.getD (nzIdx (grpS ts l sn).out) 0 < 0 then (grpS ts l sn).out.map negW else (grpS ts l sn).out, true)
  else ([], false)
def negL (out : List Int) (k : Nat) : List Int := (out.take k).map negW ++ out.drop k
theorem negL_at {out : List Int} {k : Nat} (h : k < out.length) : (negL out k).getD k 0 = out.getD k 0 := by
  have e : ((out.take k).map negW).length = k := by simp; omega
  unfold negL
  rw [List.getD_eq_getElem?_getD, List.getElem?_append_right (by omega), e]
  simp
theorem negL_set {out : List Int} {k : Nat} (h : k < out.length) : (negL out k).set k (negW (out.getD k 0)) = negL out (k + 1) := by
  have e : ((out.take k).map negW).length = k := by simp; omega
  unfold negL
  have e2 : ∀ v : Int, (out.drop k).set 0 v = v :: out.drop (k + 1) := fun v => by rw [List.drop_eq_getElem_cons h]; rfl
  rw [List.set_append_right _ _ (by omega), e, Nat.sub_self, e2, List.take_succ_eq_append_getElem h, List.map_append, List.append_assoc]
  simp [List.getD, h]
theorem negL_len {out : List Int} {k : Nat} : (negL out k).length = out.length := by simp [negL]; omega
theorem negL_zero (out : List Int) : negL out 0 = out := by simp [negL]
theorem negL_all (out : List Int) : negL out out.length = out.map negW := by simp [negL]

theorem neg_any (x : Int) (W : World) : Calls Try.prog 73 #[.int .i64 x] W fun e w' => e = .returned (.bool (x != 0)) ∧ Below W.heap.size W w' := by
  go_enter Try.func73, Try.ntmps73
  go_wp2
  go_ret
  exact ⟨rfl, Below.refl _ _⟩

theorem made_ints (n : Nat) : madeCells #[Value.int .i64 0] n = (ints (List.replicate n 0)).toArray := by
  apply Array.ext'
  apply List.ext_getElem?
  intro i
  by_cases h : i < n
  · simp [madeCells, ints, h, Nat.mod_one]
  · simp [madeCells, ints, h]
theorem size_two (w : World) (a b : Obj) : ((w.alloc a).alloc b).heap.size = w.heap.size + 2 := by
  show ((w.heap.push a).push b).size = _
  rw [Array.size_push, Array.size_push]
theorem sz1 (w : World) (o : Obj) : (w.alloc o).heap.size = w.heap.size + 1 := by
  show (w.heap.push o).size = _
  rw [Array.size_push]
/-- Where visit starts. -/
def grpW (W2 : World) (MB N bN bl : Nat) (c0 : Array Value) (ln : Int) : World :=
  (((((W2.alloc (.cells #[.map (some MB)] 114)).alloc (.cells c0 3)).alloc (.cells #[.slice (some ⟨W2.heap.size + 1, 0, none⟩) N N] 38)).alloc (.cells #[.int .i64 ln] 3)).alloc (.cells #[.bool true] 4)).alloc (.cells #[visF W2.heap.size bN bl] 116)
theorem grp_fix (W2 : World) (MB N bN bl : Nat) (c0 : Array Value) (ln : Int) : GFix W2 W2.heap.size MB N bN bl (grpW W2 MB N bN bl c0 ln) := by
  unfold grpW
  refine ⟨rfl, ?_, ?_, ?_, ?_⟩
  · exact ((((((Below.refl _ _).alloc (Nat.le_refl _) _).alloc (by rw [sz1]; omega) _).alloc (by rw [sz1, sz1]; omega) _).alloc (by rw [sz1, sz1, sz1]; omega) _).alloc (by rw [sz1, sz1, sz1, sz1]; omega) _).alloc (by rw [sz1, sz1, sz1, sz1, sz1]; omega) _
  · exact (((((Blk.new W2 _ _).alloc _).alloc _).alloc _).alloc _).alloc _
  · exact (((Blk.newAt (by rw [sz1, sz1]) _ _).alloc _).alloc _).alloc _
  · exact Blk.newAt (by rw [sz1, sz1, sz1, sz1, sz1]) _ _
theorem grp_st (W2 : World) (MB N bN bl : Nat) (ln : Int) : GSt W2.heap.size ⟨List.replicate N 0, ln, true⟩ (grpW W2 MB N bN bl (ints (List.replicate N 0)).toArray ln) := by
  unfold grpW
  refine ⟨?_, ?_, ?_⟩
  · exact ((Blk.newAt (by rw [sz1, sz1, sz1]) _ _).alloc _).alloc _
  · exact (Blk.newAt (by rw [sz1, sz1, sz1, sz1]) _ _).alloc _
  · exact ((((Blk.newAt (by rw [sz1]) _ _).alloc _).alloc _).alloc _).alloc _
/-- What group returns. -/
def grpPost (R : List Int × Bool) (sn : Nat) (w : World) (e : Ending) (w' : World) : Prop :=
  ∃ v, e = .returned (.tuple #[v, .bool R.2]) ∧ (R.2 = true → ∃ g, v = .slice (some ⟨g, 0, none⟩) sn sn ∧ w.heap.size ≤ g ∧ Blk w' g (ints R.1).toArray 3) ∧ (R.2 = false → v = .slice none 0 0) ∧ Below w.heap.size w w'
theorem grpPost_none {R : List Int × Bool} {sn : Nat} {w w' : World} (hR : R = ([], false)) (hb : Below w.heap.size w w') : grpPost R sn w (.returned (.tuple #[.slice none 0 0, .bool false])) w' := by
  subst hR
  exact ⟨_, rfl, (fun h => nomatch h), fun _ => rfl, hb⟩
theorem grpPost_some {R : List Int × Bool} {sn : Nat} {w w' : World} {out : List Int} {g : Nat} (hR : R = (out, true)) (hg : w.heap.size ≤ g) (hk : Blk w' g (ints out).toArray 3) (hb : Below w.heap.size w w') : grpPost R sn w (.returned (.tuple #[.slice (some ⟨g, 0, none⟩) sn sn, .bool true])) w' := by
  subst hR
  exact ⟨_, rfl, (fun _ => ⟨_, rfl, hg, hk⟩), (fun h => nomatch h), hb⟩
theorem linkS_in {f : Int → List Int} {o i N : Int} (hf : ∀ q x, x ∈ f q → 0 ≤ x ∧ x < N) (h0 : 0 ≤ i ∧ i < N) (q x : Int) (hx : x ∈ linkS f o i q) : 0 ≤ x ∧ x < N := by
  unfold linkS at hx
  split at hx
  · rcases List.mem_append.1 hx with h | h
    · exact hf _ _ h
    · obtain rfl := List.mem_singleton.1 h; exact h0
  · exact hf _ _ hx
theorem linkF_in {i N : Int} (h0 : 0 ≤ i ∧ i < N) : ∀ (c : List Int) (f : Int → List Int), (∀ q x, x ∈ f q → 0 ≤ x ∧ x < N) → ∀ q x, x ∈ c.foldl (fun f q => linkS f q i) f q → 0 ≤ x ∧ x < N
  | [], f, hf, q, x, hx => hf q x hx
  | o :: c, f, hf, q, x, hx => linkF_in h0 c _ (fun q x hx => linkS_in hf h0 q x hx) q x hx
theorem linkM_in (ts : List Tri) : ∀ (k : Nat) (q x : Int), x ∈ linkM ts k q → 0 ≤ x ∧ x < (k : Int)
  | 0, q, x, h => by cases h
  | k + 1, q, x, h => linkF_in (i := (k : Int)) (N := ((k + 1 : Nat) : Int)) ⟨by omega, by omega⟩ _ _ (fun q x hx => by have := linkM_in ts k q x hx; omega) q x h
theorem info_i64_0 : (Try.prog.info? 3).map (fun i => (i.zero, i.size, i.bytes)) = some (some (.int .i64 0), 1, 8) := by kernel_rfl

set_option maxRecDepth 100000 in
set_option maxHeartbeats 8000000 in
theorem group_any (n : TNet) (l : List Int) (sa ta la : Option Addr) (sn sc tn tc ln lc : Nat) (w : World) (h : NetIn n sa ta sn tn tc w) (hn : NOk n)
    (hln : ln = l.length) (hl1 : 1 ≤ ln) (hl5 : ln ≤ 1000) (hin : ∀ x ∈ l, 0 ≤ x ∧ x < (tn : Int)) (hrl : Row w w.heap.size la (ints l))
    (hnz : (grpR n.ts l n.sp.length).2 = true → nzIdx (grpS n.ts l n.sp.length).out < n.sp.length) :
    Calls Try.prog 53 #[netV sa ta sn sc tn tc, .slice la ln lc] w fun e w' => grpPost (grpR n.ts l n.sp.length) sn w e w' := by
  have H := hide h
  have HN := hide hn
  have HL := hide (And.intro hln (And.intro hin hrl))
  have HNZ := hide hnz
  have hs11 : sn ≤ 11 := by have := h.hsn; have := hn.l2; omega
  have ht5 : tn ≤ 5 := by have := h.htn; have := hn.l3; omega
  have hb1 : Below w.heap.size w ((w.alloc (.cells #[.slice sa sn sc, .slice ta tn tc] 25)).alloc (.cells #[.slice la ln lc] 38)) := ((Below.refl _ _).alloc (Nat.le_refl _) _).alloc (by simp) _
  have kn := (Blk.new w #[.slice sa sn sc, .slice ta tn tc] 25).alloc (.cells #[.slice la ln lc] 38)
  have kl := Blk.newAt (W := w.alloc (.cells #[.slice sa sn sc, .slice ta tn tc] 25)) (k := w.heap.size + 1) (by show w.heap.size + 1 = (w.heap.push _).size; rw [Array.size_push]) #[.slice la ln lc] 38
  obtain ⟨i0, hi, hz0, hz1, hz2⟩ := info_int
  have hmk : ∀ w, (Instr.makeSlice 38 (.int .i64 (sn : Int)) (.int .i64 (sn : Int))).run Try.prog w = .ok (.slice (some ⟨w.heap.size, 0, none⟩) sn sn) (w.alloc (.cells (ints (List.replicate sn 0)).toArray 3)) := fun w => by
    rw [← made_ints]
    exact run_make_row (P := Try.prog) 38 3 i0 _ under_ints hi hz0 hz1 rfl .i64 .i64 sn (by rw [hz2]; omega) (by omega) w
  generalize HC0 : (ints (List.replicate sn 0)).toArray = c0 at *
  have HC0 := hide HC0
  have HLK := hide (links_any n sa ta sn sc tn tc _ (h.below hb1) hn)
  clear h hn hln hin hrl hnz hi hz0 hz1 hz2
  go_enter Try.func53, Try.ntmps53
  go_wp2_with fail
  refine HLK.out.mono ?_
  rintro e W2 ⟨rfl, hg2, hb2⟩
  have kn2 := kn.kept hb2
  have kl2 := kl.kept hb2
  have hB2 := hb1.trans (hb2.mono hb1.size)
  have hs2 : w.heap.size + 2 < W2.heap.size := by have := hg2.lt; rw [size_two] at this; omega
  clear hb1 hb2 kn kl HLK
  obtain ⟨n0, n1, _⟩ := kn2.two
  obtain ⟨l0, _⟩ := kl2.one
  have ln0 := kn2.lt
  have ll0 := kl2.lt
  go_wp2_with fail
  generalize hV : World.alloc _ _ = V
  have hfix : GFix W2 W2.heap.size (w.heap.size + 3) sn w.heap.size (w.heap.size + 1) V := by subst hV; exact grp_fix W2 (w.heap.size + 3) sn w.heap.size (w.heap.size + 1) c0 ln
  have hst : GSt W2.heap.size ⟨List.replicate sn 0, (ln : Int), true⟩ V := by subst hV; have := grp_st W2 (w.heap.size + 3) sn w.heap.size (w.heap.size + 1) ln; rw [HC0.out] at this; exact this
  clear hV hmk HC0 n0 n1 l0 ln0 ll0
  simp only [Nat.add_assoc, Nat.reduceAdd]
  have HIN : Hid (GIn W2 W2.heap.size (w.heap.size + 3) (w.heap.size + 4) sn w.heap.size (w.heap.size + 1) n.ts l (linkM n.ts n.ts.length) sa ta la sc tn tc ln lc) := hide ⟨kn2, kl2, (H.out.rt.below hB2 (Nat.le_refl _)).mono (by omega), (HL.out.2.2.below hB2 (Nat.le_refl _)).mono (by omega), by have := hg2; rw [size_two] at this; rw [← H.out.htn]; exact this, H.out.htn, H.out.htc, ht5, HL.out.1, hl5, hs11, by rw [← H.out.htn]; exact linkM_in n.ts tn, by rw [H.out.hsn]; exact nok_in HN.out⟩
  clear hg2
  obtain ⟨kn, kl, hrt, hrl⟩ := HIN.out.at hfix
  obtain ⟨l0, _⟩ := kl.one
  have ll := kl.lt
  obtain ⟨v0, _⟩ := hfix.k10.one
  have lv := hfix.k10.lt
  unfold visF at v0
  obtain ⟨g, off, hva, hgs, hcel⟩ := hrl.int (by have := HL.out.1; omega)
  have hc0 := hcel 0 (by have := HL.out.1; omega)
  simp only [Nat.add_zero] at hc0
  subst hva
  have hgw : g < V.heap.size := by have := hfix.k6.lt; omega
  clear hcel hrl hrt kn
  generalize hi0 : iat l 0 = i0' at *
  have HI0 := hide hi0
  clear hi0
  have hi0r : 0 ≤ i0' ∧ i0' < tn := HL.out.2.1 i0' (by rw [← HI0.out, iat_eq l 0 (by have := HL.out.1; omega)]; exact List.getElem_mem _)
  have w1 : (0 : Int) < (ln : Int) := by omega
  have w2 : 0 < ln := by omega
  go_wp2_with fail
  go_still_tail 4, (by kernel_rfl)
  have hfix1 := hfix.kept (Below.refl _ _).drew
  have hst1 := hst.kept (Below.refl _ _).drew
  rw [show ({ heap := V.heap, tape := V.tape, drawn := V.drawn + 1, os := V.os, output := V.output } : World) = V.drew from rfl]
  clear hfix hst hc0 hgw hgs lv v0 ll l0 kl w1 w2
  generalize V.drew = V1 at *
  have HCALL := hide (vg_any W2 W2.heap.size (w.heap.size + 3) (w.heap.size + 4) sn w.heap.size (w.heap.size + 1) n.ts l (linkM n.ts n.ts.length) sa ta (some ⟨g, off, none⟩) sc tn tc ln lc HIN.out ln i0' 1 (-1) _ V1 hi0r.1 hi0r.2 (by omega) (by omega) (show (1 : Int) ≤ (ln : Int) by omega) (Int.le_refl _) (show (ln : Int) ≤ 1000 by omega) (by simp) hfix1 hst1)
  go_wp2_with fail
  refine HCALL.out.mono ?_
  rintro e V2 ⟨rfl, hfix, hst⟩
  have HST : Hid (vg n.ts l (linkM n.ts n.ts.length) ln i0' 1 (-1) ⟨List.replicate sn 0, (ln : Int), true⟩ = grpS n.ts l sn) := hide (by unfold grpS; rw [← HL.out.1, ← HI0.out]; rfl)
  rw [HST.out] at hst
  have HLEN : Hid ((grpS n.ts l sn).out.length = sn) := hide (by
    rw [← HST.out]
    exact (vg_mn sn n.ts l (linkM n.ts n.ts.length) ln i0' 1 (-1) _ (show (0 : Int) < (ln : Int) by omega)).2.1 (by simp))
  have HR : Hid (grpR n.ts l n.sp.length = if (grpS n.ts l sn).good = true ∧ (grpS n.ts l sn).left = 0 then (if (grpS n.ts l sn).out.getD (nzIdx (grpS n.ts l sn).out) 0 < 0 then (grpS n.ts l sn).out.map negW else (grpS n.ts l sn).out, true) else ([], false)) := hide (by rw [← H.out.hsn]; rfl)
  have HNZ2 : Hid ((grpR n.ts l n.sp.length).2 = true → nzIdx (grpS n.ts l sn).out < sn) := hide (by rw [H.out.hsn]; exact HNZ.out)
  have hBV : Below w.heap.size w V2 := hB2.trans (hfix.be.mono (by omega))
  clear HCALL hfix1 hst1 HST HNZ
  generalize grpS n.ts l sn = st at *
  obtain ⟨y0, _⟩ := hst.good.one
  have ly := hst.good.lt
  obtain ⟨x0, _⟩ := hst.left.one
  have lx := hst.left.lt
  obtain ⟨o0, _⟩ := hfix.k7.one
  have lo := hfix.k7.lt
  cases hgd : st.good with
  | false =>
    rw [hgd] at y0
    have HF : Hid (grpR n.ts l n.sp.length = ([], false)) := hide (by rw [HR.out, if_neg (by rw [hgd]; simp)])
    clear hgd
    go_wp2_with fail
    exact bodyPost_ret (v := .tuple #[.slice none 0 0, .bool false]) (by simp [results, Try.results53, go_sem]) rfl (grpPost_none HF.out hBV)
  | true =>
    rw [hgd] at y0
    have HGD := hide hgd
    clear hgd
    by_cases hl0 : st.left = 0
    rotate_left
    · have d1 : (st.left != 0) = true := by rw [bne_iff_ne]; exact hl0
      have HF : Hid (grpR n.ts l n.sp.length = ([], false)) := hide (by rw [HR.out, if_neg (by simp [hl0])])
      clear hl0
      go_wp2_with fail
      exact bodyPost_ret (v := .tuple #[.slice none 0 0, .bool false]) (by simp [results, Try.results53, go_sem]) rfl (grpPost_none HF.out hBV)
    have d1 : (st.left != 0) = false := by rw [hl0]; rfl
    have HR2 : Hid (grpR n.ts l n.sp.length = (if st.out.getD (nzIdx st.out) 0 < 0 then st.out.map negW else st.out, true)) := hide (by rw [HR.out, if_pos ⟨HGD.out, hl0⟩])
    have hk := HNZ2.out (by rw [HR2.out])
    have HIX : Hid (idxW (fun c : Int => c != 0) st.out = (nzIdx st.out : Int)) := hide (by
      unfold idxW nzIdx
      rw [if_pos]
      rw [← HLEN.out] at hk
      exact List.any_eq_true.2 ⟨_, List.getElem_mem hk, List.findIdx_getElem (w := hk)⟩)
    have hrow : Row V2 V2.heap.size (some ⟨W2.heap.size + 1, 0, none⟩) (ints st.out) := by
      exact (row_of_heap hst.out (by rw [List.toList_toArray, List.take_length])).mono (by have := hst.out.lt; omega)
    have HIF := hide (indexFuncI (fun c : Int => c != 0) 73 #[] st.out (some ⟨W2.heap.size + 1, 0, none⟩) sn sn V2 (by rw [HLEN.out]) (by omega) hrow (by intro args w; rfl) (fun x W _ _ => neg_any x W))
    clear hl0 HR HNZ2 HGD hrow
    generalize nzIdx st.out = kz at *
    go_wp2_with fail
    refine HIF.out.mono ?_
    rintro e V3 ⟨rfl, hb3⟩
    rw [HIX.out]
    clear HIX
    have hfix3 := hfix.kept hb3
    have hst3 := hst.kept hb3
    have hBV3 := hBV.trans (hb3.mono hBV.size)
    clear hfix hst hb3 HIF y0 ly x0 lx o0 lo hBV
    obtain ⟨o0, _⟩ := hfix3.k7.one
    have lo := hfix3.k7.lt
    obtain ⟨c0, cf⟩ := hst3.cell (q := kz) (by rw [HLEN.out]; exact hk)
    have l1 := hst3.out.lt
    have hkz : (kz : Int) < sn := by omega
    have HX : Hid (∃ x, x = st.out.getD kz 0) := hide ⟨_, rfl⟩
    obtain ⟨x, hx⟩ := HX.out
    rw [← hx] at c0 HR2
    clear HX hx
    by_cases hneg : x < 0
    rotate_left
    · have d2 : decide (x < 0) = false := decide_eq_false hneg
      rw [if_neg hneg] at HR2
      clear hneg
      go_wp2_with fail
      exact bodyPost_ret (v := .tuple #[.slice (some ⟨W2.heap.size + 1, 0, none⟩) sn sn, .bool true]) (by simp [results, Try.results53, go_sem]) rfl (grpPost_some HR2.out (by omega) hst3.out hBV3)
    have d2 : decide (x < 0) = true := decide_eq_true hneg
    rw [if_pos hneg] at HR2
    clear hneg
    have hst4 : GSt W2.heap.size { st with out := negL st.out 0 } V3 := by rw [negL_zero]; exact hst3
    go_wp2_with fail
    go_loopw [42] (fun ix wr => ∃ k : Nat, k ≤ sn ∧ ix = .int .i64 (k : Int) ∧ GFix W2 W2.heap.size (w.heap.size + 3) sn w.heap.size (w.heap.size + 1) wr ∧ GSt W2.heap.size { st with out := negL st.out k } wr) (fun ix _ => sn - (intOf ix).toNat)
    case atStart => exact ⟨0, Nat.zero_le _, rfl, hfix3, hst4⟩
    case round =>
      clear hst3 hst4 hfix3 o0 lo c0 cf l1 d2 hBV3
      obtain ⟨k, hks, rfl, hfix, hst⟩ := hrel
      obtain ⟨o0, _⟩ := hfix.k7.one
      have lo := hfix.k7.lt
      by_cases hlt : k < sn
      · obtain ⟨c0, cf⟩ := hst.cell (q := k) (by rw [show (negL st.out k).length = sn by rw [negL_len, HLEN.out]]; exact hlt)
        have l1 := hst.out.lt
        have HX : Hid ((negL st.out k).getD k 0 = st.out.getD k 0) := hide (negL_at (by rw [HLEN.out]; exact hlt))
        have HS := hide (negL_set (out := st.out) (k := k) (by rw [HLEN.out]; exact hlt))
        have c1 : wr.cell? ⟨W2.heap.size + 1, k, none⟩ = some (.int .i64 (st.out.getD k 0)) := by rw [← HX.out]; exact c0
        clear c0
        generalize st.out.getD k 0 = xk at *
        have hks2 : (k : Int) < (sn : Int) := by omega
        go_wp2_with fail
        go_still_tail 8, (by kernel_rfl)
        have hstd := (hst.kept (Below.refl _ _).drew).setOut k (negW xk)
        rw [show ({ st with out := (negL st.out k).set k (negW xk) } : GS) = { st with out := negL st.out (k + 1) } by rw [HS.out]] at hstd
        have hfixd := (hfix.kept (Below.refl _ _).drew).set (b := W2.heap.size + 1) (.inl rfl) k (.int .i64 (negW xk))
        unfold negW at hfixd hstd
        go_wp2_with fail
        exact ⟨⟨k + 1, by omega, by go_num, hfixd, hstd⟩, by simp [intOf]; omega⟩
      · have hkn : k = sn := by omega
        have HF : Hid (grpR n.ts l n.sp.length = (negL st.out k, true)) := hide (by rw [HR2.out, hkn, ← HLEN.out, negL_all])
        have hBw : Below w.heap.size w wr := hB2.trans (hfix.be.mono (by omega))
        clear hkn HR2
        go_wp2_with fail
        exact bodyPost_ret (v := .tuple #[.slice (some ⟨W2.heap.size + 1, 0, none⟩) sn sn, .bool true]) (by simp [results, Try.results53, go_sem]) rfl (grpPost_some HF.out (by omega) hst.out hBw)

end Go.Proofs.Ytlbhnicengolfaa
