/-
  Package total: connected, its closure. Package total: connected.
-/
import Derived.Test.YtlbhnicengolfaaTData
import Derived.Test.YtlbhnicengolfaaApp
import Derived.Laws.EntriesVeiled
/-! ## Visit: Package total: connected, its closure. -/
namespace Go.Proofs.Ytlbhnicengolfaa
open Go.RowKit
set_option linter.unusedVariables false
set_option linter.unusedSimpArgs false

theorem Rnd.row {D : Nat → Prop} {W W' : World} {B : Nat} {a : Option Addr} {vs : List Value} (h : Row W B a vs) (hr : Rnd D W W') (hB : B ≤ W.heap.size) (hD : ∀ k, k < B → ¬ D k) : Row W' B a vs := h.below (hr.below hB hD) (Nat.le_refl _)

/-- What visit has captured. -/
structure Cap (W : World) (B MB bm bn bu bv : Nat) (sa ta : Option Addr) (sn sc tn tc up : Nat) (ts : List Tri) : Prop where
  m : Blk W bm #[.map (some MB)] 112
  n : Blk W bn #[.slice sa sn sc, .slice ta tn tc] 25
  u : Blk W bu #[.int .i64 (up : Int)] 3
  v : Blk W bv #[.func (.func 82) #[] #[.pointer (some ⟨bm, 0, none⟩), .pointer (some ⟨bn, 0, none⟩), .pointer (some ⟨bu, 0, none⟩), .pointer (some ⟨bv, 0, none⟩)]] 105
  row : Row W B ta (tris ts)
  ne : bm ≠ MB ∧ bn ≠ MB ∧ bu ≠ MB ∧ bv ≠ MB ∧ B ≤ MB
theorem Cap.rnd {W W' : World} {B MB bm bn bu bv : Nat} {sa ta : Option Addr} {sn sc tn tc up : Nat} {ts : List Tri} (h : Cap W B MB bm bn bu bv sa ta sn sc tn tc up ts) (hr : Rnd (· = MB) W W') (hM : MB < W.heap.size) : Cap W' B MB bm bn bu bv sa ta sn sc tn tc up ts :=
  ⟨h.m.rnd hr h.ne.1, h.n.rnd hr h.ne.2.1, h.u.rnd hr h.ne.2.2.1, h.v.rnd hr h.ne.2.2.2.1, Rnd.row h.row hr (by have := h.ne.2.2.2.2; omega) (fun k hk e => by have := h.ne.2.2.2.2; omega), h.ne⟩

theorem row_new (w : World) (vs : List Value) (t : TypeId) : Row (w.alloc (.cells vs.toArray t)) (w.alloc (.cells vs.toArray t)).heap.size (some ⟨w.heap.size, 0, none⟩) vs := by
  have := row_of_heap (w := w.alloc (.cells vs.toArray t)) (g := w.heap.size) (cur := vs.toArray) (t := t) (fz := (0, 0)) (vs := vs) (heap_alloc_new w _) (by simp)
  simpa using this
theorem Rnd.grown {D : Nat → Prop} {W W' : World} {row : Option Nat} (g : W.grownBy W' row) (h : ∀ k, row = some k → D k) : Rnd D W W' := ⟨g.os, g.tape, g.output, g.size, fun k hk hn => g.block k hk (fun e => hn (h k e.symm))⟩

def VisitSpec (f : Nat) (ts : List Tri) (U : List Int) (B MB bm bn bu bv : Nat) (sa ta : Option Addr) (sn sc tn tc up : Nat) : Prop :=
  ∀ (q : Int) (met : List Int) (W : World), q ∈ U → cnt U met ≤ f → met.length + cnt U met ≤ 11 → Cap W B MB bm bn bu bv sa ta sn sc tn tc up ts → SetAt W MB met →
    Calls Try.prog 82 #[.int .i64 q, .pointer (some ⟨bm, 0, none⟩), .pointer (some ⟨bn, 0, none⟩), .pointer (some ⟨bu, 0, none⟩), .pointer (some ⟨bv, 0, none⟩)] W fun e W' =>
      e = .returned (.tuple #[]) ∧ Rnd (· = MB) W W' ∧ SetAt W' MB (vis f (ts.take up) q met)

set_option maxRecDepth 100000 in
set_option maxHeartbeats 4000000 in
theorem visit_step (f : Nat) (ts : List Tri) (U : List Int) (B MB bm bn bu bv : Nat) (sa ta : Option Addr) (sn sc tn tc up : Nat) (hU : ∀ t ∈ ts.take up, ∀ o ∈ cor t, o ∈ U) (hU2 : ∀ o ∈ U, 0 ≤ o ∧ o ≤ 100) (htn : tn = ts.length) (hup : up ≤ tn) (htc : tn ≤ tc) (htc2 : tc ≤ 9223372036854775807)
    (IH : VisitSpec f ts U B MB bm bn bu bv sa ta sn sc tn tc up) : VisitSpec (f + 1) ts U B MB bm bn bu bv sa ta sn sc tn tc up := by
  intro q met W hq hc hb hcap hset
  have HIH := hide IH
  have HU := hide hU
  have HQ := hide hq
  have HTN := hide htn
  obtain ⟨q0, q1⟩ := hU2 q hq
  have HU2 := hide hU2
  have lMB := hset.lt
  obtain ⟨m0, mf⟩ := hcap.m.one
  obtain ⟨n0, n1, _⟩ := hcap.n.two
  obtain ⟨u0, _⟩ := hcap.u.one
  have l1 := hcap.m.lt
  have l2 := hcap.n.lt
  have l3 := hcap.u.lt
  have hml : met.length ≤ 11 := by omega
  by_cases hm : q ∈ met
  · have HE : Hid (vis (f + 1) (ts.take up) q met = met) := hide (by rw [vis_eq, if_pos hm])
    have hd : decide (q ∈ met) = true := decide_eq_true hm
    clear IH hU hq htn hU2
    go_enter Try.func82, Try.ntmps82
    go_wp2_with (at_lookup; refine wpList_look_set rfl _ _ rfl MB met rfl hset q rfl q0 (by omega) ?_)
    exact bodyPost_ret (v := .tuple #[]) (by simp [results, Try.results82, go_sem]) rfl ⟨rfl, Rnd.refl _ _, by rw [HE.out]; exact hset⟩
  · have HE : Hid (vis (f + 1) (ts.take up) q met = (ts.take up).foldl (visT f (ts.take up) q) (q :: met)) := hide (by rw [vis_eq, if_neg hm])
    have hd : decide (q ∈ met) = false := decide_eq_false hm
    have hcc := cnt_cons hm hq
    clear IH hU hq htn hU2
    go_enter Try.func82, Try.ntmps82
    go_upto_region 2 with (first
      | (at_lookup; refine wpList_look_set rfl _ _ rfl MB met rfl hset q rfl q0 (by omega) ?_)
      | (at_mapUpdate; refine wpList_put_set rfl _ _ _ rfl MB met rfl hset q rfl rfl q0 (by omega) (by omega) ?_; intro W1 hs1 hg1))
    have hr1 : Rnd (· = MB) W W1 := Rnd.grown hg1 (fun k e => by cases e; rfl)
    have hcap1 := hcap.rnd hr1 lMB
    have hz1 := hr1.size
    clear m0 mf n0 n1 u0 l1 l2 l3 hg1 hset
    obtain ⟨n0, n1, _⟩ := hcap1.n.two
    obtain ⟨u0, _⟩ := hcap1.u.one
    have l2 := hcap1.n.lt
    have l3 := hcap1.u.lt
    go_wp2_with fail
    have hTL : (ts.take up).length = up := by rw [List.length_take, ← HTN.out]; omega
    have HTL := hide hTL
    have HTK := hide (fun k (h : k < up) => tri_of_take (ts := ts) h)
    clear hTL n0 n1 u0 l2 l3
    go_loopw [21] (fun i wr => ∃ (k : Nat) (m : List Int), k ≤ up ∧ i = .int .i64 (k : Int) ∧ Hid (m = ((ts.take up).take k).foldl (visT f (ts.take up) q) (q :: met)) ∧ SetAt wr MB m ∧ Rnd (· = MB) W wr ∧ Hid (m.length + cnt U m ≤ 11 ∧ cnt U m ≤ f)) (fun i _ => up - (intOf i).toNat)
    case atStart => exact ⟨0, q :: met, Nat.zero_le _, rfl, hide rfl, hs1, hr1, hide (by simp; omega)⟩
    case round =>
      clear hs1 hr1 hcap1 hz1
      obtain ⟨k, m, hk, rfl, HM, hsm, hrm, HC⟩ := hrel
      have hcapm := hcap.rnd hrm lMB
      have hzm := hrm.size
      by_cases hlt : k < up
      · obtain ⟨tb, toff, hta, htb, hcell⟩ := hcapm.row.tri (by rw [← HTN.out]; omega)
        obtain ⟨t0, t1, t2⟩ := hcell k (by rw [← HTN.out]; omega)
        have htk := tri_take (ts := ts.take up) (k := k) (by rw [HTL.out]; exact hlt)
        rw [HTK.out k hlt] at htk
        have HNX : Hid (((ts.take up).take (k + 1)).foldl (visT f (ts.take up) q) (q :: met) = visT f (ts.take up) q m (tri ts k)) := hide (by rw [htk, List.foldl_append, ← HM.out]; rfl)
        have HIN : Hid (tri ts k ∈ ts.take up) := hide (by rw [← HTK.out k hlt, tri_eq (by rw [HTL.out]; exact hlt)]; exact List.getElem_mem _)
        have hB : B ≤ wr.heap.size := by have := hcap.ne.2.2.2.2; omega
        clear htk hcell HTK HTL
        subst hta
        have hkt : k < tc := by omega
        generalize tri ts k = t at *
        obtain ⟨a, b, c⟩ := t
        dsimp only at t0 t1 t2
        have htw : tb < wr.heap.size := by omega
        go_wp2_with fail
        refine (corners_any a b c _).mono ?_
        rintro e W3 ⟨rfl, hb3⟩
        go_upto_region 6 with (fail)
        have hk8 := Blk.new W3 #[.int .i64 a, .int .i64 b, .int .i64 c] 108
        have hrow8 := row_new W3 [.int .i64 a, .int .i64 b, .int .i64 c] 108
        have hbV : Below wr.heap.size wr (W3.alloc (.cells #[.int .i64 a, .int .i64 b, .int .i64 c] 108)) := (((Below.refl _ _).alloc (Nat.le_refl _) _).trans (hb3.mono (by simp))).alloc (by have := hb3.size; simp at this; omega) _
        generalize hV : W3.alloc (.cells #[.int .i64 a, .int .i64 b, .int .i64 c] 108) = V at *
        have hrV : Rnd (· = MB) W V := hrm.trans (Rnd.of_below hbV)
        have hsV := hsm.below hbV
        have hcapV := hcap.rnd hrV lMB
        have hzV := hrV.size
        generalize W3.heap.size = p8 at *
        clear hV hb3 hbV t0 t1 t2 hsm hrm hcapm hzm htw htb
        obtain ⟨c0, c1, c2, _⟩ := hk8.three
        have l8 := hk8.lt
        go_wp2_with fail
        refine (contains_any q [a, b, c] _ 3 3 _ V rfl (by decide) hrow8).mono ?_
        rintro e W4 ⟨rfl, rfl⟩
        by_cases hqt : q ∈ [a, b, c]
        · have hd2 : decide (q ∈ [a, b, c]) = true := decide_eq_true hqt
          have HVT : Hid (visT f (ts.take up) q m (a, b, c) = ([a, b, c] : List Int).foldl (fun m o => vis f (ts.take up) o m) m) := hide (by unfold visT; rw [if_pos (show q ∈ cor (a, b, c) from hqt)]; rfl)
          rw [hd2]
          clear hqt hd2
          go_wp2_with fail
          go_loopw [31] (fun i wr => ∃ (j : Nat) (m' : List Int), j ≤ 3 ∧ i = .int .i64 (j : Int) ∧ Hid (m' = (([a, b, c] : List Int).take j).foldl (fun m o => vis f (ts.take up) o m) m) ∧ SetAt wr MB m' ∧ Rnd (· = MB) W wr ∧ Hid (m'.length + cnt U m' ≤ 11 ∧ cnt U m' ≤ f)) (fun i _ => 3 - (intOf i).toNat)
          case atStart => exact ⟨0, m, by omega, rfl, hide rfl, hsV, hrV, HC⟩
          case round =>
            clear hsV hrV hcapV hzV c0 c1 c2 l8 hrow8
            obtain ⟨j, m', hj, rfl, HM', hs', hr', HC'⟩ := hrel
            have hcap' := hcap.rnd hr' lMB
            obtain ⟨v0, _⟩ := hcap'.v.one
            have l4 := hcap'.v.lt
            have hUa : a ∈ U ∧ b ∈ U ∧ c ∈ U := ⟨HU.out _ HIN.out a (by simp [cor]), HU.out _ HIN.out b (by simp [cor]), HU.out _ HIN.out c (by simp [cor])⟩
            by_cases h3 : j < 3
            · obtain ⟨o, ho1, ho2⟩ : ∃ o, ([a, b, c] : List Int)[j]? = some o ∧ o ∈ U := by
                have : j = 0 ∨ j = 1 ∨ j = 2 := by omega
                rcases this with rfl | rfl | rfl
                · exact ⟨a, rfl, hUa.1⟩
                · exact ⟨b, rfl, hUa.2.1⟩
                · exact ⟨c, rfl, hUa.2.2⟩
              have HNJ : Hid ((([a, b, c] : List Int).take (j + 1)).foldl (fun m o => vis f (ts.take up) o m) m = vis f (ts.take up) o m') := hide (by
                rw [List.take_add_one, ho1, List.foldl_append, ← HM'.out]; rfl)
              have HB' : Hid ((vis f (ts.take up) o m').length + cnt U (vis f (ts.take up) o m') ≤ 11 ∧ cnt U (vis f (ts.take up) o m') ≤ f) := hide ⟨Nat.le_trans (vis_bound HU.out f o m' ho2) HC'.out.1, Nat.le_trans (cnt_mono (vis_ok HU.out f o m' ho2 HC'.out.2).1.sub _) HC'.out.2⟩
              have HCALL := hide (HIH.out o m' wr ho2 HC'.out.2 HC'.out.1 hcap' hs')
              have hix : ∀ w, (Instr.index 108 (.agg #[.int .i64 a, .int .i64 b, .int .i64 c]) (.int .i64 (j : Int))).run Try.prog w = .ok (.int .i64 o) w := by
                have : j = 0 ∨ j = 1 ∨ j = 2 := by omega
                rcases this with rfl | rfl | rfl
                all_goals (simp at ho1; subst ho1; intro w; kernel_rfl)
              go_wp2_with fail
              refine HCALL.out.mono ?_
              rintro e W5 ⟨rfl, hr5, hs5⟩
              have hr6 := hr'.trans hr5
              clear HCALL hr5 hs' hr' hcap' v0 l4
              go_wp2_with fail
              go_roundw
              case rel => exact ⟨j + 1, _, by omega, by go_num, hide HNJ.out.symm, hs5, hr6, HB'⟩
              case measure => simp [intOf]; omega
            · have HF : Hid (m' = visT f (ts.take up) q m (a, b, c)) := hide (by rw [HM'.out, HVT.out, List.take_of_length_le (show ([a, b, c] : List Int).length ≤ j by show 3 ≤ j; omega)])
              clear v0 l4
              go_wp2_with fail
              go_roundw
              case rel => exact ⟨k + 1, m', by omega, by go_num, hide (by rw [HNX.out, HF.out]), hs', hr', HC'⟩
              case measure => simp [intOf]; omega
        · have hd2 : decide (q ∈ [a, b, c]) = false := decide_eq_false hqt
          have HVT : Hid (visT f (ts.take up) q m (a, b, c) = m) := hide (by unfold visT; rw [if_neg (show ¬ q ∈ cor (a, b, c) from hqt)])
          rw [hd2]
          clear hqt hd2
          go_wp2_with fail
          go_roundw
          case rel => exact ⟨k + 1, m, by omega, by go_num, hide (by rw [HNX.out, HVT.out]), hsV, hrV, HC⟩
          case measure => simp [intOf]; omega
      · go_wp2_with fail
        go_end0
        exact ⟨rfl, hrm, by
          have h := HM.out
          rw [List.take_of_length_le (l := ts.take up) (i := k) (by rw [HTL.out]; omega)] at h
          rw [HE.out, ← h]; exact hsm⟩

theorem visit_zero (ts : List Tri) (U : List Int) (B MB bm bn bu bv : Nat) (sa ta : Option Addr) (sn sc tn tc up : Nat) (hU2 : ∀ o ∈ U, 0 ≤ o ∧ o ≤ 100) : VisitSpec 0 ts U B MB bm bn bu bv sa ta sn sc tn tc up := by
  intro q met W hq hc hb hcap hset
  have hm : q ∈ met := by
    by_cases h : q ∈ met
    · exact h
    · have := cnt_cons h hq; omega
  obtain ⟨q0, q1⟩ := hU2 q hq
  obtain ⟨m0, mf⟩ := hcap.m.one
  have l1 := hcap.m.lt
  have hd : decide (q ∈ met) = true := decide_eq_true hm
  clear hU2 hq
  go_enter Try.func82, Try.ntmps82
  go_wp2_with (at_lookup; refine wpList_look_set rfl _ _ rfl MB met rfl hset q rfl q0 (by omega) ?_)
  exact bodyPost_ret (v := .tuple #[]) (by simp [results, Try.results82, go_sem]) rfl ⟨rfl, Rnd.refl _ _, hset⟩

theorem visit_any (ts : List Tri) (U : List Int) (B MB bm bn bu bv : Nat) (sa ta : Option Addr) (sn sc tn tc up : Nat) (hU : ∀ t ∈ ts.take up, ∀ o ∈ cor t, o ∈ U) (hU2 : ∀ o ∈ U, 0 ≤ o ∧ o ≤ 100) (htn : tn = ts.length) (hup : up ≤ tn) (htc : tn ≤ tc) (htc2 : tc ≤ 9223372036854775807) :
    ∀ f, VisitSpec f ts U B MB bm bn bu bv sa ta sn sc tn tc up
  | 0 => visit_zero ts U B MB bm bn bu bv sa ta sn sc tn tc up hU2
  | f + 1 => visit_step f ts U B MB bm bn bu bv sa ta sn sc tn tc up hU hU2 htn hup htc htc2 (visit_any ts U B MB bm bn bu bv sa ta sn sc tn tc up hU hU2 htn hup htc htc2 f)

end Go.Proofs.Ytlbhnicengolfaa

/-! ## Conn: Package total: connected. -/
namespace Go.Proofs.Ytlbhnicengolfaa
open Go.RowKit
set_option linter.unusedVariables false
set_option linter.unusedSimpArgs false

/-- The indices of N quantities. -/
def idx (N : Nat) : List Int := (List.range N).map fun i : Nat => (i : Int)
theorem mem_idx {N : Nat} {q : Int} : q ∈ idx N ↔ 0 ≤ q ∧ q < N := by
  unfold idx
  rw [List.mem_map]
  constructor
  · rintro ⟨i, hi, rfl⟩
    have := List.mem_range.1 hi
    omega
  · rintro ⟨h0, h1⟩
    exact ⟨q.toNat, List.mem_range.2 (by omega), by omega⟩
theorem idx_length (N : Nat) : (idx N).length = N := by simp [idx]

theorem Blk.newAt {W : World} {k : Nat} (h : k = W.heap.size) (cs : Array Value) (t : TypeId) : Blk (W.alloc (.cells cs t)) k cs t := h ▸ Blk.new W cs t
theorem SetAt.madeAt {W : World} {k : Nat} (h : k = W.heap.size) : SetAt (W.alloc (.map #[] 0)) k [] := h ▸ SetAt.made W

set_option maxRecDepth 100000 in
set_option maxHeartbeats 4000000 in
theorem connected_any (N : Nat) (ts : List Tri) (sa ta : Option Addr) (sn sc tn tc up : Nat) (q : Int) (w : World) (hN : N ≤ 11) (hU : ∀ t ∈ ts.take up, ∀ o ∈ cor t, 0 ≤ o ∧ o < N) (hq : 0 ≤ q ∧ q < N) (htn : tn = ts.length) (hup : up ≤ tn) (htc : tn ≤ tc) (htc2 : tc ≤ 9223372036854775807)
    (hrow : Row w w.heap.size ta (tris ts)) :
    Calls Try.prog 68 #[.agg #[.slice sa sn sc, .slice ta tn tc], .int .i64 q, .int .i64 (up : Int)] w fun e w' =>
      ∃ MB, e = .returned (.map (some MB)) ∧ SetAt w' MB (vis 11 (ts.take up) q []) ∧ Below w.heap.size w w' := by
  have HV := hide (fun (B MB bm bn bu bv : Nat) => visit_any ts (idx N) B MB bm bn bu bv sa ta sn sc tn tc up (fun t ht o ho => mem_idx.2 (hU t ht o ho)) (fun o ho => by have := mem_idx.1 ho; omega) htn hup htc htc2 11)
  have HQ := hide (mem_idx.2 hq)
  have HC : Hid (cnt (idx N) [] ≤ 11) := hide (Nat.le_trans (cnt_le _ _) (by rw [idx_length]; exact hN))
  clear hU hq htn
  have hmm := @run_makeMap Try.prog
  go_enter Try.func68, Try.ntmps68
  go_upto_region 4 with (fail)
  generalize hW : World.alloc (World.alloc (World.alloc (World.alloc (World.alloc w _) _) _) _) _ = V
  have hB : Below w.heap.size w V := by rw [← hW]; exact (((((Below.refl _ _).alloc (Nat.le_refl _) _).alloc (by simp) _).alloc (by simp; omega) _).alloc (by simp; omega) _).alloc (by simp; omega) _
  have kn : Blk V w.heap.size #[.slice sa sn sc, .slice ta tn tc] 25 := by rw [← hW]; exact ((((Blk.new w _ _).alloc _).alloc _).alloc _).alloc _
  have ku : Blk V (w.heap.size + 1) #[.int .i64 (up : Int)] 3 := by rw [← hW]; exact (((Blk.newAt (by simp) _ _).alloc _).alloc _).alloc _
  have ks : SetAt V (w.heap.size + 1 + 1) [] := by rw [← hW]; exact ((SetAt.madeAt (by simp)).alloc _).alloc _
  have km : Blk V (w.heap.size + 1 + 1 + 1) #[.map (some (w.heap.size + 1 + 1))] 112 := by rw [← hW]; exact (Blk.newAt (by simp) _ _).alloc _
  have kv : Blk V (w.heap.size + 1 + 1 + 1 + 1) #[.func (.func 82) #[] #[.pointer (some ⟨w.heap.size + 1 + 1 + 1, 0, none⟩), .pointer (some ⟨w.heap.size, 0, none⟩), .pointer (some ⟨w.heap.size + 1, 0, none⟩), .pointer (some ⟨w.heap.size + 1 + 1 + 1 + 1, 0, none⟩)]] 105 := by rw [← hW]; exact Blk.newAt (by simp) _ _
  have hcap : Cap V w.heap.size (w.heap.size + 1 + 1) (w.heap.size + 1 + 1 + 1) w.heap.size (w.heap.size + 1) (w.heap.size + 1 + 1 + 1 + 1) sa ta sn sc tn tc up ts := ⟨km, kn, ku, kv, hrow.below hB (Nat.le_refl _), by omega, by omega, by omega, by omega, by omega⟩
  clear hW hmm
  obtain ⟨v0, _⟩ := kv.one
  have l0 := kv.lt
  have HCALL := hide (HV.out _ _ _ _ _ _ q [] V HQ.out HC.out (by have := HC.out; simp; omega) hcap ks)
  go_wp2_with fail
  refine HCALL.out.mono ?_
  rintro e W2 ⟨rfl, hr2, hs2⟩
  have km2 := km.rnd hr2 (by omega)
  have hB2 := hB.trans (hr2.below hB.size (fun k hk e => by omega))
  obtain ⟨m0, _⟩ := km2.one
  have l1 := km2.lt
  clear v0 l0 HCALL hcap kn ku ks km kv hr2 hB
  go_wp2_with fail
  go_ret
  exact ⟨_, rfl, hs2, hB2⟩

end Go.Proofs.Ytlbhnicengolfaa
