/-
  TotalEither: the closure of truths, which calls itself: all truths that begin so are tried.
-/
import Derived.Test.YtlbhnicengolfaaEithU
import Derived.Deep.LoopGhost
import Derived.BigQuiet
namespace Go.Proofs.Ytlbhnicengolfaa
open Go.RowKit
set_option linter.unusedVariables false
set_option linter.unusedSimpArgs false

def useV (wb : Nat) : Value := .func (.func 40) #[] #[.pointer (some ⟨wb, 0, none⟩)]
def chV (s : Nat) : Value := .func (.func 62) #[] #[.pointer (some ⟨s + 3, 0, none⟩), .pointer (some ⟨s + 1, 0, none⟩), .pointer (some ⟨s, 0, none⟩), .pointer (some ⟨s + 4, 0, none⟩)]
/-- What does not change while truths are tried. -/
structure ESt (W0 : World) (wb s : Nat) (n : TNet) (sa : Option Addr) (sc : Nat) (ta : Option Addr) (T tc N : Nat) : Prop where
  kn : Blk W0 s #[.slice sa N sc, .slice ta T tc] 25
  ku : Blk W0 (s + 1) #[useV wb] 66
  kb : Blk W0 (s + 3) #[.slice (some ⟨s + 2, 0, none⟩) N N] 38
  kc : Blk W0 (s + 4) #[chV s] 105
  rs : Row W0 wb sa (spans n.sp)
  rt : Row W0 wb ta (tris n.ts)
  hsn : N = n.sp.length
  htn : T = n.ts.length
  htc : T ≤ tc
  ok : NOk n
structure EAt (W : World) (wb s : Nat) (n : TNet) (sa : Option Addr) (sc : Nat) (ta : Option Addr) (T tc N : Nat) : Prop where
  kn : Blk W s #[.slice sa N sc, .slice ta T tc] 25
  ku : Blk W (s + 1) #[useV wb] 66
  kb : Blk W (s + 3) #[.slice (some ⟨s + 2, 0, none⟩) N N] 38
  kc : Blk W (s + 4) #[chV s] 105
  rs : Row W wb sa (spans n.sp)
  rt : Row W wb ta (tris n.ts)
theorem ESt.at {W0 : World} {wb s : Nat} {n : TNet} {sa : Option Addr} {sc : Nat} {ta : Option Addr} {T tc N : Nat} (h : ESt W0 wb s n sa sc ta T tc N) {xs : List Int} {L : List Sp} {v : Value} {W : World} (he : EIn W0 wb s xs L v W) : EAt W wb s n sa sc ta T tc N := by
  have hs := he.hs
  have hw := he.hw
  exact ⟨h.kn.rnd he.rn (by omega), h.ku.rnd he.rn (by omega), h.kb.rnd he.rn (by omega), h.kc.rnd he.rn (by omega),
    h.rs.at fun k hk => he.rn.block k (by have := h.rs.capLt hk; omega) (by have := h.rs.capLt hk; omega), h.rt.at fun k hk => he.rn.block k (by have := h.rt.capLt hk; omega) (by have := h.rt.capLt hk; omega)⟩
def ChSpec (f : Nat) (W0 : World) (wb s : Nat) (n : TNet) (N : Nat) : Prop :=
  ∀ (q : Nat) (p xs : List Int) (L : List Sp) (v : Value) (W : World), q = p.length → q + f = N → xs.length = N → xs.take q = p → XB 100000001 xs → (L = [] ∨ L.length = N) → EIn W0 wb s xs L v W →
    Calls Try.prog 62 #[.int .i64 (q : Int), .pointer (some ⟨s + 3, 0, none⟩), .pointer (some ⟨s + 1, 0, none⟩), .pointer (some ⟨s, 0, none⟩), .pointer (some ⟨s + 4, 0, none⟩)] W fun e W' =>
      e = .returned (.tuple #[]) ∧ ∃ xs' v', xs'.length = N ∧ xs'.take q = p ∧ XB 100000001 xs' ∧ EIn W0 wb s xs' (chs n f p L) v' W'
theorem chs_len {n : TNet} {N : Nat} (hN : 1 ≤ N) : ∀ (f : Nat) (p : List Int) (L : List Sp), p.length + f = N → (L = [] ∨ L.length = N) → (chs n f p L = [] ∨ (chs n f p L).length = N)
  | 0, p, L, hp, hL => .inr (useM_len (by omega) hL)
  | f + 1, p, L, hp, hL => by
    have key : ∀ k : Nat, chsK n f p L k = [] ∨ (chsK n f p L k).length = N := by
      intro k
      induction k with
      | zero => exact hL
      | succ k ih =>
        rw [chsK_snoc]
        split
        · exact chs_len hN f _ _ (by simp; omega) ih
        · exact ih
    exact key _
theorem fit_take {n : TNet} (hok : NOk n) (xs : List Int) (q : Nat) : fitK n.ts xs q n.ts.length = fitK n.ts (xs.take (q + 1)) q n.ts.length := by
  have hin := nok_in hok
  have hc : ∀ i, i < n.ts.length → mx3 (tri n.ts i) = (q : Int) → ∀ o ∈ cor (tri n.ts i), xF (xs.take (q + 1)) o = xF xs o := fun i hi he o ho => by
    have hm := hin (tri n.ts i) (by rw [tri_eq hi]; exact List.getElem_mem hi) o ho
    refine xF_take xs hm.1 ?_
    simp only [cor, List.mem_cons, List.not_mem_nil, or_false] at ho
    unfold mx3 at he
    rcases ho with rfl | rfl | rfl <;> omega
  rw [Bool.eq_iff_iff, fitK_iff, fitK_iff]
  exact ⟨fun h i hi he => hl_congr (fun o ho => (hc i hi he o ho).symm) (h i hi he), fun h i hi he => hl_congr (fun o ho => hc i hi he o ho) (h i hi he)⟩
theorem max3I (ats : Array TypeId) (ty : TypeId) (k k' k'' : IntKind) (x y z : Int) : Builtin.max_ ats ty #[.int k x, .int k' y, .int k'' z] = pure (.int k (max (max x y) z)) := by
  simp only [Builtin.max_, List.foldlM_cons, List.foldlM_nil, Builtin.max2]
  by_cases h : x < y
  · rw [if_pos (by omega), Int.max_eq_right (Int.le_of_lt h)]
    by_cases h2 : y < z
    · rw [Int.max_eq_right (by omega)]; simp [h2]
    · rw [Int.max_eq_left (by omega)]; simp [h2]
  · rw [if_neg (by omega), Int.max_eq_left (by omega : y ≤ x)]
    by_cases h2 : x < z
    · rw [Int.max_eq_right (by omega)]; simp [h2]
    · rw [Int.max_eq_left (by omega)]; simp [h2]
theorem take_set_at {xs : List Int} {q : Nat} (h : q < xs.length) (y : Int) : (xs.set q y).take (q + 1) = xs.take q ++ [y] ∧ (xs.set q y).take q = xs.take q := by
  constructor
  · rw [List.take_succ_eq_append_getElem (by simpa using h), List.take_set_of_le (Nat.le_refl _)]
    simp
  · rw [List.take_set_of_le (Nat.le_refl _)]

set_option maxRecDepth 100000 in
set_option maxHeartbeats 8000000 in
theorem choose_zero (W0 : World) (wb s : Nat) (n : TNet) (sa : Option Addr) (sc : Nat) (ta : Option Addr) (T tc N : Nat) (hst : ESt W0 wb s n sa sc ta T tc N) : ChSpec 0 W0 wb s n N := by
  intro q p xs L v W hq hqN hx hp hb hL he
  have h1 := hst.ok.l1
  have h2 := hst.ok.l2
  have hsn := hst.hsn
  have hpx : p = xs := by rw [← hp, List.take_of_length_le (by omega)]
  have HU := hide (use_any W0 wb s N xs L v W he hx (by omega) (by omega) hL)
  obtain ⟨b0, _⟩ := (hst.at he).kb.one
  have lb := (hst.at he).kb.lt
  obtain ⟨u0, _⟩ := (hst.at he).ku.one
  have lu := (hst.at he).ku.lt
  unfold useV at u0
  have HP := hide (And.intro hx (And.intro hp hb))
  have HPX := hide hpx
  have hqe : q = N := by omega
  subst hqe
  clear hst he hq hqN hx hp hb hL hpx hsn h1 h2
  go_enter Try.func62, Try.ntmps62
  go_wp2_with fail
  refine HU.out.mono ?_
  rintro e W' ⟨rfl, v', he'⟩
  have HE := hide he'
  clear he'
  go_wp2_with fail
  refine bodyPost_ret (results_none rfl _ _ _) rfl ?_
  exact ⟨rfl, xs, v', HP.out.1, HP.out.2.1, HP.out.2.2, by rw [HPX.out]; exact HE.out⟩

attribute [local go_sem high] max3I in
set_option maxRecDepth 100000 in
set_option maxHeartbeats 8000000 in
theorem choose_step (f : Nat) (W0 : World) (wb s : Nat) (n : TNet) (sa : Option Addr) (sc : Nat) (ta : Option Addr) (T tc N : Nat) (hst : ESt W0 wb s n sa sc ta T tc N) (IH : ChSpec f W0 wb s n N) : ChSpec (f + 1) W0 wb s n N := by
  intro q p xs L v W hq hqN hx hp hb hL he
  have hlt : q < N := by omega
  have h1 := hst.ok.l1
  have h2 := hst.ok.l2
  have h5 := hst.ok.l3
  have hsn := hst.hsn
  have htn := hst.htn
  have htc := hst.htc
  have hT5 : T ≤ 5 := by omega
  have hN11 : N ≤ 11 := by omega
  have hsp := hst.ok.sp q (by omega)
  have HST := hide hst
  have HIH := hide IH
  have HIN := hide (nok_in hst.ok)
  have HCH : Hid (chs n (f + 1) p L = chsK n f p L (cntV n q)) := hide (by rw [hq]; rfl)
  have HKS : Hid (∀ i : Nat, chsK n f p L (i + 1) = if fitK n.ts (p ++ [lo2 n q + (i : Int)]) q n.ts.length = true then chs n f (p ++ [lo2 n q + (i : Int)]) (chsK n f p L i) else chsK n f p L i) := hide (fun i => by rw [chsK_snoc, ← hq])
  have HKL : Hid (∀ i : Nat, chsK n f p L i = [] ∨ (chsK n f p L i).length = N) := hide (fun i => by
    induction i with
    | zero => exact hL
    | succ i ih =>
      rw [chsK_snoc]
      split
      · exact chs_len (by omega) f _ _ (by simp; omega) ih
      · exact ih)
  have HPL := hide hq
  have HQN := hide hqN
  have HP := hide (And.intro hx (And.intro hp hb))
  have HE := hide he
  have q0 := sq_small hsp.1 (by omega)
  have q1 := sq_small (x := his n.sp q) (by omega) hsp.2.2
  have q2 := sq_mono hsp.1 hsp.2.1
  have HLO : Hid (lo2 n q = los n.sp q * los n.sp q ∧ hi2 n q = his n.sp q * his n.sp q ∧ cntV n q = (hi2 n q - lo2 n q + 1).toNat) := hide ⟨rfl, rfl, rfl⟩
  have HNT := hide (And.intro hsn htn)
  obtain ⟨b0, _⟩ := (hst.at he).kb.one
  have lb := (hst.at he).kb.lt
  obtain ⟨n0, n1, _⟩ := (hst.at he).kn.two
  have ln := (hst.at he).kn.lt
  obtain ⟨gs, gso, hsa, hgs, hgc⟩ := (hst.at he).rs.span (by omega)
  obtain ⟨c0, c1⟩ := hgc q (by omega)
  have hw := he.hw
  have hgl : gs < W.heap.size := by have := he.kx.lt; omega
  obtain ⟨x0, xf⟩ := he.x (q := q) (by omega)
  have lx := he.kx.lt
  have hne : s + 2 ≠ s := by omega
  subst hsa
  have iq : (q : Int) < N := by omega
  have d0 : ((q : Int) == (N : Int)) = false := beq_eq_false_iff_ne.2 (by omega)
  generalize hlo : los n.sp q = lo at *
  generalize hhi : his n.sp q = hi at *
  have HLH := hide (And.intro hlo hhi)
  clear hlo hhi
  obtain ⟨q00, q01⟩ := q0
  obtain ⟨q10, q11⟩ := q1
  have w0 : IntKind.i64.wrap (lo * lo) = lo * lo := IntWalk.i64_in _ (by omega)
  have w1 : IntKind.i64.wrap (hi * hi) = hi * hi := IntWalk.i64_in _ (by omega)
  have HE1 := hide ((he.setX q (lo * lo)).kept (Below.refl _ _).drew)
  clear hst IH hsn htn hgc hq hqN hx hp hb hL he hsp
  go_enter Try.func62, Try.ntmps62
  go_wp2_with fail
  go_still_tail 16, (by kernel_rfl)
  go_wp2_with fail
  clear b0 n0 n1 c0 c1 x0 xf lb ln lx hgl hgs
  generalize World.drew (World.setCell W _ _) = V at *
  have hx2 : Hid ((xs.set q (lo * lo)).length = N ∧ (xs.set q (lo * lo)).take (q + 1) = p ++ [lo2 n q + ((0 : Nat) : Int)] ∧ (xs.set q (lo * lo)).take q = p ∧ XB 100000001 (xs.set q (lo * lo))) := hide (by
    have ht := take_set_at (xs := xs) (q := q) (by rw [HP.out.1]; exact hlt) (lo * lo)
    refine ⟨by rw [List.length_set]; exact HP.out.1, ?_, by rw [ht.2]; exact HP.out.2.1, HP.out.2.2.set q (by omega) (by omega)⟩
    rw [ht.1, HP.out.2.1, HLO.out.1]
    simp)
  go_loopg [49] (cntV n q) (fun gn kv wx => ∃ (i : Nat) (xs' : List Int) (v' : Value), i ≤ cntV n q ∧ Hid (xs'.length = N ∧ xs'.take (q + 1) = p ++ [lo2 n q + (i : Int)] ∧ xs'.take q = p ∧ XB 100000001 xs') ∧ EIn W0 wb s xs' (chsK n f p L i) v' wx ∧ cntV n q - i ≤ gn)
  case atStart => exact ⟨0, _, v, Nat.zero_le _, hx2, HE1.out, Nat.le_refl _⟩
  case round =>
    rename World => V1
    clear HE1 hx2
    obtain ⟨i, xs', v', hi', HX, he, hg⟩ := hrel
    have HE2 := hide he
    have HG := hide hg
    obtain ⟨b0, _⟩ := (HST.out.at he).kb.one
    have lb := (HST.out.at he).kb.lt
    obtain ⟨n0, n1, _⟩ := (HST.out.at he).kn.two
    have ln := (HST.out.at he).kn.lt
    obtain ⟨_, _, e, hgs, hgc⟩ := (HST.out.at he).rs.span (by have := HNT.out.1; omega)
    cases e
    obtain ⟨c0, c1⟩ := hgc q (by have := HNT.out.1; omega)
    rw [HLH.out.1] at c0
    rw [HLH.out.2] at c1
    have hgl : gs < V1.heap.size := by have := he.kx.lt; omega
    obtain ⟨x0, xf⟩ := he.x (q := q) (by rw [HX.out.1]; exact hlt)
    have lx := he.kx.lt
    have hxq : xs'.getD q 0 = lo2 n q + (i : Int) := by
      have := congrArg (fun l => l.getD q 0) HX.out.2.1
      rw [List.getD_eq_getElem?_getD, List.getElem?_take_of_lt (Nat.lt_succ_self q), ← List.getD_eq_getElem?_getD] at this
      rw [this]
      have hq := HPL.out
      subst hq
      simp [List.getD]
    rw [HLO.out.1] at hxq
    rw [hxq] at x0
    have hcnt : cntV n q = (hi * hi - lo * lo + 1).toNat := by rw [HLO.out.2.2, HLO.out.1, HLO.out.2.1]
    rw [hcnt] at hi'
    have HCN := hide hcnt
    clear hgc he hg hcnt hxq
    by_cases hic : i < (hi * hi - lo * lo + 1).toNat
    · have dc : decide (lo * lo + (i : Int) ≤ hi * hi) = true := decide_eq_true (by omega)
      go_wp2_with fail
      go_quiet (fail)
      have HE3 := hide (HE2.out.kept (below_drewN (Below.refl _ _) nq : Below V1.heap.size V1 (V1.drewN nq)))
      clear b0 n0 n1 c0 c1 x0 xf lb ln lx hgl hgs HE2
      generalize V1.drewN nq = V2 at *
      obtain ⟨n0, n1, _⟩ := (HST.out.at HE3.out).kn.two
      have ln := (HST.out.at HE3.out).kn.lt
      go_wp2_with fail
      clear n0 n1 ln dc
      generalize hM : chsK n f p L i = M at *
      have HM := hide hM
      clear hM
      go_loopw [6, 59] (fun b ix wr => ∃ k : Nat, k ≤ T ∧ ix = .int .i64 (k : Int) ∧ b = .bool (fitK n.ts xs' q k) ∧ EIn W0 wb s xs' M v' wr) (fun _ ix _ => T - (intOf ix).toNat)
      case atStart => exact ⟨0, Nat.zero_le _, rfl, rfl, HE3.out⟩
      case round =>
        clear HE3
        obtain ⟨k, hk, rfl, rfl, he⟩ := hrel
        have HE3 := hide he
        by_cases hkT : k < T
        · obtain ⟨tb, toff, hta, htb, htc'⟩ := (HST.out.at he).rt.tri (by have := HNT.out.2; omega)
          obtain ⟨t0, t1, t2⟩ := htc' k (by have := HNT.out.2; omega)
          have hin := HIN.out (tri n.ts k) (by rw [tri_eq (by have := HNT.out.2; omega)]; exact List.getElem_mem _)
          have HF : Hid (fitK n.ts xs' q (k + 1) = if mx3 (tri n.ts k) = (q : Int) then fitK n.ts xs' q k && decide (xF xs' (tri n.ts k).1 + xF xs' (tri n.ts k).2.1 = xF xs' (tri n.ts k).2.2) else fitK n.ts xs' q k) := hide rfl
          have htl : tb < wr.heap.size := by have := he.kx.lt; omega
          clear htc'
          subst hta
          generalize tri n.ts k = t at *
          obtain ⟨ta', tb', tc'⟩ := t
          have ha := hin ta' (by simp [cor])
          have hb := hin tb' (by simp [cor])
          have hc := hin tc' (by simp [cor])
          rw [← HNT.out.1] at ha hb hc
          dsimp only at t0 t1 t2 HF
          unfold mx3 at HF
          dsimp only at HF
          clear hin
          obtain ⟨a0, a1⟩ := ha
          obtain ⟨b0', b1⟩ := hb
          obtain ⟨c0', c1⟩ := hc
          obtain ⟨V3, hV3⟩ : ∃ V3, wr.alloc (.cells #[.int .i64 ta', .int .i64 tb', .int .i64 tc'] 75) = V3 := ⟨_, rfl⟩
          have hbv : Below wr.heap.size wr V3 := by rw [← hV3]; exact (Below.refl _ _).alloc (Nat.le_refl _) _
          have kt : Blk V3 wr.heap.size #[.int .i64 ta', .int .i64 tb', .int .i64 tc'] 75 := by rw [← hV3]; exact Blk.new _ _ _
          have HE4 := hide (HE3.out.kept hbv)
          obtain ⟨y0, y1, y2, _⟩ := kt.three
          have lt := kt.lt
          obtain ⟨b0, _⟩ := (HST.out.at HE4.out).kb.one
          have lb := (HST.out.at HE4.out).kb.lt
          have HXC : Hid (∀ o : Int, 0 ≤ o → o < N → V3.cell? ⟨s + 2, o.toNat, none⟩ = some (.int .i64 (xF xs' o))) := hide (fun o h0 h1 => (HE4.out.x (q := o.toNat) (by rw [HX.out.1]; omega)).1)
          have xa := HXC.out ta' a0 a1
          have xb := HXC.out tb' b0' b1
          have xc := HXC.out tc' c0' c1
          clear HXC
          have lx := HE4.out.kx.lt
          have ba := HX.out.2.2.2 ta'.toNat
          have bb := HX.out.2.2.2 tb'.toNat
          have hxa : xF xs' ta' = xs'.getD ta'.toNat 0 := rfl
          have hxb : xF xs' tb' = xs'.getD tb'.toNat 0 := rfl
          rw [← hxa] at ba
          rw [← hxb] at bb
          clear hxa hxb hbv kt he
          generalize xF xs' ta' = va at *
          generalize xF xs' tb' = vb at *
          generalize xF xs' tc' = vc at *
          generalize fitK n.ts xs' q k = fb at *
          obtain ⟨ba0, ba1⟩ := ba
          obtain ⟨bb0, bb1⟩ := bb
          have wv : IntKind.i64.wrap (va + vb) = va + vb := IntWalk.i64_in _ (by omega)
          have ik : (k : Int) < T := by omega
          by_cases hm : max (max ta' tb') tc' = (q : Int)
          · have dm : (max (max ta' tb') tc' == (q : Int)) = true := beq_iff_eq.2 hm
            rw [if_pos hm] at HF
            clear hm
            cases fb with
            | false =>
              go_wp2_with fail
              go_quiet (fail)
              have HE5 := hide (HE4.out.kept (below_drewN (Below.refl _ _) nq : Below V3.heap.size V3 (V3.drewN nq)))
              go_wp2_with fail
              exact ⟨⟨k + 1, by omega, by go_num, by rw [HF.out]; rfl, HE5.out⟩, by simp [intOf]; omega⟩
            | true =>
              by_cases hv : va + vb = vc
              · have dv : (va + vb == vc) = true := beq_iff_eq.2 hv
                have HF2 : Hid (fitK n.ts xs' q (k + 1) = true) := hide (by rw [HF.out, decide_eq_true hv]; rfl)
                clear hv
                go_wp2_with fail
                go_quiet (fail)
                have HE5 := hide (HE4.out.kept (below_drewN (Below.refl _ _) nq : Below V3.heap.size V3 (V3.drewN nq)))
                go_wp2_with fail
                exact ⟨⟨k + 1, by omega, by go_num, by rw [HF2.out], HE5.out⟩, by simp [intOf]; omega⟩
              · have dv : (va + vb == vc) = false := beq_eq_false_iff_ne.2 hv
                have HF2 : Hid (fitK n.ts xs' q (k + 1) = false) := hide (by rw [HF.out, decide_eq_false hv]; rfl)
                clear hv
                go_wp2_with fail
                go_quiet (fail)
                have HE5 := hide (HE4.out.kept (below_drewN (Below.refl _ _) nq : Below V3.heap.size V3 (V3.drewN nq)))
                go_wp2_with fail
                exact ⟨⟨k + 1, by omega, by go_num, by rw [HF2.out], HE5.out⟩, by simp [intOf]; omega⟩
          · have dm : (max (max ta' tb') tc' == (q : Int)) = false := beq_eq_false_iff_ne.2 hm
            rw [if_neg hm] at HF
            clear hm
            go_wp2_with fail
            exact ⟨⟨k + 1, by omega, by go_num, by rw [HF.out], HE4.out⟩, by simp [intOf]; omega⟩
        · have hkn : k = n.ts.length := by have := HNT.out.2; omega
          have HFT : Hid (fitK n.ts xs' q k = fitK n.ts (p ++ [lo2 n q + (i : Int)]) q n.ts.length) := hide (by rw [hkn, fit_take HST.out.ok, HX.out.2.1])
          clear hkn
          obtain ⟨b0, _⟩ := (HST.out.at he).kb.one
          have lb := (HST.out.at he).kb.lt
          obtain ⟨k0, _⟩ := (HST.out.at he).kc.one
          have lk := (HST.out.at he).kc.lt
          unfold chV at k0
          obtain ⟨x0, xf⟩ := he.x (q := q) (by rw [HX.out.1]; exact hlt)
          have lx := he.kx.lt
          have hxq : xs'.getD q 0 = lo * lo + (i : Int) := by
            have := congrArg (fun l => l.getD q 0) HX.out.2.1
            rw [List.getD_eq_getElem?_getD, List.getElem?_take_of_lt (Nat.lt_succ_self q), ← List.getD_eq_getElem?_getD] at this
            rw [this, HLO.out.1]
            have hq := HPL.out
            subst hq
            simp [List.getD]
          rw [hxq] at x0
          have wi : IntKind.i64.wrap (lo * lo + (i : Int) + 1) = lo * lo + (i : Int) + 1 := IntWalk.i64_in _ (by omega)
          have iq1 : IntKind.i64.wrap ((q : Int) + 1) = ((q + 1 : Nat) : Int) := by rw [show ((q + 1 : Nat) : Int) = (q : Int) + 1 by omega]; exact IntWalk.i64_in _ (by omega)
          have HNEXT : Hid (∀ ys : List Int, ys.length = N → ys.take q = p → XB 100000001 ys → ((ys.set q (lo * lo + (i : Int) + 1)).length = N ∧ (ys.set q (lo * lo + (i : Int) + 1)).take (q + 1) = p ++ [lo2 n q + ((i + 1 : Nat) : Int)] ∧ (ys.set q (lo * lo + (i : Int) + 1)).take q = p ∧ XB 100000001 (ys.set q (lo * lo + (i : Int) + 1)))) := hide (fun ys h1 h2 h3 => by
            have ht := take_set_at (xs := ys) (q := q) (by rw [h1]; exact hlt) (lo * lo + (i : Int) + 1)
            refine ⟨by rw [List.length_set]; exact h1, ?_, by rw [ht.2]; exact h2, h3.set q (by omega) (by omega)⟩
            rw [ht.1, h2, HLO.out.1]
            congr 2
            omega)
          have HE5 := hide he
          clear he hxq
          cases hfb : fitK n.ts xs' q k with
          | true =>
            have HKN : Hid (chsK n f p L (i + 1) = chs n f (p ++ [lo2 n q + (i : Int)]) M) := hide (by rw [HKS.out, if_pos (by rw [← HFT.out]; exact hfb), HM.out])
            have HCALL := hide (HIH.out (q + 1) (p ++ [lo2 n q + (i : Int)]) xs' M v' wr (by rw [List.length_append, ← HPL.out]; rfl) (by have := HQN.out; omega) HX.out.1 HX.out.2.1 HX.out.2.2.2 (by rw [← HM.out]; exact HKL.out i) HE5.out)
            clear hfb
            go_wp2_with fail
            refine HCALL.out.mono ?_
            rintro e W6 ⟨rfl, ys, v6, hy1, hy2, hy3, he6⟩
            clear b0 lb k0 lk x0 xf lx HCALL
            have hyq : ys.getD q 0 = lo * lo + (i : Int) := by
              have := congrArg (fun l => l.getD q 0) hy2
              rw [List.getD_eq_getElem?_getD, List.getElem?_take_of_lt (Nat.lt_succ_self q), ← List.getD_eq_getElem?_getD] at this
              rw [this, HLO.out.1]
              have hq := HPL.out
              subst hq
              simp [List.getD]
            have hyt : ys.take q = p := by
              have := congrArg (List.take q) hy2
              rw [List.take_take, Nat.min_eq_left (by omega)] at this
              rw [this]
              have hq := HPL.out
              subst hq
              rw [List.take_left]
            obtain ⟨b0, _⟩ := (HST.out.at he6).kb.one
            have lb := (HST.out.at he6).kb.lt
            obtain ⟨x0, xf⟩ := he6.x (q := q) (by rw [hy1]; exact hlt)
            rw [hyq] at x0
            have lx := he6.kx.lt
            have HXN := hide (HNEXT.out ys hy1 hyt hy3)
            have HE7 := hide (he6.setX q (lo * lo + (i : Int) + 1))
            rw [← HKN.out] at HE7
            clear he6 hyq hyt hy1 hy2 hy3
            go_wp2_with fail
            go_roundg (cntV n q - (i + 1))
            case measure => have := HG.out; have := HCN.out; omega
            case rel => exact ⟨i + 1, _, v6, by rw [HCN.out]; omega, HXN, HE7.out, Nat.le_refl _⟩
          | false =>
            have HKN : Hid (chsK n f p L (i + 1) = M) := hide (by rw [HKS.out, if_neg (by rw [← HFT.out, hfb]; simp), HM.out])
            have HXN := hide (HNEXT.out xs' HX.out.1 HX.out.2.2.1 HX.out.2.2.2)
            have HE7 := hide (HE5.out.setX q (lo * lo + (i : Int) + 1))
            rw [← HKN.out] at HE7
            clear hfb
            go_wp2_with fail
            go_roundg (cntV n q - (i + 1))
            case measure => have := HG.out; have := HCN.out; omega
            case rel => exact ⟨i + 1, _, v', by rw [HCN.out]; omega, HXN, HE7.out, Nat.le_refl _⟩
    · have dc : decide (lo * lo + (i : Int) ≤ hi * hi) = false := decide_eq_false (by omega)
      have hie : i = cntV n q := by rw [HCN.out]; omega
      have HEX : Hid (chsK n f p L i = chs n (f + 1) p L) := hide (by rw [HCH.out, hie])
      clear hie
      go_wp2_with fail
      go_quiet (fail)
      have HE3 := hide (HE2.out.kept (below_drewN (Below.refl _ _) nq : Below V1.heap.size V1 (V1.drewN nq)))
      rw [HEX.out] at HE3
      go_wp2_with fail
      go_end0
      exact ⟨rfl, xs', v', HX.out.1, HX.out.2.2.1, HX.out.2.2.2, HE3.out⟩

theorem choose_any (W0 : World) (wb s : Nat) (n : TNet) (sa : Option Addr) (sc : Nat) (ta : Option Addr) (T tc N : Nat) (hst : ESt W0 wb s n sa sc ta T tc N) : ∀ f, ChSpec f W0 wb s n N
  | 0 => choose_zero W0 wb s n sa sc ta T tc N hst
  | f + 1 => choose_step f W0 wb s n sa sc ta T tc N hst (choose_any W0 wb s n sa sc ta T tc N hst f)

end Go.Proofs.Ytlbhnicengolfaa
