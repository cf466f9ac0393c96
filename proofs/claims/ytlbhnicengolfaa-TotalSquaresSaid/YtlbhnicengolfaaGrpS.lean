/-
  Package total: groups, an iterator over pairs of a group and its equation.
-/
import Derived.Test.YtlbhnicengolfaaBrk
import Derived.Test.YtlbhnicengolfaaIterG
import Derived.Test.YtlbhnicengolfaaSlOps
import Derived.Test.YtlbhnicengolfaaTwoNew
namespace Go.Proofs.Ytlbhnicengolfaa
open Go.RowKit
set_option linter.unusedVariables false
set_option linter.unusedSimpArgs false

/-- The triangles of a set, below k. -/
def bitsK (set k : Nat) : List Int := ((List.range k).filter (fun i => set.testBit i)).map (fun i : Nat => (i : Int))
/-- What is yielded for one set. -/
def grpOne (ts : List Tri) (sn set : Nat) : List (List Int × List Int) := if (grpR ts (bitsK set ts.length) sn).2 = true then [(bitsK set ts.length, (grpR ts (bitsK set ts.length) sn).1)] else []
/-- What is yielded for the sets from 1 to m. -/
def grpUp (ts : List Tri) (sn : Nat) : Nat → List (List Int × List Int)
  | 0 => []
  | m + 1 => grpUp ts sn m ++ grpOne ts sn (m + 1)
def grpAll (n : TNet) : List (List Int × List Int) := grpUp n.ts n.sp.length (2 ^ n.ts.length - 1)
def GIt (sn : Nat) (O : Nat → Prop) (x : List Int × List Int) (args : Array Value) (W : World) : Prop :=
  ∃ b cap g, args = #[.slice (some ⟨b, 0, none⟩) x.1.length cap, .slice (some ⟨g, 0, none⟩) sn sn] ∧ ¬ O b ∧ ¬ O g ∧ b < W.heap.size ∧ g < W.heap.size ∧ Row W W.heap.size (some ⟨b, 0, none⟩) (ints x.1) ∧ Row W W.heap.size (some ⟨g, 0, none⟩) (ints x.2) ∧ x.2.length = sn
def NzAll (n : TNet) : Prop := ∀ set, 1 ≤ set → set ≤ 2 ^ n.ts.length - 1 → (grpR n.ts (bitsK set n.ts.length) n.sp.length).2 = true → nzIdx (grpS n.ts (bitsK set n.ts.length) n.sp.length).out < n.sp.length
def capG (bN : Nat) (sa ta : Option Addr) (n : TNet) (k : Nat) : Prop := k = bN ∨ capR sa (spans n.sp) k ∨ capR ta (tris n.ts) k

theorem bit_is : ∀ m : Fin 32, ∀ i : Fin 5, (bits BinOp.and IntKind.i64 (((m : Nat) : Int) / 2 ^ (i : Nat)) 1 == 1) = (m : Nat).testBit (i : Nat) := by decide +kernel
theorem bitsK_yes {m i : Nat} (h : m.testBit i = true) : bitsK m (i + 1) = bitsK m i ++ [(i : Int)] := by simp [bitsK, List.range_succ, List.filter_append, h]
theorem bitsK_no {m i : Nat} (h : m.testBit i = false) : bitsK m (i + 1) = bitsK m i := by simp [bitsK, List.range_succ, List.filter_append, h]
theorem bitsK_len (m k : Nat) : (bitsK m k).length ≤ k := by
  unfold bitsK
  rw [List.length_map]
  exact Nat.le_trans (List.length_filter_le _ _) (by simp)
theorem bitsK_in {m k : Nat} : ∀ x ∈ bitsK m k, 0 ≤ x ∧ x < (k : Int) := fun x hx => by
  obtain ⟨i, hi, rfl⟩ := List.mem_map.1 hx
  have := List.mem_range.1 (List.mem_filter.1 hi).1
  omega

theorem bitsK_ne : ∀ t : Fin 6, ∀ m : Fin 32, 1 ≤ (m : Nat) → (m : Nat) < 2 ^ (t : Nat) → (bitsK m t).length ≠ 0 := by decide +kernel
theorem grpUp_pre (ts : List Tri) (sn : Nat) {m : Nat} : ∀ {k : Nat}, m ≤ k → grpUp ts sn m <+: grpUp ts sn k
  | 0, h => by obtain rfl : m = 0 := by omega
               exact List.prefix_refl _
  | k + 1, h => by
    by_cases e : m = k + 1
    · subst e; exact List.prefix_refl _
    · exact (grpUp_pre ts sn (by omega : m ≤ k)).trans (List.prefix_append _ _)

set_option maxRecDepth 100000 in
set_option maxHeartbeats 8000000 in
theorem groups_iter (n : TNet) (bN : Nat) (sa ta : Option Addr) (sn sc tn tc : Nat) (w : World) (h : NetIn n sa ta sn tn tc w) (hn : NOk n) (hnz : NzAll n)
    (hb : Blk w bN #[.slice sa sn sc, .slice ta tn tc] 25) :
    IterG (GIt sn) Try.prog 81 #[.pointer (some ⟨bN, 0, none⟩)] (grpAll n) (capG bN sa ta n) w := by
  intro lp J Jx O W hsz hcap hO hJ hJx hY h0
  have kW : Blk W bN #[.slice sa sn sc, .slice ta tn tc] 25 := ((hcap bN (.inl rfl)).2.2).trans hb
  have rsW : Row W w.heap.size sa (spans n.sp) := h.rs.at fun k hk => (hcap k (.inr (.inl hk))).2.2
  have rtW : Row W w.heap.size ta (tris n.ts) := h.rt.at fun k hk => (hcap k (.inr (.inr hk))).2.2
  have hcO : ∀ k, capG bN sa ta n k → k < w.heap.size ∧ ¬ O k := fun k hk => ⟨(hcap k hk).1, (hcap k hk).2.1⟩
  have HY := hide hY
  have HJ := hide hJ
  have HJx := hide hJx
  have HN := hide hn
  have HNZ := hide hnz
  have HC := hide hcO
  have HH := hide h
  have ht5 : tn ≤ 5 := by have := h.htn; have := hn.l3; omega
  have htc := h.htc
  obtain ⟨i0, hi, hz0, hz1, hz2⟩ := info_int
  have HI := hide hi
  obtain ⟨N2, hN2, hw, hN32, hN1⟩ : ∃ N2 : Nat, N2 = 2 ^ tn ∧ wrap64 (2 ^ tn) = (N2 : Int) ∧ N2 ≤ 32 ∧ 1 ≤ N2 := by
    have : tn = 0 ∨ tn = 1 ∨ tn = 2 ∨ tn = 3 ∨ tn = 4 ∨ tn = 5 := by omega
    rcases this with rfl | rfl | rfl | rfl | rfl | rfl <;> exact ⟨_, rfl, by decide +kernel, by decide, by decide⟩
  have HN2 := hide hN2
  clear hN2
  clear hcap hJ hJx hY hn hnz hcO h hb hi
  refine callsIn_of_wp Try.func81 rfl trivial ?_ rfl
  simp only [Try.ntmps81, List.size_toArray, List.length_cons, List.length_nil, Nat.reduceAdd, Nat.reduceSub, Array.replicate_succ, Array.replicate_zero, List.push_toArray, List.append_toArray, List.nil_append, List.cons_append]
  gi_wp2_with fail
  gi_loopw [3] (fun ix wr => ∃ (m : Nat) (O1 : Nat → Prop), 1 ≤ m ∧ m ≤ N2 ∧ ix = .int .i64 (m : Int) ∧ J O1 (grpUp n.ts sn (m - 1)) wr ∧ RndO O O1 W wr ∧ (∀ k, O1 k → k < wr.heap.size)) (fun ix _ => N2 - (intOf ix).toNat)
  case atStart => exact ⟨1, O, Nat.le_refl _, hN1, rfl, h0, .refl _ _, hO⟩
  case round =>
    rename World => V
    clear h0
    obtain ⟨m, O1, hm1, hm2, rfl, hj, hr, hO1⟩ := hrel
    have kr : Blk V bN #[.slice sa sn sc, .slice ta tn tc] 25 := (hr.rnd.block bN (by have := (HC.out bN (.inl rfl)).1; omega) (HC.out bN (.inl rfl)).2).trans kW
    obtain ⟨n0, n1, _⟩ := kr.two
    have ln0 := kr.lt
    by_cases hlt : m < N2
    · gi_wp2_with fail
      simp only [hw]
      clear hw
      refine wpIn_wide.2 ?_
      have rtr : Row V w.heap.size ta (tris n.ts) := rtW.at fun k hk => hr.rnd.block k (by have := (HC.out k (.inr (.inr hk))).1; omega) (HC.out k (.inr (.inr hk))).2
      go_loopw [4, 19] (fun v ix wr => ∃ i : Nat, i ≤ tn ∧ ix = .int .i64 (i : Int) ∧ wr.ownsRow V.heap.size 3 1 v (bitsK m i).length (ints (bitsK m i)) ∧ Below V.heap.size V wr) (fun _ ix _ => tn - (intOf ix).toNat)
      case atStart => exact ⟨0, Nat.zero_le _, rfl, World.ownsRow_nil _ _ _ _, Below.refl _ _⟩
      case round =>
        obtain ⟨i, hi, rfl, own, hB⟩ := hrel
        by_cases hit : i < tn
        · have hbit : (bits BinOp.and IntKind.i64 ((m : Int) / 2 ^ i) 1 == 1) = m.testBit i := bit_is ⟨m, by omega⟩ ⟨i, by omega⟩
          have HOW := hide own
          have HLE := hide (bitsK_len m i)
          clear own
          obtain ⟨M, hM⟩ : ∃ M, M = (bitsK m i).length := ⟨_, rfl⟩
          rw [← hM] at HOW HLE
          have HM := hide hM
          clear hM
          have hM5 : M ≤ 5 := by have := HLE.out; omega
          have hsz1 := hB.size
          cases ht : m.testBit i with
          | true =>
            have HS := hide (bitsK_yes ht)
            rw [ht] at hbit
            clear ht
            go_wp2_with (
              at_builtin
              refine wpList_append_lies _ rfl (.tmp 27) (.tmp 29) 38 rfl V.heap.size 3 i0 (.int .i64 0) 1 8 under_ints HI.out hz0 hz1 hz2 rfl (by decide) _ M (ints (bitsK m i)) rfl (HOW.out.alloc _) ⟨wr.heap.size, 0, none⟩ 1 1 [.int .i64 (i : Int)] rfl rfl
                (World.news_of_block (cs := #[.int .i64 (i : Int)]) (t := 3) (fr := (0, 0)) (Blk.newAt (by simp) _ _)) (by intro u hu; simp at hu; subst hu; rfl) (by decide) (by unfold maxLen; omega) (by omega) (by simp; omega) _ rfl ?_
              intro g2 cap2 W6 ow6 gr6 at6 lt6)
            have hB6 : Below V.heap.size V W6 := below_own (hB.alloc hB.size _) (HOW.out.alloc _) (Nat.le_refl _) (by rw [sz1]; omega) gr6
            go_roundw
            case rel => exact ⟨i + 1, by omega, by go_num, by rw [HS.out, ints_append, List.length_append, ← HM.out]; exact ow6, hB6⟩
            case measure => simp [intOf]; omega
          | false =>
            have HS := hide (bitsK_no ht)
            rw [ht] at hbit
            clear ht
            go_wp2_with fail
            go_roundw
            case rel => exact ⟨i + 1, by omega, by go_num, by rw [HS.out, ← HM.out]; exact HOW.out, hB⟩
            case measure => simp [intOf]; omega
        · have hin : i = tn := by omega
          rw [hin] at own
          clear hin
          have hne : (bitsK m tn).length ≠ 0 := bitsK_ne ⟨tn, by omega⟩ ⟨m, by omega⟩ hm1 (by rw [← HN2.out]; exact hlt)
          have hl5 := bitsK_len m tn
          rcases own.2 with ⟨_, h00⟩ | ⟨g1, cp1, cur1, rfl, hg1, hc1, _, _, _, ht1⟩
          · exact absurd h00 hne
          have hrl : Row wr wr.heap.size (some ⟨g1, 0, none⟩) (ints (bitsK m tn)) := (row_of_heap hc1 (vs := ints (bitsK m tn)) (by rw [ints_length]; simpa using ht1)).mono (by have := (Array.getElem?_eq_some_iff.1 hc1).1; omega)
          have hsV := hr.rnd.size
          have hsB := hB.size
          have hnet : NetIn n sa ta sn tn tc wr := by
            have hh := HH.out
            have rsr : Row V w.heap.size sa (spans n.sp) := rsW.at fun k hk => hr.rnd.block k (by have := (HC.out k (.inr (.inl hk))).1; omega) (HC.out k (.inr (.inl hk))).2
            exact ⟨hh.hsn, hh.htn, hh.htc, hh.htc2, hh.hl, hh.hl2, (rsr.below hB (by omega)).mono (by omega), (rtr.below hB (by omega)).mono (by omega)⟩
          have HGR := hide (group_any n (bitsK m tn) sa ta (some ⟨g1, 0, none⟩) sn sc tn tc (bitsK m tn).length cp1 wr hnet HN.out rfl (by omega) (by omega) bitsK_in hrl (by have := HNZ.out m hm1 (by rw [← HH.out.htn, ← HN2.out]; omega); rw [← HH.out.htn] at this; exact this))
          have kw := kr.kept hB
          have hg1w := (Array.getElem?_eq_some_iff.1 hc1).1
          clear hnet ln0 own ht1 hc1
          obtain ⟨n0, n1, _⟩ := kw.two
          have ln0 := kw.lt
          go_wp2_with fail
          gi_wp2_with fail
          refine ⟨trivial, rfl, (Calls.wide HGR.out).mono ?_⟩
          rintro e W4 ⟨v, rfl, hv1, hv2, hb4⟩
          have hsz4 := hb4.size
          have hO4 : ∀ k, O1 k → k < W4.heap.size := fun k hk => Nat.lt_of_lt_of_le (hO1 k hk) (Nat.le_trans hsB hsz4)
          have hBV : Below V.heap.size V W4 := hB.trans (hb4.mono hsB)
          have hj4 : J O1 (grpUp n.ts sn (m - 1)) W4 := HJ.out _ _ _ _ hj (.of_below hBV)
          have hr4 : RndO O O1 W W4 := hr.trans (.of_below hBV)
          have HUP : Hid (grpUp n.ts sn m = grpUp n.ts sn (m - 1) ++ grpOne n.ts sn m) := hide (by
            obtain ⟨m', rfl⟩ : ∃ m', m = m' + 1 := ⟨m - 1, by omega⟩
            rfl)
          have HONE : Hid (grpOne n.ts sn m = if (grpR n.ts (bitsK m tn) sn).2 = true then [(bitsK m tn, (grpR n.ts (bitsK m tn) sn).1)] else []) := hide (by rw [HH.out.htn]; rfl)
          have HPRE : Hid (grpUp n.ts sn m <+: grpAll n) := hide (by
            unfold grpAll
            rw [← HH.out.hsn]
            exact grpUp_pre _ _ (by rw [← HH.out.htn, ← HN2.out]; omega))
          have HRL : Hid ((grpR n.ts (bitsK m tn) sn).2 = true → (grpR n.ts (bitsK m tn) sn).1.length = sn) := hide (grpR_len _ _ _ hne)
          have hrl4 := (hrl.below hb4 (Nat.le_refl _)).mono hsz4
          have hg14 : g1 < W4.heap.size := by omega
          rw [← HH.out.hsn] at hv1 hv2 ⊢
          clear HGR hj hr hB hb4 n0 n1 ln0 kw kr hrl rtr
          generalize grpR n.ts (bitsK m tn) sn = R at *
          cases hR2 : R.2 with
          | false =>
            have HS : Hid (grpUp n.ts sn m = grpUp n.ts sn (m - 1)) := hide (by rw [HUP.out, HONE.out, if_neg (by rw [hR2]; simp), List.append_nil])
            obtain rfl := hv2 hR2
            clear hv1 hv2 hR2
            gi_wp2_with fail
            refine ⟨(fun f h => by cases h), ?_⟩
            gi_wp2_with fail
            go_roundw
            case rel => exact ⟨m + 1, O1, by omega, by omega, by go_num, by rw [Nat.add_sub_cancel, HS.out]; exact hj4, hr4, hO4⟩
            case measure => simp [intOf]; omega
          | true =>
            obtain ⟨g, rfl, hgs, hbk⟩ := hv1 hR2
            have hgl := hbk.lt
            have HXX : Hid (grpUp n.ts sn m = grpUp n.ts sn (m - 1) ++ [(bitsK m tn, R.1)]) := hide (by rw [HUP.out, HONE.out, if_pos hR2])
            have hpre := HPRE.out
            rw [HXX.out] at hpre
            have hit : GIt sn O1 (bitsK m tn, R.1) #[.slice (some ⟨g1, 0, none⟩) (bitsK m tn).length cp1, .slice (some ⟨g, 0, none⟩) sn sn] W4 :=
              ⟨g1, cp1, g, rfl, fun h => by have := hO1 _ h; omega, fun h => by have := hO1 _ h; omega, hg14, hgl, hrl4, (row_of_heap hbk (by rw [List.toList_toArray, List.take_length])).mono (by omega), HRL.out hR2⟩
            obtain ⟨fn, tmps, assign, body, hy, hRd⟩ := HY.out O1 (grpUp n.ts sn (m - 1)) (bitsK m tn, R.1) _ W4 hO4 (by omega) hpre hit hj4
            have hR' := hide (roundIn_any 0 hRd)
            have HP := hide hpre
            clear hv1 hv2 hR2 hRd hpre hit
            gi_wp2_with fail
            refine ⟨rfl, hR'.out.mono ?_⟩
            rintro e W5 ⟨O', hro, ⟨rfl, hJ3⟩ | ⟨rfl, hJx3⟩⟩
            · have hr5 := hr4.trans hro
              have hO5 : ∀ k, O' k → k < W5.heap.size := fun k hk => (hro.own k hk).elim (fun h => Nat.lt_of_lt_of_le (hO4 k h) hro.rnd.size) (fun h => h.2)
              gi_wp2_with fail
              go_roundw
              case rel => exact ⟨m + 1, O', by omega, by omega, by go_num, by rw [Nat.add_sub_cancel, HXX.out]; exact hJ3, hr5, hO5⟩
              case measure => simp [intOf]; omega
            · gi_wp2_with fail
              refine bodyPost_ret (results_none rfl _ _ _) rfl ?_
              exact ⟨⟨_, rfl⟩, O', .inr ⟨_, _, HP.out, hJx3⟩⟩
    · have hmn : m = N2 := by omega
      have HE : Hid (grpAll n = grpUp n.ts sn (m - 1)) := hide (by unfold grpAll; rw [← HH.out.hsn, ← HH.out.htn, hmn, HN2.out])
      clear hmn
      gi_wp2_with fail
      go_end0
      exact ⟨⟨_, rfl⟩, O1, .inl (by rw [HE.out]; exact hj)⟩

end Go.Proofs.Ytlbhnicengolfaa
