/-
  Packages agoniclaw03, agonicref03: large, given, corners.
-/
import Derived.Test.YtlbhnicengolfaaMade
import Derived.Test.YtlbhnicengolfaaRefR
namespace Go.Proofs.Ytlbhnicengolfaa
open Go.RowKit
set_option linter.unusedVariables false
set_option linter.unusedSimpArgs false

theorem large_any (n : TNet) (sa ta : Option Addr) (sn sc tn tc : Nat) (w : World) :
    Calls Try.prog 15 #[netV sa ta sn sc tn tc] w fun e w' => e = .returned (.bool (decide (40 < sn) || decide (40 < tn))) ∧ Below w.heap.size w w' := by
  by_cases h : 40 < sn
  · have HE : Hid ((decide (40 < sn) || decide (40 < tn)) = true) := hide (by simp [h])
    have d : decide ((40 : Int) < (sn : Int)) = true := decide_eq_true (by omega)
    have d2 : decide (40 < sn) = true := decide_eq_true h
    clear h
    go_enter Try.func15, Try.ntmps15
    go_wp2
    go_ret
    exact ⟨by rw [HE.out]; rfl, (Below.refl _ _).alloc (Nat.le_refl _) _⟩
  · have HE : Hid ((decide (40 < sn) || decide (40 < tn)) = decide (40 < tn)) := hide (by simp [h])
    have d : decide ((40 : Int) < (sn : Int)) = false := decide_eq_false (by omega)
    have d2 : decide (40 < sn) = false := decide_eq_false h
    by_cases h2 : 40 < tn
    · have e : decide ((40 : Int) < (tn : Int)) = true := decide_eq_true (by omega)
      have e2 : decide (40 < tn) = true := decide_eq_true h2
      clear h h2
      go_enter Try.func15, Try.ntmps15
      go_wp2
      go_ret
      exact ⟨by rw [d2, e2]; rfl, (Below.refl _ _).alloc (Nat.le_refl _) _⟩
    · have e : decide ((40 : Int) < (tn : Int)) = false := decide_eq_false (by omega)
      have e2 : decide (40 < tn) = false := decide_eq_false h2
      clear h h2
      go_enter Try.func15, Try.ntmps15
      go_wp2
      go_ret
      exact ⟨by rw [d2, e2]; rfl, (Below.refl _ _).alloc (Nat.le_refl _) _⟩

theorem rcorners_any (a b c : Int) (w : World) :
    Calls Try.prog 52 #[.agg #[.int .i64 a, .int .i64 b, .int .i64 c]] w fun e w' => ∃ g, e = .returned (.slice (some ⟨g, 0, none⟩) 3 3) ∧ Blk w' g #[.int .i64 a, .int .i64 b, .int .i64 c] 3 ∧ w.heap.size ≤ g ∧ Below w.heap.size w w' := by
  go_enter Try.func52, Try.ntmps52
  go_wp2
  go_ret
  exact ⟨_, rfl, Blk.newAt (by simp) _ _, by omega, ((Below.refl _ _).alloc (Nat.le_refl _) _).alloc (by simp) _⟩

theorem info_rtri0 : (Try.prog.info? 89).map (fun i => (i.zero, i.size, i.bytes)) = some (some (.agg #[.int .i64 0, .int .i64 0, .int .i64 0]), 3, 24) := by kernel_rfl
theorem under_rtris : Try.prog.underlying 33 = some (.slice 89) := by kernel_rfl
theorem info_rtri : ∃ i : TypeInfo, Try.prog.info? 89 = some i ∧ i.zero = some (.agg #[.int .i64 0, .int .i64 0, .int .i64 0]) ∧ i.size = 3 ∧ i.bytes = 24 := info_parts info_rtri0

/-- While given runs. -/
structure GivIn (w : World) (n : TNet) (sa ta : Option Addr) (sn sc tn tc : Nat) (k : Nat) (tv : Value) (wr : World) : Prop where
  k1 : Blk wr w.heap.size #[.slice sa sn sc, .slice ta tn tc] 25
  k2 : Blk wr (w.heap.size + 1) #[.slice none 0 0, .slice none 0 0] 35
  k3 : Blk wr (w.heap.size + 1 + 1) #[.slice sa sn sc, tv] 35
  ot : wr.ownsRow w.heap.size 89 3 tv k (tris (n.ts.take k))
  be : Below w.heap.size w wr
theorem GivIn.kept {w : World} {n : TNet} {sa ta : Option Addr} {sn sc tn tc : Nat} {k : Nat} {tv : Value} {wr W : World} (h : GivIn w n sa ta sn sc tn tc k tv wr) (hb : Below wr.heap.size wr W) : GivIn w n sa ta sn sc tn tc k tv W :=
  ⟨h.k1.kept hb, h.k2.kept hb, h.k3.kept hb, own_kept h.ot hb, h.be.trans (hb.mono h.be.size)⟩

def gvNew (B : Nat) (a b c : Int) (w : World) (v : Value) : Prop := ∃ p, v = .slice (some ⟨p, 0, none⟩) 1 1 ∧ B ≤ p ∧ Blk w p #[.int .i64 a, .int .i64 b, .int .i64 c] 89
def gvGood (b1 b3 B : Nat) (tb toff k tn tc : Nat) (tv : Value) (a b c : Int) : Nat → World → Value → Prop
  | 0, _, v => v = .pointer (some ⟨b3, 1, none⟩)
  | 1, _, v => v = tv
  | 2, _, v => v = .pointer (some ⟨b1, 1, none⟩)
  | 3, _, v => v = .slice (some ⟨tb, toff, none⟩) tn tc
  | 4, _, v => v = .int .i64 (k : Int)
  | 5, _, v => v = .pointer (some ⟨tb, toff + k * 3, none⟩)
  | 6, _, v => v = .agg #[.int .i64 a, .int .i64 b, .int .i64 c]
  | 7, w, v => (gvNew B a b c) w v
  | _, _, v => v = .bool true
theorem gvNew_below {B : Nat} {a b c : Int} {w w' : World} {v : Value} (h : gvNew B a b c w v) (hb : Below w.heap.size w w') : gvNew B a b c w' v := by
  obtain ⟨p, e, hp, hk⟩ := h
  exact ⟨p, e, hp, hk.kept hb⟩
theorem gvGood_below {b1 b3 B tb toff k tn tc : Nat} {tv : Value} {a b c : Int} (i : Nat) (w w' : World) (v : Value) (h : (gvGood b1 b3 B tb toff k tn tc tv a b c) i w v) (hb : Below w.heap.size w w') : (gvGood b1 b3 B tb toff k tn tc tv a b c) i w' v := by
  unfold gvGood at h
  split at h <;> first | exact gvNew_below h hb | exact h | (unfold gvGood; split <;> first | exact h | (exfalso; simp_all))

attribute [local go_sem] grows growAt growUpon in
set_option maxRecDepth 100000 in
set_option maxHeartbeats 4000000 in
theorem given_any (n : TNet) (sa ta : Option Addr) (sn sc tn tc : Nat) (w : World) (h : NetIn n sa ta sn tn tc w) (ht40 : tn ≤ 40) :
    Calls Try.prog 21 #[netV sa ta sn sc tn tc] w fun e w' => ∃ a' tc', e = .returned (netV sa a' sn sc tn tc') ∧ NetIn n sa a' sn tn tc' w' ∧ Below w.heap.size w w' := by
  have H := hide h
  have HT : Hid (n.ts.take tn = n.ts) := hide (List.take_of_length_le (by rw [h.htn]; exact Nat.le_refl _))
  obtain ⟨it, hit, hz0, hz1, hz2⟩ := info_rtri
  have HIT := hide hit
  have hk1 := Blk.new w #[.slice sa sn sc, .slice ta tn tc] 25
  clear h hit
  go_enter Try.func21, Try.ntmps21
  go_wp2_with fail
  generalize hW : World.alloc (World.alloc (World.alloc w _) _) _ = V
  have hgi : GivIn w n sa ta sn sc tn tc 0 (.slice none 0 0) V := by
    rw [← hW]
    exact ⟨(hk1.alloc _).alloc _, (Blk.newAt (by simp) _ _).alloc _, Blk.newAt (by simp) _ _, World.ownsRow_nil _ _ _ _, (((Below.refl _ _).alloc (Nat.le_refl _) _).alloc (by simp) _).alloc (by simp; omega) _⟩
  clear hW hk1
  go_loopw [4] (fun i wr => ∃ k : Nat, k ≤ tn ∧ i = .int .i64 (k : Int) ∧ ∃ tv, GivIn w n sa ta sn sc tn tc k tv wr) (fun i _ => tn - (intOf i).toNat)
  case atStart => exact ⟨0, Nat.zero_le _, rfl, _, hgi⟩
  case round =>
    clear hgi
    obtain ⟨k, hk, rfl, tv, hgi⟩ := hrel
    have hb1 := hgi.k1.lt
    have hb3 := hgi.k3.lt
    obtain ⟨n0, n1, _⟩ := hgi.k1.two
    by_cases hlt : k < tn
    · have hkl : k < n.ts.length := by rw [← H.out.htn]; exact hlt
      obtain ⟨tb, toff, hta, htb, hcell⟩ := (H.out.rt.below hgi.be (Nat.le_refl _)).tri (by omega)
      obtain ⟨t0, t1, t2⟩ := hcell k hkl
      have HTK := hide (tri_take hkl)
      have HCL : Hid (∀ W, Below wr.heap.size wr W → W.cell? ⟨tb, toff + k * 3, none⟩ = some (.int .i64 (tri n.ts k).1) ∧ W.cell? ⟨tb, toff + k * 3 + 1, none⟩ = some (.int .i64 (tri n.ts k).2.1) ∧ W.cell? ⟨tb, toff + k * 3 + 2, none⟩ = some (.int .i64 (tri n.ts k).2.2)) := hide (fun W hb => ⟨(hb.cell (p := ⟨tb, toff + k * 3, none⟩) (by have := hgi.be.size; show tb < _; omega)).trans t0, (hb.cell (p := ⟨tb, toff + k * 3 + 1, none⟩) (by have := hgi.be.size; show tb < _; omega)).trans t1, (hb.cell (p := ⟨tb, toff + k * 3 + 2, none⟩) (by have := hgi.be.size; show tb < _; omega)).trans t2⟩)
      have HC := hide (fun (W : World) (hb : Below wr.heap.size wr W) => hgi.kept hb)
      have htc := H.out.htc
      have htc2 := H.out.htc2
      clear hcell hkl t0 t1 t2
      subst hta
      generalize tri n.ts k = t at *
      obtain ⟨a, b, c⟩ := t
      dsimp only at HCL
      go_wp2_with fail
      have i1 : (k : Int) < tn := by omega
      clear n0 n1
      refine wp_region_monoF wr _ 8 (gvGood w.heap.size (w.heap.size + 1 + 1) wr.heap.size tb toff k tn tc tv a b c) (n := 26) (by kernel_rfl) (by decide +kernel) rfl gvGood_below ?steps ?_
      case steps =>
        refine ⟨?_, ?_, ?_, ?_, ?_, ?_, ?_, ?_, trivial⟩
        · intro ac w' h
          have e1 : ac.tmps.getD 3 undef = .pointer (some ⟨w.heap.size + 1 + 1, 0, none⟩) := h.old 3 rfl
          refine ⟨wanted_none rfl, ?_⟩
          simp at e1
          have HBE := hide h.be
          clear h
          go_simp
          exact ⟨Below.refl _ _, rfl⟩
        · intro ac w' h
          have e1 : ac.tmps.getD 15 undef = .pointer (some ⟨w.heap.size + 1 + 1, 1, none⟩) := h.val 0 15 rfl rfl
          refine ⟨wanted_none rfl, ?_⟩
          simp at e1
          have q := (HC.out w' h.be).k3.two
          have HBE := hide h.be
          clear h
          go_simp
          exact ⟨Below.refl _ _, rfl⟩
        · intro ac w' h
          have e1 : ac.tmps.getD 1 undef = .pointer (some ⟨w.heap.size, 0, none⟩) := h.old 1 rfl
          refine ⟨wanted_none rfl, ?_⟩
          simp at e1
          have HBE := hide h.be
          clear h
          go_simp
          exact ⟨Below.refl _ _, rfl⟩
        · intro ac w' h
          have e1 : ac.tmps.getD 17 undef = .pointer (some ⟨w.heap.size, 1, none⟩) := h.val 2 17 rfl rfl
          refine ⟨wanted_none rfl, ?_⟩
          simp at e1
          have q := (HC.out w' h.be).k1.two
          have HBE := hide h.be
          clear h
          go_simp
          exact ⟨Below.refl _ _, rfl⟩
        · intro ac w' h
          have e1 : ac.tmps.getD 4 undef = .int .i64 (k : Int) := h.old 4 rfl
          refine ⟨wanted_none rfl, ?_⟩
          simp at e1
          have HBE := hide h.be
          clear h
          go_simp
          exact ⟨Below.refl _ _, rfl⟩
        · intro ac w' h
          have e1 : ac.tmps.getD 18 undef = .slice (some ⟨tb, toff, none⟩) tn tc := h.val 3 18 rfl rfl
          have e2 : ac.tmps.getD 19 undef = .int .i64 (k : Int) := h.val 4 19 rfl rfl
          refine ⟨wanted_none rfl, ?_⟩
          simp at e1 e2
          have HBE := hide h.be
          clear h
          go_simp
          exact ⟨Below.refl _ _, rfl⟩
        · intro ac w' h
          have e1 : ac.tmps.getD 20 undef = .pointer (some ⟨tb, toff + k * 3, none⟩) := h.val 5 20 rfl rfl
          refine ⟨wanted_none rfl, ?_⟩
          simp at e1
          obtain ⟨q0, q1, q2⟩ := HCL.out w' h.be
          have HBE := hide h.be
          clear h
          go_simp
          exact ⟨Below.refl _ _, rfl⟩
        · intro ac w' h
          have e1 : ac.tmps.getD 21 undef = .agg #[.int .i64 a, .int .i64 b, .int .i64 c] := h.val 6 21 rfl rfl
          refine ⟨wanted_none rfl, ?_⟩
          simp at e1
          have hbs := h.be.size
          clear h
          go_simp
          exact ⟨(Below.refl _ _).alloc (Nat.le_refl _) _, ⟨_, rfl, hbs, Blk.new _ _ _⟩⟩
      intro vs w2 hb2 hv
      have v0 := hv 0 (by omega)
      have v1 := hv 1 (by omega)
      have v2 := hv 2 (by omega)
      have v3 := hv 3 (by omega)
      have v4 := hv 4 (by omega)
      have v5 := hv 5 (by omega)
      have v6 := hv 6 (by omega)
      obtain ⟨p7, v7, hp7, k7⟩ := hv 7 (by omega)
      simp only [gvGood] at v0 v1 v2 v3 v4 v5 v6
      simp only [List.take_succ_cons, List.take_zero, List.drop_succ_cons, List.drop_zero, putSeq, Act.put, List.setIfInBounds_toArray, List.set_cons_zero, List.set_cons_succ, v0, v1, v2, v3, v4, v5, v6, v7, Nat.reduceAdd]
      clear hv v0 v1 v2 v3 v4 v5 v6 v7
      have hgi2 := HC.out w2 hb2
      have HG2 := hide hgi2
      obtain ⟨q0, q1, qf0, qf1⟩ := hgi2.k3.two
      have ql := hgi2.k3.lt
      have hsz2 := hgi2.be.size
      clear HC HCL hgi hgi2
      go_wp2_with (
        at_builtin
        refine wpList_append_lies _ rfl (.tmp 16) (.tmp 22) 33 rfl w.heap.size 89 it (.agg #[.int .i64 0, .int .i64 0, .int .i64 0]) 3 24 under_rtris HIT.out hz0 hz1 hz2 rfl (by decide) _ k (tris (n.ts.take k)) rfl HG2.out.ot ⟨p7, 0, none⟩ 1 1 [.int .i64 a, .int .i64 b, .int .i64 c] rfl rfl
          (World.news_of_block (cs := #[.int .i64 a, .int .i64 b, .int .i64 c]) (t := 89) (fr := (0, 0)) k7) (by intro u hu; simp at hu; rcases hu with rfl | rfl | rfl <;> rfl) (by decide) (by unfold maxLen; omega) (by omega) hsz2 _ rfl ?_
        intro g2 cap2 W4 ow4 gr4 at4 lt4
        have HGN : Hid (GivIn w n sa (some ⟨tb, toff, none⟩) sn sc tn tc (k + 1) (.slice (some ⟨g2, 0, none⟩) (k + 1) cap2) (W4.setCell ⟨w.heap.size + 1 + 1, 1, none⟩ (.slice (some ⟨g2, 0, none⟩) (k + 1) cap2))) := hide (by
          have h1 := blk_grown HG2.out.k1 gr4 fun j e => ownBlk HG2.out.ot e HG2.out.k1 (by decide)
          have h2 := blk_grown HG2.out.k2 gr4 fun j e => ownBlk HG2.out.ot e HG2.out.k2 (by decide)
          have h3 := blk_grown HG2.out.k3 gr4 fun j e => ownBlk HG2.out.ot e HG2.out.k3 (by decide)
          have ow5 : W4.ownsRow w.heap.size 89 3 (.slice (some ⟨g2, 0, none⟩) (k + 1) cap2) (k + 1) (tris (n.ts.take (k + 1))) := by rw [HTK.out, tris_append]; exact ow4
          have be4 := below_own HG2.out.be HG2.out.ot (Nat.le_refl _) hsz2 gr4
          exact ⟨h1.other (p := ⟨w.heap.size + 1 + 1, 1, none⟩) (show w.heap.size ≠ w.heap.size + 1 + 1 by omega) _, h2.other (p := ⟨w.heap.size + 1 + 1, 1, none⟩) (show w.heap.size + 1 ≠ w.heap.size + 1 + 1 by omega) _, h3.set 1 _, own_set ow5 h3 (by decide), be4.setCell (p := ⟨w.heap.size + 1 + 1, 1, none⟩) (show w.heap.size ≤ w.heap.size + 1 + 1 by omega) _⟩)
        have h3 := blk_grown HG2.out.k3 gr4 fun j e => ownBlk HG2.out.ot e HG2.out.k3 (by decide)
        obtain ⟨m0, m1, mf0, mf1⟩ := h3.two
        have ml := h3.lt
        clear h3 q0 q1 qf0 qf1 ql)
      clear m0 m1 mf0 mf1 ml gr4 at4 lt4 ow4
      go_roundw
      case rel => exact ⟨k + 1, by omega, by go_num, _, HGN.out⟩
      case measure => simp [intOf]; omega
    · have hkn : k = tn := by omega
      obtain ⟨a', c', htv, htc, htm⟩ := own_shape hgi.ot
      subst htv
      have HG := hide hgi
      obtain ⟨q0, q1, qf0, qf1⟩ := hgi.k3.two
      have ql := hgi.k3.lt
      obtain ⟨m0, m1, mf0, mf1⟩ := hgi.k2.two
      have ml := hgi.k2.lt
      have HKN := hide hkn
      clear hgi hkn
      go_wp2_with fail
      refine bodyPost_ret (v := .agg #[.slice sa sn sc, .slice a' k c']) (by simp [results, Try.results21, go_sem, m0, m1]) rfl ?_
      have hb := (HG.out.be.setCell (p := ⟨w.heap.size + 1, 0, none⟩) (show w.heap.size ≤ w.heap.size + 1 by omega) (.slice sa sn sc)).setCell (p := ⟨w.heap.size + 1, 1, none⟩) (show w.heap.size ≤ w.heap.size + 1 by omega) (.slice a' k c')
      have ho := own_set (i := 1) (u := .slice a' k c') (own_set (i := 0) (u := .slice sa sn sc) HG.out.ot HG.out.k2 (by decide)) (HG.out.k2.set 0 _) (by decide)
      obtain ⟨_, _, e2, r2⟩ := own_row ho
      cases e2
      have hkn := HKN.out
      subst hkn
      rw [HT.out] at r2
      have h' := H.out.below hb
      exact ⟨a', c', rfl, ⟨h'.hsn, h'.htn, htc, by unfold maxLen at htm; exact htm, h'.hl, h'.hl2, h'.rs, r2⟩, hb⟩

end Go.Proofs.Ytlbhnicengolfaa
