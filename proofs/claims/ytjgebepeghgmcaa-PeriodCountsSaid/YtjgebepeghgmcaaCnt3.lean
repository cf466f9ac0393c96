/-
  The chapter's reference: the pairs that bound the period most.
-/
import Derived.Test.YtjgebepeghgmcaaCnt2
import Derived.RegionTactic
import Derived.ChangeAlike
namespace Go.Proofs.Ytjgebepeghgmcaa
open Go.RowKit Go.Shelf
set_option linter.unusedVariables false
set_option linter.unusedSimpArgs false

/-! ### plain -/
/-- The pairs that have been met at the head of the inner loop. -/
def doneP (m i k : Nat) : List (Nat × Nat) := (List.range i).flatMap (pairsFrom (m + 1)) ++ (pairsFrom (m + 1) i).take (k - (i + 1))
theorem doneP_step (m i k : Nat) (h1 : i < k) (h2 : k ≤ m) : doneP m i (k + 1) = doneP m i k ++ [(i, k)] := by
  unfold doneP
  rw [List.append_assoc]
  congr 1
  have hl : (pairsFrom (m + 1) i).length = m + 1 - (i + 1) := by simp [pairsFrom]
  rw [show k + 1 - (i + 1) = (k - (i + 1)) + 1 by omega, List.take_succ_eq_append_getElem (by omega)]
  congr 1
  simp [pairsFrom]
  omega
theorem doneP_next (m i : Nat) (hi : i ≤ m) : doneP m (i + 1) (i + 2) = doneP m i (m + 1) := by
  unfold doneP
  rw [show i + 2 - (i + 1 + 1) = 0 by omega, List.take_zero, List.append_nil, List.range_succ, List.flatMap_append]
  congr 1
  rw [List.take_of_length_le (by simp [pairsFrom])]
  simp
theorem doneP_zero (m : Nat) : doneP m 0 1 = [] := by simp [doneP]
theorem doneP_all (m : Nat) : doneP m m (m + 1) = pairsOf (m + 1) := by
  unfold doneP pairsOf
  rw [List.range_succ, List.flatMap_append, List.take_of_length_le (by simp [pairsFrom])]
  simp

/-- What the two variables hold. -/
structure BnI (ps : List (Int × Int)) (cs : List Int) (i k : Nat) (L H : Nat × Nat) : Prop where
  low : (doneP cs.length i k).foldl (pick (lowBetter ps cs)) (some (0, 1)) = some L
  high : (doneP cs.length i k).foldl (pick (highBetter ps cs)) (some (0, 1)) = some H
  l : L.1 < L.2 ∧ L.2 ≤ cs.length
  h : H.1 < H.2 ∧ H.2 ≤ cs.length
theorem BnI.start {ps : List (Int × Int)} {cs : List Int} (h : 1 ≤ cs.length) : BnI ps cs 0 1 (0, 1) (0, 1) :=
  ⟨by rw [doneP_zero]; rfl, by rw [doneP_zero]; rfl, ⟨by decide, h⟩, ⟨by decide, h⟩⟩
theorem BnI.step {ps : List (Int × Int)} {cs : List Int} {i k : Nat} {L H : Nat × Nat} (b : BnI ps cs i k L H) (h1 : i < k) (h2 : k ≤ cs.length) :
    BnI ps cs i (k + 1) (if lowBetter ps cs (i, k) L then (i, k) else L) (if highBetter ps cs (i, k) H then (i, k) else H) := by
  refine ⟨?_, ?_, ?_, ?_⟩
  · rw [doneP_step _ _ _ h1 h2, List.foldl_append, b.low]
    simp only [List.foldl_cons, List.foldl_nil, pick]
    split <;> rfl
  · rw [doneP_step _ _ _ h1 h2, List.foldl_append, b.high]
    simp only [List.foldl_cons, List.foldl_nil, pick]
    split <;> rfl
  · split
    · exact ⟨h1, h2⟩
    · exact b.l
  · split
    · exact ⟨h1, h2⟩
    · exact b.h
theorem BnI.next {ps : List (Int × Int)} {cs : List Int} {i : Nat} {L H : Nat × Nat} (b : BnI ps cs i (cs.length + 1) L H) (hi : i ≤ cs.length) : BnI ps cs (i + 1) (i + 2) L H :=
  ⟨by rw [doneP_next _ _ hi]; exact b.low, by rw [doneP_next _ _ hi]; exact b.high, b.l, b.h⟩
theorem fold_first {α : Type} (bt : α → α → Bool) (x : α) (xs : List α) (h : bt x x = false) : (x :: xs).foldl (pick bt) (some x) = firstBy bt (x :: xs) := by
  unfold firstBy
  simp only [List.foldl_cons, pick, h]
  rfl
theorem pairs_first (m : Nat) (h : 1 ≤ m) : ∃ r, pairsOf (m + 1) = (0, 1) :: r := by
  unfold pairsOf
  rw [List.range_succ_eq_map, List.flatMap_cons]
  obtain ⟨q, rfl⟩ : ∃ q, m = q + 1 := ⟨m - 1, by omega⟩
  have : pairsFrom (q + 1 + 1) 0 = (0, 1) :: (List.range' 2 q).map fun k => (0, k) := by
    unfold pairsFrom
    rw [show q + 1 + 1 - (0 + 1) = q + 1 by omega, List.range'_succ]
    rfl
  rw [this]
  exact ⟨_, rfl⟩
theorem BnI.end_ {ps : List (Int × Int)} {cs : List Int} {i : Nat} {L H : Nat × Nat} (hm : 1 ≤ cs.length) (b : BnI ps cs cs.length (cs.length + 1) L H) : L = lowOf ps cs ∧ H = highOf ps cs := by
  obtain ⟨r, hr⟩ := pairs_first cs.length hm
  have e1 := b.low
  have e2 := b.high
  rw [doneP_all, hr, fold_first _ _ _ (by unfold lowBetter cmpR; simp)] at e1
  rw [doneP_all, hr, fold_first _ _ _ (by unfold highBetter cmpR; simp)] at e2
  unfold lowOf highOf
  rw [hr, e1, e2]
  exact ⟨rfl, rfl⟩

/-! ### the walk -/
structure BnW (l : PLog) (w : World) (p2 p4 p5 p6 p7 : Nat) (a : Option Addr) (n cap : Nat) (L H : Nat × Nat) (W : World) : Prop where
  be : Below w.heap.size w W
  b2 : Blk W p2 #[.int .i64 l.lo, .int .i64 l.hi, .slice a n cap] 28
  b4 : Blk W p4 #[.int .i64 0, .int .i64 0] 60
  b5 : Blk W p5 #[.int .i64 0, .int .i64 0] 60
  b6 : Blk W p6 #[.int .i64 (L.1 : Int), .int .i64 (L.2 : Int)] 60
  b7 : Blk W p7 #[.int .i64 (H.1 : Int), .int .i64 (H.2 : Int)] 60
structure BnP (w : World) (p2 p4 p5 p6 p7 : Nat) : Prop where
  g2 : w.heap.size ≤ p2
  n24 : p2 < p4
  n45 : p4 < p5
  n56 : p5 < p6
  n67 : p6 < p7
theorem BnW.kept {l : PLog} {w : World} {p2 p4 p5 p6 p7 : Nat} {a : Option Addr} {n cap : Nat} {L H : Nat × Nat} {W W' : World} (h : BnW l w p2 p4 p5 p6 p7 a n cap L H W) (hb : Below W.heap.size W W') : BnW l w p2 p4 p5 p6 p7 a n cap L H W' :=
  ⟨h.be.trans (hb.mono h.be.size), h.b2.kept hb, h.b4.kept hb, h.b5.kept hb, h.b6.kept hb, h.b7.kept hb⟩
theorem BnW.low {l : PLog} {w : World} {p2 p4 p5 p6 p7 : Nat} {a : Option Addr} {n cap : Nat} {L H : Nat × Nat} {W : World} (h : BnW l w p2 p4 p5 p6 p7 a n cap L H W) (P : BnP w p2 p4 p5 p6 p7) (x : Nat × Nat) :
    BnW l w p2 p4 p5 p6 p7 a n cap x H ((W.setCell ⟨p6, 0, none⟩ (.int .i64 (x.1 : Int))).setCell ⟨p6, 1, none⟩ (.int .i64 (x.2 : Int))) := by
  obtain ⟨h1, h2, h3, h4, h5⟩ := P
  exact ⟨below_set2 h.be (by omega) _ _, h.b2.other2 (by omega) _ _, h.b4.other2 (by omega) _ _, h.b5.other2 (by omega) _ _, h.b6.set2 _ _, h.b7.other2 (by omega) _ _⟩
theorem BnW.high {l : PLog} {w : World} {p2 p4 p5 p6 p7 : Nat} {a : Option Addr} {n cap : Nat} {L H : Nat × Nat} {W : World} (h : BnW l w p2 p4 p5 p6 p7 a n cap L H W) (P : BnP w p2 p4 p5 p6 p7) (x : Nat × Nat) :
    BnW l w p2 p4 p5 p6 p7 a n cap L x ((W.setCell ⟨p7, 0, none⟩ (.int .i64 (x.1 : Int))).setCell ⟨p7, 1, none⟩ (.int .i64 (x.2 : Int))) := by
  obtain ⟨h1, h2, h3, h4, h5⟩ := P
  exact ⟨below_set2 h.be (by omega) _ _, h.b2.other2 (by omega) _ _, h.b4.other2 (by omega) _ _, h.b5.other2 (by omega) _ _, h.b6.other2 (by omega) _ _, h.b7.set2 _ _⟩

theorem refless_low (ps : List (Int × Int)) (cs : List Int) (L p : Nat × Nat) (w : World) (a1 : Small 2000000 (bel ps cs L).1) (a2 : 1 ≤ (bel ps cs L).2) (a3 : (bel ps cs L).2 ≤ 8000000) (b1 : Small 2000000 (bel ps cs p).1) (b2 : 1 ≤ (bel ps cs p).2) (b3 : (bel ps cs p).2 ≤ 8000000) :
    Calls Try.prog 51 #[.agg #[.int .i64 (bel ps cs L).1, .int .i64 (bel ps cs L).2], .agg #[.int .i64 (bel ps cs p).1, .int .i64 (bel ps cs p).2]] w fun e w' => e = .returned (.bool (lowBetter ps cs p L)) ∧ Below w.heap.size w w' := by
  unfold Small at a1 b1
  have h := refless_any (bel ps cs L) (bel ps cs p) w (by unfold Small; omega) (by unfold Small; omega) (by unfold Small; omega) (by unfold Small; omega)
  have e : lessR (bel ps cs L) (bel ps cs p) = lowBetter ps cs p L := by
    unfold lessR lowBetter cmpR
    exact decide_eq_decide.2 (by omega)
  rw [e] at h
  exact h
theorem refless_high (ps : List (Int × Int)) (cs : List Int) (H p : Nat × Nat) (w : World) (a1 : Small 2000000 (abv ps cs H).1) (a2 : 1 ≤ (abv ps cs H).2) (a3 : (abv ps cs H).2 ≤ 8000000) (b1 : Small 2000000 (abv ps cs p).1) (b2 : 1 ≤ (abv ps cs p).2) (b3 : (abv ps cs p).2 ≤ 8000000) :
    Calls Try.prog 51 #[.agg #[.int .i64 (abv ps cs p).1, .int .i64 (abv ps cs p).2], .agg #[.int .i64 (abv ps cs H).1, .int .i64 (abv ps cs H).2]] w fun e w' => e = .returned (.bool (highBetter ps cs p H)) ∧ Below w.heap.size w w' := by
  unfold Small at a1 b1
  have h := refless_any (abv ps cs p) (abv ps cs H) w (by unfold Small; omega) (by unfold Small; omega) (by unfold Small; omega) (by unfold Small; omega)
  have e : lessR (abv ps cs p) (abv ps cs H) = highBetter ps cs p H := by
    unfold lessR highBetter cmpR
    exact decide_eq_decide.2 (by omega)
  rw [e] at h
  exact h

set_option maxRecDepth 100000 in
set_option maxHeartbeats 4000000 in
theorem refbounds_any (l : PLog) (cs : List Int) (a ca : Option Addr) (n cap m ccap : Nat) (w : World) (hl : LOk l) (hcs : COk l cs) (hn : n = l.ps.length) (hm : m = cs.length) (hmc : m ≤ ccap) (hm1 : 1 ≤ m)
    (hp : Row w w.heap.size a (spans l.ps)) (hc : Row w w.heap.size ca (ints cs)) :
    Calls Try.prog 78 #[.agg #[.int .i64 l.lo, .int .i64 l.hi, .slice a n cap], .slice ca m ccap] w fun e w' =>
      e = .returned (.tuple #[.agg #[.int .i64 ((lowOf l.ps cs).1 : Int), .int .i64 ((lowOf l.ps cs).2 : Int)], .agg #[.int .i64 ((highOf l.ps cs).1 : Int), .int .i64 ((highOf l.ps cs).2 : Int)]]) ∧ Below w.heap.size w w' := by
  have hm8 : m ≤ 8 := by have := hcs.len; have := hl.len8; omega
  have HBE := hide (fun (p : Nat × Nat) (h1 : p.1 < p.2) (h2 : p.2 ≤ cs.length) (W : World) (hp : Row W W.heap.size a (spans l.ps)) (hc : Row W W.heap.size ca (ints cs)) => refbelow_any l cs a ca n cap m ccap p W hl hcs hn hm hmc hp hc h1 h2)
  have HAB := hide (fun (p : Nat × Nat) (h1 : p.1 < p.2) (h2 : p.2 ≤ cs.length) (W : World) (hp : Row W W.heap.size a (spans l.ps)) (hc : Row W W.heap.size ca (ints cs)) => refabove_any l cs a ca n cap m ccap p W hl hcs hn hm hmc hp hc h1 h2)
  have HSM := hide (fun (p : Nat × Nat) (h1 : p.1 < p.2) (h2 : p.2 ≤ cs.length) => bel_small hl hcs h1 h2)
  have HST := hide (BnI.start (ps := l.ps) (cs := cs) (by omega))
  have HM := hide hm
  clear hl hcs hn hm
  go_enter Try.func78, Try.ntmps78
  go_wp2_with fail
  obtain ⟨p2, hp2⟩ : ∃ p2, p2 = w.heap.size := ⟨_, rfl⟩
  obtain ⟨p4, hp4⟩ : ∃ p4, p4 = w.heap.size + 1 := ⟨_, rfl⟩
  obtain ⟨p5, hp5⟩ : ∃ p5, p5 = w.heap.size + 1 + 1 := ⟨_, rfl⟩
  obtain ⟨p6, hp6⟩ : ∃ p6, p6 = w.heap.size + 1 + 1 + 1 := ⟨_, rfl⟩
  obtain ⟨p7, hp7⟩ : ∃ p7, p7 = w.heap.size + 1 + 1 + 1 + 1 := ⟨_, rfl⟩
  rw [← hp7, ← hp6, ← hp5, ← hp4, ← hp2]
  have HP : BnP w p2 p4 p5 p6 p7 := ⟨by omega, by omega, by omega, by omega, by omega⟩
  generalize hW : World.alloc (World.alloc (World.alloc (World.alloc (World.alloc w _) _) _) _) _ = V
  have W0 : BnW l w p2 p4 p5 p6 p7 a n cap (0, 1) (0, 1) V := by
    rw [← hW]
    refine ⟨(((((Below.refl _ _).alloc (Nat.le_refl _) _).alloc (by simp) _).alloc (by simp; omega) _).alloc (by simp; omega) _).alloc (by simp; omega) _, ?_, ?_, ?_, ?_, ?_⟩
    · rw [hp2]; exact ((((Blk.new w _ _).alloc _).alloc _).alloc _).alloc _
    · rw [hp4]; exact (((by simpa using Blk.new (World.alloc w _) _ _ : Blk _ (w.heap.size + 1) _ _).alloc _).alloc _).alloc _
    · rw [hp5]; exact ((by simpa using Blk.new (World.alloc (World.alloc w _) _) _ _ : Blk _ (w.heap.size + 1 + 1) _ _).alloc _).alloc _
    · rw [hp6]; exact (by simpa using Blk.new (World.alloc (World.alloc (World.alloc w _) _) _) #[.int .i64 0, .int .i64 1] 60 : Blk _ (w.heap.size + 1 + 1 + 1) _ _).alloc _
    · rw [hp7]; simpa using Blk.new (World.alloc (World.alloc (World.alloc (World.alloc w _) _) _) _) #[.int .i64 0, .int .i64 1] 60
  clear hW hp2 hp4 hp5 hp6 hp7
  go_loopw [8] (fun iv wr => ∃ (i : Nat) (L H : Nat × Nat), i ≤ m ∧ iv = .int .i64 (i : Int) ∧ BnI l.ps cs i (i + 1) L H ∧ BnW l w p2 p4 p5 p6 p7 a n cap L H wr) (fun iv _ => m - (intOf iv).toNat)
  case atStart => exact ⟨0, (0, 1), (0, 1), Nat.zero_le _, rfl, HST.out, W0⟩
  case round =>
    clear W0
    obtain ⟨i, L, H, hi, rfl, BI, BW⟩ := hrel
    by_cases him : i < m
    · obtain ⟨wo, rfl⟩ : ∃ wo : World, wo = wr := ⟨_, rfl⟩
      go_wp2_with fail
      go_loopw [9] (fun kv wr => ∃ (k : Nat) (L H : Nat × Nat), i < k ∧ k ≤ m + 1 ∧ kv = .int .i64 (k : Int) ∧ BnI l.ps cs i k L H ∧ BnW l w p2 p4 p5 p6 p7 a n cap L H wr) (fun kv _ => m + 1 - (intOf kv).toNat)
      case atStart => exact ⟨i + 1, L, H, by omega, by omega, by go_num, BI, BW⟩
      case round =>
        clear BI BW
        obtain ⟨k, L, H, hik, hk, rfl, BI, BW⟩ := hrel
        by_cases hkm : k ≤ m
        · have hB1 := BI.step hik (by rw [← HM.out]; exact hkm)
          have hkc : k ≤ cs.length := by rw [← HM.out]; exact hkm
          have HBI := hide hB1
          have hLv := BI.l
          have hHv := BI.h
          have s1 := HSM.out (i, k) hik hkc
          have s2 := HSM.out L hLv.1 hLv.2
          have s3 := HSM.out H hHv.1 hHv.2
          have HKC := hide hkc
          clear hB1 BI
          go_wp2_with fail
          have BW1 := BW.kept ((Below.refl _ _).alloc (Nat.le_refl _) (.cells #[.int .i64 (i : Int), .int .i64 (k : Int)] 60))
          have b10 := Blk.new wr #[.int .i64 (i : Int), .int .i64 (k : Int)] 60
          have hgt : p7 < wr.heap.size := BW.b7.lt
          clear BW
          generalize World.alloc wr _ = V1 at *
          generalize wr.heap.size = p10 at *
          have hr := hp.below BW1.be (Nat.le_refl _)
          have hrc := hc.below BW1.be (Nat.le_refl _)
          have hsz := BW1.be.size
          obtain ⟨g2, n24, n45, n56, n67⟩ := HP
          have u2 := BW1.b2.three
          have z2 := BW1.b2.lt
          have u6 := BW1.b6.two
          have z6 := BW1.b6.lt
          have u10 := b10.two
          have z10 := b10.lt
          have hX := @Ext.cell V1
          have HX1 := hide (fun X : Ext V1 => Ext.call (HBE.out L hLv.1 hLv.2 X.w ((hr.below (X.below.mono hsz) (Nat.le_refl _)).mono (Nat.le_trans hsz X.below.size)) ((hrc.below (X.below.mono hsz) (Nat.le_refl _)).mono (Nat.le_trans hsz X.below.size))))
          have HX2 := hide (fun X : Ext V1 => Ext.call (HBE.out (i, k) hik HKC.out X.w ((hr.below (X.below.mono hsz) (Nat.le_refl _)).mono (Nat.le_trans hsz X.below.size)) ((hrc.below (X.below.mono hsz) (Nat.le_refl _)).mono (Nat.le_trans hsz X.below.size))))
          have HX3 := hide (fun X : Ext V1 => Ext.call (refless_low l.ps cs L (i, k) X.w s2.1 s2.2.1 s2.2.2.1 s1.1 s1.2.1 s1.2.2.1))
          refine wp_region_all (Ext.w (W := V1)) (by kernel_rfl) (by kernel_rfl) (Ext.start V1) ?_
          repeat (first | go_big_quiet_skip | quiet_step (first | (go_at_call 79; with_reducible exact HX1.out _) | (go_at_call 79; with_reducible exact HX2.out _) | (go_at_call 51; with_reducible exact HX3.out _)))
          refine wpQuiet_nil ?_
          intro X
          have BW2 := BW1.kept X.below
          have b11 := b10.kept X.below
          clear hX HX1 HX2 HX3 u2 z2 u6 z6 u10 z10 BW1 b10 hr hrc hsz
          generalize X.w = V2 at *
          clear X
          have HP2 : BnP w p2 p4 p5 p6 p7 := ⟨g2, n24, n45, n56, n67⟩
          obtain ⟨L3, hL3⟩ : ∃ L3, L3 = if lowBetter l.ps cs (i, k) L then (i, k) else L := ⟨_, rfl⟩
          obtain ⟨H3, hH3⟩ : ∃ H3, H3 = if highBetter l.ps cs (i, k) H then (i, k) else H := ⟨_, rfl⟩
          have HBJ : Hid (BnI l.ps cs i (k + 1) L3 H3) := hide (by rw [hL3, hH3]; exact HBI.out)
          have HH3 := hide hH3
          clear HBI hH3
          cases hlb : lowBetter l.ps cs (i, k) L
          case' true =>
            rw [hlb] at hL3
            have hL4 : L3 = (i, k) := hL3
            clear hL3 hlb
            have u10 := b11.two
            have z10 := b11.lt
            have u6 := BW2.b6.two
            have z6 := BW2.b6.lt
            go_wp2_with fail
            have BW3 := BW2.low HP2 (i, k)
            have b12 := b11.other2 (k := p6) (by omega) (.int .i64 (i : Int)) (.int .i64 (k : Int))
            dsimp only at BW3
            generalize hV : World.setCell (World.setCell V2 _ _) _ _ = V3 at *
            rw [← hL4] at BW3
            clear hV hL4 u10 z10 u6 z6 BW2 b11
          case' false =>
            rw [hlb] at hL3
            have hL4 : L3 = L := hL3
            clear hL3 hlb
            rw [← hL4] at BW2
            clear hL4
            have BW3 := BW2
            have b12 := b11
            generalize hV : V2 = V3 at *
            clear hV BW2 b11
            go_wp2_with fail
          all_goals
            have hr := hp.below BW3.be (Nat.le_refl _)
            have hrc := hc.below BW3.be (Nat.le_refl _)
            have hsz := BW3.be.size
            have u2 := BW3.b2.three
            have z2 := BW3.b2.lt
            have u7 := BW3.b7.two
            have z7 := BW3.b7.lt
            have u10 := b12.two
            have z10 := b12.lt
            have hX := @Ext.cell V3
            have HX1 := hide (fun X : Ext V3 => Ext.call (HAB.out H hHv.1 hHv.2 X.w ((hr.below (X.below.mono hsz) (Nat.le_refl _)).mono (Nat.le_trans hsz X.below.size)) ((hrc.below (X.below.mono hsz) (Nat.le_refl _)).mono (Nat.le_trans hsz X.below.size))))
            have HX2 := hide (fun X : Ext V3 => Ext.call (HAB.out (i, k) hik HKC.out X.w ((hr.below (X.below.mono hsz) (Nat.le_refl _)).mono (Nat.le_trans hsz X.below.size)) ((hrc.below (X.below.mono hsz) (Nat.le_refl _)).mono (Nat.le_trans hsz X.below.size))))
            have HX3 := hide (fun X : Ext V3 => Ext.call (refless_high l.ps cs H (i, k) X.w s3.2.2.2.1 (by have := s3.2.1; omega) (by have := s3.2.2; omega) s1.2.2.2.1 (by have := s1.2.1; omega) (by have := s1.2.2; omega)))
            clear s1 s2 s3
            refine wp_region_all (Ext.w (W := V3)) (by kernel_rfl) (by kernel_rfl) (Ext.start V3) ?_
            repeat (first | go_big_quiet_skip | quiet_step (first | (go_at_call 80; with_reducible exact HX1.out _) | (go_at_call 80; with_reducible exact HX2.out _) | (go_at_call 51; with_reducible exact HX3.out _)))
            refine wpQuiet_nil ?_
            intro X
            have BW4 := BW3.kept X.below
            have b13 := b12.kept X.below
            clear hX HX1 HX2 HX3 u2 z2 u7 z7 u10 z10 BW3 b12 hr hrc hsz
            generalize X.w = V4 at *
            clear X
            have hH4 := HH3.out
            clear HH3
            cases hlb : highBetter l.ps cs (i, k) H
            case' true =>
              rw [hlb] at hH4
              have hH5 : H3 = (i, k) := hH4
              clear hH4 hlb
              have u10 := b13.two
              have z10 := b13.lt
              have u7 := BW4.b7.two
              have z7 := BW4.b7.lt
              go_wp2_with fail
              have BW5 := BW4.high HP2 (i, k)
              dsimp only at BW5
              rw [← hH5] at BW5
              exact ⟨⟨k + 1, L3, H3, by omega, by omega, by go_num, HBJ.out, BW5⟩, by simp [intOf]; omega⟩
            case' false =>
              rw [hlb] at hH4
              have hH5 : H3 = H := hH4
              clear hH4 hlb
              rw [← hH5] at BW4
              go_wp2_with fail
              exact ⟨⟨k + 1, L3, H3, by omega, by omega, by go_num, HBJ.out, BW4⟩, by simp [intOf]; omega⟩
        · obtain rfl : k = m + 1 := by omega
          have HB := hide (BnI.next (by rw [← HM.out]; exact BI) (by rw [← HM.out]; omega) : BnI l.ps cs (i + 1) (i + 2) L H)
          clear BI
          go_wp2_with fail
          exact ⟨⟨i + 1, L, H, by omega, by go_num, HB.out, BW⟩, by simp [intOf]; omega⟩
    · have him' : i = m := by omega
      have hLH : L = lowOf l.ps cs ∧ H = highOf l.ps cs := BnI.end_ (i := 0) (by rw [← HM.out]; exact hm1) (by rw [← HM.out, ← him']; exact BI)
      have him2 : ((i : Int) < (m : Int)) = False := by simp; omega
      obtain ⟨e1, e2⟩ := hLH
      have E1 := hide e1
      have E2 := hide e2
      clear e1 e2 BI HST HSM HBE HAB hp hc HM
      obtain ⟨g2, n24, n45, n56, n67⟩ := HP
      obtain ⟨be, b2, b4, b5, b6, b7⟩ := BW
      have u4 := b4.two
      have z4 := b4.lt
      have u5 := b5.two
      have z5 := b5.lt
      have u6 := b6.two
      have z6 := b6.lt
      have u7 := b7.two
      have z7 := b7.lt
      go_wp2_with fail
      have x45 : ¬ p4 = p5 := by omega
      have x54 : ¬ p5 = p4 := by omega
      have q4 := (b4.set2 (.int .i64 (L.1 : Int)) (.int .i64 (L.2 : Int))).other2 (k := p5) (by omega) (.int .i64 (H.1 : Int)) (.int .i64 (H.2 : Int))
      have q5 := (b5.other2 (k := p4) (by omega) (.int .i64 (L.1 : Int)) (.int .i64 (L.2 : Int))).set2 (.int .i64 (H.1 : Int)) (.int .i64 (H.2 : Int))
      have r5 := (b5.set2 (.int .i64 (H.1 : Int)) (.int .i64 (H.2 : Int))).other2 (k := p4) (by omega) (.int .i64 (L.1 : Int)) (.int .i64 (L.2 : Int))
      have r4 := (b4.other2 (k := p5) (by omega) (.int .i64 (H.1 : Int)) (.int .i64 (H.2 : Int))).set2 (.int .i64 (L.1 : Int)) (.int .i64 (L.2 : Int))
      have hB1 := below_set2 (below_set2 be (k := p4) (by omega) (.int .i64 (L.1 : Int)) (.int .i64 (L.2 : Int))) (k := p5) (by omega) (.int .i64 (H.1 : Int)) (.int .i64 (H.2 : Int))
      have hB2 := below_set2 (below_set2 be (k := p5) (by omega) (.int .i64 (H.1 : Int)) (.int .i64 (H.2 : Int))) (k := p4) (by omega) (.int .i64 (L.1 : Int)) (.int .i64 (L.2 : Int))
      have Q4 := hide q4
      have Q5 := hide q5
      have R4 := hide r4
      have R5 := hide r5
      clear q4 q5 r4 r5
      go_region
      have F4 := Q4.out.drew
      have F5 := Q5.out.drew
      clear Q4 Q5 R4 R5 u4 z4 u5 z5 u6 z6 u7 z7 hB2 b2 b4 b5 b6 b7 be
      have hBd := hB1.drew
      clear hB1
      generalize World.drew (World.setCell (World.setCell (World.setCell (World.setCell _ _ _) _ _) _ _) _ _) = U at *
      have u4 := F4.two
      have u5 := F5.two
      go_wp2
      refine bodyPost_ret (v := .tuple #[.agg #[.int .i64 (L.1 : Int), .int .i64 (L.2 : Int)], .agg #[.int .i64 (H.1 : Int), .int .i64 (H.2 : Int)]])
        (by simp [results, Try.results78, go_sem, u4, u5]) rfl ⟨by rw [← E1.out, ← E2.out], hBd⟩

end Go.Proofs.Ytjgebepeghgmcaa
