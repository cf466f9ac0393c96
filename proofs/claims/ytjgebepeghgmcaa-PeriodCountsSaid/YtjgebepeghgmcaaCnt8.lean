/-
  The chapter's reference: Counts and Total.
-/
import Derived.Test.YtjgebepeghgmcaaCnt7
import Derived.Test.YtjgebepeghgmcaaPer19
import Derived.Test.YtjgebepeghgmcaaTried
namespace Go.Proofs.Ytjgebepeghgmcaa
open Go.RowKit Go.Shelf
set_option linter.unusedVariables false
set_option linter.unusedSimpArgs false

theorem refall_all : ∀ k, AllSpec k
  | 0 => fun l cs a ca n cap m ccap w hl hcs hp hlen hn hm hmc hm0 hr hc =>
    (refall_leaf l cs a ca n cap m ccap w hm hmc (by omega) (by have := hl.len2; omega) (by have := hl.len8; omega) hc).mono fun e w' ⟨v, he, h1, h2⟩ => ⟨v, [cs], he, AllOk.leaf l cs, h1, h2⟩
  | k + 1 => refall_step k (refall_all k)

theorem Rows3.two {B : Nat} {w : World} {v : Value} {xs : List (List Int)} (h : Rows3 B w v xs) : Rows2 w v xs := by
  obtain ⟨ps, h1, h2, h3⟩ := h
  exact ⟨ps, h1, h2, fun p hp => ⟨(h3 p hp).1, (h3 p hp).2.2.2⟩⟩

set_option maxRecDepth 100000 in
set_option maxHeartbeats 2000000 in
theorem refcounts_any (l : PLog) (a : Option Addr) (n cap : Nat) (w : World) (hn : n = l.ps.length) (hn1 : n ≤ 1000000000) (hp : Row w w.heap.size a (spans l.ps)) :
    Calls Try.prog 16 #[.agg #[.int .i64 l.lo, .int .i64 l.hi, .slice a n cap]] w fun e w' =>
      ∃ v, e = .returned (.tuple #[v, .int .i64 (countsR l).2]) ∧ Rows2 w' v (countsR l).1 ∧ Below w.heap.size w w' := by
  have HCK := hide (fun (W : World) (hp : Row W W.heap.size a (spans l.ps)) => refcheck_any l a n cap W hn (by omega) hp)
  have HN := hide hn
  clear hn
  go_enter Try.func16, Try.ntmps16
  go_wp2_with fail
  generalize hW : World.alloc w _ = V
  have hB : Below w.heap.size w V := by rw [← hW]; exact (Below.refl _ _).alloc (Nat.le_refl _) _
  have b0 : Blk V w.heap.size #[.int .i64 l.lo, .int .i64 l.hi, .slice a n cap] 28 := by rw [← hW]; exact Blk.new w _ _
  have hsV := hB.size
  have hpV := (hp.below hB (Nat.le_refl _)).mono hsV
  clear hW hp
  refine (HCK.out V hpV).mono ?_
  rintro e W1 ⟨rfl, hb1⟩
  have c0 := b0.kept hb1
  have hB1 := hB.trans (hb1.mono hsV)
  have hp1 := (hpV.below hb1 (Nat.le_refl _)).mono hb1.size
  clear b0 hB hb1 hsV hpV
  by_cases hck : checkL l = 0
  · have hl := lok_of_check hck
    have h0 : (checkL l != 0) = false := by simpa using hck
    have HCKL := hide hck
    clear hck
    generalize checkL l = E at h0
    obtain ⟨u0, u1, u2, _⟩ := c0.three
    have y1 := c0.lt
    have HRA := hide (fun (W : World) (hp : Row W W.heap.size a (spans l.ps)) => refall_all (l.ps.length - 1) l [] a none n cap 0 0 W hl ⟨by have := hl.len2; simp; omega, fun _ h => by cases h⟩ (possible_nil hl) (by have := hl.len2; simp; omega) HN.out rfl (Nat.le_refl _) (fun _ => rfl) hp (.inl rfl))
    have HL := hide hl
    clear hl
    go_wp2_with fail
    refine (HRA.out W1 hp1).mono ?_
    rintro e W2 ⟨v, xs, rfl, hall, hrows, hb2⟩
    have hrows2 := hrows.two
    have hB2 := hB1.trans (hb2.mono hB1.size)
    obtain ⟨ps, q1, ⟨va, vcap, rfl, q2, q3⟩, q4⟩ := hrows
    have hxl : xs.length ≤ 100000 := by have := hall.len; have := HL.out.len8; omega
    clear q1 q3 q4 u0 u1 u2 y1 hb2
    by_cases h5 : 500 < xs.length
    · have HR : Hid (countsR l = ([], 16)) := hide (by
        have h6 : 500 < (allC l).length := by rcases hall.val with h | h; exact (by unfold allC; rw [← h]; exact h5); exact h.2
        unfold countsR; rw [if_neg (by simpa using HCKL.out), if_pos h6])
      have h5' : decide ((500 : Int) < (xs.length : Int)) = true := decide_eq_true (by omega)
      clear h5 hall
      go_wp2_with fail
      refine bodyPost_ret (v := .tuple #[.slice none 0 0, .int .i64 16]) (by simp [results, Try.results16, go_sem]) rfl ⟨.slice none 0 0, by rw [HR.out], by rw [HR.out]; exact Rows2.nil _, hB2⟩
    · have hx : xs = allC l := by
        rcases hall.val with h | h
        · exact h
        · exact absurd h.1 h5
      have HR : Hid (countsR l = (xs, 0)) := hide (by unfold countsR; rw [if_neg (by simpa using HCKL.out), if_neg (by rw [← hx]; exact h5), hx])
      have h5' : decide ((500 : Int) < (xs.length : Int)) = false := decide_eq_false (by omega)
      clear h5 hall hx
      go_wp2_with fail
      refine bodyPost_ret (v := .tuple #[.slice va xs.length vcap, .int .i64 0]) (by simp [results, Try.results16, go_sem]) rfl ⟨_, by rw [HR.out], by rw [HR.out]; exact hrows2, hB2⟩
  · have HR : Hid (countsR l = ([], checkL l)) := hide (by unfold countsR; rw [if_pos hck])
    have H2 : (checkL l != 0) = true := by rw [bne_iff_ne]; exact hck
    clear hck
    go_wp2_with fail
    refine bodyPost_ret (v := .tuple #[.slice none 0 0, .int .i64 (checkL l)]) (by simp [results, Try.results16, go_sem]) rfl ⟨.slice none 0 0, by rw [HR.out], by rw [HR.out]; exact Rows2.nil _, hB1⟩

/-! ### the smallest and the greatest of numbers -/
def lowS (xs : List Int) : Int := xs.tail.foldl min (xs.headD 0)
def hiS (xs : List Int) : Int := xs.tail.foldl max (xs.headD 0)
theorem lowS_snoc (xs : List Int) (x : Int) : lowS (xs ++ [x]) = if xs.length = 0 then x else min (lowS xs) x := by
  cases xs with
  | nil => rfl
  | cons y r => simp [lowS]
theorem hiS_snoc (xs : List Int) (x : Int) : hiS (xs ++ [x]) = if xs.length = 0 then x else max (hiS xs) x := by
  cases xs with
  | nil => rfl
  | cons y r => simp [hiS]
theorem foldl_min_is : ∀ (r : List Int) (y : Int), (r.foldl min y = y ∨ r.foldl min y ∈ r) ∧ r.foldl min y ≤ y ∧ ∀ x ∈ r, r.foldl min y ≤ x
  | [], y => ⟨.inl rfl, Int.le_refl _, fun _ h => by cases h⟩
  | x :: r, y => by
    obtain ⟨h1, h2, h3⟩ := foldl_min_is r (min y x)
    rw [List.foldl_cons]
    refine ⟨?_, by omega, fun z hz => ?_⟩
    · rcases h1 with h1 | h1
      · rw [h1]
        rcases Int.le_total y x with h | h
        · left; omega
        · right; rw [Int.min_eq_right h]; simp
      · exact .inr (by simp [h1])
    · rcases List.mem_cons.1 hz with rfl | hz
      · omega
      · exact h3 z hz
theorem foldl_max_is : ∀ (r : List Int) (y : Int), (r.foldl max y = y ∨ r.foldl max y ∈ r) ∧ y ≤ r.foldl max y ∧ ∀ x ∈ r, x ≤ r.foldl max y
  | [], y => ⟨.inl rfl, Int.le_refl _, fun _ h => by cases h⟩
  | x :: r, y => by
    obtain ⟨h1, h2, h3⟩ := foldl_max_is r (max y x)
    rw [List.foldl_cons]
    refine ⟨?_, by omega, fun z hz => ?_⟩
    · rcases h1 with h1 | h1
      · rw [h1]
        rcases Int.le_total x y with h | h
        · left; omega
        · right; rw [Int.max_eq_right h]; simp
      · exact .inr (by simp [h1])
    · rcases List.mem_cons.1 hz with rfl | hz
      · omega
      · exact h3 z hz
theorem lowS_is {xs : List Int} (h : xs ≠ []) : lowS xs ∈ xs ∧ ∀ x ∈ xs, lowS xs ≤ x := by
  cases xs with
  | nil => exact absurd rfl h
  | cons y r =>
    obtain ⟨h1, h2, h3⟩ := foldl_min_is r y
    unfold lowS
    refine ⟨?_, fun x hx => ?_⟩
    · simp only [List.tail_cons, List.headD_cons, List.mem_cons]; exact h1
    · rcases List.mem_cons.1 hx with rfl | hx
      · exact h2
      · exact h3 x hx
theorem hiS_is {xs : List Int} (h : xs ≠ []) : hiS xs ∈ xs ∧ ∀ x ∈ xs, x ≤ hiS xs := by
  cases xs with
  | nil => exact absurd rfl h
  | cons y r =>
    obtain ⟨h1, h2, h3⟩ := foldl_max_is r y
    unfold hiS
    refine ⟨?_, fun x hx => ?_⟩
    · simp only [List.tail_cons, List.headD_cons, List.mem_cons]; exact h1
    · rcases List.mem_cons.1 hx with rfl | hx
      · exact h2
      · exact h3 x hx
theorem lowS_least {cs : List (List Int)} (h : cs ≠ []) : lowS (cs.map sumW) = sumW (leastC cs) := by
  obtain ⟨h1, h2⟩ := lowS_is (xs := cs.map sumW) (by simpa using h)
  obtain ⟨l1, l2⟩ := least_is h
  obtain ⟨c, hc, e⟩ := List.mem_map.1 h1
  have a := h2 _ (List.mem_map_of_mem (f := sumW) l1)
  have b := l2 c hc
  omega
theorem hiS_most {cs : List (List Int)} (h : cs ≠ []) : hiS (cs.map sumW) = sumW (mostC cs) := by
  obtain ⟨h1, h2⟩ := hiS_is (xs := cs.map sumW) (by simpa using h)
  obtain ⟨l1, l2⟩ := most_is h
  obtain ⟨c, hc, e⟩ := List.mem_map.1 h1
  have a := h2 _ (List.mem_map_of_mem (f := sumW) l1)
  have b := l2 c hc
  omega

theorem map_take_snoc {cs : List (List Int)} {k : Nat} (h : k < cs.length) : (cs.map sumW).take (k + 1) = (cs.map sumW).take k ++ [sumW (cs.getD k [])] := by
  rw [List.take_succ_eq_append_getElem (by simpa using h)]
  simp [List.getD, h]

theorem minW (a s : Int) : min a s = if s < a then s else a := by split <;> omega
theorem maxW (a s : Int) : max a s = if a < s then s else a := by split <;> omega

structure TotW (w W1 : World) (p6 : Nat) (s t : Int) (W : World) : Prop where
  be : Below w.heap.size w W
  b1 : Below p6 W1 W
  b2 : Blk W (w.heap.size + 1) #[.int .i64 0, .int .i64 0] 23
  b6 : Blk W p6 #[.int .i64 s, .int .i64 t] 23
theorem TotW.set {w W1 : World} {p6 : Nat} {s t : Int} {W : World} (h : TotW w W1 p6 s t W) (h6 : w.heap.size + 1 < p6) (s' t' : Int) : TotW w W1 p6 s' t' ((W.setCell ⟨p6, 0, none⟩ (.int .i64 s')).setCell ⟨p6, 1, none⟩ (.int .i64 t')) :=
  ⟨below_set2 h.be (by omega) _ _, below_set2 h.b1 (Nat.le_refl _) _ _, h.b2.other2 (by omega) _ _, h.b6.set2 _ _⟩

set_option maxRecDepth 100000 in
set_option maxHeartbeats 4000000 in
theorem reftotal_any (l : PLog) (a : Option Addr) (n cap : Nat) (w : World) (hn : n = l.ps.length) (hn1 : n ≤ 1000000000) (hp : Row w w.heap.size a (spans l.ps)) :
    Calls Try.prog 18 #[.agg #[.int .i64 l.lo, .int .i64 l.hi, .slice a n cap]] w fun e w' =>
      e = .returned (.tuple #[.agg #[.int .i64 (totalR l).1.1, .int .i64 (totalR l).1.2], .int .i64 (totalR l).2]) ∧ Below w.heap.size w w' := by
  have HCT := hide (fun (W : World) (hp : Row W W.heap.size a (spans l.ps)) => refcounts_any l a n cap W hn hn1 hp)
  clear hn hn1
  go_enter Try.func18, Try.ntmps18
  go_wp2_with fail
  generalize hW : World.alloc (World.alloc w _) _ = V
  have hB : Below w.heap.size w V := by rw [← hW]; exact ((Below.refl _ _).alloc (Nat.le_refl _) _).alloc (by simp) _
  have b1 : Blk V (w.heap.size + 1) #[.int .i64 0, .int .i64 0] 23 := by rw [← hW]; exact (by simpa using Blk.new (World.alloc w _) _ _)
  have hsV := hB.size
  have hpV := hp.below hB (Nat.le_refl _)
  clear hW hp
  refine (HCT.out V (hpV.mono hsV)).mono ?_
  rintro e W1 ⟨v, rfl, hrows, hb1⟩
  have c1 := b1.kept hb1
  have hB1 := hB.trans (hb1.mono hsV)
  have hs1 := hB1.size
  have hro := hrows
  obtain ⟨ps, hps, ⟨va, vcap, rfl, hvc, hvr⟩, hpr⟩ := hrows
  clear b1 hB hb1 hsV hpV hps hvr hpr
  obtain ⟨u0, u1, f0, f1⟩ := c1.two
  have y1 := c1.lt
  by_cases hck : (countsR l).2 = 0
  · by_cases hlen : (countsR l).1.length = 0
    · have HR : Hid (totalR l = ((0, 0), 13)) := hide (by unfold totalR; rw [if_neg (by simpa using hck), if_pos hlen])
      have h0 : ((countsR l).2 != 0) = false := by simpa using hck
      have h1 : (((countsR l).1.length : Int) == 0) = true := by simpa using hlen
      clear hck hlen
      go_wp2_with fail
      have q2 := c1.set2 (.int .i64 0) (.int .i64 0)
      have hBf := below_set2 hB1 (k := w.heap.size + 1) (by omega) (.int .i64 0) (.int .i64 0)
      refine bodyPost_ret (v := .tuple #[.agg #[.int .i64 0, .int .i64 0], .int .i64 13]) (by simp [results, Try.results18, go_sem, q2.two]) rfl ⟨by rw [HR.out], hBf⟩
    · have hne : (countsR l).1 ≠ [] := fun e => hlen (by rw [e]; rfl)
      have HR : Hid (totalR l = ((lowS ((countsR l).1.map sumW), hiS ((countsR l).1.map sumW)), 0)) := hide (by unfold totalR; rw [if_neg (by simpa using hck), if_neg hlen, lowS_least hne, hiS_most hne])
      have h0 : ((countsR l).2 != 0) = false := by simpa using hck
      have h1 : (((countsR l).1.length : Int) == 0) = false := by rw [beq_eq_false_iff_ne]; omega
      have hcn := countsR_count l
      have HLN := hide (fun x (hx : x ∈ (countsR l).1) => countsR_len hx)
      clear hck hlen hne
      generalize (countsR l).2 = E at *
      generalize (countsR l).1 = xs at *
      generalize hN : xs.length = N at *
      have HN := hide hN.symm
      clear hN
      obtain ⟨p6, hp6⟩ : ∃ p, p = W1.heap.size := ⟨_, rfl⟩
      have x6 : w.heap.size + 1 < p6 := by rw [hp6]; exact y1
      go_wp2_with fail
      have T0 : TotW w W1 p6 0 0 (W1.alloc (.cells #[.int .i64 0, .int .i64 0] 23)) :=
        ⟨hB1.alloc hs1 _, by rw [hp6]; exact (Below.refl _ _).alloc (Nat.le_refl _) _, c1.alloc _, by rw [hp6]; exact Blk.new _ _ _⟩
      have HRO := hide (fun (W : World) (h : Below p6 W1 W) => hro.below (hp6 ▸ h))
      rw [← hp6]
      clear hro hp6 hB1 c1 u0 u1 f0 f1 y1 hs1
      go_loopw [7] (fun i wr => ∃ k : Nat, k ≤ N ∧ i = .int .i64 (k : Int) ∧ TotW w W1 p6 (lowS ((xs.map sumW).take k)) (hiS ((xs.map sumW).take k)) wr) (fun i _ => N - (intOf i).toNat)
      case atStart => exact ⟨0, Nat.zero_le _, rfl, T0⟩
      case round =>
        clear T0
        obtain ⟨k, hk, rfl, T⟩ := hrel
        by_cases hlt : k < N
        · have hkx : k < xs.length := by rw [← HN.out]; exact hlt
          obtain ⟨b1, o1, g1, d1, rfl, cell1, le1, r1⟩ := (HRO.out _ T.b1).at_ (c := xs.getD k []) (by rw [List.getD_eq_getElem?_getD, List.getElem?_eq_getElem hkx]; rfl)
          have hl8 : (xs.getD k []).length ≤ 8 := HLN.out _ (by rw [List.getD_eq_getElem?_getD, List.getElem?_eq_getElem hkx]; exact List.getElem_mem hkx)
          have HSN := hide (map_take_snoc hkx)
          have HK0 : Hid (((xs.map sumW).take k).length = k) := hide (by simp; omega)
          clear hkx
          generalize xs.getD k [] = x at *
          obtain ⟨m, hm⟩ : ∃ m, m = x.length := ⟨_, rfl⟩
          rw [← hm] at cell1 le1 hl8
          have HM := hide hm
          clear hm
          go_wp2_with fail
          go_loop [8, 9] (fun s j => ∃ q : Nat, q ≤ m ∧ j = .int .i64 (q : Int) ∧ s = .int .i64 (sumW (x.take q))) (fun _ j => m - (intOf j).toNat)
          case atStart => exact ⟨0, Nat.zero_le _, rfl, rfl⟩
          case round =>
            obtain ⟨q, hq, rfl, rfl⟩ := hrel
            by_cases hqm : q < m
            · have hqx : q < x.length := by rw [← HM.out]; exact hqm
              obtain ⟨b9, o9, h9, hlt9, hcells⟩ := r1.int (by omega)
              have hcell := hcells q hqx
              cases h9
              simp only [Nat.zero_add] at hcell
              have HS := hide (take_snoc x q hqx)
              clear hcells hqx
              go_wp2_with fail
              go_round
              case rel => exact ⟨q + 1, by omega, by go_num, by rw [HS.out, sumW_snoc]⟩
              case measure => simp [intOf]; omega
            · have HF : Hid (sumW (x.take q) = sumW x) := hide (by rw [List.take_of_length_le (by rw [← HM.out]; omega)])
              rw [HF.out]
              obtain ⟨v0, v1, g0, g2⟩ := T.b6.two
              have z6 := T.b6.lt
              have HLS := hide (lowS_snoc ((xs.map sumW).take k) (sumW x))
              have HHS := hide (hiS_snoc ((xs.map sumW).take k) (sumW x))
              clear HF
              generalize sumW x = S at *
              generalize lowS ((xs.map sumW).take k) = A at *
              generalize hiS ((xs.map sumW).take k) = B at *
              by_cases hk0 : k = 0
              · subst hk0
                rw [Nat.add_zero] at cell1
                rw [show ((0 : Nat) : Int) = 0 from rfl]
                go_wp2_with fail
                refine ⟨⟨1, by omega, rfl, ?_⟩, by simp [intOf]; omega⟩
                rw [HSN.out, HLS.out, HHS.out, if_pos HK0.out, if_pos HK0.out]
                exact (T.set x6 S S).set x6 S S
              · have ht : ((k : Int) == 0) = false := by rw [beq_eq_false_iff_ne]; omega
                go_wp2_with fail
                refine ⟨⟨k + 1, by omega, by go_num, ?_⟩, by simp [intOf]; omega⟩
                rw [HSN.out, HLS.out, HHS.out, if_neg (by rw [HK0.out]; exact hk0), if_neg (by rw [HK0.out]; exact hk0), minW, maxW]
                exact T.set x6 _ _
        · have HF : Hid ((xs.map sumW).take k = xs.map sumW) := hide (List.take_of_length_le (by rw [List.length_map, ← HN.out]; omega))
          rw [HF.out] at T
          obtain ⟨v0, v1, g0, g2⟩ := T.b6.two
          obtain ⟨u0, u1, f0, f1⟩ := T.b2.two
          have z6 := T.b6.lt
          have z2 := T.b2.lt
          clear HF
          generalize lowS (xs.map sumW) = A at *
          generalize hiS (xs.map sumW) = B at *
          go_wp2_with fail
          have q2 := T.b2.set2 (.int .i64 A) (.int .i64 B)
          have hBf := below_set2 T.be (k := w.heap.size + 1) (by omega) (.int .i64 A) (.int .i64 B)
          refine bodyPost_ret (v := .tuple #[.agg #[.int .i64 A, .int .i64 B], .int .i64 0]) (by simp [results, Try.results18, go_sem, q2.two]) rfl ⟨by rw [HR.out], hBf⟩
  · have HR : Hid (totalR l = ((0, 0), (countsR l).2)) := hide (by unfold totalR; rw [if_pos hck])
    have h0 : ((countsR l).2 != 0) = true := by rw [bne_iff_ne]; exact hck
    clear hck
    go_wp2_with fail
    have q2 := c1.set2 (.int .i64 0) (.int .i64 0)
    have hBf := below_set2 hB1 (k := w.heap.size + 1) (by omega) (.int .i64 0) (.int .i64 0)
    refine bodyPost_ret (v := .tuple #[.agg #[.int .i64 0, .int .i64 0], .int .i64 (countsR l).2]) (by simp [results, Try.results18, go_sem, q2.two]) rfl ⟨by rw [HR.out], hBf⟩

end Go.Proofs.Ytjgebepeghgmcaa
