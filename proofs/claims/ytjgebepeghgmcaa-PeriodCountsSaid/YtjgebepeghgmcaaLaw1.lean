/-
  The law's own small functions: what each computes.
-/
import Derived.Test.YtjgebepeghgmcaaPer21
namespace Go.Proofs.Ytjgebepeghgmcaa
open Go.RowKit Go.Shelf
set_option linter.unusedVariables false
set_option linter.unusedSimpArgs false

theorem Blk.row {W : World} {k : Nat} {cs : Array Value} {t : TypeId} (h : Blk W k cs t) {vs : List Value} (hv : cs.toList = vs) : Row W W.heap.size (some ⟨k, 0, none⟩) vs := by
  subst hv
  exact (row_of_heap h (by rw [List.take_of_length_le (Nat.le_refl _)])).mono h.lt

theorem part_any (a b : Int) (w : World) :
    Calls Try.prog 33 #[.int .i64 a, .int .i64 b] w fun e w' => e = .returned (.agg #[.int .i64 a, .int .i64 b]) ∧ Below w.heap.size w w' := by
  go_enter Try.func33, Try.ntmps33
  go_wp2
  refine bodyPost_ret (v := .agg #[.int .i64 a, .int .i64 b]) (by simp [results, Try.results33, go_sem]) rfl ⟨rfl, ?_⟩
  exact (Below.refl _ _).alloc (Nat.le_refl _) _

/-- The chapter's log. -/
def gL : PLog := ⟨4, 6, [(0, 1), (20, 22), (51, 51)]⟩

theorem G_any (w : World) :
    Calls Try.prog 36 #[] w fun e w' => ∃ ad, e = .returned (.agg #[.int .i64 4, .int .i64 6, .slice (some ad) 3 3]) ∧ Row w' w'.heap.size (some ad) (spans gL.ps) ∧ Below w.heap.size w w' := by
  go_enter Try.func36, Try.ntmps36
  go_wp2
  have b1 : Blk ((w.alloc (.cells #[.int .i64 4, .int .i64 6, .slice (some ⟨w.heap.size + 1, 0, none⟩) 3 3] 26)).alloc (.cells #[.int .i64 0, .int .i64 1, .int .i64 20, .int .i64 22, .int .i64 51, .int .i64 51] 23)) (w.heap.size + 1) #[.int .i64 0, .int .i64 1, .int .i64 20, .int .i64 22, .int .i64 51, .int .i64 51] 23 := by simpa using Blk.new (World.alloc w (.cells #[.int .i64 4, .int .i64 6, .slice (some ⟨w.heap.size + 1, 0, none⟩) 3 3] 26)) #[.int .i64 0, .int .i64 1, .int .i64 20, .int .i64 22, .int .i64 51, .int .i64 51] 23
  refine bodyPost_ret (v := .agg #[.int .i64 4, .int .i64 6, .slice (some ⟨w.heap.size + 1, 0, none⟩) 3 3]) (by simp [results, Try.results36, go_sem]) rfl ⟨⟨w.heap.size + 1, 0, none⟩, rfl, b1.row rfl, ?_⟩
  exact ((Below.refl _ _).alloc (Nat.le_refl _) _).alloc (by simp) _

set_option maxRecDepth 100000 in
set_option maxHeartbeats 1000000 in
theorem numbers_any (xs ys : List Int) (a b : Option Addr) (n cap m cap' B B' : Nat) (w : World) (hn : n = xs.length) (hm : m = ys.length) (hl : n ≤ 1000000000) (hl' : m ≤ 1000000000) (h : Row w B a (ints xs)) (h' : Row w B' b (ints ys)) :
    Calls Try.prog 26 #[.slice a n cap, .slice b m cap'] w fun e w' => e = .returned (.bool (decide (xs = ys))) ∧ Below w.heap.size w w' := by
  by_cases hnm : n = m
  · subst hnm
    have HN := hide hn
    have HM := hide hm
    clear hn hm hl'
    go_enter Try.func26, Try.ntmps26
    go_wp2
    go_loopw [5] (fun i wr => ∃ k : Nat, k ≤ n ∧ i = .int .i64 k ∧ Hid (xs.take k = ys.take k) ∧ ∃ q, wr = w.drewN q) (fun i _ => n - (intOf i).toNat)
    case atStart => exact ⟨0, Nat.zero_le _, rfl, hide rfl, 0, rfl⟩
    case round =>
      obtain ⟨k, hk, rfl, hpre, q, rfl⟩ := hrel
      by_cases hlt : k < n
      · have hkx : k < xs.length := by rw [← HN.out]; exact hlt
        have hky : k < ys.length := by rw [← HM.out]; exact hlt
        obtain ⟨ba, oa, rfl, hba, hca⟩ := h.int (by omega)
        obtain ⟨bb, ob, rfl, hbb, hcb⟩ := h'.int (by omega)
        have ca := hca k hkx
        have cb := hcb k hky
        have TX := hide (take_snoc xs k hkx)
        have TY := hide (take_snoc ys k hky)
        clear hca hcb h h' hba hbb hkx hky
        by_cases he : iat xs k = iat ys k
        · have HE := hide he
          have ht : (iat xs k != iat ys k) = false := by simp [he]
          clear he
          go_wp2
          go_quiet (fail)
          go_wp2
          go_roundw
          case rel => exact ⟨k + 1, by omega, by go_num, hide (by rw [TX.out, TY.out, hpre.out, HE.out]), _, rfl⟩
          case measure => simp [intOf]; omega
        · have ht : (iat xs k != iat ys k) = true := by simp [he]
          have HR : Hid (decide (xs = ys) = false) := hide (by
            simp only [decide_eq_false_iff_not]
            intro e
            exact he (by rw [e]))
          clear he
          go_wp2
          go_quiet (fail)
          go_wp2
          go_ret
          exact ⟨by rw [HR.out]; rfl, below_drewN (below_drewN (Below.refl _ _) _) _⟩
      · have HR : Hid (decide (xs = ys) = true) := hide (by
          simp only [decide_eq_true_eq]
          have e := hpre.out
          rwa [List.take_of_length_le (by rw [← HN.out]; omega), List.take_of_length_le (by rw [← HM.out]; omega)] at e)
        go_wp2
        go_ret
        exact ⟨by rw [HR.out]; rfl, below_drewN (Below.refl _ _) _⟩
  · have HR : Hid (decide (xs = ys) = false) := hide (by
      simp only [decide_eq_false_iff_not]
      intro e
      exact hnm (by rw [hn, hm, e]))
    have ht : ((n : Int) != (m : Int)) = true := by simp; omega
    clear hn hm hnm
    go_enter Try.func26, Try.ntmps26
    go_wp2
    go_ret
    exact ⟨by rw [HR.out]; rfl, Below.refl _ _⟩

theorem Rows2.at {w : World} {v : Value} {xs : List (List Int)} (h : Rows2 w v xs) : ∃ (a : Option Addr) (cap : Nat), v = .slice a xs.length cap ∧ ∀ k, k < xs.length → ∃ b off g c, a = some ⟨b, off, none⟩ ∧ b < w.heap.size ∧
    w.cell? ⟨b, off + k, none⟩ = some (.slice (some ⟨g, 0, none⟩) (xs.getD k []).length c) ∧ Row w w.heap.size (some ⟨g, 0, none⟩) (ints (xs.getD k [])) := by
  obtain ⟨ps, rfl, ⟨a, cap, rfl, hc, hr⟩, hp⟩ := h
  refine ⟨a, cap, rfl, fun k hk => ?_⟩
  have hk' : k < ps.length := by simpa using hk
  rcases hr with hr | ⟨b, off, rfl, hlt, hr⟩
  · have : ps = [] := by simpa using hr
    subst this
    simp at hk'
  · have h1 := hr k (by simpa using hk')
    have h2 := hp ps[k] (List.getElem_mem hk')
    have e : (ps.map (·.2)).getD k [] = ps[k].2 := by simp [List.getD, hk']
    rw [e]
    refine ⟨b, off, ps[k].1.1, ps[k].1.2, rfl, hlt, ?_, h2.2⟩
    rw [h1]
    simp [List.getD, hk', slv]

theorem take_snocL {α : Type} (d : α) (xs : List α) (k : Nat) (h : k < xs.length) : xs.take (k + 1) = xs.take k ++ [xs.getD k d] := by
  rw [List.take_succ_eq_append_getElem h]
  simp [List.getD, h]

set_option maxRecDepth 100000 in
set_option maxHeartbeats 1000000 in
theorem lists_any (xs ys : List (List Int)) (v v' : Value) (w : World) (hl : xs.length ≤ 1000000000) (hl' : ys.length ≤ 1000000000) (hx : ∀ x ∈ xs, x.length ≤ 1000000000) (hy : ∀ x ∈ ys, x.length ≤ 1000000000) (h : Rows2 w v xs) (h' : Rows2 w v' ys) :
    Calls Try.prog 19 #[v, v'] w fun e w' => e = .returned (.bool (decide (xs = ys))) ∧ Below w.heap.size w w' := by
  by_cases hnm : xs.length = ys.length
  · have HIT := hide (fun (W : World) (hb : Below w.heap.size w W) => And.intro (h.below hb).at (h'.below hb).at)
    obtain ⟨a, cap, rfl, _⟩ := h.at
    obtain ⟨a', cap', rfl, _⟩ := h'.at
    rw [← hnm]
    have HM := hide hnm
    have HX := hide (fun k (hk : k < xs.length) => hx (xs.getD k []) (by rw [List.getD_eq_getElem?_getD, List.getElem?_eq_getElem hk]; exact List.getElem_mem hk))
    have HY := hide (fun k (hk : k < ys.length) => hy (ys.getD k []) (by rw [List.getD_eq_getElem?_getD, List.getElem?_eq_getElem hk]; exact List.getElem_mem hk))
    obtain ⟨n, hn⟩ : ∃ n, xs.length = n := ⟨_, rfl⟩
    rw [hn]
    rw [hn] at hl
    have HN := hide hn
    clear hnm hx hy h h' hn hl'
    go_enter Try.func19, Try.ntmps19
    go_wp2
    go_loopw [5] (fun i wr => ∃ k : Nat, k ≤ n ∧ i = .int .i64 k ∧ Hid (xs.take k = ys.take k) ∧ Below w.heap.size w wr) (fun i _ => n - (intOf i).toNat)
    case atStart => exact ⟨0, Nat.zero_le _, rfl, hide rfl, Below.refl _ _⟩
    case round =>
      obtain ⟨k, hk, rfl, hpre, hbe⟩ := hrel
      have hsw := hbe.size
      by_cases hlt : k < n
      · have hkx : k < xs.length := by rw [HN.out]; exact hlt
        have hky : k < ys.length := by rw [← HM.out]; exact hkx
        obtain ⟨hxa, hya⟩ := HIT.out _ hbe
        obtain ⟨a1, c1, e1, h1⟩ := hxa
        obtain ⟨a2, c2, e2, h2⟩ := hya
        injection e1 with e1 e1' e1''
        injection e2 with e2 e2' e2''
        subst e1 e1'' e2 e2''
        obtain ⟨b1, o1, g1, d1, rfl, l1, cell1, r1⟩ := h1 k hkx
        obtain ⟨b2, o2, g2, d2, rfl, l2, cell2, r2⟩ := h2 k hky
        have lx := HX.out k hkx
        have ly := HY.out k hky
        have TX := hide (take_snocL [] xs k hkx)
        have TY := hide (take_snocL [] ys k hky)
        clear e1' e2' hkx hky h1 h2 HX HY HIT
        generalize xs.getD k [] = x at *
        generalize ys.getD k [] = y at *
        have HC := hide (fun X : Ext wr => Ext.call (numbers_any x y (some ⟨g1, 0, none⟩) (some ⟨g2, 0, none⟩) x.length d1 y.length d2 _ _ X.w rfl rfl lx ly (r1.below X.below (Nat.le_refl _)) (r2.below X.below (Nat.le_refl _))))
        have hX := @Ext.cell wr
        generalize hd : decide (x = y) = dd at HC
        have HDD := hide hd
        clear r1 r2 lx ly hd
        go_wp2_with fail
        refine wp_region_all (Ext.w (W := wr)) (by kernel_rfl) (by kernel_rfl) (Ext.start wr) ?_
        repeat (quiet_step (first | (go_at_call 26; with_reducible exact HC.out _)))
        refine wpQuiet_nil ?_
        intro X
        have hBX := hbe.trans (X.below.mono hsw)
        cases dd with
        | true =>
          have HE : Hid (x = y) := hide (by simpa using HDD.out)
          go_wp2
          go_roundw
          case rel => exact ⟨k + 1, by omega, by go_num, hide (by rw [TX.out, TY.out, hpre.out, HE.out]), hBX⟩
          case measure => simp [intOf]; omega
        | false =>
          have he : ¬ x = y := by simpa using HDD.out
          have HR : Hid (decide (xs = ys) = false) := hide (by
            simp only [decide_eq_false_iff_not]
            intro e
            have t1 := TX.out
            rw [e, TY.out] at t1
            have := (List.append_inj' t1 rfl).2
            simp at this
            exact he this.symm)
          clear he
          go_wp2
          go_ret
          exact ⟨by rw [HR.out]; rfl, hBX⟩
      · have HR : Hid (decide (xs = ys) = true) := hide (by
          simp only [decide_eq_true_eq]
          have e := hpre.out
          rwa [List.take_of_length_le (by rw [HN.out]; omega), List.take_of_length_le (by rw [← HM.out, HN.out]; omega)] at e)
        go_wp2
        go_ret
        exact ⟨by rw [HR.out]; rfl, hbe⟩
  · have HR : Hid (decide (xs = ys) = false) := hide (by
      simp only [decide_eq_false_iff_not]
      intro e
      exact hnm (by rw [e]))
    obtain ⟨a, cap, rfl, _⟩ := h.at
    obtain ⟨a', cap', rfl, _⟩ := h'.at
    have ht : ((xs.length : Int) != (ys.length : Int)) = true := by simp; omega
    clear hnm h h'
    go_enter Try.func19, Try.ntmps19
    go_wp2
    go_ret
    exact ⟨by rw [HR.out]; rfl, Below.refl _ _⟩

end Go.Proofs.Ytjgebepeghgmcaa
