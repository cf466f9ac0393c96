/-
  PeriodFractions: the walk.
-/
import Derived.Test.YtjgebepeghgmcaaRef3
namespace Go.Proofs.Ytjgebepeghgmcaa
open Go.RowKit Go.Shelf
set_option linter.unusedVariables false
set_option linter.unusedSimpArgs false

theorem quoF_len : ∀ (k : Nat) (p q : Int), (quoF k p q).length ≤ k
  | 0, _, _ => by simp [quoF]
  | k + 1, p, q => by
    unfold quoF
    split
    · have := quoF_len k q (p % q)
      simp
      omega
    · simp
theorem lastLess_len (xs : List Int) : (lastLess xs).length ≤ xs.length + 1 := by
  unfold lastLess
  split <;> simp <;> omega
theorem pathR_len (r : Int × Int) : (pathR r).1.length ≤ 1000000000 := by
  unfold pathR
  split
  · simp
  · have := lastLess_len (quoF 1000001 (redR r).1 (redR r).2)
    have := quoF_len 1000001 (redR r).1 (redR r).2
    dsimp only
    omega

set_option maxRecDepth 100000 in
set_option maxHeartbeats 2000000 in
theorem frac_any (a b : Int × Int) (path : List Int) (pa : Option Addr) (n cap : Nat) (w : World) (hn : n = path.length) (hl : n ≤ 9223372036854775807) (hnc : n ≤ cap) (hnil : pa = none → path = []) (h : Row w w.heap.size pa (ints path)) :
    Calls Try.prog 4 #[.agg #[.int .i64 a.1, .int .i64 a.2], .agg #[.int .i64 b.1, .int .i64 b.2], .slice pa n cap] w fun e w' => e = .returned (.bool true) ∧ Below w.heap.size w w' := by
  have HS := hide (fun w => simplestF_any a b w)
  have HRS := hide (fun w => refsimplest_any a b w)
  have HP := hide (fun w => path_any a w)
  have HRP := hide (fun w => refpath_any a w)
  have hpl := pathR_len a
  obtain ⟨x, y⟩ := a
  obtain ⟨u, v⟩ := b
  dsimp only at *
  by_cases h60 : 60 < n
  · have ht : ((n : Int) > 60) := by omega
    clear hn hnil
    go_enter Try.func4, Try.ntmps4
    go_wp2_with fail
    refine (works_any _).mono ?_
    rintro e w' ⟨rfl, hb⟩
    go_wp2_with fail
    go_ret
    exact ⟨rfl, ((Below.refl _ _).alloc (Nat.le_refl _) _).alloc (by simp) _ |>.trans (hb.mono (by simp; omega))⟩
  · have HF := hide (fun w (h : Row w w.heap.size pa (ints path)) => follow_any path pa n cap w hn (by omega) hnc hnil h)
    have HRF := hide (fun w (h : Row w w.heap.size pa (ints path)) => reffollow_any path pa n cap w hn (by omega) h)
    generalize simplestR (x, y) (u, v) = rs at *
    generalize pathR (x, y) = rp at *
    generalize followR path = rf at *
    obtain ⟨⟨s1, s2⟩, s3⟩ := rs
    obtain ⟨p1, p2⟩ := rp
    obtain ⟨⟨f1, f2⟩, f3⟩ := rf
    dsimp only at *
    clear hn hnil hnc
    go_enter Try.func4, Try.ntmps4
    go_wp2_with fail
    generalize hW : World.alloc (World.alloc w _) _ = V
    have hB : Below w.heap.size w V := by rw [← hW]; exact ((Below.refl _ _).alloc (Nat.le_refl _) _).alloc (by simp) _
    have b0 : Blk V w.heap.size #[.int .i64 x, .int .i64 y] 41 := by rw [← hW]; exact (Blk.new w _ _).alloc _
    have b1 : Blk V (w.heap.size + 1) #[.int .i64 u, .int .i64 v] 41 := by rw [← hW]; exact (by simpa using Blk.new (World.alloc w _) _ _)
    have S : BSt w [(w.heap.size, #[.int .i64 x, .int .i64 y], 41), (w.heap.size + 1, #[.int .i64 u, .int .i64 v], 41)] V := ⟨hB, fun p hp => by
      rcases List.mem_cons.1 hp with rfl | hp
      · exact b0
      · obtain rfl := List.mem_singleton.1 hp
        exact b1⟩
    clear hW hB b0 b1
    refine (HS.out _).mono ?_
    rintro e W1 ⟨rfl, hb1⟩
    have S0 := S.kept hb1
    have S1 := S0.new #[.int .i64 s1, .int .i64 s2] 41
    have k0 := (S0.boxes _ (by simp : (w.heap.size, #[Value.int .i64 x, Value.int .i64 y], 41) ∈ _)).two
    have k1 := (S0.boxes _ (by simp : (w.heap.size + 1, #[Value.int .i64 u, Value.int .i64 v], 41) ∈ _)).two
    have l0 := (S0.boxes _ (by simp : (w.heap.size, #[Value.int .i64 x, Value.int .i64 y], 41) ∈ _)).lt
    have l1 := (S0.boxes _ (by simp : (w.heap.size + 1, #[Value.int .i64 u, Value.int .i64 v], 41) ∈ _)).lt
    clear S S0 hb1
    go_wp2_with fail
    clear k0 k1 l0 l1
    generalize World.alloc W1 _ = V1 at *
    generalize W1.heap.size = p7 at *
    refine (HRS.out _).mono ?_
    rintro e W2 ⟨rfl, hb2⟩
    have S0 := S1.kept hb2
    have S2 := S0.new #[.int .i64 s1, .int .i64 s2] 41
    have k0 := (S0.boxes _ (by simp : (w.heap.size, #[Value.int .i64 x, Value.int .i64 y], 41) ∈ _)).two
    have l0 := (S0.boxes _ (by simp : (w.heap.size, #[Value.int .i64 x, Value.int .i64 y], 41) ∈ _)).lt
    clear S1 S0 hb2
    go_wp2_with fail
    clear k0 l0
    generalize World.alloc W2 _ = V2 at *
    generalize W2.heap.size = p9 at *
    refine (HP.out _).mono ?_
    rintro e W3 ⟨v1, rfl, hv1, hb3⟩
    have S3 := S2.kept hb3
    have k0 := (S3.boxes _ (by simp : (w.heap.size, #[Value.int .i64 x, Value.int .i64 y], 41) ∈ _)).two
    clear S2 hb3
    go_wp2_with fail
    clear k0
    refine (HRP.out _).mono ?_
    rintro e W4 ⟨v2, rfl, hv2, hb4⟩
    have S4 := S3.kept hb4
    have hv1' := hv1.below hb4
    clear S3 hb4 hv1
    go_wp2_with fail
    refine (HF.out _ ((h.below S4.be (Nat.le_refl _)).mono S4.be.size)).mono ?_
    rintro e W5 ⟨rfl, hb5⟩
    have S5 := (S4.kept hb5).new #[.int .i64 f1, .int .i64 f2] 41
    have hv1 := (hv1'.below hb5).alloc (.cells #[.int .i64 f1, .int .i64 f2] 41)
    have hv2' := (hv2.below hb5).alloc (.cells #[.int .i64 f1, .int .i64 f2] 41)
    clear S4 hb5 hv1' hv2
    go_wp2_with fail
    generalize World.alloc W5 _ = V5 at *
    generalize W5.heap.size = p15 at *
    refine (HRF.out _ ((h.below S5.be (Nat.le_refl _)).mono S5.be.size)).mono ?_
    rintro e W6 ⟨rfl, hb6⟩
    have S6 := (S5.kept hb6).new #[.int .i64 f1, .int .i64 f2] 41
    have hv1' := (hv1.below hb6).alloc (.cells #[.int .i64 f1, .int .i64 f2] 41)
    have hv2 := (hv2'.below hb6).alloc (.cells #[.int .i64 f1, .int .i64 f2] 41)
    have k7 := ((S5.kept hb6).boxes _ (by simp : (p7, #[Value.int .i64 s1, Value.int .i64 s2], 41) ∈ _))
    have k9 := ((S5.kept hb6).boxes _ (by simp : (p9, #[Value.int .i64 s1, Value.int .i64 s2], 41) ∈ _))
    have l7 := k7.lt
    have l9 := k9.lt
    have c7 := k7.two
    have c9 := k9.two
    clear S5 hb6 hv1 hv2' k7 k9
    obtain ⟨a1, cap1, rfl, -, hr1⟩ := hv1'
    obtain ⟨a2, cap2, rfl, -, hr2⟩ := hv2
    go_wp2_with fail
    clear l7 l9 c7 c9
    generalize World.alloc W6 _ = V6 at *
    generalize W6.heap.size = p17 at *
    refine (numbers_any p1 p1 a1 a2 p1.length cap1 p1.length cap2 _ _ V6 rfl rfl hpl hpl hr1 hr2).mono ?_
    rintro e W7 ⟨rfl, hb7⟩
    have S7 := S6.kept hb7
    have k15 := (S7.boxes _ (by simp : (p15, #[Value.int .i64 f1, Value.int .i64 f2], 41) ∈ _)).two
    have k17 := (S7.boxes _ (by simp : (p17, #[Value.int .i64 f1, Value.int .i64 f2], 41) ∈ _)).two
    clear hr1 hr2 S6 hb7
    simp only [decide_true]
    go_wp2_with fail
    refine (works_any _).mono ?_
    rintro e W8 ⟨rfl, hb8⟩
    go_wp2_with fail
    go_ret
    exact ⟨rfl, S7.be.trans (hb8.mono S7.be.size)⟩

end Go.Proofs.Ytjgebepeghgmcaa
