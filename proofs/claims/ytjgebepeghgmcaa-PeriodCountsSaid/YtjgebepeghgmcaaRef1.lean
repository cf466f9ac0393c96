/-
  The reference: small functions, and Simplest.
-/
import Derived.Test.YtjgebepeghgmcaaSimp
namespace Go.Proofs.Ytjgebepeghgmcaa
open Go.RowKit Go.Shelf
set_option linter.unusedVariables false
set_option linter.unusedSimpArgs false

theorem is_any (n lo hi : Int) (w : World) :
    Calls Try.prog 58 #[.int .i64 n, .int .i64 lo, .int .i64 hi] w fun e w' => e = .returned (.bool (bet lo n hi)) ∧ w = w' := by
  by_cases h1 : lo ≤ n
  · by_cases h2 : n ≤ hi
    · have E : Hid (bet lo n hi = true) := hide (by simp [bet, h1, h2])
      have h1' : n ≥ lo := h1
      go_enter Try.func58, Try.ntmps58
      go_wp2
      go_ret
      exact ⟨by rw [E.out]; rfl, rfl⟩
    · have E : Hid (bet lo n hi = false) := hide (by simp [bet, h2])
      have h1' : n ≥ lo := h1
      have h2' : decide (n ≤ hi) = false := by simp [h2]
      clear h2
      go_enter Try.func58, Try.ntmps58
      go_wp2
      go_ret
      exact ⟨by rw [E.out]; rfl, rfl⟩
  · have E : Hid (bet lo n hi = false) := hide (by simp [bet, h1])
    have h1' : decide (lo ≤ n) = false := by simp [h1]
    clear h1
    go_enter Try.func58, Try.ntmps58
    go_wp2
    go_ret
    exact ⟨by rw [E.out]; rfl, rfl⟩

theorem refvalid_any (r : Int × Int) (w : World) :
    Calls Try.prog 50 #[.agg #[.int .i64 r.1, .int .i64 r.2]] w fun e w' => e = .returned (.bool (validR r)) ∧ Below w.heap.size w w' := by
  obtain ⟨a, b⟩ := r
  cases h : bet 0 a 1000000 with
  | true =>
    have E : Hid (validR (a, b) = bet 1 b 1000000) := hide (by simp [validR, h])
    have HB := hide h
    clear h
    go_enter Try.func50, Try.ntmps50
    go_wp2_with fail
    refine (is_any _ _ _ _).mono ?_
    rintro e w' ⟨rfl, rfl⟩
    rw [HB.out]
    go_wp2_with fail
    refine (is_any _ _ _ _).mono ?_
    rintro e w' ⟨rfl, rfl⟩
    go_wp2_with fail
    go_ret
    exact ⟨by rw [E.out]; rfl, (Below.refl _ _).alloc (Nat.le_refl _) _⟩
  | false =>
    have E : Hid (validR (a, b) = false) := hide (by simp [validR, h])
    have HB := hide h
    clear h
    go_enter Try.func50, Try.ntmps50
    go_wp2_with fail
    refine (is_any _ _ _ _).mono ?_
    rintro e w' ⟨rfl, rfl⟩
    rw [HB.out]
    go_wp2_with fail
    go_ret
    exact ⟨by rw [E.out]; rfl, (Below.refl _ _).alloc (Nat.le_refl _) _⟩

theorem refless_any (a b : Int × Int) (w : World) (ha : Small 2000000000 a.1) (ha' : Small 2000000000 a.2) (hb : Small 2000000000 b.1) (hb' : Small 2000000000 b.2) :
    Calls Try.prog 51 #[.agg #[.int .i64 a.1, .int .i64 a.2], .agg #[.int .i64 b.1, .int .i64 b.2]] w fun e w' => e = .returned (.bool (lessR a b)) ∧ Below w.heap.size w w' := by
  have h1 := mul_small ha hb'
  have h2 := mul_small hb ha'
  obtain ⟨x, y⟩ := a
  obtain ⟨u, v⟩ := b
  have e1 : Hid (wrap64 (x * v) = x * v) := hide (by unfold Small at *; dsimp only at *; generalize x * v = z at *; unfold wrap64; omega)
  have e2 : Hid (wrap64 (u * y) = u * y) := hide (by unfold Small at *; dsimp only at *; generalize u * y = z at *; unfold wrap64; omega)
  have E : Hid (lessR (x, y) (u, v) = decide (wrap64 (x * v) < wrap64 (u * y))) := hide (by rw [e1.out, e2.out]; rfl)
  clear h1 h2 ha ha' hb hb'
  go_enter Try.func51, Try.ntmps51
  go_wp2
  go_ret
  exact ⟨by rw [E.out]; rfl, ((Below.refl _ _).alloc (Nat.le_refl _) _).alloc (by simp) _⟩

set_option maxRecDepth 100000 in
set_option maxHeartbeats 1000000 in
theorem refreduced_any (x y : Int) (w : World) (h1 : 0 ≤ x) (h2 : x ≤ 2000000000) (h3 : 1 ≤ y) (h4 : y ≤ 2000000000) :
    Calls Try.prog 52 #[.int .i64 x, .int .i64 y] w fun e w' => e = .returned (.agg #[.int .i64 (redR (x, y)).1, .int .i64 (redR (x, y)).2]) ∧ Below w.heap.size w w' := by
  go_enter Try.func52, Try.ntmps52
  go_wp2
  generalize hW : World.alloc w _ = W
  have hB : Below w.heap.size w W := by rw [← hW]; exact (Below.refl _ _).alloc (Nat.le_refl _) _
  have b0 : Blk W w.heap.size #[.int .i64 0, .int .i64 0] 41 := by rw [← hW]; exact Blk.new w _ _
  clear hW
  go_loopw [5, 6] (fun a b wr => ∃ p q : Int, a = .int .i64 p ∧ b = .int .i64 q ∧ 0 ≤ p ∧ p ≤ 2000000000 ∧ 0 ≤ q ∧ q ≤ 2000000000 ∧ 0 < p + q ∧ Int.gcd p q = Int.gcd x y ∧ ∃ m, wr = W.drewN m) (fun _ b _ => (intOf b).toNat)
  case atStart => exact ⟨x, y, rfl, rfl, by omega, by omega, by omega, by omega, by omega, rfl, 0, rfl⟩
  case round =>
    obtain ⟨p, q, rfl, rfl, p0, p1, q0, q1, pq, hg, m, rfl⟩ := hrel
    have HG := hide hg
    clear hg
    by_cases hq : 0 < q
    · have m1 : 0 ≤ p % q := Int.emod_nonneg _ (by omega)
      have m2 : p % q < q := Int.emod_lt_of_pos _ hq
      have m3 : Hid (Int.gcd q (p % q) = Int.gcd x y) := hide (by rw [← HG.out, ← Int.gcd_comm q p]; exact gcd_mod q p)
      have hqz : (q == 0) = false := by simp; omega
      go_wp2
      go_quiet (fail)
      go_wp2
      go_roundw
      case rel => exact ⟨q, p % q, rfl, rfl, by omega, by omega, by omega, by omega, by omega, m3.out, _, by rw [World.drewN_drewN]⟩
      case measure => simp [intOf]; omega
    · have hq0 : q = 0 := by omega
      have EP : Hid (p = gcdI x y) := by
        have := HG.out
        rw [hq0] at this
        show p = gcdI x y
        unfold gcdI
        rw [← this, Int.gcd_zero_right]
        omega
      have hpz : ¬ p = 0 := by omega
      have p2 : 1 ≤ p := by omega
      have ER : Hid (redR (x, y) = (x / p, y / p)) := by
        show redR (x, y) = _
        unfold redR
        rw [EP.out]
      have hBm := below_drewN hB m
      have bm := b0.drewN m
      generalize W.drewN m = V at *
      clear hq0
      obtain ⟨r0, r1, f0, f1⟩ := bm.two
      have lb := bm.lt
      go_wp2
      refine wp_region_head (fun k : Nat => V.drewN k) 7 (by kernel_rfl) (by kernel_rfl) ⟨1, rfl⟩ ?_
      simp only [List.take_succ_cons, List.take_zero, List.drop_succ_cons, List.drop_zero]
      repeat (quiet_step (fail))
      refine wpQuiet_nil ?_
      intro k
      go_wp2
      rw [ER.out]
      have q2 := (bm.drewN k).set2 (.int .i64 (x / p)) (.int .i64 (y / p))
      have hBf := below_set2 (below_drewN hBm k) (k := w.heap.size) (Nat.le_refl _) (.int .i64 (x / p)) (.int .i64 (y / p))
      refine bodyPost_ret (v := .agg #[.int .i64 (x / p), .int .i64 (y / p)]) (by simp [results, Try.results52, go_sem, q2.two]) rfl ⟨rfl, hBf⟩

/-! ### Simplest -/
theorem ceil_le {a m N : Int} (hm : 1 ≤ m) (hN : N = (a + m - 1) / m) : a ≤ N * m ∧ ∀ p, a ≤ p * m → N ≤ p := by
  subst hN
  have e1 := Int.mul_ediv_add_emod (a + m - 1) m
  have e2 := Int.emod_lt_of_pos (a + m - 1) (by omega : 0 < m)
  refine ⟨by rw [Int.mul_comm]; omega, fun p hp => ?_⟩
  have : (a + m - 1) / m < p + 1 := Int.ediv_lt_of_lt_mul (by omega) (by rw [Int.add_mul]; omega)
  omega

/-- One round of the reference's search. -/
theorem ceil_at {a1 a2 b1 b2 r1 r2 q N : Int} (h1 : 0 ≤ a1) (h2 : a1 ≤ 1000000) (h3 : 1 ≤ a2) (h3' : a2 ≤ 1000000) (h4 : 0 ≤ b1) (h5 : b1 ≤ 1000000) (h6 : 1 ≤ b2) (h7 : b2 ≤ 1000000) (hq : 1 ≤ q) (hq2 : q ≤ 1000000)
    (lo : a1 * r2 ≤ r1 * a2) (hi : r1 * b2 ≤ b1 * r2) (min : ∀ p q : Int, 1 ≤ q → 0 ≤ p → a1 * q ≤ p * a2 → p * b2 ≤ b1 * q → r2 ≤ q ∧ r1 ≤ p) (hqr : q ≤ r2) (hN : N = (a1 * q + a2 - 1) / a2) :
    (0 ≤ a1 * q ∧ a1 * q ≤ 1000000000000) ∧ (0 ≤ b1 * q ∧ b1 * q ≤ 1000000000000) ∧ (0 ≤ N ∧ N ≤ 1000000000000) ∧ (0 ≤ N * b2 ∧ N * b2 ≤ 1000000000000000000) ∧ (q = r2 → N = r1 ∧ N * b2 ≤ b1 * q) ∧ (q < r2 → ¬ N * b2 ≤ b1 * q) := by
  have m1 := mul_mil h1 h2 (by omega : 0 ≤ q) hq2
  have m2 := mul_mil h4 h5 (by omega : 0 ≤ q) hq2
  obtain ⟨c1, c2⟩ := ceil_le h3 hN
  have n0 : 0 ≤ N := by rw [hN]; exact Int.ediv_nonneg (by omega) (by omega)
  have n1 : N ≤ a1 * q := c2 _ (by
    have : a1 * q * 1 ≤ a1 * q * a2 := Int.mul_le_mul_of_nonneg_left h3 m1.1
    omega)
  have p1 : N * b2 ≤ 1000000000000 * 1000000 := Int.mul_le_mul (by omega) h7 (by omega) (by omega)
  have p0 : 0 ≤ N * b2 := Int.mul_nonneg n0 (by omega)
  refine ⟨m1, m2, ⟨n0, by omega⟩, ⟨p0, by omega⟩, ?_, ?_⟩
  · intro e
    subst e
    have n2 : N ≤ r1 := c2 _ lo
    have : N * b2 ≤ r1 * b2 := Int.mul_le_mul_of_nonneg_right n2 (by omega)
    have h := min N q hq n0 c1 (by omega)
    omega
  · intro hlt hn
    have h := min N q hq n0 c1 hn
    omega

set_option maxRecDepth 100000 in
set_option maxHeartbeats 2000000 in
theorem refsimplest_any (a b : Int × Int) (w : World) :
    Calls Try.prog 21 #[.agg #[.int .i64 a.1, .int .i64 a.2], .agg #[.int .i64 b.1, .int .i64 b.2]] w fun e w' =>
      e = .returned (.tuple #[.agg #[.int .i64 (simplestR a b).1.1, .int .i64 (simplestR a b).1.2], .int .i64 (simplestR a b).2]) ∧ Below w.heap.size w w' := by
  have HVA := hide (fun w => refvalid_any a w)
  have HVB := hide (fun w => refvalid_any b w)
  have HS : Hid (simplestR a b = _) := hide (by unfold simplestR; rfl)
  have HBA := hide (fun h => @validR_in a h)
  have HBB := hide (fun h => @validR_in b h)
  obtain ⟨x, y⟩ := a
  obtain ⟨u, v⟩ := b
  dsimp only at *
  go_enter Try.func21, Try.ntmps21
  go_wp2_with fail
  generalize hW : World.alloc (World.alloc (World.alloc w _) _) _ = V
  have hB : Below w.heap.size w V := by rw [← hW]; exact (((Below.refl _ _).alloc (Nat.le_refl _) _).alloc (by simp) _).alloc (by simp; omega) _
  have b0 : Blk V w.heap.size #[.int .i64 x, .int .i64 y] 41 := by rw [← hW]; exact ((Blk.new w _ _).alloc _).alloc _
  have b1 : Blk V (w.heap.size + 1) #[.int .i64 u, .int .i64 v] 41 := by rw [← hW]; exact (by simpa using Blk.new (World.alloc w _) _ _ : Blk _ (w.heap.size + 1) _ _).alloc _
  have b2 : Blk V (w.heap.size + 1 + 1) #[.int .i64 0, .int .i64 0] 41 := by rw [← hW]; exact (by simpa using Blk.new (World.alloc (World.alloc w _) _) _ _)
  have S : BSt w [(w.heap.size, #[.int .i64 x, .int .i64 y], 41), (w.heap.size + 1, #[.int .i64 u, .int .i64 v], 41), (w.heap.size + 1 + 1, #[.int .i64 0, .int .i64 0], 41)] V := ⟨hB, fun p hp => by
    rcases List.mem_cons.1 hp with rfl | hp
    · exact b0
    rcases List.mem_cons.1 hp with rfl | hp
    · exact b1
    · obtain rfl := List.mem_singleton.1 hp
      exact b2⟩
  clear hW hB b0 b1 b2
  refine (HVA.out _).mono ?_
  rintro e W1 ⟨rfl, hb1⟩
  have S1 := S.kept hb1
  clear S hb1
  have k0 := (S1.boxes _ (by simp : (w.heap.size, #[Value.int .i64 x, Value.int .i64 y], 41) ∈ _)).two
  have k1 := (S1.boxes _ (by simp : (w.heap.size + 1, #[Value.int .i64 u, Value.int .i64 v], 41) ∈ _)).two
  have kk2 := (S1.boxes _ (by simp : (w.heap.size + 1 + 1, #[Value.int .i64 0, Value.int .i64 0], 41) ∈ _))
  have k2 := kk2.two
  have l2 := kk2.lt
  cases hva : validR (x, y) with
  | false =>
    have HR : Hid (simplestR (x, y) (u, v) = ((0, 0), 1)) := hide (by rw [HS.out, hva]; rfl)
    clear HS HBA HBB HVA HVB
    go_wp2_with fail
    have q2 := kk2.set2 (.int .i64 0) (.int .i64 0)
    have hBf := below_set2 S1.be (k := w.heap.size + 1 + 1) (by omega) (.int .i64 0) (.int .i64 0)
    refine bodyPost_ret (v := .tuple #[.agg #[.int .i64 0, .int .i64 0], .int .i64 1]) (by simp [results, Try.results21, go_sem, q2.two]) rfl ⟨by rw [HR.out], hBf⟩
  | true =>
    go_wp2_with fail
    refine (HVB.out _).mono ?_
    rintro e W2 ⟨rfl, hb2⟩
    have S2 := S1.kept hb2
    clear S1 hb2 k0 k1 kk2 k2 l2
    have k0 := (S2.boxes _ (by simp : (w.heap.size, #[Value.int .i64 x, Value.int .i64 y], 41) ∈ _)).two
    have k1 := (S2.boxes _ (by simp : (w.heap.size + 1, #[Value.int .i64 u, Value.int .i64 v], 41) ∈ _)).two
    have kk2 := (S2.boxes _ (by simp : (w.heap.size + 1 + 1, #[Value.int .i64 0, Value.int .i64 0], 41) ∈ _))
    have k2 := kk2.two
    have l2 := kk2.lt
    cases hvb : validR (u, v) with
    | false =>
      have HR : Hid (simplestR (x, y) (u, v) = ((0, 0), 1)) := hide (by rw [HS.out, hva, hvb]; rfl)
      clear HS HBA HBB HVA HVB
      go_wp2_with fail
      have q2 := kk2.set2 (.int .i64 0) (.int .i64 0)
      have hBf := below_set2 S2.be (k := w.heap.size + 1 + 1) (by omega) (.int .i64 0) (.int .i64 0)
      refine bodyPost_ret (v := .tuple #[.agg #[.int .i64 0, .int .i64 0], .int .i64 1]) (by simp [results, Try.results21, go_sem, q2.two]) rfl ⟨by rw [HR.out], hBf⟩
    | true =>
      obtain ⟨p1, p2, p3, p4⟩ := HBA.out hva
      obtain ⟨p5, p6, p7, p8⟩ := HBB.out hvb
      have HS' : Hid (simplestR (x, y) (u, v) = if 0 < x * v - u * y then ((0, 0), 5) else (redR (simpF 2000001 (x, y) (u, v)), 0)) := hide (by rw [HS.out, hva, hvb]; rfl)
      clear HS HBA HBB HVA HVB hva hvb
      go_wp2_with fail
      refine (refless_any (u, v) (x, y) W2 (by unfold Small; dsimp only; omega) (by unfold Small; dsimp only; omega) (by unfold Small; dsimp only; omega) (by unfold Small; dsimp only; omega)).mono ?_
      rintro e W3 ⟨rfl, hb3⟩
      have S3 := S2.kept hb3
      clear S2 hb3 k0 k1 kk2 k2 l2
      have k0 := (S3.boxes _ (by simp : (w.heap.size, #[Value.int .i64 x, Value.int .i64 y], 41) ∈ _)).two
      have k1 := (S3.boxes _ (by simp : (w.heap.size + 1, #[Value.int .i64 u, Value.int .i64 v], 41) ∈ _)).two
      have kk2 := (S3.boxes _ (by simp : (w.heap.size + 1 + 1, #[Value.int .i64 0, Value.int .i64 0], 41) ∈ _))
      have k2 := kk2.two
      have l2 := kk2.lt
      cases hls : lessR (u, v) (x, y) with
      | true =>
        have hc := of_decide_eq_true hls
        dsimp only at hc
        have HR : Hid (simplestR (x, y) (u, v) = ((0, 0), 5)) := hide (by rw [HS'.out, if_pos (by omega)])
        clear HS' hls hc
        go_wp2_with fail
        have q2 := kk2.set2 (.int .i64 0) (.int .i64 0)
        have hBf := below_set2 S3.be (k := w.heap.size + 1 + 1) (by omega) (.int .i64 0) (.int .i64 0)
        refine bodyPost_ret (v := .tuple #[.agg #[.int .i64 0, .int .i64 0], .int .i64 5]) (by simp [results, Try.results21, go_sem, q2.two]) rfl ⟨by rw [HR.out], hBf⟩
      | false =>
        have hc := of_decide_eq_false hls
        dsimp only at hc
        have hok : SOk (x, y) (u, v) := ⟨p1, p2, p3, p4, p5, p6, p7, p8, by dsimp only; omega⟩
        have hk : (((x, y) : Int × Int).2 + ((u, v) : Int × Int).2).toNat < 2000001 := by dsimp only; omega
        have HR0 : simplestR (x, y) (u, v) = (simpF 2000001 (x, y) (u, v), 0) := by rw [HS'.out, if_neg (by omega), simpF_red hok hk]
        obtain ⟨g1, g2, g3, g4, g5, g6, g7⟩ := simpF_bound 2000001 _ _ hok hk
        obtain ⟨s1, s2, s3⟩ := simpF_spec 2000001 _ _ hok hk
        generalize simpF 2000001 (x, y) (u, v) = r at *
        obtain ⟨r1, r2⟩ := r
        have HR := hide HR0
        dsimp only at g1 g2 g3 g4 g5 g6 s1 s2 s3
        have HAT := hide (fun (q N : Int) (hq : 1 ≤ q) (hqr : q ≤ r2) (hN : N = (x * q + y - 1) / y) => ceil_at p1 p2 p3 p4 p5 p6 p7 p8 hq (by omega) s1 s2 s3 hqr hN)
        clear HS' hls hc hok hk HR0 g7 s1 s2 s3 k0 k1 kk2 k2 l2
        go_wp2_with fail
        go_loopw [6, 7] (fun d _ wr => ∃ q : Int, d = .int .i64 q ∧ 1 ≤ q ∧ q ≤ r2 ∧ wr = W3) (fun d _ _ => (r2 + 1 - intOf d).toNat)
        case atStart => exact ⟨1, rfl, by omega, g4, rfl⟩
        case round =>
          obtain ⟨q, rfl, hq1, hq2, rfl⟩ := hrel
          have k0 := (S3.boxes _ (by simp : (w.heap.size, #[Value.int .i64 x, Value.int .i64 y], 41) ∈ _)).two
          have k1 := (S3.boxes _ (by simp : (w.heap.size + 1, #[Value.int .i64 u, Value.int .i64 v], 41) ∈ _)).two
          have kk2 := (S3.boxes _ (by simp : (w.heap.size + 1 + 1, #[Value.int .i64 0, Value.int .i64 0], 41) ∈ _))
          have k2 := kk2.two
          have l2 := kk2.lt
          obtain ⟨c1, c2, c3, c4, c5, c6⟩ := HAT.out q _ hq1 hq2 rfl
          have c7 : 0 ≤ x * q + y - 1 := by omega
          by_cases hqr : q = r2
          · obtain ⟨d1, d2⟩ := c5 hqr
            have HD := hide d1
            have HQ := hide hqr
            clear c5 c6 d1 hqr
            go_wp2_with fail
            rw [HD.out, HQ.out]
            have q2 := kk2.set2 (.int .i64 r1) (.int .i64 r2)
            have hBf := below_set2 S3.be (k := w.heap.size + 1 + 1) (by omega) (.int .i64 r1) (.int .i64 r2)
            refine bodyPost_ret (v := .tuple #[.agg #[.int .i64 r1, .int .i64 r2], .int .i64 0]) (by simp [results, Try.results21, go_sem, q2.two]) rfl ⟨by rw [HR.out], hBf⟩
          · have d2 := c6 (by omega)
            clear c5 c6 k2 kk2
            go_wp2_with fail
            go_roundw
            case rel => exact ⟨q + 1, rfl, by omega, by omega, trivial⟩
            case measure => simp [intOf]; omega

end Go.Proofs.Ytjgebepeghgmcaa
