/-
  PeriodPaths: the walk.
-/
import Derived.Test.YtjgebepeghgmcaaWalked
import Derived.Deep.DeepCutAuto
namespace Go.Proofs.Ytjgebepeghgmcaa
open Go.RowKit Go.Shelf
set_option linter.unusedVariables false
set_option linter.unusedSimpArgs false

theorem RowB.at {w : World} {v : Value} {xs : List Bool} (h : RowB w v xs) : ∃ (a : Option Addr) (cap : Nat), v = .slice a xs.length cap ∧ ∀ k, k < xs.length → ∃ b off, a = some ⟨b, off, none⟩ ∧ b < w.heap.size ∧ w.cell? ⟨b, off + k, none⟩ = some (.bool (xs.getD k false)) := by
  obtain ⟨a, cap, rfl, hc, hr⟩ := h
  refine ⟨a, cap, rfl, fun k hk => ?_⟩
  rcases hr with hr | ⟨b, off, rfl, hlt, hr⟩
  · simp [bools] at hr; subst hr; simp at hk
  · refine ⟨b, off, rfl, hlt, ?_⟩
    rw [hr k (by simpa [bools] using hk)]
    simp [bools, List.getD, hk]

/-- A fraction N / D between its neighbours a / b and c / d. -/
structure SB (N D a b c d y x : Int) : Prop where
  a0 : 0 ≤ a
  b0 : 0 ≤ b
  c0 : 0 ≤ c
  d0 : 0 ≤ d
  y1 : 1 ≤ y
  x1 : 1 ≤ x
  num : N = x * a + y * c
  den : D = x * b + y * d
  det : b * c - a * d = 1
  cop : ∀ g : Int, 0 < g → g ∣ y → g ∣ x → g = 1
section
variable {N D a b c d y x : Int}
theorem SB.start (hN : 1 ≤ N) (hD : 1 ≤ D) (h : ∀ g : Int, 0 < g → g ∣ N → g ∣ D → g = 1) : SB N D 0 1 1 0 N D := ⟨by omega, by omega, by omega, by omega, hN, hD, by omega, by omega, by omega, h⟩
theorem SB.sums (h : SB N D a b c d y x) : a + c ≤ N ∧ b + d ≤ D := by
  obtain ⟨h1, h2, h3, h4, h5, h6, h7, h8, _⟩ := h
  have e1 : 1 * a ≤ x * a := Int.mul_le_mul_of_nonneg_right h6 h1
  have e2 : 1 * c ≤ y * c := Int.mul_le_mul_of_nonneg_right h5 h3
  have e3 : 1 * b ≤ x * b := Int.mul_le_mul_of_nonneg_right h6 h2
  have e4 : 1 * d ≤ y * d := Int.mul_le_mul_of_nonneg_right h5 h4
  omega
/-- Which side it is on. -/
theorem SB.side (h : SB N D a b c d y x) (g : Int) : g * N * (b + d) - (a + c) * (g * D) = g * (y - x) := by
  obtain ⟨h1, h2, h3, h4, h5, h6, h7, h8, h9, _⟩ := h
  have : g * N * (b + d) - (a + c) * (g * D) = g * (y - x) * (b * c - a * d) := by subst h7 h8; grind
  rw [this, h9, Int.mul_one]
theorem SB.one (h : SB N D a b c d y x) (e : y = x) : y = 1 ∧ x = 1 := by
  have := h.cop y (by have := h.y1; omega) (Int.dvd_refl _) (by rw [e]; exact Int.dvd_refl _)
  omega
theorem SB.right (h : SB N D a b c d y x) (hxy : x < y) : SB N D (a + c) (b + d) c d (y - x) x := by
  obtain ⟨h1, h2, h3, h4, h5, h6, h7, h8, h9, h12⟩ := h
  exact ⟨by omega, by omega, h3, h4, by omega, h6, by grind, by grind, by grind, fun g hg e1 e2 => h12 g hg (by have := Int.dvd_add e1 e2; rwa [Int.sub_add_cancel] at this) e2⟩
theorem SB.left (h : SB N D a b c d y x) (hxy : y < x) : SB N D a b (a + c) (b + d) y (x - y) := by
  obtain ⟨h1, h2, h3, h4, h5, h6, h7, h8, h9, h12⟩ := h
  exact ⟨h1, h2, by omega, by omega, h5, by omega, by grind, by grind, by grind, fun g hg e1 e2 => h12 g hg e1 (by have := Int.dvd_add e2 e1; rwa [Int.sub_add_cancel] at this)⟩
end

/-- The reduced form, and what divides. -/
theorem red_facts {y x : Int} (hy : 1 ≤ y) (hx : 1 ≤ x) : ∃ g, 1 ≤ g ∧ g * (redR (y, x)).1 = y ∧ g * (redR (y, x)).2 = x ∧ 1 ≤ (redR (y, x)).1 ∧ 1 ≤ (redR (y, x)).2 ∧ (redR (y, x)).1 ≤ y ∧ (redR (y, x)).2 ≤ x ∧
    ∀ k : Int, 0 < k → k ∣ (redR (y, x)).1 → k ∣ (redR (y, x)).2 → k = 1 := by
  have hone := red_one (r := (y, x)) (by dsimp only; omega) hx
  have hg : 0 < gcdI y x := by
    unfold gcdI
    have : 0 < Int.gcd y x := Int.gcd_pos_of_ne_zero_left _ (by omega)
    omega
  have e1 : gcdI y x * (redR (y, x)).1 = y := Int.mul_ediv_cancel' (Int.gcd_dvd_left ..)
  have e2 : gcdI y x * (redR (y, x)).2 = x := Int.mul_ediv_cancel' (Int.gcd_dvd_right ..)
  generalize gcdI y x = g at *
  generalize redR (y, x) = r at *
  obtain ⟨a, b⟩ := r
  dsimp only at *
  have pa : 0 < a := Int.pos_of_mul_pos_right (a := g) (by omega) (by omega)
  have pb : 0 < b := Int.pos_of_mul_pos_right (a := g) (by omega) (by omega)
  have f1 : 1 * a ≤ g * a := Int.mul_le_mul_of_nonneg_right (by omega) (by omega)
  have f2 : 1 * b ≤ g * b := Int.mul_le_mul_of_nonneg_right (by omega) (by omega)
  exact ⟨g, by omega, e1, e2, by omega, by omega, by omega, by omega, hone⟩

/-- The memory of the first loop. -/
structure PL (V0 : World) (p q : Nat) (a b c d : Int) (wr : World) : Prop where
  lo : Blk wr p #[.int .i64 a, .int .i64 b] 60
  hi : Blk wr q #[.int .i64 c, .int .i64 d] 60
  be : Below V0.heap.size V0 wr
theorem PL.kept {V0 wr wr' : World} {p q : Nat} {a b c d : Int} (h : PL V0 p q a b c d wr) (hb : Below wr.heap.size wr wr') : PL V0 p q a b c d wr' := ⟨h.lo.kept hb, h.hi.kept hb, h.be.trans (hb.mono h.be.size)⟩
theorem PL.setLo {V0 wr : World} {p q : Nat} {a b c d : Int} (h : PL V0 p q a b c d wr) (hp : V0.heap.size ≤ p) (hne : p ≠ q) (a' b' : Int) :
    PL V0 p q a' b' c d ((wr.setCell ⟨p, 0, none⟩ (.int .i64 a')).setCell ⟨p, 1, none⟩ (.int .i64 b')) := ⟨h.lo.set2 _ _, h.hi.other2 (Ne.symm hne) _ _, below_set2 h.be hp _ _⟩
theorem PL.setHi {V0 wr : World} {p q : Nat} {a b c d : Int} (h : PL V0 p q a b c d wr) (hq : V0.heap.size ≤ q) (hne : p ≠ q) (c' d' : Int) :
    PL V0 p q a b c' d' ((wr.setCell ⟨q, 0, none⟩ (.int .i64 c')).setCell ⟨q, 1, none⟩ (.int .i64 d')) := ⟨h.lo.other2 hne _ _, h.hi.set2 _ _, below_set2 h.be hq _ _⟩

attribute [local go_sem] grows growAt growUpon in
set_option maxRecDepth 100000 in
set_option maxHeartbeats 4000000 in
theorem ppaths_any (a0 a1 b0 b1 : Int) (w : World) (h1 : 0 ≤ a0 ∧ a0 ≤ 255) (h2 : 0 ≤ a1 ∧ a1 ≤ 255) (h3 : 0 ≤ b0 ∧ b0 ≤ 255) (h4 : 0 ≤ b1 ∧ b1 ≤ 255) :
    Calls Try.prog 11 #[.agg #[.int .u8 a0, .int .u8 a1], .agg #[.int .u8 b0, .int .u8 b1]] w fun e w' => e = .returned (.bool true) ∧ Below w.heap.size w w' := by
  go_enter Try.func11, Try.ntmps11
  go_wp2_with fail
  generalize hW : World.alloc (World.alloc w _) _ = V
  have hB : Below w.heap.size w V := by rw [← hW]; exact ((Below.refl _ _).alloc (Nat.le_refl _) _).alloc (by simp) _
  have k0 : Blk V w.heap.size #[.int .u8 a0, .int .u8 a1] 50 := by rw [← hW]; exact (Blk.new w _ _).alloc _
  have k1 : Blk V (w.heap.size + 1) #[.int .u8 b0, .int .u8 b1] 50 := by rw [← hW]; exact (by simpa using Blk.new (World.alloc w _) _ _)
  have hsV := hB.size
  clear hW
  obtain ⟨c0, c1, _⟩ := k0.two
  obtain ⟨c2, c3, _⟩ := k1.two
  have z0 := k0.lt
  have z1 := k1.lt
  have hX := @Ext.cell V
  have i1 : IntKind.i64.wrap a0 = a0 := IntWalk.i64_in _ (by omega)
  have i2 : IntKind.i64.wrap a1 = a1 := IntWalk.i64_in _ (by omega)
  have i3 : IntKind.i64.wrap b0 = b0 := IntWalk.i64_in _ (by omega)
  have i4 : IntKind.i64.wrap b1 = b1 := IntWalk.i64_in _ (by omega)
  have i5 : IntKind.i64.wrap (1 + a0) = 1 + a0 := IntWalk.i64_in _ (by omega)
  have i6 : IntKind.i64.wrap (1 + a1) = 1 + a1 := IntWalk.i64_in _ (by omega)
  have i7 : IntKind.i64.wrap (1 + b0) = 1 + b0 := IntWalk.i64_in _ (by omega)
  have i8 : IntKind.i64.wrap (1 + b1) = 1 + b1 := IntWalk.i64_in _ (by omega)
  refine wp_region_two #[.int .i64 0, .int .i64 0] #[.int .i64 0, .int .i64 0] 41 41 5 6 18 (by kernel_rfl) (by kernel_rfl) (by decide)
    ⟨_, rfl, rfl, rfl, (by intro cs b h; cases h), fun ev w => by simp [go_sem]⟩ ⟨_, rfl, rfl, rfl, (by intro cs b h; cases h), fun ev w => by simp [go_sem]⟩ ?_
  simp only [List.take_succ_cons, List.take_zero, List.drop_succ_cons, List.drop_zero]
  repeat (refine wpGrow_step (fun K hK => ?_); go_simp; first | (refine hK _ ?_; clear hK K) | (apply Exists.intro; refine ⟨fun _ => ?_, hK _ ?_⟩; (first | (go_at_call 33; with_reducible exact part_any _ _ _)); clear hK K))
  refine wpGrow_nil ?_
  clear i1 i2 i3 i4 i5 i6 i7 i8
  intro U p5 p6 hbU hl1 hl2 hne bb1 bb2
  obtain ⟨x1, hx1⟩ : ∃ x, x = 1 + a0 := ⟨_, rfl⟩
  obtain ⟨x2, hx2⟩ : ∃ x, x = 1 + a1 := ⟨_, rfl⟩
  obtain ⟨y1, hy1⟩ : ∃ x, x = 1 + b0 := ⟨_, rfl⟩
  obtain ⟨y2, hy2⟩ : ∃ x, x = 1 + b1 := ⟨_, rfl⟩
  have gx1 : 1 ≤ x1 ∧ x1 ≤ 256 := by omega
  have gx2 : 1 ≤ x2 ∧ x2 ≤ 256 := by omega
  have gy1 : 1 ≤ y1 ∧ y1 ≤ 256 := by omega
  have gy2 : 1 ≤ y2 ∧ y2 ≤ 256 := by omega
  rw [← hx1, ← hx2, ← hy1, ← hy2]
  clear hx1 hx2 hy1 hy2 h1 h2 h3 h4 c0 c1 c2 c3 hX k0 k1 z0 z1
  have hBU := hB.trans (hbU.mono hsV)
  obtain ⟨q1, q1', g1, g1'⟩ := bb1.two
  obtain ⟨q2, q2', g2, g2'⟩ := bb2.two
  have hne' : ¬ p6 = p5 := fun e => hne e.symm
  simp only [Act.put, List.setIfInBounds_toArray, List.set_cons_zero, List.set_cons_succ]
  go_wp2_with fail
  have S : BSt w [(p5, #[.int .i64 x1, .int .i64 x2], 41), (p6, #[.int .i64 y1, .int .i64 y2], 41)] ((((U.setCell ⟨p5, 0, none⟩ (.int .i64 x1)).setCell ⟨p5, 1, none⟩ (.int .i64 x2)).setCell ⟨p6, 0, none⟩ (.int .i64 y1)).setCell ⟨p6, 1, none⟩ (.int .i64 y2)) :=
    ⟨below_set2 (below_set2 hBU (k := p5) (by omega) _ _) (k := p6) (by omega) _ _, fun p hp => by
      rcases List.mem_cons.1 hp with rfl | hp
      · exact (bb1.set2 (.int .i64 x1) (.int .i64 x2)).other2 (k := p6) hne _ _
      · obtain rfl := List.mem_singleton.1 hp
        exact (bb2.other2 (k := p5) (Ne.symm hne) (.int .i64 x1) (.int .i64 x2)).set2 (.int .i64 y1) (.int .i64 y2)⟩
  generalize World.setCell (World.setCell (World.setCell (World.setCell U _ _) _ _) _ _) _ _ = V2 at *
  clear bb1 bb2 q1 q1' q2 q2' g1 g1' g2 g2' hbU hBU hB hsV hl1 hl2 hne hne'
  obtain ⟨lp, ep, rp, np, mp, vp, sp⟩ := path_facts gx1.1 (by omega : x1 ≤ 512) gx2.1 (by omega : x2 ≤ 512)
  obtain ⟨lq, eq, rq, nq, mq, vq, sq⟩ := path_facts gx2.1 (by omega : x2 ≤ 512) gx1.1 (by omega : x1 ≤ 512)
  obtain ⟨ls, es, rs, ns, ms, vs, ss⟩ := path_facts gy1.1 (by omega : y1 ≤ 512) gy2.1 (by omega : y2 ≤ 512)
  obtain ⟨lt, et, rt, nt, mt, vt, st⟩ := path_facts (by omega : 1 ≤ x1 + y1) (by omega : x1 + y1 ≤ 512) (by omega : 1 ≤ x2 + y2) (by omega : x2 + y2 ≤ 512)
  obtain ⟨g, hg1, hg2, hg3, r1a, r2a, r1b, r2b, hcop⟩ := red_facts gx1.1 gx2.1
  have hfol := follow_val rp np (by rw [vp]; omega) (by rw [vp]; omega)
  rw [vp] at hfol
  have hflip : movesOf 0 lq = (movesOf 0 lp).map (!·) := by rw [mp, mq]; exact sub_flip _ x1 x2 gx1.1 gx2.1 (Nat.le_refl _)
  have hpre := fun i b => sub_prefix _ x1 x2 y1 y2 gx1.1 gx2.1 gy1.1 gy2.1 (Nat.le_refl _) i b
  rw [← mp, ← ms, ← mt] at hpre
  generalize hU0 : movesOf 0 lp = us at *
  generalize hQ0 : movesOf 0 lq = qs at *
  generalize hW0 : movesOf 0 ls = ws at *
  generalize hZ0 : movesOf 0 lt = zs at *
  generalize redR (x1, x2) = rr at *
  obtain ⟨r1, r2⟩ := rr
  dsimp only at hg2 hg3 r1a r2a r1b r2b hcop hfol
  have HP1 := hide (fun w => path_v (x1, x2) _ ep w)
  have HP2 := hide (fun w => path_v (x2, x1) _ eq w)
  have HP3 := hide (fun w => path_v (y1, y2) _ es w)
  have HP4 := hide (fun w => path_v (x1 + y1, x2 + y2) _ et w)
  have HFO := hide (fun (a : Option Addr) (cap : Nat) (w : World) (hc : lp.length ≤ cap) (hnil : a = none → lp = []) (h : Row w w.heap.size a (ints lp)) => (by
    have := follow_any lp a lp.length cap w rfl (by omega) hc hnil h
    rwa [hfol] at this : Calls Try.prog 24 #[.slice a lp.length cap] w fun e w' => e = .returned (.tuple #[.agg #[.int .i64 r1, .int .i64 r2], .int .i64 0]) ∧ Below w.heap.size w w'))
  have HWA := hide (fun (l : List Int) (m : List Bool) (hm : movesOf 0 l = m) (r : Runs l) (n : l.length ≤ 40) (s : (m.length : Int) ≤ 511) (a : Option Addr) (cap : Nat) (w : World) (h : Row w w.heap.size a (ints l)) => (by
    have := walked_any l a l.length cap w rfl (by omega) r (by rw [hm]; omega) h
    rwa [hm] at this : Calls Try.prog 35 #[.slice a l.length cap] w fun e w' => ∃ v, e = .returned (.tuple #[v, .bool true]) ∧ RowB w' v m ∧ Below w.heap.size w w'))
  have HWP := hide (HWA.out lp us hU0 rp np sp)
  have HWQ := hide (HWA.out lq qs hQ0 rq nq sq)
  have HWS := hide (HWA.out ls ws hW0 rs ns ss)
  have HWT := hide (HWA.out lt zs hZ0 rt nt st)
  have HFL := hide hflip
  have HPRE := hide hpre
  have HSUB := hide mp
  have HG2 := hide hg2
  have HG3 := hide hg3
  have HCOP := hide hcop
  clear HWA ep eq es et rp rq rs rt vp vq vs vt mp mq ms mt hfol hflip hpre hU0 hQ0 hW0 hZ0 hg2 hg3 hcop np nq ns nt
  -- the two paths, and back
  refine (HP1.out _).mono ?_
  rintro e W1 ⟨v1, rfl, hv1, hb1⟩
  dsimp only
  have S1 := S.kept hb1
  clear S hb1
  have k5 := (S1.boxes _ (by simp : (p5, #[Value.int .i64 x1, Value.int .i64 x2], 41) ∈ _)).two
  go_wp2_with fail
  clear k5
  refine (part_any _ _ _).mono ?_
  rintro e W2 ⟨rfl, hb2⟩
  have S2 := S1.kept hb2
  have hv1' := hv1.below hb2
  clear S1 hv1 hb2
  go_wp2_with fail
  refine (HP2.out _).mono ?_
  rintro e W3 ⟨v2, rfl, hv2, hb3⟩
  dsimp only
  have S3 := S2.kept hb3
  have hv1 := hv1'.below hb3
  clear S2 hv1' hb3
  obtain ⟨pa1, cap1, rfl, hc1, hr1⟩ := hv1
  go_wp2_with fail
  have hnil1 : pa1 = none → lp = [] := fun e => by
    rcases hr1 with h | ⟨b, off, e', _⟩
    · simpa [ints] using h
    · rw [e] at e'; cases e'
  refine (HFO.out pa1 cap1 _ hc1 hnil1 hr1).mono ?_
  rintro e W4 ⟨rfl, hb4⟩
  have S4 := (S3.kept hb4).new #[.int .i64 r1, .int .i64 r2] 41
  have hr1' := (hr1.below hb4 (Nat.le_refl _)).mono hb4.size
  have hv2' := hv2.below hb4
  have k5 := ((S3.kept hb4).boxes _ (by simp : (p5, #[Value.int .i64 x1, Value.int .i64 x2], 41) ∈ _))
  have c5 := k5.two
  have l5 := k5.lt
  have hr1 := (hr1'.below ((Below.refl _ _).alloc (Nat.le_refl _) (.cells #[.int .i64 r1, .int .i64 r2] 41)) (Nat.le_refl _)).mono (Nat.le_of_lt (by simp) : W4.heap.size ≤ (W4.alloc (.cells #[.int .i64 r1, .int .i64 r2] 41)).heap.size)
  have hv2 := hv2'.alloc (.cells #[.int .i64 r1, .int .i64 r2] 41)
  clear S3 hb4 hr1' hv2' k5 hnil1
  have m1 := mul_mil (by omega : 0 ≤ r1) (by omega : r1 ≤ 1000000) (by omega : 0 ≤ x2) (by omega : x2 ≤ 1000000)
  have m2 := mul_mil (by omega : 0 ≤ x1) (by omega : x1 ≤ 1000000) (by omega : 0 ≤ r2) (by omega : r2 ≤ 1000000)
  have hneq : (r1 * x2 != x1 * r2) = false := by
    rw [bne_eq_false_iff_eq, ← HG2.out, ← HG3.out]
    grind
  have t1 : ¬ r2 < 1 := by omega
  have t2 : ¬ r2 > x2 := by omega
  go_wp2_with fail
  clear c5 l5 m1 m2 hneq t1 t2
  generalize World.alloc W4 _ = V4 at *
  generalize W4.heap.size = p11 at *
  refine (HWP.out pa1 cap1 _ hr1).mono ?_
  rintro e W5 ⟨vu, rfl, hu, hb5⟩
  have S5 := S4.kept hb5
  have hv2' := hv2.below hb5
  clear S4 hr1 hv2 hb5 HWP
  obtain ⟨pa2, cap2, rfl, hc2, hr2⟩ := hv2'
  go_wp2_with fail
  refine (HWQ.out pa2 cap2 _ hr2).mono ?_
  rintro e V0 ⟨vq, rfl, hq, hb6⟩
  have S := S5.kept hb6
  have hu0 := hu.below hb6
  clear S5 hr2 hu hb6 HWQ
  have hql : qs.length = us.length := by rw [HFL.out, List.length_map]
  have HUK := hide (fun (W : World) (hb : Below V0.heap.size V0 W) => (hu0.below hb).at)
  have HQK := hide (fun (W : World) (hb : Below V0.heap.size V0 W) => (hq.below hb).at)
  obtain ⟨ua, ucap, rfl, -⟩ := hu0.at
  obtain ⟨qa, qcap, rfl, -⟩ := hq.at
  rw [hql]
  clear hu0 hq
  have hsl := sp
  go_upto_region 12 with (fail)
  have hlt1 : V0.heap.size < V0.heap.size + 1 := Nat.lt_succ_self _
  obtain ⟨X0, hX0⟩ : ∃ X, (V0.alloc (.cells #[.int .i64 0, .int .i64 1] 60)).alloc (.cells #[.int .i64 1, .int .i64 0] 60) = X := ⟨_, rfl⟩
  have L0 : PL V0 V0.heap.size (V0.heap.size + 1) 0 1 1 0 X0 := by
    rw [← hX0]
    exact ⟨(Blk.new V0 _ _).alloc _, by simpa using Blk.new (V0.alloc (.cells #[.int .i64 0, .int .i64 1] 60)) #[.int .i64 1, .int .i64 0] 60, ((Below.refl _ _).alloc (Nat.le_refl _) _).alloc (by simp) _⟩
  rw [hX0]
  clear hX0
  have HV0 := hide (Nat.le_refl V0.heap.size)
  generalize hp17 : V0.heap.size = p17 at L0 hlt1 ⊢
  generalize hp18 : p17 + 1 = p18 at L0 hlt1 ⊢
  have hp17' : V0.heap.size ≤ p17 := by omega
  have hp18' : V0.heap.size ≤ p18 := by omega
  clear hp17 hp18 HV0
  have SB0 := SB.start r1a r2a HCOP.out
  have hsub0 : us.drop 0 = sub r1 r2 := by
    rw [List.drop_zero, HSUB.out, ← HG2.out, ← HG3.out]
    exact sub_scale _ g r1 r2 hg1 r1a r2a (Nat.le_refl _)
  obtain ⟨n, hn⟩ : ∃ n, us.length = n := ⟨_, rfl⟩
  rw [hn] at hsl ⊢
  have HN := hide hn
  clear hn HCOP HSUB sp
  go_wp2_with fail
  go_loopw [19, 20, 21, 127] (fun _ _ _ i wr => ∃ (k : Nat) (a b c d y x : Int), k ≤ n ∧ i = .int .i64 k ∧ SB r1 r2 a b c d y x ∧ us.drop k = sub y x ∧ PL V0 p17 p18 a b c d wr) (fun _ _ _ i _ => n - (intOf i).toNat)
  case atStart => exact ⟨0, _, _, _, _, _, _, Nat.zero_le _, rfl, SB0, hsub0, L0⟩
  case round =>
    clear SB0 hsub0 L0
    obtain ⟨k, a, b, c, d, y, x, hk, rfl, hSB, hdrop, hL⟩ := hrel
    have HSB := hide hSB
    obtain ⟨ga, gb, gc, gd, gy, gx, -, -, -, -⟩ := hSB
    obtain ⟨gs1, gs2⟩ := HSB.out.sums
    have HDR := hide hdrop
    have hlz := hL.lo.lt
    have hhz := hL.hi.lt
    obtain ⟨k2, k3, k4, k5⟩ := hL.lo.two
    obtain ⟨k6, k7, k8, k9⟩ := hL.hi.two
    have S' := S.kept hL.be
    have c5 := (S'.boxes _ (by simp : (p5, #[Value.int .i64 x1, Value.int .i64 x2], 41) ∈ _)).two
    have z5 := (S'.boxes _ (by simp : (p5, #[Value.int .i64 x1, Value.int .i64 x2], 41) ∈ _)).lt
    clear hdrop
    by_cases hlt : k < n
    · have hlu : k < us.length := by rw [HN.out]; exact hlt
      have hlq : k < qs.length := by rw [hql]; exact hlu
      obtain ⟨_, _, eu, hku⟩ := HUK.out _ hL.be
      obtain ⟨_, _, eq', hkq⟩ := HQK.out _ hL.be
      injection eu with eu1 eu2 eu3
      injection eq' with eq1 eq2 eq3
      subst eu1 eu3 eq1 eq3
      obtain ⟨bu, ou, rfl, lu, cu⟩ := hku k hlu
      obtain ⟨bq, oq, rfl, lq', cq⟩ := hkq k hlq
      have hqv : qs.getD k false = !(us.getD k false) := by
        rw [HFL.out]
        simp [List.getD, hlu]
      rw [hqv] at cq
      have hdr : us.drop k = us.getD k false :: us.drop (k + 1) := by
        rw [List.drop_eq_getElem_cons hlu]
        simp [List.getD, hlu]
      have hstep := HDR.out
      rw [hdr, sub_eq gy gx] at hstep
      have hside := HSB.out.side g
      have hne : y ≠ x := by
        intro e
        rw [if_pos e] at hstep
        cases hstep
      rw [if_neg hne] at hstep
      generalize us.getD k false = ub at cu cq hstep
      have HST := hide hstep
      have HSD := hide hside
      have HM := hide hL
      clear eu2 eq2 hku hkq hqv hdr hstep hside hL HDR
      go_upto_region 16 with (fail)
      have hL1 := HM.out.kept ((Below.refl _ _).alloc (Nat.le_refl _) (.cells #[.int .i64 (a + c), .int .i64 (b + d)] 60))
      have c21 := Blk.new wr #[.int .i64 (a + c), .int .i64 (b + d)] 60
      clear k2 k3 k4 k5 k6 k7 k8 k9 c5 z5 cu lu hlz hhz
      have S'' := S.kept hL1.be
      have cq' := ((Below.refl wr.heap.size wr).alloc (Nat.le_refl _) (.cells #[.int .i64 (a + c), .int .i64 (b + d)] 60)).cell (p := ⟨bq, oq + k, none⟩) lq'
      rw [cq] at cq'
      clear cq lq' HM S'
      obtain ⟨m0, hm0⟩ : ∃ m, m = a + c := ⟨_, rfl⟩
      obtain ⟨m1, hm1⟩ : ∃ m, m = b + d := ⟨_, rfl⟩
      have gm0 : 0 ≤ m0 ∧ m0 ≤ 1000000 := by omega
      have gm1 : 0 ≤ m1 ∧ m1 ≤ 1000000 := by omega
      rw [← hm0, ← hm1] at hL1 c21 cq' S'' ⊢
      have HSD' := HSD.out
      rw [← hm0, ← hm1, HG2.out, HG3.out] at HSD'
      have HSR := hide (fun h => HSB.out.right h)
      have HSL := hide (fun h => HSB.out.left h)
      rw [← hm0, ← hm1] at HSR HSL
      clear hm0 hm1 HSD HSB ga gb gc gd gs1 gs2
      generalize World.alloc wr _ = X at *
      generalize wr.heap.size = p21 at *
      have hXL := hide hL1
      obtain ⟨k2, k3, k4, k5⟩ := hL1.lo.two
      obtain ⟨k6, k7, k8, k9⟩ := hL1.hi.two
      have hlz := hL1.lo.lt
      have hhz := hL1.hi.lt
      obtain ⟨k10, k11, -⟩ := c21.two
      have c5 := (S''.boxes _ (by simp : (p5, #[Value.int .i64 x1, Value.int .i64 x2], 41) ∈ _)).two
      have q1 := mul_mil gm0.1 gm0.2 (by omega : 0 ≤ x2) (by omega : x2 ≤ 1000000)
      have q2 := mul_mil (by omega : 0 ≤ x1) (by omega : x1 ≤ 1000000) gm1.1 gm1.2
      clear hL1 c21 S''
      rcases Int.lt_or_gt_of_ne hne with hyx | hyx
      · have hb : ub = false ∧ us.drop (k + 1) = sub y (x - y) := by
          have := HST.out
          rw [if_neg (by omega)] at this
          exact ⟨(List.cons_eq_cons.1 this).1, (List.cons_eq_cons.1 this).2⟩
        have hgt : x1 * m1 < m0 * x2 := by
          have : 0 < g * (x - y) := Int.mul_pos (by omega) (by omega)
          have e : g * (y - x) = - (g * (x - y)) := by grind
          omega
        have f1 : decide (m0 * x2 < x1 * m1) = false := by simp; omega
        have f2 : (m0 * x2 == x1 * m1) = false := by rw [beq_eq_false_iff_ne]; omega
        have HB2 := hide hb.2
        have hSB' := hide (HSL.out hyx)
        obtain rfl := hb.1
        clear hb HSR HSL HST HSD' hgt
        go_wp2_with fail
        go_roundw
        case rel => exact ⟨k + 1, a, b, m0, m1, y, x - y, by omega, by go_num, hSB'.out, HB2.out, hXL.out.setHi hp18' (by omega) m0 m1⟩
        case measure => simp [intOf]; omega
      · have hb : ub = true ∧ us.drop (k + 1) = sub (y - x) x := by
          have := HST.out
          rw [if_pos (by omega)] at this
          exact ⟨(List.cons_eq_cons.1 this).1, (List.cons_eq_cons.1 this).2⟩
        have hgt : m0 * x2 < x1 * m1 := by
          have : 0 < g * (y - x) := Int.mul_pos (by omega) (by omega)
          omega
        have f2 : (m0 * x2 == x1 * m1) = false := by rw [beq_eq_false_iff_ne]; omega
        have HB2 := hide hb.2
        have hSB' := hide (HSR.out hyx)
        obtain rfl := hb.1
        clear hb HSR HSL HST HSD'
        go_wp2_with fail
        go_roundw
        case rel => exact ⟨k + 1, m0, m1, c, d, y - x, x, by omega, by go_num, hSB'.out, HB2.out, hXL.out.setLo hp17' (by omega) m0 m1⟩
        case measure => simp [intOf]; omega
    · have hone : y = 1 ∧ x = 1 := HSB.out.one (by
        have e := HDR.out
        rw [List.drop_of_length_le (by rw [HN.out]; omega), sub_eq gy gx] at e
        by_cases h : y = x
        · exact h
        · rw [if_neg h] at e
          split at e <;> cases e)
      have hnd : a + c = r1 ∧ b + d = r2 := by
        obtain ⟨h1, h2⟩ := hone
        have e1 := HSB.out.num
        have e2 := HSB.out.den
        rw [h1, h2] at e1 e2
        omega
      have q1 := mul_mil (by omega : 0 ≤ a + c) (by omega : a + c ≤ 1000000) (by omega : 0 ≤ x2) (by omega : x2 ≤ 1000000)
      have q2 := mul_mil (by omega : 0 ≤ x1) (by omega : x1 ≤ 1000000) (by omega : 0 ≤ b + d) (by omega : b + d ≤ 1000000)
      have hneq : ((a + c) * x2 != x1 * (b + d)) = false := by
        rw [bne_eq_false_iff_eq, hnd.1, hnd.2, ← HG2.out, ← HG3.out]
        grind
      have c6 := (S'.boxes _ (by simp : (p6, #[Value.int .i64 y1, Value.int .i64 y2], 41) ∈ _)).two
      have HM := hide hL
      clear hone hnd hL
      go_wp2_with fail
      clear k2 k3 k4 k5 k6 k7 k8 k9 c5 z5 c6 q1 q2 hneq hlz hhz HSB ga gb gc gd gs1 gs2 gy gx HDR hlt HFL
      refine (part_any _ _ _).mono ?_
      rintro e W7 ⟨rfl, hb7⟩
      have S7' := S'.kept hb7
      have hV7 := hide (HM.out.be.trans (hb7.mono HM.out.be.size))
      have b6 := (S7'.boxes _ (by simp : (p6, #[Value.int .i64 y1, Value.int .i64 y2], 41) ∈ _))
      have c6 := b6.two
      have l6 := b6.lt
      have S7 := S7'.new #[.int .i64 (x1 + y1), .int .i64 (x2 + y2)] 41
      have hV7' := hide (hV7.out.alloc (hV7.out.size) (.cells #[.int .i64 (x1 + y1), .int .i64 (x2 + y2)] 41))
      clear S' S7' hb7 b6 HM hV7
      go_wp2_with fail
      clear c6 l6
      generalize World.alloc W7 _ = V7 at *
      generalize W7.heap.size = p22 at *
      refine (HP3.out _).mono ?_
      rintro e W8 ⟨v3, rfl, hv3, hb8⟩
      dsimp only
      have S8 := S7.kept hb8
      have hV8 := hide (hV7'.out.trans (hb8.mono hV7'.out.size))
      have c22 := (S8.boxes _ (by simp : (p22, #[Value.int .i64 (x1 + y1), Value.int .i64 (x2 + y2)], 41) ∈ _)).two
      clear S7 hb8 hV7'
      go_wp2_with fail
      clear c22
      refine (HP4.out _).mono ?_
      rintro e W9 ⟨v4, rfl, hv4, hb9⟩
      dsimp only
      have S9 := S8.kept hb9
      have hV9 := hide (hV8.out.trans (hb9.mono hV8.out.size))
      have hv3' := hv3.below hb9
      clear S8 hb9 hV8 hv3
      obtain ⟨pa3, cap3, rfl, -, hr3⟩ := hv3'
      go_wp2_with fail
      refine (HWS.out pa3 cap3 _ hr3).mono ?_
      rintro e W10 ⟨vw, rfl, hw, hb10⟩
      have S10 := S9.kept hb10
      have hV10 := hide (hV9.out.trans (hb10.mono hV9.out.size))
      have hv4' := hv4.below hb10
      clear S9 hb10 hV9 hv4 hr3
      obtain ⟨pa4, cap4, rfl, -, hr4⟩ := hv4'
      go_wp2_with fail
      refine (HWT.out pa4 cap4 _ hr4).mono ?_
      rintro e W11 ⟨vz, rfl, hz, hb11⟩
      have S11 := S10.kept hb11
      have hV11 := hide (hV10.out.trans (hb11.mono hV10.out.size))
      have hw' := hw.below hb11
      clear S10 hb11 hV10 hw hr4
      have HUK' := hide (HUK.out _ hV11.out)
      have HWK := hide hw'.at
      have HZK := hide hz.at
      obtain ⟨wa, wcap, rfl, -⟩ := hw'.at
      obtain ⟨za, zcap, rfl, -⟩ := hz.at
      have hwl := ss
      have hzl := st
      generalize hwn : ws.length = wn at hwl ⊢
      generalize hzn : zs.length = zn at hzl ⊢
      have HWN := hide hwn
      have HZN := hide hzn
      clear hw' hz HUK HQK hwn hzn HP1 HP2 HP3 HP4 HFO HWS HWT ss st hql sq
      go_wp2_with fail
      go_loopw [27, 245] (fun _ i wr => ∃ (k m : Nat), k ≤ n ∧ i = .int .i64 k ∧ Hid (∀ j, j < k → us[j]? = ws[j]?) ∧ wr = W11.drewN m) (fun _ i _ => n - (intOf i).toNat)
      case atStart => exact ⟨0, 0, Nat.zero_le _, rfl, hide (fun j hj => by omega), rfl⟩
      case round =>
        obtain ⟨k, m, hk, rfl, HEQ, rfl⟩ := hrel
        by_cases hlt : k < n
        · have hlu : k < us.length := by rw [HN.out]; exact hlt
          obtain ⟨_, _, eu, hku⟩ := HUK'.out
          injection eu with eu1 eu2 eu3
          subst eu1 eu3
          obtain ⟨bu, ou, rfl, lu, cu⟩ := hku k hlu
          have hub : us[k]? = some (us.getD k false) := by simp [List.getD, hlu]
          generalize us.getD k false = ub at cu hub
          have HUB := hide hub
          clear eu2 hku hub
          by_cases hkw : k < wn
          · have hlw : k < ws.length := by rw [HWN.out]; exact hkw
            obtain ⟨_, _, ew, hkw2⟩ := HWK.out
            injection ew with ew1 ew2 ew3
            subst ew1 ew3
            obtain ⟨bw, ow, rfl, lw, cw⟩ := hkw2 k hlw
            have hwb : ws[k]? = some (ws.getD k false) := by simp [List.getD, hlw]
            generalize ws.getD k false = wb at cw hwb
            have HWB := hide hwb
            have d1 : decide (wn ≤ k) = false := by simp; omega
            clear ew2 hkw2 hwb
            by_cases he : wb = ub
            · subst he
              have hzk := HPRE.out k wb HEQ.out HUB.out HWB.out
              have hkz : k < zn := by
                rw [← HZN.out]
                exact (List.getElem?_eq_some_iff.1 hzk).1
              obtain ⟨_, _, ez, hkz2⟩ := HZK.out
              injection ez with ez1 ez2 ez3
              subst ez1 ez3
              obtain ⟨bz, oz, rfl, lz, cz⟩ := hkz2 k (by rw [HZN.out]; exact hkz)
              have hzb : zs.getD k false = wb := by simp [List.getD, hzk]
              rw [hzb] at cz
              have d2 : decide (zn ≤ k) = false := by simp; omega
              have HEQ' := hide (fun j (hj : j < k + 1) => (by
                by_cases e : j = k
                · rw [e, HUB.out, HWB.out]
                · exact HEQ.out j (by omega) : us[j]? = ws[j]?))
              have hbb : (wb != wb) = false := by simp
              clear ez2 hkz2 hzb hzk
              go_wp2_with fail
              go_big_quiet (fail)
              go_wp2_with fail
              go_big_quiet (fail)
              go_wp2_with fail
              go_roundw
              case rel => exact ⟨k + 1, _, by omega, by go_num, HEQ', rfl⟩
              case measure => simp [intOf]; omega
            · have hbb : (wb != ub) = true := by simp [he]
              have hbc : (wb == ub) = false := by simp [he]
              go_wp2_with fail
              go_big_quiet (fail)
              clear hbb hbc he
              go_wp2_with fail
              refine (works_any _).mono ?_
              rintro e W12 ⟨rfl, hb12⟩
              go_wp2_with fail
              go_ret
              exact ⟨rfl, (below_drewN S11.be _).trans (hb12.mono S11.be.size)⟩
          · have d1 : decide (wn ≤ k) = true := by simp; omega
            go_wp2_with fail
            go_big_quiet (fail)
            go_wp2_with fail
            refine (works_any _).mono ?_
            rintro e W12 ⟨rfl, hb12⟩
            go_wp2_with fail
            go_ret
            exact ⟨rfl, (below_drewN S11.be _).trans (hb12.mono S11.be.size)⟩
        · go_wp2_with fail
          refine (works_any _).mono ?_
          rintro e W12 ⟨rfl, hb12⟩
          go_wp2_with fail
          go_ret
          exact ⟨rfl, (below_drewN S11.be _).trans (hb12.mono S11.be.size)⟩

end Go.Proofs.Ytjgebepeghgmcaa
