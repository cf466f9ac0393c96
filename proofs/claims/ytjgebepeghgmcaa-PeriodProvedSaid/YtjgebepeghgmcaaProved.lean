/-
  PeriodProved: the walk.
-/
import Derived.Test.YtjgebepeghgmcaaWatch4
namespace Go.Proofs.Ytjgebepeghgmcaa
open Go.RowKit Go.Shelf
set_option linter.unusedVariables false
set_option linter.unusedSimpArgs false

theorem pairOk_low {l : PLog} {cs : List Int} (hlen : cs.length + 1 = l.ps.length) (h0 : 0 < cs.length) : pairOk (((lowOf l.ps cs).1 : Int), ((lowOf l.ps cs).2 : Int)) l.ps.length = true ∧ pairOk (((highOf l.ps cs).1 : Int), ((highOf l.ps cs).2 : Int)) l.ps.length = true := by
  have h1 := lowOf_mem (ps := l.ps) h0
  have h2 := highOf_mem (ps := l.ps) h0
  unfold pairOk
  constructor <;> simp <;> omega
theorem verify_ends {l : PLog} {cs : List Int} (hl : LOk l) (hc : COk l cs) (hcd : countedL l cs = 0) (hlen : cs.length + 1 = l.ps.length) (h0 : 0 < cs.length) :
    verifyR l cs (((lowOf l.ps cs).1 : Int), ((lowOf l.ps cs).2 : Int)) (((highOf l.ps cs).1 : Int), ((highOf l.ps cs).2 : Int)) = cond (possible l cs) 12 0 := by
  obtain ⟨k1, k2⟩ := pairOk_low hlen h0
  have e1 : natPair (((lowOf l.ps cs).1 : Int), ((lowOf l.ps cs).2 : Int)) = lowOf l.ps cs := by simp [natPair]
  have e2 : natPair (((highOf l.ps cs).1 : Int), ((highOf l.ps cs).2 : Int)) = highOf l.ps cs := by simp [natPair]
  have h1 := lowOf_mem (ps := l.ps) h0
  have h2 := highOf_mem (ps := l.ps) h0
  rcases verify_pairs hcd k1 k2 with ⟨e, ha⟩ | ⟨e, ha⟩
  · rw [e1, e2] at ha
    rw [e, agree_possible hl ha]
    rfl
  · rw [e1, e2] at ha
    cases hp : possible l cs with
    | true => exact absurd (possible_agree hl hc hp h1 h2) ha
    | false => rw [e]; rfl
/-- What other pairs are accepted: none that is false. -/
theorem verify_other {l : PLog} {cs : List Int} (hl : LOk l) (hc : COk l cs) (hcd : countedL l cs = 0) (hlen : cs.length + 1 = l.ps.length) (p q : Int × Int) (hp : 0 ≤ p.1 ∧ p.1 < p.2) (hq : 0 ≤ q.1 ∧ q.1 < q.2) :
    ((l.ps.length : Int) ≤ p.2 ∧ verifyR l cs p q = 5) ∨ (p.2 < l.ps.length ∧ (l.ps.length : Int) ≤ q.2 ∧ verifyR l cs p q = 5) ∨ (p.2 < l.ps.length ∧ q.2 < l.ps.length ∧ verifyR l cs p q = 12) ∨ (p.2 < l.ps.length ∧ q.2 < l.ps.length ∧ verifyR l cs p q = 0 ∧ possible l cs = false) := by
  by_cases h1 : (l.ps.length : Int) ≤ p.2
  · left
    refine ⟨h1, ?_⟩
    unfold verifyR
    rw [if_neg (by rw [hcd]; simp), if_pos (.inl (by unfold pairOk; simp; omega))]
  by_cases h2 : (l.ps.length : Int) ≤ q.2
  · right; left
    refine ⟨by omega, h2, ?_⟩
    unfold verifyR
    rw [if_neg (by rw [hcd]; simp), if_pos (.inr (by unfold pairOk; simp; omega))]
  have k1 : pairOk p l.ps.length = true := by unfold pairOk; simp; omega
  have k2 : pairOk q l.ps.length = true := by unfold pairOk; simp; omega
  rcases verify_pairs hcd k1 k2 with ⟨e, ha⟩ | ⟨e, ha⟩
  · right; right; left
    exact ⟨by omega, by omega, e⟩
  · right; right; right
    refine ⟨by omega, by omega, e, ?_⟩
    cases hpo : possible l cs with
    | false => rfl
    | true =>
      have n1 : (natPair p).1 < (natPair p).2 ∧ (natPair p).2 ≤ cs.length := by unfold natPair; dsimp only; omega
      have n2 : (natPair q).1 < (natPair q).2 ∧ (natPair q).2 ≤ cs.length := by unfold natPair; dsimp only; omega
      exact absurd (possible_agree hl hc hpo n1 n2) ha

theorem tab_cells {W : World} {p : Nat} (h : Blk W p #[.int .i64 0, .int .i64 1, .int .i64 0, .int .i64 2, .int .i64 1, .int .i64 2] 60) (r : Nat) (hr : r < 3) :
    ∃ a b : Int, W.cell? ⟨p, r * 2, none⟩ = some (.int .i64 a) ∧ W.cell? ⟨p, r * 2 + 1, none⟩ = some (.int .i64 b) ∧ 0 ≤ a ∧ a < b ∧ b ≤ 2 := by
  have h3 : r = 0 ∨ r = 1 ∨ r = 2 := by omega
  rcases h3 with rfl | rfl | rfl
  · exact ⟨0, 1, h.cell 0, h.cell 1, by omega⟩
  · exact ⟨0, 2, h.cell 2, h.cell 3, by omega⟩
  · exact ⟨1, 2, h.cell 4, h.cell 5, by omega⟩

attribute [local go_sem] grows growAt growUpon in
set_option maxRecDepth 100000 in
set_option maxHeartbeats 4000000 in
theorem pproved_any (x : WNum) (c0 c1 q0 q1 : Int) (w : World) (hx : x.Ok) (h1 : 0 ≤ c0 ∧ c0 ≤ 255) (h2 : 0 ≤ c1 ∧ c1 ≤ 255) (h3 : 0 ≤ q0 ∧ q0 ≤ 255) (h4 : 0 ≤ q1 ∧ q1 ≤ 255) :
    Calls Try.prog 6 #[x.val, .agg #[.int .u8 c0, .int .u8 c1], .agg #[.int .u8 q0, .int .u8 q1]] w fun e w' => e = .returned (.bool true) ∧ Below w.heap.size w w' := by
  have HX := hide hx
  have hmade := fun W => made_any x W hx
  have HV : Hid (x.val = .agg #[.int .u8 x.p0, .int .u8 x.p1, .int .u8 (x.t 0), .int .u8 (x.t 1), .int .u8 (x.t 2), .int .u8 (x.t 3), .int .u8 (x.t 4), .int .u8 (x.t 5), .bool x.two]) := hide rfl
  simp only [HV.out] at hmade
  have HMADE := hide hmade
  rw [HV.out]
  clear hx hmade HV
  go_enter Try.func6, Try.ntmps6
  go_wp2_with fail
  generalize hW : World.alloc (World.alloc (World.alloc w _) _) _ = V
  have hB : Below w.heap.size w V := by rw [← hW]; exact (((Below.refl _ _).alloc (Nat.le_refl _) _).alloc (by simp) _).alloc (by simp; omega) _
  have k1 : Blk V (w.heap.size + 1) #[.int .u8 c0, .int .u8 c1] 50 := by rw [← hW]; exact (by simpa using Blk.new (World.alloc w _) _ _ : Blk _ (w.heap.size + 1) _ _).alloc _
  have k2 : Blk V (w.heap.size + 1 + 1) #[.int .u8 q0, .int .u8 q1] 50 := by rw [← hW]; exact (by simpa using Blk.new (World.alloc (World.alloc w _) _) _ _)
  have S0 : BSt w [(w.heap.size + 1, #[.int .u8 c0, .int .u8 c1], 50), (w.heap.size + 1 + 1, #[.int .u8 q0, .int .u8 q1], 50)] V := ⟨hB, fun p hp => by
    rcases List.mem_cons.1 hp with rfl | hp
    · exact k1
    · obtain rfl := List.mem_singleton.1 hp
      exact k2⟩
  clear hW hB k1 k2
  refine (HMADE.out _).mono ?_
  rintro e W1 ⟨ad, cap, rfl, hcap, hr1, hb1⟩
  have S1 := (S0.kept hb1)
  clear S0 hb1
  obtain ⟨m, hm⟩ : ∃ m, x.n = m + 1 := ⟨x.n - 1, by have := x.n_is; omega⟩
  have hm2 : 1 ≤ m ∧ m ≤ 2 := by have := x.n_is; omega
  rw [hm] at hcap ⊢
  have HM := hide hm
  clear hm
  have i3 : IntKind.i64.wrap (((m + 1 : Nat) : Int) - 1) = (m : Int) := by rw [IntWalk.i64_in _ (by omega)]; omega
  have v1 := (S1.boxes _ (by simp : (w.heap.size + 1, #[Value.int .u8 c0, Value.int .u8 c1], 50) ∈ _))
  have u1 := v1.two
  have z1 := v1.lt
  have i1 : IntKind.i64.wrap c0 = c0 := IntWalk.i64_in _ (by omega)
  have i2 : IntKind.i64.wrap c1 = c1 := IntWalk.i64_in _ (by omega)
  go_wp2_with fail
  have g0 : 1 ≤ 1 + c0 % 4 ∧ 1 + c0 % 4 ≤ 4 := by omega
  have g1 : 1 ≤ 1 + c1 % 2 ∧ 1 + c1 % 2 ≤ 2 := by omega
  generalize 1 + c0 % 4 = k0 at *
  generalize 1 + c1 % 2 = k1 at *
  obtain ⟨cs, hcs⟩ : ∃ cs, cs = [k0, k1].take m := ⟨_, rfl⟩
  have hml : m = cs.length := by rw [hcs]; simp; omega
  have hsix := CSix.six_ok HX.out (cs := cs) ⟨by rw [HM.out]; omega, fun c hc => by
    rw [hcs] at hc
    have := List.mem_of_mem_take hc
    simp at this
    omega, by
    have h := (sum_append_pos ([k0, k1].take m) ([k0, k1].drop m) (by rw [List.take_append_drop]; intro c hc; simp at hc; omega)).1
    rw [List.take_append_drop] at h
    rw [hcs]
    simp at h ⊢
    omega⟩
  have HSIX := hide hsix
  have hc1 := (Blk.new (W1.alloc (.cells #[.int .i64 x.lo, .int .i64 x.hi, .slice (some ad) (m + 1) cap] 26)) #[.int .i64 k0, .int .i64 k1] 3).row rfl
  have hc2 := hc1.cut 0 m
  have ecs : (([Value.int .i64 k0, .int .i64 k1]).drop 0).take (m - 0) = ints cs := by rw [hcs, List.drop_zero, Nat.sub_zero]; simp [ints, List.map_take]
  have S2 := (S1.new #[.int .i64 x.lo, .int .i64 x.hi, .slice (some ad) (m + 1) cap] 26).alloc (.cells #[.int .i64 k0, .int .i64 k1] 3)
  rw [show List.take (m - 0) (List.drop 0 #[Value.int .i64 k0, .int .i64 k1].toList) = ints cs from ecs] at hc2
  simp only [World.size_alloc, Option.map_some, Addr.add, Nat.zero_add, if_true] at hc2
  have hr2 := (((hr1.below ((Below.refl _ _).alloc (Nat.le_refl _) (.cells #[.int .i64 x.lo, .int .i64 x.hi, .slice (some ad) (m + 1) cap] 26)) (Nat.le_refl _)).mono (Nat.le_of_lt (by simp) : W1.heap.size ≤ (W1.alloc (.cells #[.int .i64 x.lo, .int .i64 x.hi, .slice (some ad) (m + 1) cap] 26)).heap.size)).below ((Below.refl _ _).alloc (Nat.le_refl _) (.cells #[.int .i64 k0, .int .i64 k1] 3)) (Nat.le_refl _))
  have hpl : m + 1 = x.log.ps.length := by rw [← HM.out]; exact (x.ps_len _).symm
  have hr3 := hr2.mono (Nat.le_of_lt (by simp) : (W1.alloc (.cells #[.int .i64 x.lo, .int .i64 x.hi, .slice (some ad) (m + 1) cap] 26)).heap.size ≤ ((W1.alloc (.cells #[.int .i64 x.lo, .int .i64 x.hi, .slice (some ad) (m + 1) cap] 26)).alloc (.cells #[.int .i64 k0, .int .i64 k1] 3)).heap.size)
  have hc3 := hc2.mono (by simp : W1.heap.size + 1 + 1 ≤ ((W1.alloc (.cells #[.int .i64 x.lo, .int .i64 x.hi, .slice (some ad) (m + 1) cap] 26)).alloc (.cells #[.int .i64 k0, .int .i64 k1] 3)).heap.size)
  have hlh := x.lo_hi HX.out
  clear hr1 hr2 hc1 hc2 ecs v1 u1 z1 i1 i2 i3 S1 HMADE
  generalize World.alloc (World.alloc W1 _) _ = V2 at *
  generalize W1.heap.size = p7 at *
  generalize hca : (⟨p7 + 1, 0, none⟩ : Addr) = ca at *
  have HPL := hide hpl
  have HML := hide hml
  have HCS := hide hcs
  clear hca hcs hsix hpl hml
  refine (tried_any x.lo x.hi x.log.ps cs _ _ _ cap _ 2 V2 (by omega) hlh.2.1 (by omega) HPL.out HML.out HSIX.out.w hr3 hc3).mono ?_
  rintro e W3 ⟨tl, tg, is, rfl, hTI, hb3⟩
  have HPOS := hide (HSIX.out.found hTI).1
  have S3 := S2.kept hb3
  have hr4 := (hr3.below hb3 (Nat.le_refl _)).mono hb3.size
  have hc4 := (hc3.below hb3 (Nat.le_refl _)).mono hb3.size
  have v7 := (S3.boxes _ (by simp : (p7, #[Value.int .i64 x.lo, Value.int .i64 x.hi, Value.slice (some ad) (m + 1) cap], 26) ∈ _))
  have u7 := v7.three
  have z7 := v7.lt
  clear S2 hr3 hc3 hb3 hTI
  go_wp2_with fail
  obtain ⟨lo1, lo2, hlow⟩ : ∃ a b, lowOf x.log.ps cs = (a, b) := ⟨_, _, rfl⟩
  obtain ⟨hi1, hi2, hhigh⟩ : ∃ a b, highOf x.log.ps cs = (a, b) := ⟨_, _, rfl⟩
  have hbd : boundsR x.log cs = (((lo1 : Int), (lo2 : Int)), ((hi1 : Int), (hi2 : Int)), 0) := by
    unfold boundsR
    rw [if_neg (by rw [countedL_of HSIX.out.lok HSIX.out.cok (by rw [← HPL.out, ← HML.out])]; simp), hlow, hhigh]
  refine (boundsF_any x.log cs _ _ _ cap _ 2 W3 HPL.out HML.out (by omega) (by omega) hm2.2 hr4 hc4).mono ?_
  rw [hbd]
  rintro e W4 ⟨rfl, hb4⟩
  dsimp only
  have S4 := ((S3.kept hb4).new #[.int .i64 (lo1 : Int), .int .i64 (lo2 : Int)] 60).new #[.int .i64 (hi1 : Int), .int .i64 (hi2 : Int)] 60
  have hr5 := (hr4.below hb4 (Nat.le_refl _)).mono hb4.size
  have hc5 := (hc4.below hb4 (Nat.le_refl _)).mono hb4.size
  clear S3 hr4 hc4 hb4 v7 u7 z7
  have v7 := (S4.boxes _ (by simp : (p7, #[Value.int .i64 x.lo, Value.int .i64 x.hi, Value.slice (some ad) (m + 1) cap], 26) ∈ _))
  have u7 := v7.three
  have z7 := v7.lt
  have hcdl := countedL_of HSIX.out.lok HSIX.out.cok (by rw [← HPL.out, ← HML.out])
  have HVE : Hid (verifyR x.log cs ((lo1 : Int), (lo2 : Int)) ((hi1 : Int), (hi2 : Int)) = cond is 12 0) := by
    have h := verify_ends HSIX.out.lok HSIX.out.cok hcdl (by rw [← HPL.out, ← HML.out]) (by rw [← HML.out]; omega)
    rw [hlow, hhigh, ← HPOS.out] at h
    exact hide h
  have HOT := hide (fun (p q : Int × Int) => verify_other (p := p) (q := q) HSIX.out.lok HSIX.out.cok hcdl (by rw [← HPL.out, ← HML.out]))
  have HLOW := hide hlow
  have HHIGH := hide hhigh
  have HBD := hide hbd
  have HCDL := hide hcdl
  clear hlow hhigh hbd hcdl
  have hr6 : Row ((W4.alloc (.cells #[.int .i64 (lo1 : Int), .int .i64 (lo2 : Int)] 60)).alloc (.cells #[.int .i64 (hi1 : Int), .int .i64 (hi2 : Int)] 60)) W4.heap.size (some ad) (spans x.log.ps) := hr5.below (((Below.refl _ _).alloc (Nat.le_refl _) _).alloc (by simp) _) (Nat.le_refl _)
  have hc6 : Row ((W4.alloc (.cells #[.int .i64 (lo1 : Int), .int .i64 (lo2 : Int)] 60)).alloc (.cells #[.int .i64 (hi1 : Int), .int .i64 (hi2 : Int)] 60)) W4.heap.size (some ca) (ints cs) := hc5.below (((Below.refl _ _).alloc (Nat.le_refl _) _).alloc (by simp) _) (Nat.le_refl _)
  have hr7 := hr6.mono (by simp; omega : W4.heap.size ≤ ((W4.alloc (.cells #[.int .i64 (lo1 : Int), .int .i64 (lo2 : Int)] 60)).alloc (.cells #[.int .i64 (hi1 : Int), .int .i64 (hi2 : Int)] 60)).heap.size)
  have hc7 := hc6.mono (by simp; omega : W4.heap.size ≤ ((W4.alloc (.cells #[.int .i64 (lo1 : Int), .int .i64 (lo2 : Int)] 60)).alloc (.cells #[.int .i64 (hi1 : Int), .int .i64 (hi2 : Int)] 60)).heap.size)
  clear hr5 hc5 hr6 hc6
  cases is
  all_goals
    go_wp2_with fail
    refine (verify_any x.log cs ((lo1 : Int), (lo2 : Int)) ((hi1 : Int), (hi2 : Int)) _ _ _ cap _ 2 _ HPL.out HML.out (by omega) (by omega) hm2.2 hr7 hc7).mono ?_
    rw [HVE.out]
    rintro e W5 ⟨rfl, hb5⟩
    have S5 := S4.kept hb5
    have hr8 := (hr7.below hb5 (Nat.le_refl _)).mono hb5.size
    have hc8 := (hc7.below hb5 (Nat.le_refl _)).mono hb5.size
    clear S4 hr7 hc7 hb5 v7 u7 z7
    have v7 := (S5.boxes _ (by simp : (p7, #[Value.int .i64 x.lo, Value.int .i64 x.hi, Value.slice (some ad) (m + 1) cap], 26) ∈ _))
    have u7 := v7.three
    have z7 := v7.lt
    dsimp only [cond_true, cond_false]
    go_wp2_with fail
    have S6 := S5.new #[.int .i64 0, .int .i64 1, .int .i64 0, .int .i64 2, .int .i64 1, .int .i64 2] 60
    have hr9 : Row (W5.alloc (.cells #[.int .i64 0, .int .i64 1, .int .i64 0, .int .i64 2, .int .i64 1, .int .i64 2] 60)) W5.heap.size (some ad) (spans x.log.ps) := hr8.below ((Below.refl _ _).alloc (Nat.le_refl _) _) (Nat.le_refl _)
    have hc9 : Row (W5.alloc (.cells #[.int .i64 0, .int .i64 1, .int .i64 0, .int .i64 2, .int .i64 1, .int .i64 2] 60)) W5.heap.size (some ca) (ints cs) := hc8.below ((Below.refl _ _).alloc (Nat.le_refl _) _) (Nat.le_refl _)
    have hr10 := hr9.mono (by simp : W5.heap.size ≤ (W5.alloc (.cells #[.int .i64 0, .int .i64 1, .int .i64 0, .int .i64 2, .int .i64 1, .int .i64 2] 60)).heap.size)
    have hc10 := hc9.mono (by simp : W5.heap.size ≤ (W5.alloc (.cells #[.int .i64 0, .int .i64 1, .int .i64 0, .int .i64 2, .int .i64 1, .int .i64 2] 60)).heap.size)
    clear S5 hr8 hc8 hr9 hc9 u7 z7
    generalize World.alloc W5 _ = V6 at *
    generalize W5.heap.size = p16 at *
    clear v7
    have b16 : Blk V6 p16 _ _ := (S6.boxes _ (by simp : (p16, #[Value.int .i64 0, .int .i64 1, .int .i64 0, .int .i64 2, .int .i64 1, .int .i64 2], 60) ∈ _))
    have bq : Blk V6 (w.heap.size + 1 + 1) _ _ := (S6.boxes _ (by simp : (w.heap.size + 1 + 1, #[Value.int .u8 q0, Value.int .u8 q1], 50) ∈ _))
    obtain ⟨r0, hr0, hr03, hm0⟩ : ∃ r0 : Nat, q0.tmod 3 = (r0 : Int) ∧ r0 < 3 ∧ q0 % 3 = (r0 : Int) := ⟨(q0 % 3).toNat, by rw [Int.tmod_eq_emod_of_nonneg (by omega)]; omega, by omega, by omega⟩
    obtain ⟨r1, hr1, hr13, hm1⟩ : ∃ r1 : Nat, q1.tmod 3 = (r1 : Int) ∧ r1 < 3 ∧ q1 % 3 = (r1 : Int) := ⟨(q1 % 3).toNat, by rw [Int.tmod_eq_emod_of_nonneg (by omega)]; omega, by omega, by omega⟩
    obtain ⟨a0, a1, hca0, hca1, ha⟩ := tab_cells b16 r0 hr03
    obtain ⟨b0, b1, hcb0, hcb1, hb⟩ := tab_cells b16 r1 hr13
    have z16 := b16.lt
    have zq := bq.lt
    obtain ⟨cq0, cq1, -⟩ := bq.two
    have i1 : IntKind.i64.wrap q0 = q0 := IntWalk.i64_in _ (by omega)
    have i2 : IntKind.i64.wrap q1 = q1 := IntWalk.i64_in _ (by omega)
    have i3 : IntKind.i64.wrap (r0 : Int) = r0 := IntWalk.i64_in _ (by omega)
    have i4 : IntKind.i64.wrap (r1 : Int) = r1 := IntWalk.i64_in _ (by omega)
    have l0 : (r0 : Int) < 3 := by omega
    have l1 : (r1 : Int) < 3 := by omega
    have hX := @Ext.cell V6
    refine wp_region_pair (.int .i64 0) (.int .i64 0) (.int .i64 a0) (.int .i64 a1) #[.int .i64 0, .int .i64 0] 60 60 17 18 14 _ (by kernel_rfl) (by kernel_rfl) (by decide)
      ⟨_, rfl, rfl, rfl, (by intro cs b h; cases h), fun ev w => by simp [go_sem]⟩ ⟨_, rfl, rfl, rfl, (by intro cs b h; cases h), fun ev w => by simp [go_sem]⟩ rfl rfl rfl ?_
    simp only [List.take_succ_cons, List.take_zero, List.drop_succ_cons, List.drop_zero]
    repeat (refine wpGrow_step (fun K hK => ?_); go_simp; (refine hK _ ?_; clear hK K))
    refine wpGrow_nil ?_
    intro p1 p2 hb1 hb2 hb12
    refine ⟨fun w' hbw bk1 => ?_, fun w' hbw bk1 bk2 => ?_⟩
    · obtain ⟨e1, e2, e3, e4⟩ := bk1.two
      simp only [Act.put, List.setIfInBounds_toArray, List.set_cons_zero, List.set_cons_succ]
      unfold StoresAt
      go_simp
    · simp only [Act.put, List.setIfInBounds_toArray, List.set_cons_zero, List.set_cons_succ]
      clear l0 l1 hX cq0 cq1 i1 i2 i3 i4 hca0 hca1 hcb0 hcb1 b16 bq z16 zq hr0 hr1 hm0 hm1 hr03 hr13
      have S7 := S6.kept hbw
      have v7 := (S7.boxes _ (by simp : (p7, #[Value.int .i64 x.lo, Value.int .i64 x.hi, Value.slice (some ad) (m + 1) cap], 26) ∈ _))
      have z7 : p7 < V6.heap.size := (S6.boxes _ (by simp : (p7, #[Value.int .i64 x.lo, Value.int .i64 x.hi, Value.slice (some ad) (m + 1) cap], 26) ∈ _)).lt
      have u7 := v7.three
      obtain ⟨e1, e2, e3, e4⟩ := bk2.two
      obtain ⟨d1, d2, -⟩ := bk1.two
      have n1 : ¬ p1 = p2 := hb12
      have n2 : ¬ p2 = p1 := fun e => hb12 e.symm
      have n7 : ¬ p7 = p2 := by omega
      go_wp2_with fail
      have t1 := bk1.other2 (k := p2) hb12 (.int .i64 b0) (.int .i64 b1)
      have t2 := bk2.set2 (.int .i64 b0) (.int .i64 b1)
      have t7 := v7.other2 (k := p2) n7 (.int .i64 b0) (.int .i64 b1)
      have hBV := below_set2 hbw (k := p2) hb2 (.int .i64 b0) (.int .i64 b1)
      have hBZ := S6.be.trans (hBV.mono S6.be.size)
      have hrZ := (hr10.below hBV (Nat.le_refl _)).mono hBV.size
      have hcZ := (hc10.below hBV (Nat.le_refl _)).mono hBV.size
      clear S7 hbw hr10 hc10 S6 hBV bk1 bk2 v7 u7 e1 e2 e3 e4 d1 d2
      generalize World.setCell (World.setCell w' _ _) _ _ = Z at *
      refine (verify_any x.log cs (a0, a1) (b0, b1) _ _ _ cap _ 2 _ HPL.out HML.out (by omega) (by omega) hm2.2 hrZ hcZ).mono ?_
      rintro e W8 ⟨rfl, hb8⟩
      have hB8 := hBZ.trans (hb8.mono hBZ.size)
      obtain ⟨d1, d2, -⟩ := (t1.kept hb8).two
      obtain ⟨e1, e2, -⟩ := (t2.kept hb8).two
      have u7 := (t7.kept hb8).three
      clear t1 t2 t7 hrZ hcZ hb8 hBZ
      have hpl' : (x.log.ps.length : Int) = (m : Int) + 1 := by rw [← HPL.out]; omega
      have hz8 := hB8.size
      rcases HOT.out (a0, a1) (b0, b1) ⟨ha.1, ha.2.1⟩ ⟨hb.1, hb.2.1⟩ with ⟨o1, ev⟩ | ⟨o1, o2, ev⟩ | ⟨o1, o2, ev⟩ | ⟨o1, o2, ev, hpo⟩
      all_goals
        try dsimp only at ev
        rw [hpl'] at o1
        try rw [hpl'] at o2
        try dsimp only at o1
        try dsimp only at o2
        rw [ev]
        clear ev hpl'
      · go_wp2_with (go_at_call 13; refine (works_any _).mono ?_; rintro e W9 ⟨rfl, hb9⟩)
        go_ret
        exact ⟨rfl, hB8.trans (hb9.mono hz8)⟩
      · have o1' : decide ((m : Int) + 1 ≤ a1) = false := by simp; omega
        go_wp2_with (go_at_call 13; refine (works_any _).mono ?_; rintro e W9 ⟨rfl, hb9⟩)
        go_ret
        exact ⟨rfl, hB8.trans (hb9.mono hz8)⟩
      · have o1' : decide ((m : Int) + 1 ≤ a1) = false := by simp; omega
        have o2' : decide ((m : Int) + 1 ≤ b1) = false := by simp; omega
        go_wp2_with (go_at_call 13; refine (works_any _).mono ?_; rintro e W9 ⟨rfl, hb9⟩)
        go_ret
        exact ⟨rfl, hB8.trans (hb9.mono hz8)⟩
      · first
          | (have hab := HPOS.out.trans hpo
             cases hab
             done)
          | (have o1' : decide ((m : Int) + 1 ≤ a1) = false := by simp; omega
             have o2' : decide ((m : Int) + 1 ≤ b1) = false := by simp; omega
             clear hpo
             go_wp2_with (go_at_call 13; refine (works_any _).mono ?_; rintro e W9 ⟨rfl, hb9⟩)
             go_ret
             exact ⟨rfl, hB8.trans (hb9.mono hz8)⟩)

end Go.Proofs.Ytjgebepeghgmcaa
