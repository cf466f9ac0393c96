/-
  The law's own examples: works answers true.
-/
import Derived.Test.YtjgebepeghgmcaaLaw2
import Derived.Test.YtjgebepeghgmcaaMono
namespace Go.Proofs.Ytjgebepeghgmcaa
open Go.RowKit Go.Shelf
set_option linter.unusedVariables false
set_option linter.unusedSimpArgs false

structure WSt (w : World) (v1 : Value) (bs : List (Nat × Array Value × TypeId)) (W : World) : Prop where
  be : Below w.heap.size w W
  rows : Rows2 W v1 [[4, 6], [5, 7]]
  boxes : Boxes W bs
theorem WSt.kept {w W W' : World} {v1 : Value} {bs : List (Nat × Array Value × TypeId)} (h : WSt w v1 bs W) (hb : Below W.heap.size W W') : WSt w v1 bs W' :=
  ⟨h.be.trans (hb.mono h.be.size), h.rows.below hb, h.boxes.kept hb⟩
theorem WSt.alloc {w W : World} {v1 : Value} {bs : List (Nat × Array Value × TypeId)} (h : WSt w v1 bs W) (o : Obj) : WSt w v1 bs (W.alloc o) := h.kept ((Below.refl _ _).alloc (Nat.le_refl _) _)
theorem WSt.new {w W : World} {v1 : Value} {bs : List (Nat × Array Value × TypeId)} (h : WSt w v1 bs W) (cs : Array Value) (t : TypeId) : WSt w v1 ((W.heap.size, cs, t) :: bs) (W.alloc (.cells cs t)) :=
  ⟨(h.alloc _).be, (h.alloc _).rows, h.boxes.new cs t⟩

theorem RowV.alloc {w : World} {v : Value} {xs : List Int} (h : RowV w v xs) (o : Obj) : RowV (w.alloc o) v xs := h.below ((Below.refl _ _).alloc (Nat.le_refl _) _)
theorem Rows2.two {w : World} {b1 b2 : Nat} {x y u v : Int} {t t' : TypeId} (h1 : Blk w b1 #[.int .i64 x, .int .i64 y] t) (h2 : Blk w b2 #[.int .i64 u, .int .i64 v] t') (t3 : TypeId) :
    Rows2 (w.alloc (.cells #[.slice (some ⟨b1, 0, none⟩) 2 2, .slice (some ⟨b2, 0, none⟩) 2 2] t3)) (.slice (some ⟨w.heap.size, 0, none⟩) 2 2) [[x, y], [u, v]] := by
  refine ⟨[((b1, 2), [x, y]), ((b2, 2), [u, v])], rfl, ⟨_, 2, rfl, Nat.le_refl _, (Blk.new w _ t3).row rfl⟩, fun p hp => ?_⟩
  rcases List.mem_cons.1 hp with rfl | hp
  · exact ⟨Nat.le_refl _, (h1.alloc _).row rfl⟩
  · obtain rfl : p = ((b2, 2), [u, v]) := by simpa using hp
    exact ⟨Nat.le_refl _, (h2.alloc _).row rfl⟩

/-- What each operation of the last statement leaves. -/
def RowAt (w : World) (v : Value) (xs : List Int) : Prop := ∃ b, v = .slice (some ⟨b, 0, none⟩) xs.length xs.length ∧ Row w w.heap.size (some ⟨b, 0, none⟩) (ints xs)
def GAt (w : World) (v : Value) : Prop := ∃ ad, v = .agg #[.int .i64 4, .int .i64 6, .slice (some ad) 3 3] ∧ Row w w.heap.size (some ad) (spans gL.ps)
def pr (x y : Int) : Value := .agg #[.int .i64 x, .int .i64 y]
def wGood (vp : Value) : Nat → World → Value → Prop
  | 0, _, v | 1, _, v => v = pr 5 1
  | 4, _, v | 5, _, v => v = pr 51 10
  | 9, _, v | 10, _, v | 36, _, v => v = pr 1 2
  | 14, _, v | 15, _, v | 37, _, v => v = pr 0 1
  | 19, _, v | 20, _, v => v = pr 22 7
  | 24, _, v => v = vp
  | 25, w, v => RowAt w v [1, 2, 1]
  | 29, _, v | 30, _, v => v = pr 1 3
  | 34, w, v | 42, w, v => GAt w v
  | 35, w, v => RowAt w v [4, 5]
  | 43, w, v => RowAt w v [4, 6]
  | 44, _, v | 45, _, v => v = pr 0 2
  | 38, _, v => v = .int .i64 0
  | 46, _, v => v = .int .i64 12
  | _, _, v => v = .bool true
theorem RowAt.below {w w' : World} {v : Value} {xs : List Int} (h : RowAt w v xs) (hb : Below w.heap.size w w') : RowAt w' v xs := by
  obtain ⟨b, e, hr⟩ := h
  exact ⟨b, e, (hr.below hb (Nat.le_refl _)).mono hb.size⟩
theorem GAt.below {w w' : World} {v : Value} (h : GAt w v) (hb : Below w.heap.size w w') : GAt w' v := by
  obtain ⟨b, e, hr⟩ := h
  exact ⟨b, e, (hr.below hb (Nat.le_refl _)).mono hb.size⟩
theorem wGood_below {vp : Value} (i : Nat) (w w' : World) (v : Value) (h : wGood vp i w v) (hb : Below w.heap.size w w') : wGood vp i w' v := by
  unfold wGood at h
  split at h <;> first | exact RowAt.below h hb | exact GAt.below h hb | exact h | (unfold wGood; split <;> first | exact h | (exfalso; simp_all))

set_option maxRecDepth 100000 in
set_option maxHeartbeats 4000000 in
theorem works_any (w : World) : Calls Try.prog 13 #[] w fun e w' => e = .returned (.bool true) ∧ Below w.heap.size w w' := by
  go_enter Try.func13, Try.ntmps13
  go_wp2_with fail
  refine (G_any _).mono ?_
  rintro e W1 ⟨ad1, rfl, hr1, hb1⟩
  go_wp2_with fail
  refine (counts_G ad1 _ hr1).mono ?_
  rintro e W2 ⟨v1, rfl, hrows, hb2⟩
  have S2 : WSt w v1 [] W2 := ⟨hb1.trans (hb2.mono hb1.size), hrows, Boxes.nil _⟩
  clear hr1 hb1 hb2 hrows
  go_wp2_with fail
  refine (G_any _).mono ?_
  rintro e W3 ⟨ad3, rfl, hr3, hb3⟩
  have S3 := S2.kept hb3
  clear hb3 S2
  go_wp2_with fail
  refine (total_G ad3 _ hr3).mono ?_
  rintro e W4 ⟨rfl, hb4⟩
  have S4 := (S3.kept hb4).new #[.int .i64 10, .int .i64 12] 23
  clear hr3 hb4 S3
  go_wp2_with fail
  refine (G_any _).mono ?_
  rintro e W5 ⟨ad5, rfl, hr5, hb5⟩
  have S5 := S4.kept hb5
  clear hb5 S4
  go_wp2_with fail
  have hc5 := (Blk.new W5 #[.int .i64 4, .int .i64 6] 3).row rfl
  have hs5 := (hr5.below ((Below.refl _ _).alloc (Nat.le_refl _) (.cells #[.int .i64 4, .int .i64 6] 3)) (Nat.le_refl _)).mono (Nat.le_of_lt (by simp) : W5.heap.size ≤ (W5.alloc (.cells #[.int .i64 4, .int .i64 6] 3)).heap.size)
  refine (period_G 4 6 _ period_gv46 ad5 _ _ hs5 hc5).mono ?_
  rintro e W6 ⟨rfl, hb6⟩
  dsimp only
  have S6 := ((((S5.alloc _).kept hb6).new #[.int .i64 5, .int .i64 1] 41).new #[.int .i64 51, .int .i64 10] 41)
  simp only [World.size_alloc] at S6
  clear hr5 hs5 hc5 hb6 S5
  go_wp2_with fail
  refine (G_any _).mono ?_
  rintro e W7 ⟨ad7, rfl, hr7, hb7⟩
  have S7 := S6.kept hb7
  clear hb7 S6
  go_wp2_with fail
  have hc7 := (Blk.new W7 #[.int .i64 4, .int .i64 5] 3).row rfl
  have hs7 := (hr7.below ((Below.refl _ _).alloc (Nat.le_refl _) (.cells #[.int .i64 4, .int .i64 5] 3)) (Nat.le_refl _)).mono (Nat.le_of_lt (by simp) : W7.heap.size ≤ (W7.alloc (.cells #[.int .i64 4, .int .i64 5] 3)).heap.size)
  refine (period_G 4 5 _ period_gv45 ad7 _ _ hs7 hc7).mono ?_
  rintro e W8 ⟨rfl, hb8⟩
  dsimp only
  have S8 := ((((S7.alloc _).kept hb8).new #[.int .i64 0, .int .i64 0] 41).new #[.int .i64 0, .int .i64 0] 41)
  simp only [World.size_alloc] at S8
  clear hr7 hs7 hc7 hb8 S7
  go_wp2_with fail
  refine (G_any _).mono ?_
  rintro e W9 ⟨ad9, rfl, hr9, hb9⟩
  have S9 := S8.kept hb9
  clear hb9 S8
  go_wp2_with fail
  have hc9 := (Blk.new W9 #[.int .i64 4, .int .i64 5] 3).row rfl
  have hs9 := (hr9.below ((Below.refl _ _).alloc (Nat.le_refl _) (.cells #[.int .i64 4, .int .i64 5] 3)) (Nat.le_refl _)).mono (Nat.le_of_lt (by simp) : W9.heap.size ≤ (W9.alloc (.cells #[.int .i64 4, .int .i64 5] 3)).heap.size)
  refine (bounds_G ad9 _ _ hs9 hc9).mono ?_
  rintro e W10 ⟨rfl, hb10⟩
  have S10 := ((((S9.alloc _).kept hb10).new #[.int .i64 1, .int .i64 2] 60).new #[.int .i64 0, .int .i64 1] 60)
  simp only [World.size_alloc] at S10
  clear hr9 hs9 hc9 hb10 S9
  go_wp2_with fail
  refine (part_any _ _ _).mono ?_
  rintro e W11 ⟨rfl, hb11⟩
  have S11 := S10.kept hb11
  clear hb11 S10
  go_wp2_with fail
  refine (part_any _ _ _).mono ?_
  rintro e W12 ⟨rfl, hb12⟩
  have S12 := S11.kept hb12
  clear hb12 S11
  go_wp2_with fail
  refine (simplest_v (31, 10) (22, 7) _ simplest_v1 _).mono ?_
  rintro e W13 ⟨rfl, hb13⟩
  dsimp only
  have S13 := (S12.kept hb13).new #[.int .i64 22, .int .i64 7] 41
  clear hb13 S12
  go_wp2_with fail
  refine (part_any _ _ _).mono ?_
  rintro e W14 ⟨rfl, hb14⟩
  have S14 := S13.kept hb14
  clear hb14 S13
  go_wp2_with fail
  refine (path_v (7, 5) _ path_v1 _).mono ?_
  rintro e W15 ⟨vp, rfl, hvp, hb15⟩
  dsimp only
  have S15 := S14.kept hb15
  clear hb15 S14
  go_wp2_with fail
  have hc15 := (Blk.new W15 #[.int .i64 0, .int .i64 2] 3).row rfl
  have hvp' := hvp.below ((Below.refl W15.heap.size W15).alloc (Nat.le_refl _) (.cells #[.int .i64 0, .int .i64 2] 3))
  refine (follow_v [0, 2] _ follow_v1 (by decide) _ _ hc15).mono ?_
  rintro e W16 ⟨rfl, hb16⟩
  dsimp only
  have S16 := (((S15.alloc _).kept hb16).new #[.int .i64 1, .int .i64 3] 41)
  have hvp16 := (hvp'.below hb16).below ((Below.refl W16.heap.size W16).alloc (Nat.le_refl _) (.cells #[.int .i64 1, .int .i64 3] 41))
  clear hc15 hvp hvp' hb16 S15
  go_wp2_with fail
  have t1 := Blk.new (W16.alloc (.cells #[.int .i64 1, .int .i64 3] 41)) #[.int .i64 4, .int .i64 6] 3
  have t2 := Blk.new ((W16.alloc (.cells #[.int .i64 1, .int .i64 3] 41)).alloc (.cells #[.int .i64 4, .int .i64 6] 3)) #[.int .i64 5, .int .i64 7] 3
  have hR := Rows2.two (t1.alloc _) t2 42
  simp only [World.size_alloc] at hR
  have S17 := ((S16.alloc (.cells #[.int .i64 4, .int .i64 6] 3)).alloc (.cells #[.int .i64 5, .int .i64 7] 3)).alloc (.cells #[.slice (some ⟨W16.heap.size + 1, 0, none⟩) 2 2, .slice (some ⟨W16.heap.size + 1 + 1, 0, none⟩) 2 2] 42)
  have hvp17 := ((hvp16.alloc (.cells #[.int .i64 4, .int .i64 6] 3)).alloc (.cells #[.int .i64 5, .int .i64 7] 3)).alloc (.cells #[.slice (some ⟨W16.heap.size + 1, 0, none⟩) 2 2, .slice (some ⟨W16.heap.size + 1 + 1, 0, none⟩) 2 2] 42)
  refine (lists_any _ _ v1 _ _ (by decide) (by decide) (by decide) (by decide) S17.rows hR).mono ?_
  rintro e W18 ⟨rfl, hb18⟩
  have S18 := S17.kept hb18
  have hvp18 := hvp17.below hb18
  clear t1 t2 hR S16 S17 hvp16 hvp17 hb18
  simp only [decide_true]
  have b3 := (S18.boxes _ (by simp : (W4.heap.size, #[Value.int .i64 10, Value.int .i64 12], 23) ∈ _)).two
  go_wp2_with fail
  obtain ⟨pa, pcap, rfl, hpc, hpr⟩ := hvp18
  refine wp_region_mono W18 _ (wGood (.slice pa 3 pcap)) (n := 159) (by kernel_rfl) (by decide +kernel) rfl wGood_below ?steps ?_
  case steps =>
    refine ⟨?_, ?_, ?_, ?_, ?_, ?_, ?_, ?_, ?_, ?_, ?_, ?_, ?_, ?_, ?_, ?_, ?_, ?_, ?_, ?_, ?_, ?_, ?_, ?_, ?_, ?_, ?_, ?_, ?_, ?_, ?_, ?_, ?_, ?_, ?_, ?_, ?_, ?_, ?_, ?_, ?_, ?_, ?_, ?_, ?_, ?_, ?_, ?_, ?_, ?_, trivial⟩
    · intro a w' h
      have e5 : a.tmps.getD 5 undef = .pointer (some ⟨W6.heap.size, 0, none⟩) := h.old 5 rfl
      refine ⟨wanted_none rfl, ?_⟩
      have q := ((S18.kept h.be).boxes _ (by simp : (W6.heap.size, #[Value.int .i64 5, Value.int .i64 1], 41) ∈ _)).two
      simp at e5
      clear h
      go_simp
      exact ⟨Below.refl _ _, rfl⟩
    · intro a w' h
      refine ⟨wanted_none rfl, ?_⟩
      clear h
      go_simp
      exact (part_any _ _ w').mono fun e w'' ⟨he, hb⟩ => ⟨_, he, hb, rfl⟩
    · intro a w' h
      have e110 : a.tmps.getD 110 undef = .agg #[.int .i64 5, .int .i64 1] := h.val 0 110 rfl rfl
      have e111 : a.tmps.getD 111 undef = .agg #[.int .i64 5, .int .i64 1] := h.val 1 111 rfl rfl
      refine ⟨wanted_none rfl, ?_⟩
      simp at e110 e111
      clear h
      go_simp
      exact ⟨Below.refl _ _, rfl⟩
    · intro a w' h
      have e112 : a.tmps.getD 112 undef = .bool true := h.val 2 112 rfl rfl
      refine ⟨wanted_none rfl, ?_⟩
      simp at e112
      clear h
      go_simp
      exact ⟨Below.refl _ _, rfl⟩
    · intro a w' h
      have e6 : a.tmps.getD 6 undef = .pointer (some ⟨W6.heap.size + 1, 0, none⟩) := h.old 6 rfl
      refine ⟨wanted_some (g := 3) (b := true) (t := 113) rfl rfl (h.val 3 113 rfl rfl), ?_⟩
      have q := ((S18.kept h.be).boxes _ (by simp : (W6.heap.size + 1, #[Value.int .i64 51, Value.int .i64 10], 41) ∈ _)).two
      simp at e6
      clear h
      go_simp
      exact ⟨Below.refl _ _, rfl⟩
    · intro a w' h
      refine ⟨wanted_some (g := 3) (b := true) (t := 113) rfl rfl (h.val 3 113 rfl rfl), ?_⟩
      clear h
      go_simp
      exact (part_any _ _ w').mono fun e w'' ⟨he, hb⟩ => ⟨_, he, hb, rfl⟩
    · intro a w' h
      have e114 : a.tmps.getD 114 undef = .agg #[.int .i64 51, .int .i64 10] := h.val 4 114 rfl rfl
      have e115 : a.tmps.getD 115 undef = .agg #[.int .i64 51, .int .i64 10] := h.val 5 115 rfl rfl
      refine ⟨wanted_some (g := 3) (b := true) (t := 113) rfl rfl (h.val 3 113 rfl rfl), ?_⟩
      simp at e114 e115
      clear h
      go_simp
      exact ⟨Below.refl _ _, rfl⟩
    · intro a w' h
      have e113 : a.tmps.getD 113 undef = .bool true := h.val 3 113 rfl rfl
      have e116 : a.tmps.getD 116 undef = .bool true := h.val 6 116 rfl rfl
      refine ⟨wanted_none rfl, ?_⟩
      simp at e113 e116
      clear h
      go_simp
      exact ⟨Below.refl _ _, rfl⟩
    · intro a w' h
      have e117 : a.tmps.getD 117 undef = .bool true := h.val 7 117 rfl rfl
      refine ⟨wanted_none rfl, ?_⟩
      simp at e117
      clear h
      go_simp
      exact ⟨Below.refl _ _, rfl⟩
    · intro a w' h
      have e11 : a.tmps.getD 11 undef = .pointer (some ⟨W10.heap.size, 0, none⟩) := h.old 11 rfl
      refine ⟨wanted_some (g := 8) (b := true) (t := 118) rfl rfl (h.val 8 118 rfl rfl), ?_⟩
      have q := ((S18.kept h.be).boxes _ (by simp : (W10.heap.size, #[Value.int .i64 1, Value.int .i64 2], 60) ∈ _)).two
      simp at e11
      clear h
      go_simp
      exact ⟨Below.refl _ _, rfl⟩
    · intro a w' h
      refine ⟨wanted_some (g := 8) (b := true) (t := 118) rfl rfl (h.val 8 118 rfl rfl), ?_⟩
      clear h
      go_simp
      exact ⟨Below.refl _ _, rfl⟩
    · intro a w' h
      have e119 : a.tmps.getD 119 undef = .agg #[.int .i64 1, .int .i64 2] := h.val 9 119 rfl rfl
      have e120 : a.tmps.getD 120 undef = .agg #[.int .i64 1, .int .i64 2] := h.val 10 120 rfl rfl
      refine ⟨wanted_some (g := 8) (b := true) (t := 118) rfl rfl (h.val 8 118 rfl rfl), ?_⟩
      simp at e119 e120
      have aq := arr2_eq 1 2 1 2 w'
      simp only [beq_self_eq_true, Bool.and_self] at aq
      clear h
      go_simp
      exact ⟨Below.refl _ _, rfl⟩
    · intro a w' h
      have e118 : a.tmps.getD 118 undef = .bool true := h.val 8 118 rfl rfl
      have e121 : a.tmps.getD 121 undef = .bool true := h.val 11 121 rfl rfl
      refine ⟨wanted_none rfl, ?_⟩
      simp at e118 e121
      clear h
      go_simp
      exact ⟨Below.refl _ _, rfl⟩
    · intro a w' h
      have e122 : a.tmps.getD 122 undef = .bool true := h.val 12 122 rfl rfl
      refine ⟨wanted_none rfl, ?_⟩
      simp at e122
      clear h
      go_simp
      exact ⟨Below.refl _ _, rfl⟩
    · intro a w' h
      have e12 : a.tmps.getD 12 undef = .pointer (some ⟨W10.heap.size + 1, 0, none⟩) := h.old 12 rfl
      refine ⟨wanted_some (g := 13) (b := true) (t := 123) rfl rfl (h.val 13 123 rfl rfl), ?_⟩
      have q := ((S18.kept h.be).boxes _ (by simp : (W10.heap.size + 1, #[Value.int .i64 0, Value.int .i64 1], 60) ∈ _)).two
      simp at e12
      clear h
      go_simp
      exact ⟨Below.refl _ _, rfl⟩
    · intro a w' h
      refine ⟨wanted_some (g := 13) (b := true) (t := 123) rfl rfl (h.val 13 123 rfl rfl), ?_⟩
      clear h
      go_simp
      exact ⟨Below.refl _ _, rfl⟩
    · intro a w' h
      have e124 : a.tmps.getD 124 undef = .agg #[.int .i64 0, .int .i64 1] := h.val 14 124 rfl rfl
      have e125 : a.tmps.getD 125 undef = .agg #[.int .i64 0, .int .i64 1] := h.val 15 125 rfl rfl
      refine ⟨wanted_some (g := 13) (b := true) (t := 123) rfl rfl (h.val 13 123 rfl rfl), ?_⟩
      simp at e124 e125
      have aq := arr2_eq 0 1 0 1 w'
      simp only [beq_self_eq_true, Bool.and_self] at aq
      clear h
      go_simp
      exact ⟨Below.refl _ _, rfl⟩
    · intro a w' h
      have e123 : a.tmps.getD 123 undef = .bool true := h.val 13 123 rfl rfl
      have e126 : a.tmps.getD 126 undef = .bool true := h.val 16 126 rfl rfl
      refine ⟨wanted_none rfl, ?_⟩
      simp at e123 e126
      clear h
      go_simp
      exact ⟨Below.refl _ _, rfl⟩
    · intro a w' h
      have e127 : a.tmps.getD 127 undef = .bool true := h.val 17 127 rfl rfl
      refine ⟨wanted_none rfl, ?_⟩
      simp at e127
      clear h
      go_simp
      exact ⟨Below.refl _ _, rfl⟩
    · intro a w' h
      have e14 : a.tmps.getD 14 undef = .pointer (some ⟨W13.heap.size, 0, none⟩) := h.old 14 rfl
      refine ⟨wanted_some (g := 18) (b := true) (t := 128) rfl rfl (h.val 18 128 rfl rfl), ?_⟩
      have q := ((S18.kept h.be).boxes _ (by simp : (W13.heap.size, #[Value.int .i64 22, Value.int .i64 7], 41) ∈ _)).two
      simp at e14
      clear h
      go_simp
      exact ⟨Below.refl _ _, rfl⟩
    · intro a w' h
      refine ⟨wanted_some (g := 18) (b := true) (t := 128) rfl rfl (h.val 18 128 rfl rfl), ?_⟩
      clear h
      go_simp
      exact (part_any _ _ w').mono fun e w'' ⟨he, hb⟩ => ⟨_, he, hb, rfl⟩
    · intro a w' h
      have e129 : a.tmps.getD 129 undef = .agg #[.int .i64 22, .int .i64 7] := h.val 19 129 rfl rfl
      have e130 : a.tmps.getD 130 undef = .agg #[.int .i64 22, .int .i64 7] := h.val 20 130 rfl rfl
      refine ⟨wanted_some (g := 18) (b := true) (t := 128) rfl rfl (h.val 18 128 rfl rfl), ?_⟩
      simp at e129 e130
      clear h
      go_simp
      exact ⟨Below.refl _ _, rfl⟩
    · intro a w' h
      have e128 : a.tmps.getD 128 undef = .bool true := h.val 18 128 rfl rfl
      have e131 : a.tmps.getD 131 undef = .bool true := h.val 21 131 rfl rfl
      refine ⟨wanted_none rfl, ?_⟩
      simp at e128 e131
      clear h
      go_simp
      exact ⟨Below.refl _ _, rfl⟩
    · intro a w' h
      have e132 : a.tmps.getD 132 undef = .bool true := h.val 22 132 rfl rfl
      refine ⟨wanted_none rfl, ?_⟩
      simp at e132
      clear h
      go_simp
      exact ⟨Below.refl _ _, rfl⟩
    · intro a w' h
      have e16 : a.tmps.getD 16 undef = .slice pa 3 pcap := h.old 16 rfl
      refine ⟨wanted_some (g := 23) (b := true) (t := 133) rfl rfl (h.val 23 133 rfl rfl), ?_⟩
      simp at e16
      clear h
      go_simp
      exact ⟨Below.refl _ _, rfl⟩
    · intro a w' h
      refine ⟨wanted_some (g := 23) (b := true) (t := 133) rfl rfl (h.val 23 133 rfl rfl), ?_⟩
      clear h
      go_simp
      exact ⟨(Below.refl _ _).alloc (Nat.le_refl _) _, _, rfl, (Blk.new w' _ _).row rfl⟩
    · intro a w' h
      have e134 : a.tmps.getD 134 undef = .slice pa 3 pcap := h.val 24 134 rfl rfl
      obtain ⟨g135, e135, r135⟩ : RowAt w' (a.tmps.getD 135 undef) [1, 2, 1] := h.val 25 135 rfl rfl
      refine ⟨wanted_some (g := 23) (b := true) (t := 133) rfl rfl (h.val 23 133 rfl rfl), ?_⟩
      have hp := hpr.below h.be (Nat.le_refl _)
      simp at e134 e135
      have R135 := hide r135
      clear r135
      have HP := hide hp
      clear hp
      clear h
      go_simp
      exact (numbers_any [1, 2, 1] [1, 2, 1] pa (some ⟨g135, 0, none⟩) 3 pcap 3 3 _ _ w' rfl rfl (by decide) (by decide) HP.out R135.out).mono fun e w'' ⟨he, hb⟩ => ⟨_, he, hb, rfl⟩
    · intro a w' h
      have e133 : a.tmps.getD 133 undef = .bool true := h.val 23 133 rfl rfl
      have e136 : a.tmps.getD 136 undef = .bool true := h.val 26 136 rfl rfl
      refine ⟨wanted_none rfl, ?_⟩
      simp at e133 e136
      clear h
      go_simp
      exact ⟨Below.refl _ _, rfl⟩
    · intro a w' h
      have e137 : a.tmps.getD 137 undef = .bool true := h.val 27 137 rfl rfl
      refine ⟨wanted_none rfl, ?_⟩
      simp at e137
      clear h
      go_simp
      exact ⟨Below.refl _ _, rfl⟩
    · intro a w' h
      have e18 : a.tmps.getD 18 undef = .pointer (some ⟨W16.heap.size, 0, none⟩) := h.old 18 rfl
      refine ⟨wanted_some (g := 28) (b := true) (t := 138) rfl rfl (h.val 28 138 rfl rfl), ?_⟩
      have q := ((S18.kept h.be).boxes _ (by simp : (W16.heap.size, #[Value.int .i64 1, Value.int .i64 3], 41) ∈ _)).two
      simp at e18
      clear h
      go_simp
      exact ⟨Below.refl _ _, rfl⟩
    · intro a w' h
      refine ⟨wanted_some (g := 28) (b := true) (t := 138) rfl rfl (h.val 28 138 rfl rfl), ?_⟩
      clear h
      go_simp
      exact (part_any _ _ w').mono fun e w'' ⟨he, hb⟩ => ⟨_, he, hb, rfl⟩
    · intro a w' h
      have e139 : a.tmps.getD 139 undef = .agg #[.int .i64 1, .int .i64 3] := h.val 29 139 rfl rfl
      have e140 : a.tmps.getD 140 undef = .agg #[.int .i64 1, .int .i64 3] := h.val 30 140 rfl rfl
      refine ⟨wanted_some (g := 28) (b := true) (t := 138) rfl rfl (h.val 28 138 rfl rfl), ?_⟩
      simp at e139 e140
      clear h
      go_simp
      exact ⟨Below.refl _ _, rfl⟩
    · intro a w' h
      have e138 : a.tmps.getD 138 undef = .bool true := h.val 28 138 rfl rfl
      have e141 : a.tmps.getD 141 undef = .bool true := h.val 31 141 rfl rfl
      refine ⟨wanted_none rfl, ?_⟩
      simp at e138 e141
      clear h
      go_simp
      exact ⟨Below.refl _ _, rfl⟩
    · intro a w' h
      have e142 : a.tmps.getD 142 undef = .bool true := h.val 32 142 rfl rfl
      refine ⟨wanted_none rfl, ?_⟩
      simp at e142
      clear h
      go_simp
      exact ⟨Below.refl _ _, rfl⟩
    · intro a w' h
      refine ⟨wanted_some (g := 33) (b := true) (t := 143) rfl rfl (h.val 33 143 rfl rfl), ?_⟩
      clear h
      go_simp
      exact (G_any w').mono fun e w'' ⟨ad, he, hr, hb⟩ => ⟨_, he, hb, ad, rfl, hr⟩
    · intro a w' h
      refine ⟨wanted_some (g := 33) (b := true) (t := 143) rfl rfl (h.val 33 143 rfl rfl), ?_⟩
      clear h
      go_simp
      exact ⟨(Below.refl _ _).alloc (Nat.le_refl _) _, _, rfl, (Blk.new w' _ _).row rfl⟩
    · intro a w' h
      have e11 : a.tmps.getD 11 undef = .pointer (some ⟨W10.heap.size, 0, none⟩) := h.old 11 rfl
      refine ⟨wanted_some (g := 33) (b := true) (t := 143) rfl rfl (h.val 33 143 rfl rfl), ?_⟩
      have q := ((S18.kept h.be).boxes _ (by simp : (W10.heap.size, #[Value.int .i64 1, Value.int .i64 2], 60) ∈ _)).two
      simp at e11
      clear h
      go_simp
      exact ⟨Below.refl _ _, rfl⟩
    · intro a w' h
      have e12 : a.tmps.getD 12 undef = .pointer (some ⟨W10.heap.size + 1, 0, none⟩) := h.old 12 rfl
      refine ⟨wanted_some (g := 33) (b := true) (t := 143) rfl rfl (h.val 33 143 rfl rfl), ?_⟩
      have q := ((S18.kept h.be).boxes _ (by simp : (W10.heap.size + 1, #[Value.int .i64 0, Value.int .i64 1], 60) ∈ _)).two
      simp at e12
      clear h
      go_simp
      exact ⟨Below.refl _ _, rfl⟩
    · intro a w' h
      obtain ⟨g144, e144, r144⟩ : GAt w' (a.tmps.getD 144 undef) := h.val 34 144 rfl rfl
      obtain ⟨g145, e145, r145⟩ : RowAt w' (a.tmps.getD 145 undef) [4, 5] := h.val 35 145 rfl rfl
      have e146 : a.tmps.getD 146 undef = .agg #[.int .i64 1, .int .i64 2] := h.val 36 146 rfl rfl
      have e147 : a.tmps.getD 147 undef = .agg #[.int .i64 0, .int .i64 1] := h.val 37 147 rfl rfl
      refine ⟨wanted_some (g := 33) (b := true) (t := 143) rfl rfl (h.val 33 143 rfl rfl), ?_⟩
      simp at e144 e145 e146 e147
      have R144 := hide r144
      clear r144
      have R145 := hide r145
      clear r145
      clear h
      go_simp
      exact (verify_G 4 5 (1, 2) (0, 1) _ verify_v1 g144 _ w' R144.out R145.out).mono fun e w'' ⟨he, hb⟩ => ⟨_, he, hb, rfl⟩
    · intro a w' h
      have e148 : a.tmps.getD 148 undef = .int .i64 0 := h.val 38 148 rfl rfl
      refine ⟨wanted_some (g := 33) (b := true) (t := 143) rfl rfl (h.val 33 143 rfl rfl), ?_⟩
      simp at e148
      clear h
      go_simp
      exact ⟨Below.refl _ _, rfl⟩
    · intro a w' h
      have e143 : a.tmps.getD 143 undef = .bool true := h.val 33 143 rfl rfl
      have e149 : a.tmps.getD 149 undef = .bool true := h.val 39 149 rfl rfl
      refine ⟨wanted_none rfl, ?_⟩
      simp at e143 e149
      clear h
      go_simp
      exact ⟨Below.refl _ _, rfl⟩
    · intro a w' h
      have e150 : a.tmps.getD 150 undef = .bool true := h.val 40 150 rfl rfl
      refine ⟨wanted_none rfl, ?_⟩
      simp at e150
      clear h
      go_simp
      exact ⟨Below.refl _ _, rfl⟩
    · intro a w' h
      refine ⟨wanted_some (g := 41) (b := true) (t := 151) rfl rfl (h.val 41 151 rfl rfl), ?_⟩
      clear h
      go_simp
      exact (G_any w').mono fun e w'' ⟨ad, he, hr, hb⟩ => ⟨_, he, hb, ad, rfl, hr⟩
    · intro a w' h
      refine ⟨wanted_some (g := 41) (b := true) (t := 151) rfl rfl (h.val 41 151 rfl rfl), ?_⟩
      clear h
      go_simp
      exact ⟨(Below.refl _ _).alloc (Nat.le_refl _) _, _, rfl, (Blk.new w' _ _).row rfl⟩
    · intro a w' h
      refine ⟨wanted_some (g := 41) (b := true) (t := 151) rfl rfl (h.val 41 151 rfl rfl), ?_⟩
      clear h
      go_simp
      exact ⟨Below.refl _ _, rfl⟩
    · intro a w' h
      refine ⟨wanted_some (g := 41) (b := true) (t := 151) rfl rfl (h.val 41 151 rfl rfl), ?_⟩
      clear h
      go_simp
      exact ⟨Below.refl _ _, rfl⟩
    · intro a w' h
      obtain ⟨g152, e152, r152⟩ : GAt w' (a.tmps.getD 152 undef) := h.val 42 152 rfl rfl
      obtain ⟨g153, e153, r153⟩ : RowAt w' (a.tmps.getD 153 undef) [4, 6] := h.val 43 153 rfl rfl
      have e154 : a.tmps.getD 154 undef = .agg #[.int .i64 0, .int .i64 2] := h.val 44 154 rfl rfl
      have e155 : a.tmps.getD 155 undef = .agg #[.int .i64 0, .int .i64 2] := h.val 45 155 rfl rfl
      refine ⟨wanted_some (g := 41) (b := true) (t := 151) rfl rfl (h.val 41 151 rfl rfl), ?_⟩
      simp at e152 e153 e154 e155
      have R152 := hide r152
      clear r152
      have R153 := hide r153
      clear r153
      clear h
      go_simp
      exact (verify_G 4 6 (0, 2) (0, 2) _ verify_v2 g152 _ w' R152.out R153.out).mono fun e w'' ⟨he, hb⟩ => ⟨_, he, hb, rfl⟩
    · intro a w' h
      have e156 : a.tmps.getD 156 undef = .int .i64 12 := h.val 46 156 rfl rfl
      refine ⟨wanted_some (g := 41) (b := true) (t := 151) rfl rfl (h.val 41 151 rfl rfl), ?_⟩
      simp at e156
      clear h
      go_simp
      exact ⟨Below.refl _ _, rfl⟩
    · intro a w' h
      have e151 : a.tmps.getD 151 undef = .bool true := h.val 41 151 rfl rfl
      have e157 : a.tmps.getD 157 undef = .bool true := h.val 47 157 rfl rfl
      refine ⟨wanted_none rfl, ?_⟩
      simp at e151 e157
      clear h
      go_simp
      exact ⟨Below.refl _ _, rfl⟩
    · intro a w' h
      have e158 : a.tmps.getD 158 undef = .bool true := h.val 48 158 rfl rfl
      refine ⟨wanted_none rfl, ?_⟩
      simp at e158
      clear h
      go_simp
      exact ⟨Below.refl _ _, rfl⟩
  intro a w' h
  rename_i K hK
  refine hK _ _ ?_
  have e0 : a.tmps.getD 0 undef = .bool true := h.val 49 0 rfl rfl
  have hd : a.defers = [] := h.defers
  have hBf := S18.be.trans (h.be.mono S18.be.size)
  clear h hK
  simp at e0
  go_wp2
  exact bodyPost_ret (v := .bool true) (by simp [results, Try.results13, go_sem, e0]) hd ⟨rfl, hBf⟩

end Go.Proofs.Ytjgebepeghgmcaa
