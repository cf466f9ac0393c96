/-
  PeriodKnown: the walk.
-/
import Derived.Test.YtjgebepeghgmcaaLaw3
namespace Go.Proofs.Ytjgebepeghgmcaa
open Go.RowKit Go.Shelf
set_option linter.unusedVariables false
set_option linter.unusedSimpArgs false

/-- Blocks that are known, in a world in which what lay lies as it lay. -/
structure BSt (w : World) (bs : List (Nat × Array Value × TypeId)) (W : World) : Prop where
  be : Below w.heap.size w W
  boxes : Boxes W bs
theorem BSt.kept {w W W' : World} {bs : List (Nat × Array Value × TypeId)} (h : BSt w bs W) (hb : Below W.heap.size W W') : BSt w bs W' :=
  ⟨h.be.trans (hb.mono h.be.size), h.boxes.kept hb⟩
theorem BSt.alloc {w W : World} {bs : List (Nat × Array Value × TypeId)} (h : BSt w bs W) (o : Obj) : BSt w bs (W.alloc o) := h.kept ((Below.refl _ _).alloc (Nat.le_refl _) _)
theorem BSt.new {w W : World} {bs : List (Nat × Array Value × TypeId)} (h : BSt w bs W) (cs : Array Value) (t : TypeId) : BSt w ((W.heap.size, cs, t) :: bs) (W.alloc (.cells cs t)) :=
  ⟨(h.alloc _).be, h.boxes.new cs t⟩

def kGood (pa : Option Addr) (pcap : Nat) : Nat → World → Value → Prop
  | 0, _, v => v = .int .i64 0
  | 3, _, v => v = .int .i64 0
  | 7, _, v => v = .int .i64 0
  | 11, _, v => v = .int .i64 0
  | 15, _, v => v = .int .i64 5
  | 19, _, v => v = .agg #[.int .i64 25, .int .i64 6]
  | 20, _, v => v = .agg #[.int .i64 25, .int .i64 6]
  | 24, _, v => v = .agg #[.int .i64 17, .int .i64 4]
  | 25, _, v => v = .agg #[.int .i64 17, .int .i64 4]
  | 29, _, v => v = .agg #[.int .i64 1, .int .i64 2]
  | 30, _, v => v = .agg #[.int .i64 1, .int .i64 2]
  | 34, _, v => v = .agg #[.int .i64 17, .int .i64 4]
  | 35, _, v => v = .agg #[.int .i64 17, .int .i64 4]
  | 39, _, v => v = .slice pa 0 pcap
  | 40, _, v => v = .int .i64 0
  | _, _, v => v = .bool true
theorem kGood_below {pa : Option Addr} {pcap : Nat} (i : Nat) (w w' : World) (v : Value) (h : (kGood pa pcap) i w v) (hb : Below w.heap.size w w') : (kGood pa pcap) i w' v := by
  unfold kGood at h
  split at h <;> first | exact h | (unfold kGood; split <;> first | exact h | (exfalso; simp_all))

set_option maxRecDepth 100000 in
set_option maxHeartbeats 4000000 in
theorem known_any (w : World) : Calls Try.prog 12 #[] w fun e w' => e = .returned (.bool true) ∧ Below w.heap.size w w' := by
  go_enter Try.func12, Try.ntmps12
  go_wp2_with fail
  refine (G_any _).mono ?_
  rintro e W1 ⟨ad1, rfl, hr1, hb1⟩
  have S1 : BSt w [] W1 := ⟨hb1, Boxes.nil _⟩
  clear hb1
  go_wp2_with fail
  have hc1 := (Blk.new W1 #[.int .i64 5, .int .i64 7] 3).row rfl
  have hs1 := (hr1.below ((Below.refl _ _).alloc (Nat.le_refl _) (.cells #[.int .i64 5, .int .i64 7] 3)) (Nat.le_refl _)).mono (Nat.le_of_lt (by simp) : W1.heap.size ≤ (W1.alloc (.cells #[.int .i64 5, .int .i64 7] 3)).heap.size)
  refine (period_G 5 7 _ period_gv57 ad1 _ _ hs1 hc1).mono ?_
  rintro e W2 ⟨rfl, hb2⟩
  dsimp only
  have S2 := ((((S1.alloc _).kept hb2).new #[.int .i64 25, .int .i64 6] 41).new #[.int .i64 17, .int .i64 4] 41)
  simp only [World.size_alloc] at S2
  clear hr1 hs1 hc1 hb2 S1
  go_wp2_with fail
  refine (part_any _ _ _).mono ?_
  rintro e W3 ⟨rfl, hb3⟩
  have S3 := S2.kept hb3
  clear hb3 S2
  go_wp2_with fail
  refine (part_any _ _ _).mono ?_
  rintro e W4 ⟨rfl, hb4⟩
  have S4 := S3.kept hb4
  clear hb4 S3
  go_wp2_with fail
  refine (simplest_v (1, 3) (1, 2) _ simplest_v2 _).mono ?_
  rintro e W5 ⟨rfl, hb5⟩
  dsimp only
  have S5 := (S4.kept hb5).new #[.int .i64 1, .int .i64 2] 41
  clear hb5 S4
  go_wp2_with fail
  refine (part_any _ _ _).mono ?_
  rintro e W6 ⟨rfl, hb6⟩
  have S6 := S5.kept hb6
  clear hb6 S5
  go_wp2_with fail
  refine (part_any _ _ _).mono ?_
  rintro e W7 ⟨rfl, hb7⟩
  have S7 := S6.kept hb7
  clear hb7 S6
  go_wp2_with fail
  refine (simplest_v (25, 6) (17, 4) _ simplest_v3 _).mono ?_
  rintro e W8 ⟨rfl, hb8⟩
  dsimp only
  have S8 := (S7.kept hb8).new #[.int .i64 17, .int .i64 4] 41
  clear hb8 S7
  go_wp2_with fail
  refine (part_any _ _ _).mono ?_
  rintro e W9 ⟨rfl, hb9⟩
  have S9 := S8.kept hb9
  clear hb9 S8
  go_wp2_with fail
  refine (path_v (1, 1) _ path_v2 _).mono ?_
  rintro e W10 ⟨vp, rfl, hvp, hb10⟩
  dsimp only
  have S10 := S9.kept hb10
  obtain ⟨pa, pcap, rfl, _, _⟩ := hvp
  clear hb10 S9
  go_wp2_with fail
  have hc10 := (Blk.new W10 #[.int .i64 0] 3).row rfl
  refine (follow_v [0] _ follow_v2 (by decide) _ _ hc10).mono ?_
  rintro e W11 ⟨rfl, hb11⟩
  dsimp only
  have S := (((S10.alloc (.cells #[.int .i64 0] 3)).kept hb11).new #[.int .i64 0, .int .i64 0] 41)
  clear hb11 hc10 S10
  go_wp2_with fail
  generalize World.alloc W11 _ = V at *
  refine wp_region_mono V _ (kGood pa pcap) (n := 87) (by kernel_rfl) (by decide +kernel) rfl kGood_below ?steps ?_
  case steps =>
    refine ⟨?_, ?_, ?_, ?_, ?_, ?_, ?_, ?_, ?_, ?_, ?_, ?_, ?_, ?_, ?_, ?_, ?_, ?_, ?_, ?_, ?_, ?_, ?_, ?_, ?_, ?_, ?_, ?_, ?_, ?_, ?_, ?_, ?_, ?_, ?_, ?_, ?_, ?_, ?_, ?_, ?_, ?_, ?_, ?_, ?_, ?_, ?_, trivial⟩
    · intro a w' h
      have e3 : a.tmps.getD 3 undef = .int .i64 0 := h.old 3 rfl
      refine ⟨wanted_none rfl, ?_⟩
      simp at e3
      clear h
      go_simp
      exact ⟨Below.refl _ _, rfl⟩
    · intro a w' h
      have e41 : a.tmps.getD 41 undef = .int .i64 0 := h.val 0 41 rfl rfl
      refine ⟨wanted_none rfl, ?_⟩
      simp at e41
      clear h
      go_simp
      exact ⟨Below.refl _ _, rfl⟩
    · intro a w' h
      have e42 : a.tmps.getD 42 undef = .bool true := h.val 1 42 rfl rfl
      refine ⟨wanted_none rfl, ?_⟩
      simp at e42
      clear h
      go_simp
      exact ⟨Below.refl _ _, rfl⟩
    · intro a w' h
      have e5 : a.tmps.getD 5 undef = .int .i64 0 := h.old 5 rfl
      refine ⟨wanted_some (g := 2) (b := true) (t := 43) rfl rfl (h.val 2 43 rfl rfl), ?_⟩
      simp at e5
      clear h
      go_simp
      exact ⟨Below.refl _ _, rfl⟩
    · intro a w' h
      have e44 : a.tmps.getD 44 undef = .int .i64 0 := h.val 3 44 rfl rfl
      refine ⟨wanted_some (g := 2) (b := true) (t := 43) rfl rfl (h.val 2 43 rfl rfl), ?_⟩
      simp at e44
      clear h
      go_simp
      exact ⟨Below.refl _ _, rfl⟩
    · intro a w' h
      have e43 : a.tmps.getD 43 undef = .bool true := h.val 2 43 rfl rfl
      have e45 : a.tmps.getD 45 undef = .bool true := h.val 4 45 rfl rfl
      refine ⟨wanted_none rfl, ?_⟩
      simp at e43 e45
      clear h
      go_simp
      exact ⟨Below.refl _ _, rfl⟩
    · intro a w' h
      have e46 : a.tmps.getD 46 undef = .bool true := h.val 5 46 rfl rfl
      refine ⟨wanted_none rfl, ?_⟩
      simp at e46
      clear h
      go_simp
      exact ⟨Below.refl _ _, rfl⟩
    · intro a w' h
      have e7 : a.tmps.getD 7 undef = .int .i64 0 := h.old 7 rfl
      refine ⟨wanted_some (g := 6) (b := true) (t := 47) rfl rfl (h.val 6 47 rfl rfl), ?_⟩
      simp at e7
      clear h
      go_simp
      exact ⟨Below.refl _ _, rfl⟩
    · intro a w' h
      have e48 : a.tmps.getD 48 undef = .int .i64 0 := h.val 7 48 rfl rfl
      refine ⟨wanted_some (g := 6) (b := true) (t := 47) rfl rfl (h.val 6 47 rfl rfl), ?_⟩
      simp at e48
      clear h
      go_simp
      exact ⟨Below.refl _ _, rfl⟩
    · intro a w' h
      have e47 : a.tmps.getD 47 undef = .bool true := h.val 6 47 rfl rfl
      have e49 : a.tmps.getD 49 undef = .bool true := h.val 8 49 rfl rfl
      refine ⟨wanted_none rfl, ?_⟩
      simp at e47 e49
      clear h
      go_simp
      exact ⟨Below.refl _ _, rfl⟩
    · intro a w' h
      have e50 : a.tmps.getD 50 undef = .bool true := h.val 9 50 rfl rfl
      refine ⟨wanted_none rfl, ?_⟩
      simp at e50
      clear h
      go_simp
      exact ⟨Below.refl _ _, rfl⟩
    · intro a w' h
      have e9 : a.tmps.getD 9 undef = .int .i64 0 := h.old 9 rfl
      refine ⟨wanted_some (g := 10) (b := true) (t := 51) rfl rfl (h.val 10 51 rfl rfl), ?_⟩
      simp at e9
      clear h
      go_simp
      exact ⟨Below.refl _ _, rfl⟩
    · intro a w' h
      have e52 : a.tmps.getD 52 undef = .int .i64 0 := h.val 11 52 rfl rfl
      refine ⟨wanted_some (g := 10) (b := true) (t := 51) rfl rfl (h.val 10 51 rfl rfl), ?_⟩
      simp at e52
      clear h
      go_simp
      exact ⟨Below.refl _ _, rfl⟩
    · intro a w' h
      have e51 : a.tmps.getD 51 undef = .bool true := h.val 10 51 rfl rfl
      have e53 : a.tmps.getD 53 undef = .bool true := h.val 12 53 rfl rfl
      refine ⟨wanted_none rfl, ?_⟩
      simp at e51 e53
      clear h
      go_simp
      exact ⟨Below.refl _ _, rfl⟩
    · intro a w' h
      have e54 : a.tmps.getD 54 undef = .bool true := h.val 13 54 rfl rfl
      refine ⟨wanted_none rfl, ?_⟩
      simp at e54
      clear h
      go_simp
      exact ⟨Below.refl _ _, rfl⟩
    · intro a w' h
      have e11 : a.tmps.getD 11 undef = .int .i64 5 := h.old 11 rfl
      refine ⟨wanted_some (g := 14) (b := true) (t := 55) rfl rfl (h.val 14 55 rfl rfl), ?_⟩
      simp at e11
      clear h
      go_simp
      exact ⟨Below.refl _ _, rfl⟩
    · intro a w' h
      have e56 : a.tmps.getD 56 undef = .int .i64 5 := h.val 15 56 rfl rfl
      refine ⟨wanted_some (g := 14) (b := true) (t := 55) rfl rfl (h.val 14 55 rfl rfl), ?_⟩
      simp at e56
      clear h
      go_simp
      exact ⟨Below.refl _ _, rfl⟩
    · intro a w' h
      have e55 : a.tmps.getD 55 undef = .bool true := h.val 14 55 rfl rfl
      have e57 : a.tmps.getD 57 undef = .bool true := h.val 16 57 rfl rfl
      refine ⟨wanted_none rfl, ?_⟩
      simp at e55 e57
      clear h
      go_simp
      exact ⟨Below.refl _ _, rfl⟩
    · intro a w' h
      have e58 : a.tmps.getD 58 undef = .bool true := h.val 17 58 rfl rfl
      refine ⟨wanted_none rfl, ?_⟩
      simp at e58
      clear h
      go_simp
      exact ⟨Below.refl _ _, rfl⟩
    · intro a w' h
      have e1 : a.tmps.getD 1 undef = .pointer (some ⟨W2.heap.size, 0, none⟩) := h.old 1 rfl
      refine ⟨wanted_some (g := 18) (b := true) (t := 59) rfl rfl (h.val 18 59 rfl rfl), ?_⟩
      have q := ((S.kept h.be).boxes _ (by simp : (W2.heap.size, #[Value.int .i64 25, Value.int .i64 6], 41) ∈ _)).two
      simp at e1
      clear h
      go_simp
      exact ⟨Below.refl _ _, rfl⟩
    · intro a w' h
      refine ⟨wanted_some (g := 18) (b := true) (t := 59) rfl rfl (h.val 18 59 rfl rfl), ?_⟩
      clear h
      go_simp
      exact (part_any _ _ w').mono fun e w'' ⟨he, hb⟩ => ⟨_, he, hb, rfl⟩
    · intro a w' h
      have e60 : a.tmps.getD 60 undef = .agg #[.int .i64 25, .int .i64 6] := h.val 19 60 rfl rfl
      have e61 : a.tmps.getD 61 undef = .agg #[.int .i64 25, .int .i64 6] := h.val 20 61 rfl rfl
      refine ⟨wanted_some (g := 18) (b := true) (t := 59) rfl rfl (h.val 18 59 rfl rfl), ?_⟩
      simp at e60 e61
      clear h
      go_simp
      exact ⟨Below.refl _ _, rfl⟩
    · intro a w' h
      have e59 : a.tmps.getD 59 undef = .bool true := h.val 18 59 rfl rfl
      have e62 : a.tmps.getD 62 undef = .bool true := h.val 21 62 rfl rfl
      refine ⟨wanted_none rfl, ?_⟩
      simp at e59 e62
      clear h
      go_simp
      exact ⟨Below.refl _ _, rfl⟩
    · intro a w' h
      have e63 : a.tmps.getD 63 undef = .bool true := h.val 22 63 rfl rfl
      refine ⟨wanted_none rfl, ?_⟩
      simp at e63
      clear h
      go_simp
      exact ⟨Below.refl _ _, rfl⟩
    · intro a w' h
      have e2 : a.tmps.getD 2 undef = .pointer (some ⟨W2.heap.size + 1, 0, none⟩) := h.old 2 rfl
      refine ⟨wanted_some (g := 23) (b := true) (t := 64) rfl rfl (h.val 23 64 rfl rfl), ?_⟩
      have q := ((S.kept h.be).boxes _ (by simp : (W2.heap.size + 1, #[Value.int .i64 17, Value.int .i64 4], 41) ∈ _)).two
      simp at e2
      clear h
      go_simp
      exact ⟨Below.refl _ _, rfl⟩
    · intro a w' h
      refine ⟨wanted_some (g := 23) (b := true) (t := 64) rfl rfl (h.val 23 64 rfl rfl), ?_⟩
      clear h
      go_simp
      exact (part_any _ _ w').mono fun e w'' ⟨he, hb⟩ => ⟨_, he, hb, rfl⟩
    · intro a w' h
      have e65 : a.tmps.getD 65 undef = .agg #[.int .i64 17, .int .i64 4] := h.val 24 65 rfl rfl
      have e66 : a.tmps.getD 66 undef = .agg #[.int .i64 17, .int .i64 4] := h.val 25 66 rfl rfl
      refine ⟨wanted_some (g := 23) (b := true) (t := 64) rfl rfl (h.val 23 64 rfl rfl), ?_⟩
      simp at e65 e66
      clear h
      go_simp
      exact ⟨Below.refl _ _, rfl⟩
    · intro a w' h
      have e64 : a.tmps.getD 64 undef = .bool true := h.val 23 64 rfl rfl
      have e67 : a.tmps.getD 67 undef = .bool true := h.val 26 67 rfl rfl
      refine ⟨wanted_none rfl, ?_⟩
      simp at e64 e67
      clear h
      go_simp
      exact ⟨Below.refl _ _, rfl⟩
    · intro a w' h
      have e68 : a.tmps.getD 68 undef = .bool true := h.val 27 68 rfl rfl
      refine ⟨wanted_none rfl, ?_⟩
      simp at e68
      clear h
      go_simp
      exact ⟨Below.refl _ _, rfl⟩
    · intro a w' h
      have e4 : a.tmps.getD 4 undef = .pointer (some ⟨W5.heap.size, 0, none⟩) := h.old 4 rfl
      refine ⟨wanted_some (g := 28) (b := true) (t := 69) rfl rfl (h.val 28 69 rfl rfl), ?_⟩
      have q := ((S.kept h.be).boxes _ (by simp : (W5.heap.size, #[Value.int .i64 1, Value.int .i64 2], 41) ∈ _)).two
      simp at e4
      clear h
      go_simp
      exact ⟨Below.refl _ _, rfl⟩
    · intro a w' h
      refine ⟨wanted_some (g := 28) (b := true) (t := 69) rfl rfl (h.val 28 69 rfl rfl), ?_⟩
      clear h
      go_simp
      exact (part_any _ _ w').mono fun e w'' ⟨he, hb⟩ => ⟨_, he, hb, rfl⟩
    · intro a w' h
      have e70 : a.tmps.getD 70 undef = .agg #[.int .i64 1, .int .i64 2] := h.val 29 70 rfl rfl
      have e71 : a.tmps.getD 71 undef = .agg #[.int .i64 1, .int .i64 2] := h.val 30 71 rfl rfl
      refine ⟨wanted_some (g := 28) (b := true) (t := 69) rfl rfl (h.val 28 69 rfl rfl), ?_⟩
      simp at e70 e71
      clear h
      go_simp
      exact ⟨Below.refl _ _, rfl⟩
    · intro a w' h
      have e69 : a.tmps.getD 69 undef = .bool true := h.val 28 69 rfl rfl
      have e72 : a.tmps.getD 72 undef = .bool true := h.val 31 72 rfl rfl
      refine ⟨wanted_none rfl, ?_⟩
      simp at e69 e72
      clear h
      go_simp
      exact ⟨Below.refl _ _, rfl⟩
    · intro a w' h
      have e73 : a.tmps.getD 73 undef = .bool true := h.val 32 73 rfl rfl
      refine ⟨wanted_none rfl, ?_⟩
      simp at e73
      clear h
      go_simp
      exact ⟨Below.refl _ _, rfl⟩
    · intro a w' h
      have e6 : a.tmps.getD 6 undef = .pointer (some ⟨W8.heap.size, 0, none⟩) := h.old 6 rfl
      refine ⟨wanted_some (g := 33) (b := true) (t := 74) rfl rfl (h.val 33 74 rfl rfl), ?_⟩
      have q := ((S.kept h.be).boxes _ (by simp : (W8.heap.size, #[Value.int .i64 17, Value.int .i64 4], 41) ∈ _)).two
      simp at e6
      clear h
      go_simp
      exact ⟨Below.refl _ _, rfl⟩
    · intro a w' h
      refine ⟨wanted_some (g := 33) (b := true) (t := 74) rfl rfl (h.val 33 74 rfl rfl), ?_⟩
      clear h
      go_simp
      exact (part_any _ _ w').mono fun e w'' ⟨he, hb⟩ => ⟨_, he, hb, rfl⟩
    · intro a w' h
      have e75 : a.tmps.getD 75 undef = .agg #[.int .i64 17, .int .i64 4] := h.val 34 75 rfl rfl
      have e76 : a.tmps.getD 76 undef = .agg #[.int .i64 17, .int .i64 4] := h.val 35 76 rfl rfl
      refine ⟨wanted_some (g := 33) (b := true) (t := 74) rfl rfl (h.val 33 74 rfl rfl), ?_⟩
      simp at e75 e76
      clear h
      go_simp
      exact ⟨Below.refl _ _, rfl⟩
    · intro a w' h
      have e74 : a.tmps.getD 74 undef = .bool true := h.val 33 74 rfl rfl
      have e77 : a.tmps.getD 77 undef = .bool true := h.val 36 77 rfl rfl
      refine ⟨wanted_none rfl, ?_⟩
      simp at e74 e77
      clear h
      go_simp
      exact ⟨Below.refl _ _, rfl⟩
    · intro a w' h
      have e78 : a.tmps.getD 78 undef = .bool true := h.val 37 78 rfl rfl
      refine ⟨wanted_none rfl, ?_⟩
      simp at e78
      clear h
      go_simp
      exact ⟨Below.refl _ _, rfl⟩
    · intro a w' h
      have e8 : a.tmps.getD 8 undef = .slice pa 0 pcap := h.old 8 rfl
      refine ⟨wanted_some (g := 38) (b := true) (t := 79) rfl rfl (h.val 38 79 rfl rfl), ?_⟩
      simp at e8
      clear h
      go_simp
      exact ⟨Below.refl _ _, rfl⟩
    · intro a w' h
      have e80 : a.tmps.getD 80 undef = .slice pa 0 pcap := h.val 39 80 rfl rfl
      refine ⟨wanted_some (g := 38) (b := true) (t := 79) rfl rfl (h.val 38 79 rfl rfl), ?_⟩
      simp at e80
      clear h
      go_simp
      exact ⟨Below.refl _ _, rfl⟩
    · intro a w' h
      have e81 : a.tmps.getD 81 undef = .int .i64 0 := h.val 40 81 rfl rfl
      refine ⟨wanted_some (g := 38) (b := true) (t := 79) rfl rfl (h.val 38 79 rfl rfl), ?_⟩
      simp at e81
      clear h
      go_simp
      exact ⟨Below.refl _ _, rfl⟩
    · intro a w' h
      have e79 : a.tmps.getD 79 undef = .bool true := h.val 38 79 rfl rfl
      have e82 : a.tmps.getD 82 undef = .bool true := h.val 41 82 rfl rfl
      refine ⟨wanted_none rfl, ?_⟩
      simp at e79 e82
      clear h
      go_simp
      exact ⟨Below.refl _ _, rfl⟩
    · intro a w' h
      have e83 : a.tmps.getD 83 undef = .bool true := h.val 42 83 rfl rfl
      refine ⟨wanted_none rfl, ?_⟩
      simp at e83
      clear h
      go_simp
      exact ⟨Below.refl _ _, rfl⟩
    · intro a w' h
      refine ⟨wanted_some (g := 43) (b := true) (t := 84) rfl rfl (h.val 43 84 rfl rfl), ?_⟩
      clear h
      go_simp
      exact (works_any w').mono fun e w'' ⟨he, hb⟩ => ⟨_, he, hb, rfl⟩
    · intro a w' h
      have e84 : a.tmps.getD 84 undef = .bool true := h.val 43 84 rfl rfl
      have e85 : a.tmps.getD 85 undef = .bool true := h.val 44 85 rfl rfl
      refine ⟨wanted_none rfl, ?_⟩
      simp at e84 e85
      clear h
      go_simp
      exact ⟨Below.refl _ _, rfl⟩
    · intro a w' h
      have e86 : a.tmps.getD 86 undef = .bool true := h.val 45 86 rfl rfl
      refine ⟨wanted_none rfl, ?_⟩
      simp at e86
      clear h
      go_simp
      exact ⟨Below.refl _ _, rfl⟩
  intro a w' h
  rename_i K hK
  refine hK _ _ ?_
  have e0 : a.tmps.getD 0 undef = .bool true := h.val 46 0 rfl rfl
  have hd : a.defers = [] := h.defers
  have hBf := S.be.trans (h.be.mono S.be.size)
  clear h hK
  simp at e0
  go_wp2
  exact bodyPost_ret (v := .bool true) (by simp [results, Try.results12, go_sem, e0]) hd ⟨rfl, hBf⟩

end Go.Proofs.Ytjgebepeghgmcaa
