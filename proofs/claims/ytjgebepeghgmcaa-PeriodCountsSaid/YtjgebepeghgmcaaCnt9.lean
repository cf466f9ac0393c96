/-
  PeriodCounts: the walk.
-/
import Derived.Test.YtjgebepeghgmcaaCnt8
import Derived.Test.YtjgebepeghgmcaaLaw3
namespace Go.Proofs.Ytjgebepeghgmcaa
open Go.RowKit Go.Shelf
set_option linter.unusedVariables false
set_option linter.unusedSimpArgs false

theorem given_any (lo hi : Int) (a : Option Addr) (n cap : Nat) (w : World) :
    Calls Try.prog 14 #[.agg #[.int .i64 lo, .int .i64 hi, .slice a n cap]] w fun e w' => e = .returned (.agg #[.int .i64 lo, .int .i64 hi, .slice a n cap]) ∧ Below w.heap.size w w' := by
  go_enter Try.func14, Try.ntmps14
  go_wp2
  refine bodyPost_ret (v := .agg #[.int .i64 lo, .int .i64 hi, .slice a n cap]) (by simp [results, Try.results14, go_sem]) rfl ⟨rfl, ((Below.refl _ _).alloc (Nat.le_refl _) _).alloc (by simp) _⟩

structure CLW (l : PLog) (w : World) (a : Option Addr) (n cap : Nat) (W : World) : Prop where
  be : Below w.heap.size w W
  b1 : Blk W w.heap.size #[.int .i64 l.lo, .int .i64 l.hi, .slice a n cap] 26
  row : Row W w.heap.size a (spans l.ps)
theorem CLW.kept {l : PLog} {w : World} {a : Option Addr} {n cap : Nat} {W W' : World} (h : CLW l w a n cap W) (hb : Below W.heap.size W W') : CLW l w a n cap W' :=
  ⟨h.be.trans (hb.mono h.be.size), h.b1.kept hb, h.row.below hb h.be.size⟩
theorem CLW.drewN {l : PLog} {w : World} {a : Option Addr} {n cap : Nat} {W : World} (h : CLW l w a n cap W) (k : Nat) : CLW l w a n cap (W.drewN k) :=
  ⟨below_drewN h.be k, h.b1.drewN k, h.row.below (below_drewN (Below.refl _ _) k) h.be.size⟩
theorem CLW.rowW {l : PLog} {w : World} {a : Option Addr} {n cap : Nat} {W : World} (h : CLW l w a n cap W) : Row W W.heap.size a (spans l.ps) := h.row.mono h.be.size

set_option maxRecDepth 100000 in
set_option maxHeartbeats 8000000 in
theorem pcounts_any (l : PLog) (a : Option Addr) (n cap : Nat) (w : World) (hn : n = l.ps.length) (hn1 : n ≤ 9223372036854775807) (hp : Row w w.heap.size a (spans l.ps)) :
    Calls Try.prog 3 #[.agg #[.int .i64 l.lo, .int .i64 l.hi, .slice a n cap]] w fun e w' => e = .returned (.bool true) ∧ Below w.heap.size w w' := by
  have HN := hide hn
  have HP := hide hp
  clear hn hp
  go_enter Try.func3, Try.ntmps3
  go_wp2_with fail
  generalize hW : World.alloc w _ = V
  have T : CLW l w a n cap V := by rw [← hW]; exact ⟨(Below.refl _ _).alloc (Nat.le_refl _) _, Blk.new w _ _, HP.out.below ((Below.refl _ _).alloc (Nat.le_refl _) _) (Nat.le_refl _)⟩
  have HL : Hid (n ≤ 20 → (countsR l).1.length ≤ 1000000000 ∧ ∀ x ∈ (countsR l).1, x.length ≤ 1000000000) := hide fun _ => ⟨by have := countsR_count l; omega, fun x hx => by have := countsR_len hx; omega⟩
  have HC1 := hide (fun (W : World) (h20 : n ≤ 20) (hp : Row W W.heap.size a (spans l.ps)) => countsF_any l a n cap W HN.out (by omega) hp)
  have HC2 := hide (fun (W : World) (h20 : n ≤ 20) (hp : Row W W.heap.size a (spans l.ps)) => refcounts_any l a n cap W HN.out (by omega) hp)
  have HT1 := hide (fun (W : World) (h20 : n ≤ 20) (hp : Row W W.heap.size a (spans l.ps)) => totalF_any l a n cap W HN.out (by omega) hp)
  have HT2 := hide (fun (W : World) (h20 : n ≤ 20) (hp : Row W W.heap.size a (spans l.ps)) => reftotal_any l a n cap W HN.out (by omega) hp)
  obtain ⟨v0, v1, v2, _⟩ := T.b1.three
  have y1 := T.b1.lt
  have hrow := T.rowW
  clear hW HP
  by_cases h20 : 20 < n
  · have e20 : decide ((20 : Int) < (n : Int)) = true := decide_eq_true (by omega)
    go_quiet (fail)
    rename_i nq _
    have T1 := T.drewN nq
    clear T v0 v1 v2 y1 hrow HL HC1 HC2 HT1 HT2
    go_wp2_with (go_at_call 13; refine (works_any _).mono ?_; rintro e W9 ⟨rfl, hb9⟩)
    go_ret
    exact ⟨rfl, (T1.kept hb9).be⟩
  have e20 : decide ((20 : Int) < (n : Int)) = false := decide_eq_false (by omega)
  have H20 : Hid (n ≤ 20) := hide (by omega)
  by_cases hlo : 1 ≤ l.lo
  rotate_left
  · have elo : decide (1 ≤ l.lo) = false := decide_eq_false (by omega)
    clear h20 hlo
    go_quiet (fail)
    rename_i nq _
    have T1 := T.drewN nq
    clear T v0 v1 v2 y1 hrow elo e20
    generalize World.drewN V nq = V1 at *
    have T := T1
    clear T1
    obtain ⟨v0, v1, v2, _⟩ := T.b1.three
    have y1 := T.b1.lt
    go_wp2_with fail
    refine (given_any l.lo l.hi a n cap _).mono ?_
    rintro e W2 ⟨rfl, hb2⟩
    have T2 := T.kept hb2
    clear T v0 v1 v2 y1 hb2
    have U4 := Blk.new W2 #[.int .i64 l.lo, .int .i64 l.hi, .slice a n cap] 28
    go_upto_region 5 with (fail)
    have hb3 : Below W2.heap.size W2 (W2.alloc (.cells #[.int .i64 l.lo, .int .i64 l.hi, .slice a n cap] 28)) := (Below.refl _ _).alloc (Nat.le_refl _) _
    have T3 := T2.kept hb3
    generalize World.alloc W2 _ = W3 at *
    generalize W2.heap.size = p4 at *
    clear T2 hb3
    obtain ⟨v0, v1, v2, _⟩ := T3.b1.three
    have y1 := T3.b1.lt
    go_wp2_with fail
    refine (HC1.out W3 H20.out T3.rowW).mono ?_
    rintro e W4 ⟨x1, rfl, hr1, hb4⟩
    have T4 := T3.kept hb4
    have U5 := U4.kept hb4
    clear T3 U4 hb4 v0 v1 v2 y1
    obtain ⟨v0, v1, v2, _⟩ := U5.three
    have y1 := U5.lt
    go_wp2_with fail
    refine (HC2.out W4 H20.out T4.rowW).mono ?_
    rintro e W5 ⟨x2, rfl, hr2, hb5⟩
    have T5 := T4.kept hb5
    have U6 := U5.kept hb5
    have hr3 := hr1.below hb5
    clear T4 U5 hb5 hr1 v0 v1 v2 y1
    obtain ⟨v0, v1, v2, _⟩ := T5.b1.three
    have y1 := T5.b1.lt
    have HT1' := hide (HT1.out W5 H20.out T5.rowW)
    have HT2' := hide fun (W : World) (hp : Row W W.heap.size a (spans l.ps)) => HT2.out W H20.out hp
    have HL' := hide (HL.out H20.out)
    clear HC1 HC2 HT1 HT2 HL
    generalize totalR l = TR at *
    obtain ⟨⟨t1, t2⟩, t3⟩ := TR
    generalize countsR l = CR at *
    obtain ⟨cs, ce⟩ := CR
    dsimp only at *
    go_wp2_with fail
    refine HT1'.out.mono ?_
    rintro e W6 ⟨rfl, hb6⟩
    have T6 := T5.kept hb6
    have U7 := U6.kept hb6
    have hr4 := hr3.below hb6
    have hr5 := hr2.below hb6
    clear T5 U6 hb6 hr3 hr2 v0 v1 v2 y1 HT1'
    go_upto_region 8 with (fail)
    have U9 := Blk.new W6 #[.int .i64 t1, .int .i64 t2] 23
    have hb7 : Below W6.heap.size W6 (W6.alloc (.cells #[.int .i64 t1, .int .i64 t2] 23)) := (Below.refl _ _).alloc (Nat.le_refl _) _
    have T7 := T6.kept hb7
    have U8 := U7.kept hb7
    have hr6 := hr4.below hb7
    have hr7 := hr5.below hb7
    generalize World.alloc W6 _ = W7 at *
    generalize W6.heap.size = p9 at *
    clear T6 U7 hr4 hr5 hb7
    obtain ⟨v0, v1, v2, _⟩ := U8.three
    have y1 := U8.lt
    go_wp2_with fail
    refine (HT2'.out W7 T7.rowW).mono ?_
    rintro e W8 ⟨rfl, hb8⟩
    have T8 := T7.kept hb8
    have U10 := U9.kept hb8
    have hr8 := hr6.below hb8
    have hr9 := hr7.below hb8
    clear T7 U8 U9 hb8 hr6 hr7 v0 v1 v2 y1 HT2'
    go_upto_region 9 with (fail)
    have U11 := Blk.new W8 #[.int .i64 t1, .int .i64 t2] 23
    have hb9 : Below W8.heap.size W8 (W8.alloc (.cells #[.int .i64 t1, .int .i64 t2] 23)) := (Below.refl _ _).alloc (Nat.le_refl _) _
    have T9 := T8.kept hb9
    have U12 := U10.kept hb9
    have hr10 := hr8.below hb9
    have hr11 := hr9.below hb9
    generalize World.alloc W8 _ = W9 at *
    generalize W8.heap.size = p11 at *
    clear T8 U10 hr8 hr9 hb9
    have HLI := hide (lists_any cs cs x1 x2 W9 HL'.out.1 HL'.out.1 HL'.out.2 HL'.out.2 hr10 hr11)
    rw [show decide (cs = cs) = true from decide_eq_true rfl] at HLI
    clear hr10 hr11 HL'
    go_wp2_with fail
    refine HLI.out.mono ?_
    rintro e W10 ⟨rfl, hb10⟩
    have T10 := T9.kept hb10
    have U13 := U12.kept hb10
    have U14 := U11.kept hb10
    obtain ⟨v0, v1, _⟩ := U13.two
    obtain ⟨v2, v3, _⟩ := U14.two
    have y1 := U13.lt
    have y2 := U14.lt
    clear T9 U12 U11 hb10 HLI
    go_wp2_with (go_at_call 13; refine (works_any _).mono ?_; rintro e W11 ⟨rfl, hb11⟩)
    go_ret
    exact ⟨rfl, (T10.kept hb11).be⟩
  have elo : decide (1 ≤ l.lo) = true := decide_eq_true hlo
  by_cases hhi : 1 ≤ l.hi
  rotate_left
  · have ehi : decide (1 ≤ l.hi) = false := decide_eq_false (by omega)
    clear h20 hhi
    go_quiet (fail)
    rename_i nq _
    have T1 := T.drewN nq
    clear T v0 v1 v2 y1 hrow elo e20 ehi hlo
    generalize World.drewN V nq = V1 at *
    have T := T1
    clear T1
    obtain ⟨v0, v1, v2, _⟩ := T.b1.three
    have y1 := T.b1.lt
    go_wp2_with fail
    refine (given_any l.lo l.hi a n cap _).mono ?_
    rintro e W2 ⟨rfl, hb2⟩
    have T2 := T.kept hb2
    clear T v0 v1 v2 y1 hb2
    have U4 := Blk.new W2 #[.int .i64 l.lo, .int .i64 l.hi, .slice a n cap] 28
    go_upto_region 5 with (fail)
    have hb3 : Below W2.heap.size W2 (W2.alloc (.cells #[.int .i64 l.lo, .int .i64 l.hi, .slice a n cap] 28)) := (Below.refl _ _).alloc (Nat.le_refl _) _
    have T3 := T2.kept hb3
    generalize World.alloc W2 _ = W3 at *
    generalize W2.heap.size = p4 at *
    clear T2 hb3
    obtain ⟨v0, v1, v2, _⟩ := T3.b1.three
    have y1 := T3.b1.lt
    go_wp2_with fail
    refine (HC1.out W3 H20.out T3.rowW).mono ?_
    rintro e W4 ⟨x1, rfl, hr1, hb4⟩
    have T4 := T3.kept hb4
    have U5 := U4.kept hb4
    clear T3 U4 hb4 v0 v1 v2 y1
    obtain ⟨v0, v1, v2, _⟩ := U5.three
    have y1 := U5.lt
    go_wp2_with fail
    refine (HC2.out W4 H20.out T4.rowW).mono ?_
    rintro e W5 ⟨x2, rfl, hr2, hb5⟩
    have T5 := T4.kept hb5
    have U6 := U5.kept hb5
    have hr3 := hr1.below hb5
    clear T4 U5 hb5 hr1 v0 v1 v2 y1
    obtain ⟨v0, v1, v2, _⟩ := T5.b1.three
    have y1 := T5.b1.lt
    have HT1' := hide (HT1.out W5 H20.out T5.rowW)
    have HT2' := hide fun (W : World) (hp : Row W W.heap.size a (spans l.ps)) => HT2.out W H20.out hp
    have HL' := hide (HL.out H20.out)
    clear HC1 HC2 HT1 HT2 HL
    generalize totalR l = TR at *
    obtain ⟨⟨t1, t2⟩, t3⟩ := TR
    generalize countsR l = CR at *
    obtain ⟨cs, ce⟩ := CR
    dsimp only at *
    go_wp2_with fail
    refine HT1'.out.mono ?_
    rintro e W6 ⟨rfl, hb6⟩
    have T6 := T5.kept hb6
    have U7 := U6.kept hb6
    have hr4 := hr3.below hb6
    have hr5 := hr2.below hb6
    clear T5 U6 hb6 hr3 hr2 v0 v1 v2 y1 HT1'
    go_upto_region 8 with (fail)
    have U9 := Blk.new W6 #[.int .i64 t1, .int .i64 t2] 23
    have hb7 : Below W6.heap.size W6 (W6.alloc (.cells #[.int .i64 t1, .int .i64 t2] 23)) := (Below.refl _ _).alloc (Nat.le_refl _) _
    have T7 := T6.kept hb7
    have U8 := U7.kept hb7
    have hr6 := hr4.below hb7
    have hr7 := hr5.below hb7
    generalize World.alloc W6 _ = W7 at *
    generalize W6.heap.size = p9 at *
    clear T6 U7 hr4 hr5 hb7
    obtain ⟨v0, v1, v2, _⟩ := U8.three
    have y1 := U8.lt
    go_wp2_with fail
    refine (HT2'.out W7 T7.rowW).mono ?_
    rintro e W8 ⟨rfl, hb8⟩
    have T8 := T7.kept hb8
    have U10 := U9.kept hb8
    have hr8 := hr6.below hb8
    have hr9 := hr7.below hb8
    clear T7 U8 U9 hb8 hr6 hr7 v0 v1 v2 y1 HT2'
    go_upto_region 9 with (fail)
    have U11 := Blk.new W8 #[.int .i64 t1, .int .i64 t2] 23
    have hb9 : Below W8.heap.size W8 (W8.alloc (.cells #[.int .i64 t1, .int .i64 t2] 23)) := (Below.refl _ _).alloc (Nat.le_refl _) _
    have T9 := T8.kept hb9
    have U12 := U10.kept hb9
    have hr10 := hr8.below hb9
    have hr11 := hr9.below hb9
    generalize World.alloc W8 _ = W9 at *
    generalize W8.heap.size = p11 at *
    clear T8 U10 hr8 hr9 hb9
    have HLI := hide (lists_any cs cs x1 x2 W9 HL'.out.1 HL'.out.1 HL'.out.2 HL'.out.2 hr10 hr11)
    rw [show decide (cs = cs) = true from decide_eq_true rfl] at HLI
    clear hr10 hr11 HL'
    go_wp2_with fail
    refine HLI.out.mono ?_
    rintro e W10 ⟨rfl, hb10⟩
    have T10 := T9.kept hb10
    have U13 := U12.kept hb10
    have U14 := U11.kept hb10
    obtain ⟨v0, v1, _⟩ := U13.two
    obtain ⟨v2, v3, _⟩ := U14.two
    have y1 := U13.lt
    have y2 := U14.lt
    clear T9 U12 U11 hb10 HLI
    go_wp2_with (go_at_call 13; refine (works_any _).mono ?_; rintro e W11 ⟨rfl, hb11⟩)
    go_ret
    exact ⟨rfl, (T10.kept hb11).be⟩
  have ehi : decide (1 ≤ l.hi) = true := decide_eq_true hhi
  obtain ⟨Q, hQ⟩ : ∃ Q : Int, IntKind.i64.wrap (l.hi.tdiv 20) = Q := ⟨_, rfl⟩
  by_cases hq : l.lo < Q
  · have eq : decide (l.lo < Q) = true := decide_eq_true hq
    clear hq
    go_quiet (fail)
    rename_i nq _
    have T1 := T.drewN nq
    clear T v0 v1 v2 y1 hrow HL HC1 HC2 HT1 HT2
    go_wp2_with (go_at_call 13; refine (works_any _).mono ?_; rintro e W9 ⟨rfl, hb9⟩)
    go_ret
    exact ⟨rfl, (T1.kept hb9).be⟩
  have eq : decide (l.lo < Q) = false := decide_eq_false hq
  by_cases hn0 : n = 0
  · have en : decide (0 < n) = false := decide_eq_false (by omega)
    clear h20 hq hn0
    go_quiet (fail)
    rename_i nq _
    have T1 := T.drewN nq
    clear T v0 v1 v2 y1 hrow elo e20 ehi hlo hhi eq hQ en
    generalize World.drewN V nq = V1 at *
    have T := T1
    clear T1
    obtain ⟨v0, v1, v2, _⟩ := T.b1.three
    have y1 := T.b1.lt
    go_wp2_with fail
    refine (given_any l.lo l.hi a n cap _).mono ?_
    rintro e W2 ⟨rfl, hb2⟩
    have T2 := T.kept hb2
    clear T v0 v1 v2 y1 hb2
    have U4 := Blk.new W2 #[.int .i64 l.lo, .int .i64 l.hi, .slice a n cap] 28
    go_upto_region 5 with (fail)
    have hb3 : Below W2.heap.size W2 (W2.alloc (.cells #[.int .i64 l.lo, .int .i64 l.hi, .slice a n cap] 28)) := (Below.refl _ _).alloc (Nat.le_refl _) _
    have T3 := T2.kept hb3
    generalize World.alloc W2 _ = W3 at *
    generalize W2.heap.size = p4 at *
    clear T2 hb3
    obtain ⟨v0, v1, v2, _⟩ := T3.b1.three
    have y1 := T3.b1.lt
    go_wp2_with fail
    refine (HC1.out W3 H20.out T3.rowW).mono ?_
    rintro e W4 ⟨x1, rfl, hr1, hb4⟩
    have T4 := T3.kept hb4
    have U5 := U4.kept hb4
    clear T3 U4 hb4 v0 v1 v2 y1
    obtain ⟨v0, v1, v2, _⟩ := U5.three
    have y1 := U5.lt
    go_wp2_with fail
    refine (HC2.out W4 H20.out T4.rowW).mono ?_
    rintro e W5 ⟨x2, rfl, hr2, hb5⟩
    have T5 := T4.kept hb5
    have U6 := U5.kept hb5
    have hr3 := hr1.below hb5
    clear T4 U5 hb5 hr1 v0 v1 v2 y1
    obtain ⟨v0, v1, v2, _⟩ := T5.b1.three
    have y1 := T5.b1.lt
    have HT1' := hide (HT1.out W5 H20.out T5.rowW)
    have HT2' := hide fun (W : World) (hp : Row W W.heap.size a (spans l.ps)) => HT2.out W H20.out hp
    have HL' := hide (HL.out H20.out)
    clear HC1 HC2 HT1 HT2 HL
    generalize totalR l = TR at *
    obtain ⟨⟨t1, t2⟩, t3⟩ := TR
    generalize countsR l = CR at *
    obtain ⟨cs, ce⟩ := CR
    dsimp only at *
    go_wp2_with fail
    refine HT1'.out.mono ?_
    rintro e W6 ⟨rfl, hb6⟩
    have T6 := T5.kept hb6
    have U7 := U6.kept hb6
    have hr4 := hr3.below hb6
    have hr5 := hr2.below hb6
    clear T5 U6 hb6 hr3 hr2 v0 v1 v2 y1 HT1'
    go_upto_region 8 with (fail)
    have U9 := Blk.new W6 #[.int .i64 t1, .int .i64 t2] 23
    have hb7 : Below W6.heap.size W6 (W6.alloc (.cells #[.int .i64 t1, .int .i64 t2] 23)) := (Below.refl _ _).alloc (Nat.le_refl _) _
    have T7 := T6.kept hb7
    have U8 := U7.kept hb7
    have hr6 := hr4.below hb7
    have hr7 := hr5.below hb7
    generalize World.alloc W6 _ = W7 at *
    generalize W6.heap.size = p9 at *
    clear T6 U7 hr4 hr5 hb7
    obtain ⟨v0, v1, v2, _⟩ := U8.three
    have y1 := U8.lt
    go_wp2_with fail
    refine (HT2'.out W7 T7.rowW).mono ?_
    rintro e W8 ⟨rfl, hb8⟩
    have T8 := T7.kept hb8
    have U10 := U9.kept hb8
    have hr8 := hr6.below hb8
    have hr9 := hr7.below hb8
    clear T7 U8 U9 hb8 hr6 hr7 v0 v1 v2 y1 HT2'
    go_upto_region 9 with (fail)
    have U11 := Blk.new W8 #[.int .i64 t1, .int .i64 t2] 23
    have hb9 : Below W8.heap.size W8 (W8.alloc (.cells #[.int .i64 t1, .int .i64 t2] 23)) := (Below.refl _ _).alloc (Nat.le_refl _) _
    have T9 := T8.kept hb9
    have U12 := U10.kept hb9
    have hr10 := hr8.below hb9
    have hr11 := hr9.below hb9
    generalize World.alloc W8 _ = W9 at *
    generalize W8.heap.size = p11 at *
    clear T8 U10 hr8 hr9 hb9
    have HLI := hide (lists_any cs cs x1 x2 W9 HL'.out.1 HL'.out.1 HL'.out.2 HL'.out.2 hr10 hr11)
    rw [show decide (cs = cs) = true from decide_eq_true rfl] at HLI
    clear hr10 hr11 HL'
    go_wp2_with fail
    refine HLI.out.mono ?_
    rintro e W10 ⟨rfl, hb10⟩
    have T10 := T9.kept hb10
    have U13 := U12.kept hb10
    have U14 := U11.kept hb10
    obtain ⟨v0, v1, _⟩ := U13.two
    obtain ⟨v2, v3, _⟩ := U14.two
    have y1 := U13.lt
    have y2 := U14.lt
    clear T9 U12 U11 hb10 HLI
    go_wp2_with (go_at_call 13; refine (works_any _).mono ?_; rintro e W11 ⟨rfl, hb11⟩)
    go_ret
    exact ⟨rfl, (T10.kept hb11).be⟩
  have en : decide (0 < n) = true := decide_eq_true (by omega)
  obtain ⟨b, off, ha, hbw, hcell⟩ := hrow.span (by rw [← HN.out]; omega)
  obtain ⟨s0, s1⟩ := hcell (n - 1) (by rw [← HN.out]; omega)
  have hw1 : IntKind.i64.wrap ((n : Int) - 1) = ((n - 1 : Nat) : Int) := by rw [IntKind.wrap_i64]; omega
  have hw2 : (n : Int) - 1 = ((n - 1 : Nat) : Int) := by omega
  have hi1 : (0 : Int) ≤ (n : Int) - 1 := by omega
  have hi2 : (n : Int) - 1 < (n : Int) := by omega
  generalize his l.ps (n - 1) = z at *
  clear hcell s0
  subst ha
  obtain ⟨Z, hZ⟩ : ∃ Z : Int, IntKind.i64.wrap (z.tdiv 3000) = Z := ⟨_, rfl⟩
  by_cases hz : l.lo < Z
  · have ez : decide (l.lo < Z) = true := decide_eq_true hz
    clear hz hq hn0
    go_quiet (fail)
    rename_i nq _
    have T1 := T.drewN nq
    clear T v0 v1 v2 y1 hrow HL HC1 HC2 HT1 HT2
    go_wp2_with (go_at_call 13; refine (works_any _).mono ?_; rintro e W9 ⟨rfl, hb9⟩)
    go_ret
    exact ⟨rfl, (T1.kept hb9).be⟩
  · have ez : decide (l.lo < Z) = false := decide_eq_false hz
    clear hz h20 hq hn0
    go_quiet (fail)
    rename_i nq _
    have T1 := T.drewN nq
    clear T v0 v1 v2 y1 hrow elo e20 ehi hlo hhi eq hQ en ez hZ hw1 hw2 hi1 hi2 s1
    generalize World.drewN V nq = V1 at *
    have T := T1
    clear T1
    obtain ⟨v0, v1, v2, _⟩ := T.b1.three
    have y1 := T.b1.lt
    go_wp2_with fail
    refine (given_any l.lo l.hi (some ⟨b, off, none⟩) n cap _).mono ?_
    rintro e W2 ⟨rfl, hb2⟩
    have T2 := T.kept hb2
    clear T v0 v1 v2 y1 hb2
    have U4 := Blk.new W2 #[.int .i64 l.lo, .int .i64 l.hi, .slice (some ⟨b, off, none⟩) n cap] 28
    go_upto_region 5 with (fail)
    have hb3 : Below W2.heap.size W2 (W2.alloc (.cells #[.int .i64 l.lo, .int .i64 l.hi, .slice (some ⟨b, off, none⟩) n cap] 28)) := (Below.refl _ _).alloc (Nat.le_refl _) _
    have T3 := T2.kept hb3
    generalize World.alloc W2 _ = W3 at *
    generalize W2.heap.size = p4 at *
    clear T2 hb3
    obtain ⟨v0, v1, v2, _⟩ := T3.b1.three
    have y1 := T3.b1.lt
    go_wp2_with fail
    refine (HC1.out W3 H20.out T3.rowW).mono ?_
    rintro e W4 ⟨x1, rfl, hr1, hb4⟩
    have T4 := T3.kept hb4
    have U5 := U4.kept hb4
    clear T3 U4 hb4 v0 v1 v2 y1
    obtain ⟨v0, v1, v2, _⟩ := U5.three
    have y1 := U5.lt
    go_wp2_with fail
    refine (HC2.out W4 H20.out T4.rowW).mono ?_
    rintro e W5 ⟨x2, rfl, hr2, hb5⟩
    have T5 := T4.kept hb5
    have U6 := U5.kept hb5
    have hr3 := hr1.below hb5
    clear T4 U5 hb5 hr1 v0 v1 v2 y1
    obtain ⟨v0, v1, v2, _⟩ := T5.b1.three
    have y1 := T5.b1.lt
    have HT1' := hide (HT1.out W5 H20.out T5.rowW)
    have HT2' := hide fun (W : World) (hp : Row W W.heap.size (some ⟨b, off, none⟩) (spans l.ps)) => HT2.out W H20.out hp
    have HL' := hide (HL.out H20.out)
    clear HC1 HC2 HT1 HT2 HL
    generalize totalR l = TR at *
    obtain ⟨⟨t1, t2⟩, t3⟩ := TR
    generalize countsR l = CR at *
    obtain ⟨cs, ce⟩ := CR
    dsimp only at *
    go_wp2_with fail
    refine HT1'.out.mono ?_
    rintro e W6 ⟨rfl, hb6⟩
    have T6 := T5.kept hb6
    have U7 := U6.kept hb6
    have hr4 := hr3.below hb6
    have hr5 := hr2.below hb6
    clear T5 U6 hb6 hr3 hr2 v0 v1 v2 y1 HT1'
    go_upto_region 8 with (fail)
    have U9 := Blk.new W6 #[.int .i64 t1, .int .i64 t2] 23
    have hb7 : Below W6.heap.size W6 (W6.alloc (.cells #[.int .i64 t1, .int .i64 t2] 23)) := (Below.refl _ _).alloc (Nat.le_refl _) _
    have T7 := T6.kept hb7
    have U8 := U7.kept hb7
    have hr6 := hr4.below hb7
    have hr7 := hr5.below hb7
    generalize World.alloc W6 _ = W7 at *
    generalize W6.heap.size = p9 at *
    clear T6 U7 hr4 hr5 hb7
    obtain ⟨v0, v1, v2, _⟩ := U8.three
    have y1 := U8.lt
    go_wp2_with fail
    refine (HT2'.out W7 T7.rowW).mono ?_
    rintro e W8 ⟨rfl, hb8⟩
    have T8 := T7.kept hb8
    have U10 := U9.kept hb8
    have hr8 := hr6.below hb8
    have hr9 := hr7.below hb8
    clear T7 U8 U9 hb8 hr6 hr7 v0 v1 v2 y1 HT2'
    go_upto_region 9 with (fail)
    have U11 := Blk.new W8 #[.int .i64 t1, .int .i64 t2] 23
    have hb9 : Below W8.heap.size W8 (W8.alloc (.cells #[.int .i64 t1, .int .i64 t2] 23)) := (Below.refl _ _).alloc (Nat.le_refl _) _
    have T9 := T8.kept hb9
    have U12 := U10.kept hb9
    have hr10 := hr8.below hb9
    have hr11 := hr9.below hb9
    generalize World.alloc W8 _ = W9 at *
    generalize W8.heap.size = p11 at *
    clear T8 U10 hr8 hr9 hb9
    have HLI := hide (lists_any cs cs x1 x2 W9 HL'.out.1 HL'.out.1 HL'.out.2 HL'.out.2 hr10 hr11)
    rw [show decide (cs = cs) = true from decide_eq_true rfl] at HLI
    clear hr10 hr11 HL'
    go_wp2_with fail
    refine HLI.out.mono ?_
    rintro e W10 ⟨rfl, hb10⟩
    have T10 := T9.kept hb10
    have U13 := U12.kept hb10
    have U14 := U11.kept hb10
    obtain ⟨v0, v1, _⟩ := U13.two
    obtain ⟨v2, v3, _⟩ := U14.two
    have y1 := U13.lt
    have y2 := U14.lt
    clear T9 U12 U11 hb10 HLI
    go_wp2_with (go_at_call 13; refine (works_any _).mono ?_; rintro e W11 ⟨rfl, hb11⟩)
    go_ret
    exact ⟨rfl, (T10.kept hb11).be⟩

end Go.Proofs.Ytjgebepeghgmcaa

