/-
  The chapter's reference: the ends of the period.
-/
import Derived.Test.YtjgebepeghgmcaaCnt3
import Derived.Test.YtjgebepeghgmcaaTwoNew
namespace Go.Proofs.Ytjgebepeghgmcaa
open Go.RowKit Go.Shelf
set_option linter.unusedVariables false
set_option linter.unusedSimpArgs false

/-! ### plain -/
def refLo (l : PLog) (cs : List Int) : Int × Int := if lessR (bel l.ps cs (lowOf l.ps cs)) (l.lo, 1) then (l.lo, 1) else bel l.ps cs (lowOf l.ps cs)
def refHi (l : PLog) (cs : List Int) : Int × Int := if lessR (l.hi, 1) (abv l.ps cs (highOf l.ps cs)) then (l.hi, 1) else abv l.ps cs (highOf l.ps cs)
theorem refLo_small {l : PLog} {cs : List Int} (hl : LOk l) (hcs : COk l cs) (h : 1 ≤ cs.length) : Small 2000000 (refLo l cs).1 ∧ 1 ≤ (refLo l cs).2 ∧ (refLo l cs).2 ≤ 8000000 := by
  have m1 := lowOf_mem (ps := l.ps) (cs := cs) (by omega)
  obtain ⟨h1, h2, h3, _⟩ := bel_small hl hcs m1.1 m1.2
  have := hl.lo1; have := hl.lohi; have := hl.hi1
  unfold refLo
  split
  · exact ⟨by unfold Small; dsimp only; omega, by simp, by simp⟩
  · exact ⟨h1, h2, h3⟩
theorem refHi_small {l : PLog} {cs : List Int} (hl : LOk l) (hcs : COk l cs) (h : 1 ≤ cs.length) : Small 2000000 (refHi l cs).1 ∧ 1 ≤ (refHi l cs).2 ∧ (refHi l cs).2 ≤ 8000000 ∧ 1 ≤ (refHi l cs).1 := by
  have m1 := highOf_mem (ps := l.ps) (cs := cs) (by omega)
  obtain ⟨_, h2, h3, h4, h5, h6⟩ := bel_small hl hcs m1.1 m1.2
  have := hl.lo1; have := hl.lohi; have := hl.hi1
  unfold refHi
  split
  · exact ⟨by unfold Small; dsimp only; omega, by simp, by simp, by dsimp only; omega⟩
  · exact ⟨h4, by omega, by omega, h6⟩
/-- The reference's lower end has the value of the lower end. -/
theorem refLo_eq {l : PLog} {cs : List Int} (h : 1 ≤ cs.length) : refLo l cs = lowEnd l cs ∨ (refLo l cs = bel l.ps cs (lowOf l.ps cs) ∧ lowEnd l cs = (l.lo, 1) ∧ (refLo l cs).1 = l.lo * (refLo l cs).2) := by
  have hc : ¬ cs.length = 0 := by omega
  unfold refLo lowEnd
  rw [if_neg hc]
  generalize bel l.ps cs (lowOf l.ps cs) = B
  have e1 : (0 < cmpR B (l.lo, 1)) ↔ l.lo * B.2 < B.1 := by unfold cmpR; dsimp only; omega
  have e2 : lessR B (l.lo, 1) = true ↔ B.1 < l.lo * B.2 := by unfold lessR; simp
  by_cases h1 : l.lo * B.2 < B.1
  · rw [if_neg (fun h => by have := e2.1 h; omega), if_pos (e1.2 h1)]; exact .inl rfl
  · rw [if_neg (fun h => h1 (e1.1 h))]
    by_cases h2 : B.1 < l.lo * B.2
    · rw [if_pos (e2.2 h2)]; exact .inl rfl
    · rw [if_neg (fun h => h2 (e2.1 h))]; exact .inr ⟨rfl, rfl, by omega⟩
theorem refHi_eq {l : PLog} {cs : List Int} (h : 1 ≤ cs.length) : refHi l cs = highEnd l cs ∨ (refHi l cs = abv l.ps cs (highOf l.ps cs) ∧ highEnd l cs = (l.hi, 1) ∧ (refHi l cs).1 = l.hi * (refHi l cs).2) := by
  have hc : ¬ cs.length = 0 := by omega
  unfold refHi highEnd
  rw [if_neg hc]
  generalize abv l.ps cs (highOf l.ps cs) = B
  have e1 : (cmpR B (l.hi, 1) < 0) ↔ B.1 < l.hi * B.2 := by unfold cmpR; dsimp only; omega
  have e2 : lessR (l.hi, 1) B = true ↔ l.hi * B.2 < B.1 := by unfold lessR; simp
  by_cases h1 : B.1 < l.hi * B.2
  · rw [if_neg (fun h => by have := e2.1 h; omega), if_pos (e1.2 h1)]; exact .inl rfl
  · rw [if_neg (fun h => h1 (e1.1 h))]
    by_cases h2 : l.hi * B.2 < B.1
    · rw [if_pos (e2.2 h2)]; exact .inl rfl
    · rw [if_neg (fun h => h2 (e2.1 h))]; exact .inr ⟨rfl, rfl, by omega⟩

/-! ### the walk -/
structure PdW (l : PLog) (w : World) (p2 p4 p5 p8 p9 : Nat) (a : Option Addr) (n cap : Nat) (A B : Int × Int) (W : World) : Prop where
  be : Below w.heap.size w W
  b2 : Blk W p2 #[.int .i64 l.lo, .int .i64 l.hi, .slice a n cap] 28
  b4 : Blk W p4 #[.int .i64 0, .int .i64 0] 41
  b5 : Blk W p5 #[.int .i64 0, .int .i64 0] 41
  b8 : Blk W p8 #[.int .i64 A.1, .int .i64 A.2] 41
  b9 : Blk W p9 #[.int .i64 B.1, .int .i64 B.2] 41
structure PdP (w : World) (p2 p4 p5 p8 p9 : Nat) : Prop where
  g2 : w.heap.size ≤ p2
  n24 : p2 < p4
  n45 : p4 < p5
  n58 : p5 < p8
  n59 : p5 < p9
  n89 : p8 ≠ p9
theorem PdW.kept {l : PLog} {w : World} {p2 p4 p5 p8 p9 : Nat} {a : Option Addr} {n cap : Nat} {A B : Int × Int} {W W' : World} (h : PdW l w p2 p4 p5 p8 p9 a n cap A B W) (hb : Below W.heap.size W W') : PdW l w p2 p4 p5 p8 p9 a n cap A B W' :=
  ⟨h.be.trans (hb.mono h.be.size), h.b2.kept hb, h.b4.kept hb, h.b5.kept hb, h.b8.kept hb, h.b9.kept hb⟩
theorem PdW.low {l : PLog} {w : World} {p2 p4 p5 p8 p9 : Nat} {a : Option Addr} {n cap : Nat} {A B : Int × Int} {W : World} (h : PdW l w p2 p4 p5 p8 p9 a n cap A B W) (P : PdP w p2 p4 p5 p8 p9) (x y : Int) :
    PdW l w p2 p4 p5 p8 p9 a n cap (x, y) B ((W.setCell ⟨p8, 0, none⟩ (.int .i64 x)).setCell ⟨p8, 1, none⟩ (.int .i64 y)) := by
  obtain ⟨h1, h2, h3, h4, h5, h6⟩ := P
  exact ⟨below_set2 h.be (by omega) _ _, h.b2.other2 (by omega) _ _, h.b4.other2 (by omega) _ _, h.b5.other2 (by omega) _ _, h.b8.set2 _ _, h.b9.other2 (by omega) _ _⟩
theorem PdW.high {l : PLog} {w : World} {p2 p4 p5 p8 p9 : Nat} {a : Option Addr} {n cap : Nat} {A B : Int × Int} {W : World} (h : PdW l w p2 p4 p5 p8 p9 a n cap A B W) (P : PdP w p2 p4 p5 p8 p9) (x y : Int) :
    PdW l w p2 p4 p5 p8 p9 a n cap A (x, y) ((W.setCell ⟨p9, 0, none⟩ (.int .i64 x)).setCell ⟨p9, 1, none⟩ (.int .i64 y)) := by
  obtain ⟨h1, h2, h3, h4, h5, h6⟩ := P
  exact ⟨below_set2 h.be (by omega) _ _, h.b2.other2 (by omega) _ _, h.b4.other2 (by omega) _ _, h.b5.other2 (by omega) _ _, h.b8.other2 (by omega) _ _, h.b9.set2 _ _⟩

attribute [local go_sem] grows growAt growUpon in
set_option maxRecDepth 100000 in
set_option maxHeartbeats 4000000 in
theorem refperiod_any (l : PLog) (cs : List Int) (a ca : Option Addr) (n cap m ccap : Nat) (w : World) (hl : LOk l) (hcs : COk l cs) (hn : n = l.ps.length) (hm : m = cs.length) (hmc : m ≤ ccap) (hm1 : 1 ≤ m)
    (hp : Row w w.heap.size a (spans l.ps)) (hc : Row w w.heap.size ca (ints cs)) :
    Calls Try.prog 69 #[.agg #[.int .i64 l.lo, .int .i64 l.hi, .slice a n cap], .slice ca m ccap] w fun e w' =>
      e = .returned (.tuple #[.agg #[.int .i64 (refLo l cs).1, .int .i64 (refLo l cs).2], .agg #[.int .i64 (refHi l cs).1, .int .i64 (refHi l cs).2]]) ∧ Below w.heap.size w w' := by
  have HBO := hide (fun (W : World) (hp : Row W W.heap.size a (spans l.ps)) (hc : Row W W.heap.size ca (ints cs)) => refbounds_any l cs a ca n cap m ccap W hl hcs hn hm hmc hm1 hp hc)
  have ml := lowOf_mem (ps := l.ps) (cs := cs) (by omega)
  have mh := highOf_mem (ps := l.ps) (cs := cs) (by omega)
  have HBE := hide (fun (W : World) (hp : Row W W.heap.size a (spans l.ps)) (hc : Row W W.heap.size ca (ints cs)) => refbelow_any l cs a ca n cap m ccap (lowOf l.ps cs) W hl hcs hn hm hmc hp hc ml.1 ml.2)
  have HAB := hide (fun (W : World) (hp : Row W W.heap.size a (spans l.ps)) (hc : Row W W.heap.size ca (ints cs)) => refabove_any l cs a ca n cap m ccap (highOf l.ps cs) W hl hcs hn hm hmc hp hc mh.1 mh.2)
  have HLE : Hid (∀ W : World, Calls Try.prog 51 #[.agg #[.int .i64 (bel l.ps cs (lowOf l.ps cs)).1, .int .i64 (bel l.ps cs (lowOf l.ps cs)).2], .agg #[.int .i64 l.lo, .int .i64 1]] W fun e w' => e = .returned (.bool (lessR (bel l.ps cs (lowOf l.ps cs)) (l.lo, 1))) ∧ Below W.heap.size W w') := hide (by
    intro W
    obtain ⟨h1, h2, h3, _⟩ := bel_small hl hcs ml.1 ml.2
    have := hl.lo1; have := hl.lohi; have := hl.hi1
    unfold Small at h1
    exact refless_any _ (l.lo, 1) W (by unfold Small; omega) (by unfold Small; omega) (by unfold Small; dsimp only; omega) (by unfold Small; dsimp only; omega))
  have HLH : Hid (∀ W : World, Calls Try.prog 51 #[.agg #[.int .i64 l.hi, .int .i64 1], .agg #[.int .i64 (abv l.ps cs (highOf l.ps cs)).1, .int .i64 (abv l.ps cs (highOf l.ps cs)).2]] W fun e w' => e = .returned (.bool (lessR (l.hi, 1) (abv l.ps cs (highOf l.ps cs)))) ∧ Below W.heap.size W w') := hide (by
    intro W
    obtain ⟨_, h2, h3, h4, h5, _⟩ := bel_small hl hcs mh.1 mh.2
    have := hl.lo1; have := hl.lohi; have := hl.hi1
    unfold Small at h4
    exact refless_any (l.hi, 1) _ W (by unfold Small; dsimp only; omega) (by unfold Small; dsimp only; omega) (by unfold Small; omega) (by unfold Small; omega))
  have RL : Hid (refLo l cs = if lessR (bel l.ps cs (lowOf l.ps cs)) (l.lo, 1) then (l.lo, 1) else bel l.ps cs (lowOf l.ps cs)) := hide rfl
  have RH : Hid (refHi l cs = if lessR (l.hi, 1) (abv l.ps cs (highOf l.ps cs)) then (l.hi, 1) else abv l.ps cs (highOf l.ps cs)) := hide rfl
  clear hl hcs hn hm ml mh
  generalize bel l.ps cs (lowOf l.ps cs) = A at *
  generalize abv l.ps cs (highOf l.ps cs) = B at *
  generalize lowOf l.ps cs = L at *
  generalize highOf l.ps cs = H at *
  generalize refLo l cs = RA at *
  generalize refHi l cs = RB at *
  go_enter Try.func69, Try.ntmps69
  go_wp2_with fail
  obtain ⟨p2, hp2⟩ : ∃ p2, p2 = w.heap.size := ⟨_, rfl⟩
  obtain ⟨p4, hp4⟩ : ∃ p4, p4 = w.heap.size + 1 := ⟨_, rfl⟩
  obtain ⟨p5, hp5⟩ : ∃ p5, p5 = w.heap.size + 1 + 1 := ⟨_, rfl⟩
  rw [← hp5, ← hp4, ← hp2]
  generalize hW : World.alloc (World.alloc (World.alloc w _) _) _ = V
  have be0 : Below w.heap.size w V := by rw [← hW]; exact (((Below.refl _ _).alloc (Nat.le_refl _) _).alloc (by simp) _).alloc (by simp; omega) _
  have b2 : Blk V p2 #[.int .i64 l.lo, .int .i64 l.hi, .slice a n cap] 28 := by rw [← hW, hp2]; exact ((Blk.new w _ _).alloc _).alloc _
  have b4 : Blk V p4 #[.int .i64 0, .int .i64 0] 41 := by rw [← hW, hp4]; exact (by simpa using Blk.new (World.alloc w _) _ _ : Blk _ (w.heap.size + 1) _ _).alloc _
  have b5 : Blk V p5 #[.int .i64 0, .int .i64 0] 41 := by rw [← hW, hp5]; simpa using Blk.new (World.alloc (World.alloc w _) _) _ _
  have g2 : w.heap.size ≤ p2 := by omega
  have n24 : p2 < p4 := by omega
  have n45 : p4 < p5 := by omega
  clear hW hp2 hp4 hp5
  have hpV := hp.below be0 (Nat.le_refl _)
  have hcV := hc.below be0 (Nat.le_refl _)
  clear hp hc
  refine (HBO.out V (hpV.mono be0.size) (hcV.mono be0.size)).mono ?_
  rintro e W1 ⟨rfl, hb1⟩
  have c2 := b2.kept hb1
  have c4 := b4.kept hb1
  have c5 := b5.kept hb1
  have be1 := be0.trans (hb1.mono be0.size)
  have hp1 := hpV.below hb1 be0.size
  have hc1 := hcV.below hb1 be0.size
  clear hb1 b2 b4 b5 be0 hpV hcV V
  go_wp2_with fail
  obtain ⟨p6, hp6⟩ : ∃ p6, p6 = W1.heap.size := ⟨_, rfl⟩
  obtain ⟨p7, hp7⟩ : ∃ p7, p7 = W1.heap.size + 1 := ⟨_, rfl⟩
  rw [← hp7, ← hp6]
  have n56 : p5 < p6 := by have := c5.lt; omega
  have n67 : p6 < p7 := by omega
  generalize hW : World.alloc (World.alloc W1 _) _ = V2
  have hbA : Below W1.heap.size W1 V2 := by rw [← hW]; exact (((Below.refl _ _).alloc (Nat.le_refl _) _).alloc (by simp) _)
  have d2 := c2.kept hbA
  have d4 := c4.kept hbA
  have d5 := c5.kept hbA
  have d6 : Blk V2 p6 #[.int .i64 (L.1 : Int), .int .i64 (L.2 : Int)] 60 := by rw [← hW, hp6]; exact (Blk.new W1 _ _).alloc _
  have d7 : Blk V2 p7 #[.int .i64 (H.1 : Int), .int .i64 (H.2 : Int)] 60 := by rw [← hW, hp7]; simpa using Blk.new (World.alloc W1 _) _ _
  have be2 := be1.trans (hbA.mono be1.size)
  have hp2 := hp1.below hbA be1.size
  have hc2 := hc1.below hbA be1.size
  have hs2 := be2.size
  clear hW hbA hp6 hp7 c2 c4 c5 be1 hp1 hc1 W1
  obtain ⟨c0, c1, c2, _⟩ := d2.three
  have z2 := d2.lt
  obtain ⟨u6, u6', _⟩ := d6.two
  have z6 := d6.lt
  obtain ⟨u7, u7', _⟩ := d7.two
  have z7 := d7.lt
  have hX := @Ext.cell V2
  have HX1 := hide (fun X : Ext V2 => HBE.out X.w ((hp2.below X.below hs2).mono (by have := X.below.size; omega)) ((hc2.below X.below hs2).mono (by have := X.below.size; omega)))
  have HX2 := hide (fun X : Ext V2 => HAB.out X.w ((hp2.below X.below hs2).mono (by have := X.below.size; omega)) ((hc2.below X.below hs2).mono (by have := X.below.size; omega)))
  refine wp_region_two #[.int .i64 0, .int .i64 0] #[.int .i64 0, .int .i64 0] 41 41 8 9 8 (by kernel_rfl) (by kernel_rfl) (by decide)
    ⟨_, rfl, rfl, rfl, (by intro cs b h; cases h), fun ev w => by simp [go_sem]⟩ ⟨_, rfl, rfl, rfl, (by intro cs b h; cases h), fun ev w => by simp [go_sem]⟩ ?_
  simp only [List.take_succ_cons, List.take_zero, List.drop_succ_cons, List.drop_zero]
  repeat (refine wpGrow_step (fun K hK => ?_); go_simp; first | (refine hK _ ?_; clear hK K) | (apply Exists.intro; refine ⟨fun _ => ?_, hK _ ?_⟩; (first | (go_at_call 79; with_reducible exact HX1.out _) | (go_at_call 80; with_reducible exact HX2.out _)); clear hK K))
  refine wpGrow_nil ?_
  intro U p8 p9 hbU hl1 hl2 hne bb1 bb2
  clear hX HX1 HX2 c0 c1 c2 u6 u6' u7 u7' z6 z7
  have z5 := d5.lt
  have n58 : p5 < p8 := by omega
  have n59 : p5 < p9 := by omega
  have y8 := bb1.lt
  have y9 := bb2.lt
  obtain ⟨q1, q1', g1, g1'⟩ := bb1.two
  obtain ⟨q2, q2', g2', g2''⟩ := bb2.two
  have hne' : ¬ p9 = p8 := fun e => hne e.symm
  simp only [Act.put, List.setIfInBounds_toArray, List.set_cons_zero, List.set_cons_succ]
  have e2 := d2.below hbU z2
  have e4 := d4.below hbU d4.lt
  have e5 := d5.below hbU d5.lt
  have eB := be2.trans (hbU.mono be2.size)
  have HP : PdP w p2 p4 p5 p8 p9 := ⟨g2, n24, n45, n58, n59, hne⟩
  have P0 := ((⟨eB, e2, e4, e5, bb1, bb2⟩ : PdW l w p2 p4 p5 p8 p9 a n cap (0, 0) (0, 0) U).low HP A.1 A.2).high HP B.1 B.2
  obtain ⟨c0, c1, c2, _⟩ := e2.three
  go_wp2_with fail
  obtain ⟨p10, hp10⟩ : ∃ p10, p10 = U.heap.size := ⟨_, rfl⟩
  rw [← hp10]
  generalize hW : World.alloc (World.setCell (World.setCell (World.setCell (World.setCell U _ _) _ _) _ _) _ _) _ = V
  have b10 : Blk V p10 #[.int .i64 l.lo, .int .i64 1] 41 := by
    rw [← hW, hp10]
    simpa using Blk.new (World.setCell (World.setCell (World.setCell (World.setCell U ⟨p8, 0, none⟩ (.int .i64 A.1)) ⟨p8, 1, none⟩ (.int .i64 A.2)) ⟨p9, 0, none⟩ (.int .i64 B.1)) ⟨p9, 1, none⟩ (.int .i64 B.2)) #[.int .i64 l.lo, .int .i64 1] 41
  have P1 : PdW l w p2 p4 p5 p8 p9 a n cap A B V := by rw [← hW]; exact P0.kept ((Below.refl _ _).alloc (Nat.le_refl _) _)
  have g10 : p8 < p10 ∧ p9 < p10 := by omega
  clear hW hp10 P0 bb1 bb2 q1 q1' g1 g1' q2 q2' g2' g2'' e2 e4 e5 eB c0 c1 c2 d2 d4 d5 d6 d7 be2 hp2 hc2 hs2 y8 y9 z2 z5 hl1 hl2 hbU hne hne' n56 n67
  refine (HLE.out V).mono ?_
  rintro e W3 ⟨rfl, hb3⟩
  have P2 := P1.kept hb3
  have b11 := b10.kept hb3
  clear hb3 P1 b10 HLE HBE HAB HBO
  have hA := RL.out
  clear RL
  obtain ⟨x810, x910⟩ := g10
  obtain ⟨g2, n24, n45, n58, n59, n89⟩ := HP
  have HP : PdP w p2 p4 p5 p8 p9 := ⟨g2, n24, n45, n58, n59, n89⟩
  cases hlb : lessR A (l.lo, 1)
  case' true =>
    rw [hlb] at hA
    have hA4 : RA = (l.lo, 1) := hA
    clear hA hlb
    have u10 := b11.two
    have z10 := b11.lt
    have u8 := P2.b8.two
    have z8 := P2.b8.lt
    go_upto_region 6 with (fail)
    have P3 := P2.low HP l.lo 1
    rw [← hA4] at P3
    generalize hV : World.setCell (World.setCell W3 _ _) _ _ = V4 at *
    clear hV hA4 P2 b11 u10 z10 u8 z8
  case' false =>
    rw [hlb] at hA
    have hA4 : RA = A := hA
    clear hA hlb
    go_upto_region 6 with (fail)
    rw [← hA4] at P2
    have P3 := P2
    generalize hV : W3 = V4 at *
    clear hV hA4 P2 b11
  all_goals
    obtain ⟨c0, c1, c2, _⟩ := P3.b2.three
    have z2 := P3.b2.lt
    have u9 := P3.b9.two
    have z9 := P3.b9.lt
    go_wp2_with fail
    have b10 := Blk.new V4 #[.int .i64 l.hi, .int .i64 1] 41
    have P4 := P3.kept ((Below.refl _ _).alloc (Nat.le_refl _) (.cells #[.int .i64 l.hi, .int .i64 1] 41))
    clear c0 c1 c2 z2 u9
    generalize World.alloc V4 _ = V5 at *
    generalize V4.heap.size = p11 at *
    refine (HLH.out V5).mono ?_
    rintro e W5 ⟨rfl, hb5⟩
    have P5 := P4.kept hb5
    have b11 := b10.kept hb5
    clear hb5 P4 b10 P3 HLH
    have hB := RH.out
    clear RH
    cases hlb : lessR (l.hi, 1) B
    case' true =>
      rw [hlb] at hB
      have hB4 : RB = (l.hi, 1) := hB
      clear hB hlb
      have u11 := b11.two
      have z11 := b11.lt
      have u9 := P5.b9.two
      have z9' := P5.b9.lt
      go_upto_region 9 with (fail)
      have P6 := P5.high HP l.hi 1
      rw [← hB4] at P6
      generalize hV : World.setCell (World.setCell W5 _ _) _ _ = V6 at *
      clear hV hB4 P5 b11 u11 z11 u9 z9'
    case' false =>
      rw [hlb] at hB
      have hB4 : RB = B := hB
      clear hB hlb
      go_upto_region 9 with (fail)
      rw [← hB4] at P5
      have P6 := P5
      generalize hV : W5 = V6 at *
      clear hV hB4 P5 b11
    all_goals
      obtain ⟨be, b2, b4, b5, b8, b9⟩ := P6
      have u4 := b4.two
      have z4 := b4.lt
      have u5 := b5.two
      have z5 := b5.lt
      have u8 := b8.two
      have z8 := b8.lt
      have u9 := b9.two
      have z9' := b9.lt
      have x45 : ¬ p4 = p5 := by omega
      have x54 : ¬ p5 = p4 := by omega
      have Q4 := hide ((b4.set2 (.int .i64 RA.1) (.int .i64 RA.2)).other2 (k := p5) (by omega) (.int .i64 RB.1) (.int .i64 RB.2))
      have Q5 := hide ((b5.other2 (k := p4) (by omega) (.int .i64 RA.1) (.int .i64 RA.2)).set2 (.int .i64 RB.1) (.int .i64 RB.2))
      have hB1 := below_set2 (below_set2 be (k := p4) (by omega) (.int .i64 RA.1) (.int .i64 RA.2)) (k := p5) (by omega) (.int .i64 RB.1) (.int .i64 RB.2)
      go_region
      have F4 := Q4.out.drew
      have F5 := Q5.out.drew
      clear Q4 Q5 u4 z4 u5 z5 u8 z8 u9 z9' b2 b4 b5 b8 b9 be
      have hBd := hB1.drew
      clear hB1
      generalize World.drew (World.setCell (World.setCell (World.setCell (World.setCell _ _ _) _ _) _ _) _ _) = X at *
      have u4 := F4.two
      have u5 := F5.two
      go_wp2
      refine bodyPost_ret (v := .tuple #[.agg #[.int .i64 RA.1, .int .i64 RA.2], .agg #[.int .i64 RB.1, .int .i64 RB.2]])
        (by simp [results, Try.results69, go_sem, u4, u5]) rfl ⟨rfl, hBd⟩

end Go.Proofs.Ytjgebepeghgmcaa
