/-
  The chapter's reference: a round of the walk through all counts.
-/
import Derived.Test.YtjgebepeghgmcaaCnt6
import Derived.Test.YtjgebepeghgmcaaApp
import Derived.Outline
namespace Go.Proofs.Ytjgebepeghgmcaa
open Go.RowKit Go.Shelf
set_option linter.unusedVariables false
set_option linter.unusedSimpArgs false

/-- What all is to show for a list of counts that leaves k times open. -/
def AllSpec (k : Nat) : Prop :=
  ∀ (l : PLog) (cs : List Int) (a ca : Option Addr) (n cap m ccap : Nat) (w : World), LOk l → COk l cs → possible l cs = true → cs.length + 1 + k = l.ps.length → n = l.ps.length → m = cs.length → m ≤ ccap → (m = 0 → ca = none) →
    Row w w.heap.size a (spans l.ps) → Row w w.heap.size ca (ints cs) →
    Calls Try.prog 40 #[.agg #[.int .i64 l.lo, .int .i64 l.hi, .slice a n cap], .slice ca m ccap] w fun e w' =>
      ∃ v xs, e = .returned v ∧ AllOk k l cs xs ∧ Rows3 w.heap.size w' v xs ∧ Below w.heap.size w w'

structure AlW (l : PLog) (w : World) (p5 p6 p7 p8 : Nat) (a : Option Addr) (n cap : Nat) (lm hm ln hn a1 a2 h1 h2 : Int) (W : World) : Prop where
  be : Below w.heap.size w W
  b2 : Blk W w.heap.size #[.int .i64 l.lo, .int .i64 l.hi, .slice a n cap] 28
  b5 : Blk W p5 #[.int .i64 lm, .int .i64 hm] 23
  b6 : Blk W p6 #[.int .i64 ln, .int .i64 hn] 23
  b7 : Blk W p7 #[.int .i64 a1, .int .i64 a2] 41
  b8 : Blk W p8 #[.int .i64 h1, .int .i64 h2] 41
theorem AlW.kept {l : PLog} {w : World} {p5 p6 p7 p8 : Nat} {a : Option Addr} {n cap : Nat} {lm hm ln hn a1 a2 h1 h2 : Int} {W W' : World} (h : AlW l w p5 p6 p7 p8 a n cap lm hm ln hn a1 a2 h1 h2 W) (hb : Below W.heap.size W W') : AlW l w p5 p6 p7 p8 a n cap lm hm ln hn a1 a2 h1 h2 W' :=
  ⟨h.be.trans (hb.mono h.be.size), h.b2.kept hb, h.b5.kept hb, h.b6.kept hb, h.b7.kept hb, h.b8.kept hb⟩
theorem AlW.ends {l : PLog} {w : World} {p5 p6 p7 p8 : Nat} {a : Option Addr} {n cap : Nat} {lm hm ln hn a1 a2 h1 h2 : Int} {W : World} (h : AlW l w p5 p6 p7 p8 a n cap lm hm ln hn a1 a2 h1 h2 W)
    (x5 : w.heap.size < p5) (x6 : w.heap.size < p6) (x57 : p5 < p7) (x67 : p6 < p7) (x58 : p5 < p8) (x68 : p6 < p8) (x78 : p7 ≠ p8) (c1 c2 d1 d2 : Int) :
    AlW l w p5 p6 p7 p8 a n cap lm hm ln hn c1 c2 d1 d2 ((((W.setCell ⟨p7, 0, none⟩ (.int .i64 c1)).setCell ⟨p7, 1, none⟩ (.int .i64 c2)).setCell ⟨p8, 0, none⟩ (.int .i64 d1)).setCell ⟨p8, 1, none⟩ (.int .i64 d2)) :=
  ⟨below_set2 (below_set2 h.be (by omega) _ _) (by omega) _ _, (h.b2.other2 (by omega) _ _).other2 (by omega) _ _, (h.b5.other2 (by omega) _ _).other2 (by omega) _ _, (h.b6.other2 (by omega) _ _).other2 (by omega) _ _, (h.b7.set2 _ _).other2 (by omega) _ _, (h.b8.other2 (by omega) _ _).set2 _ _⟩

theorem AlW.grown {l : PLog} {w : World} {p5 p6 p7 p8 : Nat} {a : Option Addr} {n cap : Nat} {lm hm ln hn a1 a2 h1 h2 : Int} {W W' : World} (h : AlW l w p5 p6 p7 p8 a n cap lm hm ln hn a1 a2 h1 h2 W) {row : Option Nat} (g : W.grownBy W' row) {s9 : Nat} (hr : ∀ k, row = some k → s9 ≤ k)
    (h7 : p7 < s9) (h8 : p8 < s9) (h5 : p5 < p7) (h6 : p6 < p7) (hw : w.heap.size < p5) : AlW l w p5 p6 p7 p8 a n cap lm hm ln hn a1 a2 h1 h2 W' := by
  have key : ∀ k, k < s9 → k < W.heap.size → W'.heap[k]? = W.heap[k]? := fun k h1 h2 => g.block k h2 (fun e => by have := hr k e.symm; omega)
  obtain ⟨e1, e2, e3, e4, e5, e6⟩ := h
  exact ⟨⟨g.os.trans e1.os, g.tape.trans e1.tape, g.output.trans e1.output, Nat.le_trans e1.size g.size, fun k hk => (key k (by omega) (by have := e1.size; omega)).trans (e1.block k hk)⟩,
    (key _ (by omega) e2.lt).trans e2, (key _ (by omega) e3.lt).trans e3, (key _ (by omega) e4.lt).trans e4, (key _ h7 e5.lt).trans e5, (key _ h8 e6.lt).trans e6⟩

/-- What out holds between two rounds. -/
def OutW (B : Nat) (W : World) (v : Value) (xs : List (List Int)) : Prop :=
  ∃ ps : List ((Nat × Nat) × List Int), ps.map (·.2) = xs ∧ W.ownsRow B 42 1 v xs.length (ps.map slv) ∧
    ∀ p ∈ ps, p.2.length ≤ p.1.2 ∧ B ≤ p.1.1 ∧ p.1.1 < W.heap.size ∧ v.ownBlock ≠ some p.1.1 ∧ Row W W.heap.size (some ⟨p.1.1, 0, none⟩) (ints p.2)
theorem OutW.start (B : Nat) (W : World) : OutW B W (.slice none 0 0) [] := ⟨[], rfl, World.ownsRow_nil _ _ _ _, fun _ h => by cases h⟩
theorem OutW.form {B : Nat} {W : World} {v : Value} {xs : List (List Int)} (h : OutW B W v xs) : ∃ a cap, v = .slice a xs.length cap ∧ xs.length ≤ cap := by
  obtain ⟨ps, h1, h2, h3⟩ := h
  rcases h2.2 with ⟨rfl, h0⟩ | ⟨g, cp, cur, rfl, _, _, hle, _⟩
  · exact ⟨none, 0, by rw [h0], by omega⟩
  · exact ⟨_, _, rfl, hle⟩
theorem OutW.below {B : Nat} {W W' : World} {v : Value} {xs : List (List Int)} (h : OutW B W v xs) (hb : Below W.heap.size W W') : OutW B W' v xs := by
  obtain ⟨ps, h1, h2, h3⟩ := h
  refine ⟨ps, h1, ?_, fun p hp => ?_⟩
  · refine ⟨h2.1, h2.2.imp id ?_⟩
    rintro ⟨g, cp, cur, r1, r2, r3, r4⟩
    exact ⟨g, cp, cur, r1, r2, (hb.block g (Array.getElem?_eq_some_iff.1 r3).1).trans r3, r4⟩
  · obtain ⟨q1, q2, q3, q4, q5⟩ := h3 p hp
    exact ⟨q1, q2, Nat.lt_of_lt_of_le q3 hb.size, q4, (q5.below hb (Nat.le_refl _)).mono hb.size⟩
/-- out, handed back. -/
theorem OutW.rows {B : Nat} {W : World} {v : Value} {xs : List (List Int)} (h : OutW B W v xs) {B' : Nat} (hB : B' ≤ B) : Rows3 B' W v xs := by
  obtain ⟨ps, h1, h2, h3⟩ := h
  refine ⟨ps, h1, ?_, fun p hp => ?_⟩
  · rcases h2.2 with ⟨rfl, h0⟩ | ⟨g, cp, cur, rfl, _, hc, hle, _, _, htk⟩
    · have hx : ps.map slv = [] := List.eq_nil_of_length_eq_zero (by rw [h2.1, h0])
      rw [hx, h0]
      exact ⟨none, 0, rfl, Nat.le_refl _, .inl rfl⟩
    · have hlt := (Array.getElem?_eq_some_iff.1 hc).1
      exact ⟨_, _, rfl, hle, (row_of_heap hc (by rw [h2.1]; exact htk)).mono hlt⟩
  · obtain ⟨q1, q2, q3, q4, q5⟩ := h3 p hp
    exact ⟨q1, by omega, q3, q5⟩

/-- Behind an append of a sub list. -/
theorem OutW.add {B B1 : Nat} {W W' : World} {v v2 : Value} {xs ys : List (List Int)} {ps qs : List ((Nat × Nat) × List Int)} (h1 : ps.map (·.2) = xs)
    (h3 : ∀ p ∈ ps, p.2.length ≤ p.1.2 ∧ B ≤ p.1.1 ∧ p.1.1 < W.heap.size ∧ v.ownBlock ≠ some p.1.1 ∧ Row W W.heap.size (some ⟨p.1.1, 0, none⟩) (ints p.2)) (q1 : qs.map (·.2) = ys)
    (q3 : ∀ p ∈ qs, p.2.length ≤ p.1.2 ∧ B1 ≤ p.1.1 ∧ p.1.1 < W.heap.size ∧ Row W W.heap.size (some ⟨p.1.1, 0, none⟩) (ints p.2)) (hB : B ≤ B1) (hlt : ∀ k, v.ownBlock = some k → k < B1)
    (ow : W'.ownsRow B 42 1 v2 (xs.length + ys.length) (ps.map slv ++ qs.map slv)) (gr : W.grownBy W' v.ownBlock) (hat : v2.ownBlock = v.ownBlock ∨ v2.ownBlock = some W.heap.size) : OutW B W' v2 (xs ++ ys) := by
  have key : ∀ (g : Nat) (vs : List Value), g < W.heap.size → v.ownBlock ≠ some g → Row W W.heap.size (some ⟨g, 0, none⟩) vs → v2.ownBlock ≠ some g ∧ Row W' W'.heap.size (some ⟨g, 0, none⟩) vs := fun g vs hg hne hr => by
    refine ⟨fun e => ?_, (hr.at fun k hk => ?_).mono gr.size⟩
    · rcases hat with h | h
      · exact hne (h ▸ e)
      · rw [h] at e; injection e with e; omega
    · obtain ⟨_, ad, e, rfl⟩ := hk
      cases e
      exact gr.block _ hg (fun e => hne e.symm)
  refine ⟨ps ++ qs, by rw [List.map_append, h1, q1], by rw [List.length_append, List.map_append]; exact ow, fun p hp => ?_⟩
  rcases List.mem_append.1 hp with hp | hp
  · obtain ⟨r1, r2, r3, r4, r5⟩ := h3 p hp
    have := key p.1.1 _ r3 r4 r5
    exact ⟨r1, r2, Nat.lt_of_lt_of_le r3 gr.size, this.1, this.2⟩
  · obtain ⟨r1, r2, r3, r4⟩ := q3 p hp
    have := key p.1.1 _ r3 (fun e => by have := hlt _ e; omega) r4
    exact ⟨r1, by omega, Nat.lt_of_lt_of_le r3 gr.size, this.1, this.2⟩

attribute [local go_sem] grows growAt growUpon in
set_option maxRecDepth 100000 in
set_option maxHeartbeats 8000000 in
theorem refall_step (k : Nat) (IH : AllSpec k) : AllSpec (k + 1) := by
  intro l cs a ca n cap m ccap w hl hcs hpo hlen hn hm hmc hm0 hp hc
  obtain ⟨lm, hm', ln, hn', a1, a2, h1, h2, hNUM⟩ := numR hl hcs hpo (by omega) hm
  have hn8 : n ≤ 8 := by have := hl.len8; omega
  have hmn1 : m + 1 < n := by omega
  obtain ⟨b, off, rfl, hbw, hcell⟩ := hp.span (by omega)
  obtain ⟨s0, s1⟩ := hcell m (by omega)
  obtain ⟨s2, s3⟩ := hcell (m + 1) (by omega)
  rw [hNUM.e1] at s0
  rw [hNUM.e2] at s1
  rw [hNUM.e3] at s2
  rw [hNUM.e4] at s3
  have HNUM := hide hNUM
  have HL := hide hl
  have HCS := hide hcs
  have HPO := hide hpo
  have HLEN := hide hlen
  have HN := hide hn
  have HM := hide hm
  have HIH := hide IH
  have HM0 := hide hm0
  clear hNUM hl hcs hpo hlen hn hm IH hcell hm0
  go_enter Try.func40, Try.ntmps40
  have hne : ((m : Int) == (n : Int) - 1) = false := by rw [beq_eq_false_iff_ne]; omega
  go_wp2_with fail
  generalize hW : World.alloc w _ = W1
  have hb1 : Below w.heap.size w W1 := by rw [← hW]; exact (Below.refl _ _).alloc (Nat.le_refl _) _
  have j0 : Blk W1 w.heap.size #[.int .i64 l.lo, .int .i64 l.hi, .slice (some ⟨b, off, none⟩) n cap] 28 := by rw [← hW]; exact Blk.new w _ _
  clear hW
  have t0 := (hb1.cell (p := ⟨b, off + m * 2, none⟩) (by show b < _; omega)).trans s0
  have t1 := (hb1.cell (p := ⟨b, off + m * 2 + 1, none⟩) (by show b < _; omega)).trans s1
  have t2 := (hb1.cell (p := ⟨b, off + (m + 1) * 2, none⟩) (by show b < _; omega)).trans s2
  have t3 := (hb1.cell (p := ⟨b, off + (m + 1) * 2 + 1, none⟩) (by show b < _; omega)).trans s3
  clear s0 s1 s2 s3
  have hp1 := hp.below hb1 (Nat.le_refl _)
  have hc1 := hc.below hb1 (Nat.le_refl _)
  obtain ⟨c0, c1, c2, _⟩ := j0.three
  have y0 := j0.lt
  have hs1 := hb1.size
  have hbW : b < W1.heap.size := by omega
  have hX := @Ext.cell W1
  have hmn0 : m < n := by omega
  have hin1 : 0 ≤ (m : Int) + 1 := by omega
  have hin2 : (m : Int) + 1 < n := by omega
  have hwrap : IntKind.i64.wrap ((m : Int) + 1) = ((m + 1 : Nat) : Int) := by rw [IntKind.wrap_i64]; omega
  refine wp_region_pair (.int .i64 0) (.int .i64 0) (.int .i64 lm) (.int .i64 hm') #[.int .i64 0, .int .i64 0] 23 23 5 6 13 _ (by kernel_rfl) (by kernel_rfl) (by decide)
    ⟨_, rfl, rfl, rfl, (by intro cs b h; cases h), fun ev w => by simp [go_sem]⟩ ⟨_, rfl, rfl, rfl, (by intro cs b h; cases h), fun ev w => by simp [go_sem]⟩ rfl rfl rfl ?_
  simp only [List.take_succ_cons, List.take_zero, List.drop_succ_cons, List.drop_zero]
  repeat (refine wpGrow_step (fun K hK => ?_); go_simp; (refine hK _ ?_; clear hK K))
  refine wpGrow_nil ?_
  intro p5 p6 hq5 hq6 h56
  refine ⟨fun w' hbw bk1 => ?_, fun w' hbw bk1 bk2 => ?_⟩
  · obtain ⟨e1, e2, e3, e4⟩ := bk1.two
    simp only [Act.put, List.setIfInBounds_toArray, List.set_cons_zero, List.set_cons_succ]
    unfold StoresAt
    go_simp
  · simp only [Act.put, List.setIfInBounds_toArray, List.set_cons_zero, List.set_cons_succ]
    obtain ⟨e1, e2, e3, e4⟩ := bk2.two
    have hne' : ¬ p6 = p5 := fun e => h56 e.symm
    clear hX
    go_wp2_with fail
    have u5 := bk1.other2 (k := p6) h56 (.int .i64 ln) (.int .i64 hn')
    have u6 := bk2.set2 (.int .i64 ln) (.int .i64 hn')
    have hBV : Below w.heap.size w _ := below_set2 (hb1.trans (hbw.mono hs1)) (k := p6) (by omega) (.int .i64 ln) (.int .i64 hn')
    have j0V := (j0.below hbw y0).other2 (k := p6) (by omega) (.int .i64 ln) (.int .i64 hn')
    generalize hV : World.setCell (World.setCell w' _ _) _ _ = V at *
    have x05 : w.heap.size < p5 := by omega
    have x06 : w.heap.size < p6 := by omega
    clear hV bk1 bk2 e1 e2 e3 e4 c0 c1 c2 t0 t1 t2 t3 y0 hwrap hbw hin1 hin2 hne' hs1 hp1 hc1 j0 hb1 hq5 hq6 hbW
    obtain ⟨c0, c1, c2, _⟩ := j0V.three
    have y0 := j0V.lt
    have y5 := u5.lt
    have y6 := u6.lt
    have hX := @Ext.cell V
    refine wp_region_pair (.int .i64 0) (.int .i64 0) (.int .i64 l.lo) (.int .i64 1) #[.int .i64 0, .int .i64 0] 41 41 7 8 8 _ (by kernel_rfl) (by kernel_rfl) (by decide)
      ⟨_, rfl, rfl, rfl, (by intro cs b h; cases h), fun ev w => by simp [go_sem]⟩ ⟨_, rfl, rfl, rfl, (by intro cs b h; cases h), fun ev w => by simp [go_sem]⟩ rfl rfl rfl ?_
    simp only [List.take_succ_cons, List.take_zero, List.drop_succ_cons, List.drop_zero]
    repeat (refine wpGrow_step (fun K hK => ?_); go_simp; (refine hK _ ?_; clear hK K))
    refine wpGrow_nil ?_
    intro p7 p8 hq7 hq8 h78
    refine ⟨fun w'' hbw bk1 => ?_, fun w'' hbw bk1 bk2 => ?_⟩
    · obtain ⟨e1, e2, e3, e4⟩ := bk1.two
      simp only [Act.put, List.setIfInBounds_toArray, List.set_cons_zero, List.set_cons_succ]
      unfold StoresAt
      go_simp
    simp only [Act.put, List.setIfInBounds_toArray, List.set_cons_zero, List.set_cons_succ]
    obtain ⟨e1, e2, e3, e4⟩ := bk2.two
    have hne' : ¬ p8 = p7 := fun e => h78 e.symm
    clear hX
    go_upto_region 5 with (fail)
    have R0 : AlW l w p5 p6 p7 p8 (some ⟨b, off, none⟩) n cap lm hm' ln hn' l.lo 1 l.hi 1 _ :=
      ⟨below_set2 (hBV.trans (hbw.mono hBV.size)) (k := p8) (by have := hBV.size; omega) (.int .i64 l.hi) (.int .i64 1), (j0V.below hbw y0).other2 (k := p8) (by omega) (.int .i64 l.hi) (.int .i64 1), (u5.below hbw y5).other2 (k := p8) (by omega) (.int .i64 l.hi) (.int .i64 1), (u6.below hbw y6).other2 (k := p8) (by omega) (.int .i64 l.hi) (.int .i64 1), bk1.other2 (k := p8) h78 (.int .i64 l.hi) (.int .i64 1), bk2.set2 (.int .i64 l.hi) (.int .i64 1)⟩
    generalize hV2 : World.setCell (World.setCell w'' _ _) _ _ = V2 at *
    have x57 : p5 < p7 := by omega
    have x58 : p5 < p8 := by omega
    have x67 : p6 < p7 := by omega
    have x68 : p6 < p8 := by omega
    clear hV2 bk1 bk2 e1 e2 e3 e4 c0 c1 c2 y0 y5 y6 hbw hne' u5 u6 hBV j0V hq7 hq8 hmn0
    by_cases hmz : m = 0
    case' pos =>
      have hcs0 : cs.length = 0 := by rw [← HM.out]; exact hmz
      have eA : (l.lo, 1) = (a1, a2) := by rw [← HNUM.out.e5]; unfold rLo; rw [if_pos hcs0]
      have eB : (l.hi, 1) = (h1, h2) := by rw [← HNUM.out.e6]; unfold rHi; rw [if_pos hcs0]
      injection eA with eA1 eA2
      injection eB with eB1 eB2
      have R1 : AlW l w p5 p6 p7 p8 (some ⟨b, off, none⟩) n cap lm hm' ln hn' a1 a2 h1 h2 V2 := by rw [← eA1, ← eA2, ← eB1, ← eB2]; exact R0
      have hgt : decide (0 < m) = false := by simp; omega
      clear hcs0 eA1 eA2 eB1 eB2 R0 hmz
      go_upto_region 7 with (fail)
      generalize hV3 : V2 = V3 at *
      clear hV3 hgt
    case' neg =>
      have hgt : decide (0 < m) = true := by simp; omega
      have eA : refLo l cs = (a1, a2) := by rw [← HNUM.out.e5]; unfold rLo; rw [if_neg (by rw [← HM.out]; exact hmz)]
      have eB : refHi l cs = (h1, h2) := by rw [← HNUM.out.e6]; unfold rHi; rw [if_neg (by rw [← HM.out]; exact hmz)]
      have HPD := hide (fun (W : World) (hp : Row W W.heap.size (some ⟨b, off, none⟩) (spans l.ps)) (hc : Row W W.heap.size ca (ints cs)) => refperiod_any l cs (some ⟨b, off, none⟩) ca n cap m ccap W HL.out HCS.out HN.out HM.out hmc (by omega) hp hc)
      rw [eA, eB] at HPD
      dsimp only at HPD
      clear eA eB hmz
      obtain ⟨c0, c1, c2, _⟩ := R0.b2.three
      have y0 := R0.b2.lt
      go_wp2_with fail
      refine (HPD.out V2 ((hp.below R0.be (Nat.le_refl _)).mono R0.be.size) ((hc.below R0.be (Nat.le_refl _)).mono R0.be.size)).mono ?_
      rintro e W4 ⟨rfl, hb4⟩
      have R1 := R0.kept hb4
      clear R0 hb4 HPD c0 c1 c2 y0 hgt
      have u7 := R1.b7.two
      have u8 := R1.b8.two
      have y7 := R1.b7.lt
      have y8 := R1.b8.lt
      go_upto_region 7 with (fail)
      have R2 := R1.ends x05 x06 x57 x67 x58 x68 h78 a1 a2 h1 h2
      generalize hV3 : World.setCell (World.setCell (World.setCell (World.setCell W4 _ _) _ _) _ _) _ _ = V3 at *
      clear hV3 R1 u7 u8 y7 y8
      have R1 := R2
      clear R2
    all_goals
      obtain ⟨⟨bd1, bd2, bd3, bd4, bd5, bd6, bd7, bd8⟩, ⟨bd9, bd10⟩, ⟨bd11, bd12, bd13, bd14, bd15, bd16, bd17, bd18⟩⟩ := HNUM.out.b
      obtain ⟨⟨pd1, pd2⟩, ⟨pd3, pd4⟩, ⟨pd5, pd6⟩⟩ := HNUM.out.p
      have hq1 : ¬ h1 = 0 := by omega
      obtain ⟨v50, v51, _⟩ := R1.b5.two
      obtain ⟨v60, v61, _⟩ := R1.b6.two
      obtain ⟨v80, v81, _⟩ := R1.b8.two
      go_upto_region 9 with (fail)
      have hmx : (if 1 < (ln - hm') * h2 / h1 then (ln - hm') * h2 / h1 else 1) = firstN l cs := by rw [HNUM.out.f]; split <;> omega
      rw [hmx]
      have HF := hide (⟨HNUM.out.f1, HNUM.out.f2, HNUM.out.l2⟩ : _ ∧ _ ∧ _)
      obtain ⟨s9, hs9⟩ : ∃ s9, s9 = V3.heap.size := ⟨_, rfl⟩
      have x79 : p7 < s9 := by rw [hs9]; exact R1.b7.lt
      have x89 : p8 < s9 := by rw [hs9]; exact R1.b8.lt
      have x9 : s9 ≤ V3.heap.size := by rw [hs9]; exact Nat.le_refl _
      have hw9' : w.heap.size ≤ s9 := by have := R1.be.size; rw [hs9]; exact this
      have xb : b < s9 := by have := R1.be.size; rw [hs9]; omega
      clear hmx hs9 v50 v51 v60 v61 v80 v81
      go_wp2_with fail
      go_loopw [9, 11] (fun ov nv wr => ∃ (nn : Int) (xs : List (List Int)), nv = .int .i64 nn ∧ firstN l cs ≤ nn ∧ nn ≤ 1000001 ∧ RestOk k l cs nn xs ∧ OutW s9 wr ov xs ∧ s9 ≤ wr.heap.size ∧ AlW l w p5 p6 p7 p8 (some ⟨b, off, none⟩) n cap lm hm' ln hn' a1 a2 h1 h2 wr) (fun _ nv _ => (1000002 - intOf nv).toNat)
      case atStart => exact ⟨firstN l cs, [], rfl, Int.le_refl _, by have := HF.out; omega, RestOk.start k l cs, OutW.start _ _, x9, R1⟩
      case round =>
        clear R1 x9
        obtain ⟨nn, xs, rfl, hn1, hn2, hrest, hout, hsz, R⟩ := hrel
        obtain ⟨oa, ocap, rfl, hoc⟩ := hout.form
        have hmu := mul_small (show Small 2000000000 nn by unfold Small; have := HF.out; omega) (show Small 2000000000 a1 by unfold Small; omega)
        obtain ⟨v50, v51, _⟩ := R.b5.two
        obtain ⟨v60, v61, _⟩ := R.b6.two
        obtain ⟨v70, v71, _⟩ := R.b7.two
        have hw9 := R.be.size
        have HLA := hide (HNUM.out.la nn)
        have HR := hide hrest
        clear hrest
        unfold Small at hmu
        have w1 : IntKind.i64.wrap (nn * a1) = nn * a1 := IntWalk.i64_in _ (by omega)
        have w2 : IntKind.i64.wrap (hn' - lm) = hn' - lm := IntWalk.i64_in _ (by omega)
        have w3 : IntKind.i64.wrap ((hn' - lm) * a2) = (hn' - lm) * a2 := IntWalk.i64_in _ (by omega)
        by_cases hla : nn * a1 ≤ (hn' - lm) * a2
        · by_cases h500 : xs.length ≤ 500
          · have h500' : decide (xs.length ≤ 500) = true := by simp; omega
            have hla' : decide (nn * a1 ≤ (hn' - lm) * a2) = true := by simpa using hla
            have hLn : Hid (nn ≤ lastN l cs) := hide (HLA.out.1 hla)
            have hnn : 1 ≤ nn ∧ nn ≤ 1000000 := by have := HF.out; have := hLn.out; omega
            have HCS' : Hid (COk l (cs ++ [nn])) := hide ⟨by simp; have := HLEN.out; omega, fun x hx => by
              rcases List.mem_append.1 hx with hx | hx
              · exact HCS.out.inb x hx
              · obtain rfl : x = nn := by simpa using hx
                exact hnn⟩
            have HM1 : Hid (m + 1 = (cs ++ [nn]).length) := hide (by simp; exact HM.out)
            have hbr := R.be
            have hcw : Row wr wr.heap.size ca (ints cs) := (hc.below hbr (Nat.le_refl _)).mono hbr.size
            have hpw : Row wr wr.heap.size (some ⟨b, off, none⟩) (spans l.ps) := (hp.below hbr (Nat.le_refl _)).mono hbr.size
            have HCW := hide hcw
            have HPW := hide hpw
            obtain ⟨i0, hi, hz0, hz1, hz2⟩ := info_int
            have HI := hide hi
            have HO := hide hout
            clear hla hi hcw hpw hout hc hp hbr
            go_upto_region 13 with (first
              | (at_builtin
                 refine wpList_append_row _ rfl (.tmp 89) (.tmp 90) 42 rfl wr.heap.size 3 i0 (.int .i64 0) 8 under_ints HI.out hz0 hz1 hz2 rfl (.slice (some ⟨wr.heap.size, 0, none⟩) 0 0) 0 [] rfl
                   (by simpa using World.ownsRow_lit (base := wr.heap.size) (e := 3) (size := 1) wr #[] 0 (Nat.le_refl _) (by decide) rfl)
                   ca m ccap (ints cs) rfl (by simp [ints]; exact HM.out.symm) hmc _ (HCW.out.below ((Below.refl _ _).alloc (Nat.le_refl _) _) (Nat.le_refl _)) (by intro u hu; simp [ints] at hu; obtain ⟨y, _, rfl⟩ := hu; rfl) (by unfold maxLen; omega) (by omega) (by simp) ?_
                 intro v1 W5 ow5 gr5 at5
                 simp only [Nat.zero_add, List.nil_append] at ow5
                 obtain ⟨g1, cap1, rfl, hg1⟩ := own_form (g0 := wr.heap.size) ow5 at5
                 clear at5)
              | (at_builtin
                 refine wpList_append_row _ rfl (.tmp 91) (.tmp 93) 42 rfl wr.heap.size 3 i0 (.int .i64 0) 8 under_ints HI.out hz0 hz1 hz2 rfl _ _ _ rfl (ow5.alloc _)
                   (some ⟨W5.heap.size, 0, none⟩) 1 1 [.int .i64 nn] rfl rfl (Nat.le_refl _) _ (row_new W5 [.int .i64 nn] _) (by intro u hu; simp at hu; subst hu; rfl) (by unfold maxLen; omega) (by omega) (by have := gr5.size; simp at this ⊢; omega) ?_
                 intro v2 W6 ow6 gr6 at6
                 obtain ⟨g2, cap2, rfl, hg2⟩ := own_form (g0 := g1) ow6 at6))
            have hB5 : Below wr.heap.size wr W5 := ((Below.refl _ _).alloc (Nat.le_refl _) _).trans (Grow.of_grownBy gr5 (fun k e => by simp [Value.ownBlock] at e; omega) (by simp))
            have hg1' : wr.heap.size ≤ g1 := by
              rcases hg1 with h | h
              · omega
              · simp at h; omega
            have hB6 : Below wr.heap.size wr W6 := (hB5.alloc hB5.size _).trans (Grow.of_grownBy gr6 (fun k e => by cases e; exact hg1') (by have := hB5.size; simp; omega))
            have hrow6 := (row_of_own ow6).2.2
            have hcap6 := (row_of_own ow6).1
            have e6 : ints cs ++ [Value.int .i64 nn] = ints (cs ++ [nn]) := by simp [ints]
            rw [e6] at hrow6
            have HPW6 := hide ((HPW.out.below hB6 (Nat.le_refl _)).mono hB6.size)
            have HCW6 := hide hrow6
            have R6 := R.kept hB6
            have HO6 := hide (HO.out.below hB6)
            have hsz6 : s9 ≤ W6.heap.size := Nat.le_trans hsz hB6.size
            obtain ⟨c0, c1, c2, _⟩ := R6.b2.three
            have y0 := R6.b2.lt
            clear at6 hB5 hB6 hrow6 e6 R HPW HCW HO gr5 gr6 ow5 ow6 hg1 hg1' hg2 v50 v51 v60 v61 v70 v71 w1 w2 w3 hsz hla' h500'
            go_wp2_with fail
            refine (refperiod_any l (cs ++ [nn]) (some ⟨b, off, none⟩) (some ⟨g2, 0, none⟩) n cap (m + 1) cap2 W6 HL.out HCS'.out HN.out HM1.out hcap6 (by omega) HPW6.out HCW6.out).mono ?_
            rintro e W7 ⟨rfl, hb7⟩
            have HPW7 := hide ((HPW6.out.below hb7 (Nat.le_refl _)).mono hb7.size)
            have HCW7 := hide ((HCW6.out.below hb7 (Nat.le_refl _)).mono hb7.size)
            have R7 := R6.kept hb7
            have HO7 := hide (HO6.out.below hb7)
            have hsz7 : s9 ≤ W7.heap.size := Nat.le_trans hsz6 hb7.size
            have HQ := hide (⟨refLo_small HL.out HCS'.out (by have := HM1.out; omega), refHi_small HL.out HCS'.out (by have := HM1.out; omega), poss_ref HL.out HCS'.out (by have := HM1.out; omega)⟩ : _ ∧ _ ∧ _)
            clear hb7 HPW6 HCW6 R6 HO6 hsz6 c0 c1 c2 y0
            go_upto_region 14 with (fail)
            generalize hV8 : World.alloc (World.alloc W7 _) _ = V8
            have hB8 : Below W7.heap.size W7 V8 := by rw [← hV8]; exact ((Below.refl _ _).alloc (Nat.le_refl _) _).alloc (by simp) _
            have k13 : Blk V8 W7.heap.size #[.int .i64 (refLo l (cs ++ [nn])).1, .int .i64 (refLo l (cs ++ [nn])).2] 41 := by rw [← hV8]; exact (Blk.new _ _ _).alloc _
            have k14 : Blk V8 (W7.heap.size + 1) #[.int .i64 (refHi l (cs ++ [nn])).1, .int .i64 (refHi l (cs ++ [nn])).2] 41 := by rw [← hV8]; simpa using Blk.new (World.alloc W7 (.cells #[.int .i64 (refLo l (cs ++ [nn])).1, .int .i64 (refLo l (cs ++ [nn])).2] 41)) #[.int .i64 (refHi l (cs ++ [nn])).1, .int .i64 (refHi l (cs ++ [nn])).2] 41
            have HPW8 := hide ((HPW7.out.below hB8 (Nat.le_refl _)).mono hB8.size)
            have HCW8 := hide ((HCW7.out.below hB8 (Nat.le_refl _)).mono hB8.size)
            have R8 := R7.kept hB8
            have HO8 := hide (HO7.out.below hB8)
            have hsz8 : s9 ≤ V8.heap.size := Nat.le_trans hsz7 hB8.size
            obtain ⟨m13, m13', _⟩ := k13.two
            obtain ⟨m14, m14', _⟩ := k14.two
            have l13 := k13.lt
            have l14 := k14.lt
            clear hV8 hB8 HPW7 HCW7 R7 HO7 hsz7 k13 k14
            have HRL := hide (refless_any (refHi l (cs ++ [nn])) (refLo l (cs ++ [nn])) V8 (by have := HQ.out.2.1; unfold Small at *; omega) (by have := HQ.out.2.1; unfold Small at *; omega) (by have := HQ.out.1; unfold Small at *; omega) (by have := HQ.out.1; unfold Small at *; omega))
            have HPQ := hide HQ.out.2.2
            cases hpos : possible l (cs ++ [nn]) with
            | false =>
              have hls : lessR (refHi l (cs ++ [nn])) (refLo l (cs ++ [nn])) = true := by have := HPQ.out; rw [hpos] at this; simpa using this
              rw [hls] at HRL
              have HPOS := hide hpos
              clear hpos hls HQ HPQ
              go_wp2_with fail
              refine HRL.out.mono ?_
              rintro e W9 ⟨rfl, hb9⟩
              have R9 := R8.kept hb9
              have HO9 := hide (HO8.out.below hb9)
              have hsz9 : s9 ≤ W9.heap.size := Nat.le_trans hsz8 hb9.size
              clear hb9 HPW8 HCW8 R8 HO8 hsz8 m13 m13' m14 m14' l13 l14 HRL
              go_wp2_with fail
              go_roundw
              case rel => exact ⟨nn + 1, xs, by go_num, by omega, by omega, HR.out.no hLn.out HPOS.out, HO9.out, hsz9, R9⟩
              case measure => simp [intOf]; omega
            | true =>
              have hls : lessR (refHi l (cs ++ [nn])) (refLo l (cs ++ [nn])) = false := by have := HPQ.out; rw [hpos] at this; simpa using this
              rw [hls] at HRL
              have HPOS := hide hpos
              clear hpos hls HQ HPQ
              go_wp2_with fail
              refine HRL.out.mono ?_
              rintro e W9 ⟨rfl, hb9⟩
              have R9 := R8.kept hb9
              have HO9 := hide (HO8.out.below hb9)
              have HPW9 := hide ((HPW8.out.below hb9 (Nat.le_refl _)).mono hb9.size)
              have HCW9 := hide ((HCW8.out.below hb9 (Nat.le_refl _)).mono hb9.size)
              have hsz9 : s9 ≤ W9.heap.size := Nat.le_trans hsz8 hb9.size
              clear hb9 HPW8 HCW8 R8 HO8 hsz8 m13 m13' m14 m14' l13 l14 HRL
              obtain ⟨c0, c1, c2, _⟩ := R9.b2.three
              have y0 := R9.b2.lt
              go_wp2_with fail
              refine (HIH.out l (cs ++ [nn]) (some ⟨b, off, none⟩) (some ⟨g2, 0, none⟩) n cap (m + 1) cap2 W9 HL.out HCS'.out HPOS.out (by have := HLEN.out; simp; omega) HN.out HM1.out hcap6 (by omega) HPW9.out HCW9.out).mono ?_
              rintro e W10 ⟨v10, ys, rfl, hall, hrows, hb10⟩
              have R10 := R9.kept hb10
              have hlt10 : ∀ k, (Value.slice oa xs.length ocap).ownBlock = some k → k < W9.heap.size := by
                obtain ⟨_, _, h, _⟩ := HO9.out
                exact fun k e => (h.lt k e).2
              obtain ⟨ps, p1, p2, p3⟩ := HO9.out.below hb10
              obtain ⟨qs, q1, ⟨qa, qcap, rfl, q2, q4⟩, q3⟩ := hrows
              have hsz10 : s9 ≤ W10.heap.size := Nat.le_trans hsz9 hb10.size
              have hyl := hall.len
              have hl8 := HL.out.len8
              have hk8 : k + 1 ≤ 8 := by have := HLEN.out; omega
              have HALL := hide hall
              have hqs : (qs.map slv).length = ys.length := by rw [← q1]; simp
              have hyl2 : ys.length ≤ 5000 := by omega
              have HLT := hide hlt10
              have HP1 := hide p1
              have HP3 := hide p3
              have HQ1 := hide q1
              have HQ3 := hide q3
              have HQS := hide hqs
              obtain ⟨i1, hi1, hw0, hw1, hw2⟩ := info_ints
              have HI1 := hide hi1
              clear hall hlt10 p1 p3 q1 q3 hqs R9 HO9 HPW9 HCW9 hb10 hi1 hl8 hyl c0 c1 c2 y0 HIH
              go_wp2_with (
                at_builtin
                refine wpList_append_row _ rfl (.tmp 105) (.tmp 108) 30 rfl s9 42 i1 (.slice none 0 0) 24 under_intss HI1.out hw0 hw1 hw2 rfl _ _ _ rfl p2
                  qa ys.length qcap (qs.map slv) rfl HQS.out q2 _ q4 (by intro u hu; obtain ⟨y, _, rfl⟩ := List.mem_map.1 hu; rfl) (by unfold maxLen; omega) (by omega) hsz10 ?_
                intro v11 W11 ow11 gr11 at11)
              go_roundw
              case rel => exact ⟨nn + 1, xs ++ ys, by go_num, by omega, by omega, HR.out.yes h500 hLn.out HPOS.out HALL.out, OutW.add HP1.out HP3.out HQ1.out HQ3.out hsz9 HLT.out ow11 gr11 at11, Nat.le_trans hsz10 gr11.size, R10.grown gr11 (fun k e => (p2.lt k e).1) x79 x89 x57 x67 x05⟩
              case measure => simp [intOf]; omega
          · have h500' : decide (xs.length ≤ 500) = false := by simp; omega
            have hla' : decide (nn * a1 ≤ (hn' - lm) * a2) = true := by simpa using hla
            clear hla
            go_wp2_with fail
            exact bodyPost_ret (v := .slice oa xs.length ocap) (by simp [results, Try.results40, go_sem]) rfl ⟨_, xs, rfl, HR.out.stop (by omega), hout.rows hw9', R.be⟩
        · have hL : lastN l cs < nn := by have := HLA.out; omega
          have hla' : decide (nn * a1 ≤ (hn' - lm) * a2) = false := by simpa using hla
          clear hla
          go_wp2_with fail
          exact bodyPost_ret (v := .slice oa xs.length ocap) (by simp [results, Try.results40, go_sem]) rfl ⟨_, xs, rfl, HR.out.done hL, hout.rows hw9', R.be⟩

end Go.Proofs.Ytjgebepeghgmcaa
