/-
  Package period: the iterator over all counts, where some are still to come.
-/
import Derived.Test.YtjgebepeghgmcaaPer13
import Derived.Test.YtjgebepeghgmcaaPair
namespace Go.Proofs.Ytjgebepeghgmcaa
open Go.RowKit Go.Shelf
set_option linter.unusedVariables false
set_option linter.unusedSimpArgs false

/-- A frame's blocks lie as they lay at V, and belong to no round. -/
structure Fr (F : Nat → Prop) (V : World) (O : Nat → Prop) (wr : World) : Prop where
  size : V.heap.size ≤ wr.heap.size
  keep : ∀ k, F k → ¬ O k ∧ wr.heap[k]? = V.heap[k]?
  own : ∀ k, O k → k < wr.heap.size
section
variable {F O O' : Nat → Prop} {V wr w' : World}
theorem Fr.below (h : Fr F V O wr) (hF : ∀ k, F k → k < V.heap.size) (hb : Below wr.heap.size wr w') : Fr F V O w' :=
  ⟨Nat.le_trans h.size hb.size, fun k hk => ⟨(h.keep k hk).1, (hb.block k (Nat.lt_of_lt_of_le (hF k hk) h.size)).trans (h.keep k hk).2⟩, fun k hk => Nat.lt_of_lt_of_le (h.own k hk) hb.size⟩
theorem Fr.rndO (h : Fr F V O wr) (hF : ∀ k, F k → k < V.heap.size) (hr : RndO O O' wr w') : Fr F V O' w' :=
  ⟨Nat.le_trans h.size hr.rnd.size, fun k hk => ⟨fun ho => (hr.own k ho).elim (h.keep k hk).1 fun h2 => by have := hF k hk; have := h.size; omega,
    (hr.rnd.block k (Nat.lt_of_lt_of_le (hF k hk) h.size) (h.keep k hk).1).trans (h.keep k hk).2⟩, fun k hk => (hr.own k hk).elim (fun h1 => Nat.lt_of_lt_of_le (h.own k h1) hr.rnd.size) fun h1 => h1.2⟩
theorem Fr.grow {m : Nat} (h : Fr F V O wr) (hF : ∀ k, F k → k < V.heap.size) (hg : Grow m wr w') (hm : V.heap.size ≤ m) : Fr F V O w' :=
  ⟨Nat.le_trans h.size hg.size, fun k hk => ⟨(h.keep k hk).1, by
    have hlt : k < wr.heap.size := Nat.lt_of_lt_of_le (hF k hk) h.size
    rw [← (h.keep k hk).2, hg.block k _ (Array.getElem?_eq_getElem hlt) (.inl (Nat.lt_of_lt_of_le (hF k hk) hm))]
    exact (Array.getElem?_eq_getElem hlt).symm⟩, fun k hk => Nat.lt_of_lt_of_le (h.own k hk) hg.size⟩
theorem Fr.blk {k : Nat} {c : Array Value} {t : TypeId} (h : Fr F V O wr) (hk : F k) (hb : Blk V k c t) : Blk wr k c t := (h.keep k hk).2.trans hb
theorem Fr.row {B : Nat} {a : Option Addr} {vs : List Value} (h : Fr F V O wr) (hk : ∀ k, capR a vs k → F k) (hr : Row V B a vs) : Row wr B a vs := hr.at fun k hc => (h.keep k (hk k hc)).2

/-- Marks of ranges that are over. -/
def KS (B : Nat) (O : Nat → Prop) (ks : List Nat) (wr : World) : Prop := ks.Pairwise (· ≠ ·) ∧ ∀ k ∈ ks, B ≤ k ∧ k < wr.heap.size ∧ ¬ O k ∧ wr.heap[k]? = some (.deferred (some []))
theorem KS.below {B : Nat} {ks : List Nat} (h : KS B O ks wr) (hb : Below wr.heap.size wr w') : KS B O ks w' :=
  ⟨h.1, fun k hk => ⟨(h.2 k hk).1, Nat.lt_of_lt_of_le (h.2 k hk).2.1 hb.size, (h.2 k hk).2.2.1, (hb.block k (h.2 k hk).2.1).trans (h.2 k hk).2.2.2⟩⟩
theorem KS.rndO {B : Nat} {ks : List Nat} (h : KS B O ks wr) (hr : RndO O O' wr w') : KS B O' ks w' :=
  ⟨h.1, fun k hk => ⟨(h.2 k hk).1, Nat.lt_of_lt_of_le (h.2 k hk).2.1 hr.rnd.size, fun ho => (hr.own k ho).elim (h.2 k hk).2.2.1 fun h2 => by have := (h.2 k hk).2.1; omega, (hr.rnd.block k (h.2 k hk).2.1 (h.2 k hk).2.2.1).trans (h.2 k hk).2.2.2⟩⟩
theorem KS.grow {B m : Nat} {ks : List Nat} (h : KS B O ks wr) (hg : Grow m wr w') (hm : ∀ k ∈ ks, k < m) : KS B O ks w' :=
  ⟨h.1, fun k hk => ⟨(h.2 k hk).1, Nat.lt_of_lt_of_le (h.2 k hk).2.1 hg.size, (h.2 k hk).2.2.1, hg.block k _ (h.2 k hk).2.2.2 (.inl (hm k hk))⟩⟩
end

structure NumC (l : PLog) (cs : List Int) (m : Nat) (lm hm ln hn a1 a2 h1 h2 : Int) : Prop where
  e1 : los l.ps m = lm
  e2 : his l.ps m = hm
  e3 : los l.ps (m + 1) = ln
  e4 : his l.ps (m + 1) = hn
  e5 : lowEnd l cs = (a1, a2)
  e6 : highEnd l cs = (h1, h2)
  f : firstN l cs = max 1 ((ln - hm) * h2 / h1)
  la : ∀ n, n * a1 ≤ (hn - lm) * a2 ↔ n ≤ lastN l cs
  f1 : 1 ≤ firstN l cs
  f2 : firstN l cs ≤ 1000000
  l2 : lastN l cs ≤ 1000000
  b : (0 ≤ lm ∧ lm ≤ 1000000 ∧ 0 ≤ hm ∧ hm ≤ 1000000 ∧ 0 ≤ ln ∧ ln ≤ 1000000 ∧ 0 ≤ hn ∧ hn ≤ 1000000) ∧ (1 ≤ ln - hm ∧ 1 ≤ hn - lm) ∧ (1 ≤ a1 ∧ a1 ≤ 2000000 ∧ 1 ≤ a2 ∧ a2 ≤ 8000000 ∧ 1 ≤ h1 ∧ h1 ≤ 2000000 ∧ 1 ≤ h2 ∧ h2 ≤ 8000000)
  p : (0 ≤ (ln - hm) * h2 ∧ (ln - hm) * h2 ≤ 8000000000000) ∧ (0 ≤ (ln - hm) * h2 / h1 ∧ (ln - hm) * h2 / h1 ≤ 1000000) ∧ (0 ≤ (hn - lm) * a2 ∧ (hn - lm) * a2 ≤ 8000000000000)

theorem numC {l : PLog} {cs : List Int} {m : Nat} (hl : LOk l) (hcs : COk l cs) (hpo : possible l cs = true) (hlen : cs.length + 1 < l.ps.length) (hm : m = cs.length) : ∃ lm hm ln hn a1 a2 h1 h2, NumC l cs m lm hm ln hn a1 a2 h1 h2 := by
  subst hm
  have hcb := cbound hl hcs hpo hlen
  have hep := ends_pos hl hcs
  have hes := ends_small hl hcs
  have i1 := hl.inb cs.length (by omega)
  have i2 := hl.inb (cs.length + 1) (by omega)
  have hla := fun n => le_lastN hl hcs n
  obtain ⟨g1, g2, g3, g4, f1, f2, l2, q1, q2, q3⟩ := hcb
  unfold gapLo gapHi at *
  unfold Small at hes
  refine ⟨los l.ps cs.length, his l.ps cs.length, los l.ps (cs.length + 1), his l.ps (cs.length + 1), (lowEnd l cs).1, (lowEnd l cs).2, (highEnd l cs).1, (highEnd l cs).2, rfl, rfl, rfl, rfl, rfl, rfl, rfl, hla, f1, f2, l2, ⟨by omega, ⟨g1, g3⟩, by omega⟩, ⟨q1, ?_⟩, ⟨q2, q3⟩, ⟨?_, ?_⟩⟩
  · have := Int.mul_le_mul g2 (show (highEnd l cs).2 ≤ 8000000 by omega) (by omega) (by omega)
    omega
  · exact Int.mul_nonneg (by omega) (by omega)
  · have := Int.mul_le_mul g4 (show (lowEnd l cs).2 ≤ 8000000 by omega) (by omega) (by omega)
    omega

attribute [local go_sem] Oper.semAt_some grows growAt growUpon in
set_option maxRecDepth 100000 in
set_option maxHeartbeats 8000000 in
theorem counts_iterS (k : Nat) (IH : ∀ (l : PLog) (cs : List Int) (bl bb : Nat) (a ca : Option Addr) (n cap m ccap : Nat) (w : World), LOk l → COk l cs → possible l cs = true → cs.length + 1 + k = l.ps.length →
      n = l.ps.length → m = cs.length → m ≤ ccap → bl ≠ bb → (ca = none → cs = []) →
      Blk w bl #[.int .i64 l.lo, .int .i64 l.hi, .slice a n cap] 26 → Blk w bb #[.slice ca m ccap] 42 → Row w w.heap.size a (spans l.ps) → Row w w.heap.size ca (ints cs) →
      IterC Try.prog 67 #[.pointer (some ⟨bb, 0, none⟩), .pointer (some ⟨bl, 0, none⟩)] (cntAll k l cs) (capC bl bb a ca l cs) w)
    (l : PLog) (cs : List Int) (bl bb : Nat) (a ca : Option Addr) (n cap m ccap : Nat) (w : World) (hl : LOk l) (hcs : COk l cs) (hpo : possible l cs = true) (hlen : cs.length + 1 + (k + 1) = l.ps.length)
    (hn : n = l.ps.length) (hm : m = cs.length) (hmc : m ≤ ccap) (hne : bl ≠ bb) (hnil : ca = none → cs = [])
    (b0 : Blk w bl #[.int .i64 l.lo, .int .i64 l.hi, .slice a n cap] 26) (b1 : Blk w bb #[.slice ca m ccap] 42) (hp : Row w w.heap.size a (spans l.ps)) (hc : Row w w.heap.size ca (ints cs)) :
    IterC Try.prog 67 #[.pointer (some ⟨bb, 0, none⟩), .pointer (some ⟨bl, 0, none⟩)] (cntAll (k + 1) l cs) (capC bl bb a ca l cs) w := by
  intro lp J Jx O W hsz hcap hO hJ hJx hY h0
  have l8 := hl.len8
  obtain ⟨lm, hm', ln, hn', a1, a2, h1, h2, hNUM⟩ := numC hl hcs hpo (by omega) hm
  have hcW : Row W w.heap.size ca (ints cs) := hc.at fun k hk => (hcap k (.inr (.inr (.inr hk)))).2.2
  have hpW : Row W w.heap.size a (spans l.ps) := hp.at fun k hk => (hcap k (.inr (.inr (.inl hk)))).2.2
  have k0 : Blk W bl #[.int .i64 l.lo, .int .i64 l.hi, .slice a n cap] 26 := ((hcap bl (.inl rfl)).2.2).trans b0
  have k1 : Blk W bb #[.slice ca m ccap] 42 := ((hcap bb (.inr (.inl rfl))).2.2).trans b1
  have hcO : ∀ k, capC bl bb a ca l cs k → k < w.heap.size ∧ ¬ O k := fun k hk => ⟨(hcap k hk).1, (hcap k hk).2.1⟩
  have HY := hide hY
  have HJ := hide hJ
  have HJx := hide hJx
  have HM := hide hm
  obtain ⟨i0, hi, hz0, hz1, hz2⟩ := info_int
  have HI := hide hi
  clear hi
  have HN := hide hn
  have HLEN := hide hlen
  have HPO := hide hpo
  have HCO := hide hcO
  have hm8 : m + 2 ≤ n := by omega
  have hn8 : n ≤ 8 := by omega
  have hmn' : ((m : Int) == (n : Int) - 1) = false := by rw [beq_eq_false_iff_ne]; omega
  obtain ⟨b, off, rfl, hbb, hcell⟩ := hpW.span (by omega)
  obtain ⟨s0, s1⟩ := hcell m (by omega)
  obtain ⟨s2, s3⟩ := hcell (m + 1) (by omega)
  rw [hNUM.e1] at s0
  rw [hNUM.e2] at s1
  rw [hNUM.e3] at s2
  rw [hNUM.e4] at s3
  have HPD := hide (fun (V : World) (hp : Row V V.heap.size (some ⟨b, off, none⟩) (spans l.ps)) (hc : Row V V.heap.size ca (ints cs)) => period_any l cs (some ⟨b, off, none⟩) ca n cap m ccap V hl hcs hn hm hmc hp hc)
  rw [hNUM.e5, hNUM.e6, hpo] at HPD
  dsimp only at HPD
  obtain ⟨sN, hsN⟩ : ∃ s, s = W.heap.size := ⟨_, rfl⟩
  generalize hW1 : W.alloc (.cells #[.func (.yield lp) #[] #[]] 106) = W1
  have hbW1 : Below W.heap.size W W1 := by rw [← hW1]; exact (Below.refl _ _).alloc (Nat.le_refl _) _
  have hz1 : W1.heap.size = W.heap.size + 1 := by rw [← hW1]; simp
  have ky : Blk W1 W.heap.size #[.func (.yield lp) #[] #[]] 106 := by rw [← hW1]; exact Blk.new _ _ _
  have j0 := k0.kept hbW1
  have j1 := k1.kept hbW1
  have t0 := (hbW1.cell (p := ⟨b, off + m * 2, none⟩) (by show b < _; omega)).trans s0
  have t1 := (hbW1.cell (p := ⟨b, off + m * 2 + 1, none⟩) (by show b < _; omega)).trans s1
  have t2 := (hbW1.cell (p := ⟨b, off + (m + 1) * 2, none⟩) (by show b < _; omega)).trans s2
  have t3 := (hbW1.cell (p := ⟨b, off + (m + 1) * 2 + 1, none⟩) (by show b < _; omega)).trans s3
  clear hcap hJ hJx hY hm hn b0 b1 hp hc hlen hpo hcell s0 s1 s2 s3 hcO
  have HIH := hide IH
  clear IH
  refine callsIn_of_wp_marks Try.func67 rfl trivial ?_ rfl
  simp only [Try.ntmps67, List.size_toArray, List.length_cons, List.length_nil, Nat.reduceAdd, Nat.reduceSub, Array.replicate_succ, Array.replicate_zero, List.push_toArray, List.append_toArray, List.nil_append, List.cons_append]
  obtain ⟨c0, c1, c2, _⟩ := j0.three
  obtain ⟨d0, _⟩ := j1.one
  have y0 := j0.lt
  have y1 := j1.lt
  gi_wp2_with fail
  have HZ1 := hide hz1
  have hbW : b < W1.heap.size := by omega
  have hX := @Ext.cell W1
  have hmn1 : m + 1 < n := by omega
  have hmn0 : m < n := by omega
  have hin1 : 0 ≤ (m : Int) + 1 := by omega
  have hin2 : (m : Int) + 1 < n := by omega
  have hwrap : IntKind.i64.wrap ((m : Int) + 1) = ((m + 1 : Nat) : Int) := by rw [IntKind.wrap_i64]; omega
  clear hz1 hW1 hsN sN
  refine wpIn_wide.2 ?_
  refine wp_region_pair (.int .i64 0) (.int .i64 0) (.int .i64 lm) (.int .i64 hm') #[.int .i64 0, .int .i64 0] 23 23 5 6 13 _ (by kernel_rfl) (by kernel_rfl) (by decide)
    ⟨_, rfl, rfl, rfl, (by intro cs b h; cases h), fun ev w => by simp [go_sem]⟩ ⟨_, rfl, rfl, rfl, (by intro cs b h; cases h), fun ev w => by simp [go_sem]⟩ rfl rfl rfl ?_
  simp only [List.take_succ_cons, List.take_zero, List.drop_succ_cons, List.drop_zero]
  repeat (refine wpGrow_step (fun K hK => ?_); go_simp; (refine hK _ ?_; clear hK K))
  refine wpGrow_nil ?_
  intro b1 b2 hb1 hb2 hb12
  refine ⟨fun w' hbw bk1 => ?_, fun w' hbw bk1 bk2 => ?_⟩
  · obtain ⟨e1, e2, e3, e4⟩ := bk1.two
    simp only [Act.put, List.setIfInBounds_toArray, List.set_cons_zero, List.set_cons_succ]
    unfold StoresAt
    go_simp
  · simp only [Act.put, List.setIfInBounds_toArray, List.set_cons_zero, List.set_cons_succ]
    obtain ⟨e1, e2, e3, e4⟩ := bk2.two
    have hne' : ¬ b2 = b1 := fun e => hb12 e.symm
    clear hX
    go_wp2_with fail
    have hWW := hbW1.size
    have u1 := bk1.other2 (k := b2) hb12 (.int .i64 ln) (.int .i64 hn')
    have u2 := bk2.set2 (.int .i64 ln) (.int .i64 hn')
    have hBV : Below W.heap.size W _ := below_set2 (hbW1.trans (hbw.mono (by have := hbW1.size; omega))) (k := b2) (by omega) (.int .i64 ln) (.int .i64 hn')
    have kyV := (ky.below hbw (by have := ky.lt; omega)).other2 (k := b2) (by have := ky.lt; omega) (.int .i64 ln) (.int .i64 hn')
    generalize hV : World.setCell (World.setCell w' _ _) _ _ = V at *
    clear hV bk1 bk2 e1 e2 e3 e4 c0 c1 c2 d0 t0 t1 t2 t3 y0 y1 j0 j1 hwrap hbw ky hbW1
    have k0V := k0.below hBV k0.lt
    have k1V := k1.below hBV k1.lt
    have hpV := hpW.below hBV hsz
    have hcV := hcW.below hBV hsz
    have hsV := hBV.size
    obtain ⟨c0, c1, c2, _⟩ := k0V.three
    obtain ⟨d0, _⟩ := k1V.one
    have y0 := k0V.lt
    have y1 := k1V.lt
    gi_wp2_with fail
    refine ⟨trivial, rfl, (Calls.wide (HPD.out V (hpV.mono (by omega)) (hcV.mono (by omega)))).mono ?_⟩
    rintro e V6 ⟨rfl, hb6⟩
    have hB6 := hBV.trans (hb6.mono hsV)
    have u1' := u1.kept hb6
    have u2' := u2.kept hb6
    have ky6 := kyV.kept hb6
    have hs6 := hB6.size
    clear hb6 u1 u2 kyV k0V k1V hpV hcV hsV hBV c0 c1 c2 d0 y0 y1
    have p1 := (u1'.alloc (.cells #[.int .i64 a1, .int .i64 a2] 88)).alloc (.cells #[.int .i64 h1, .int .i64 h2] 88)
    have p2 := (u2'.alloc (.cells #[.int .i64 a1, .int .i64 a2] 88)).alloc (.cells #[.int .i64 h1, .int .i64 h2] 88)
    have py := (ky6.alloc (.cells #[.int .i64 a1, .int .i64 a2] 88)).alloc (.cells #[.int .i64 h1, .int .i64 h2] 88)
    have p7 := (Blk.new V6 #[.int .i64 a1, .int .i64 a2] 88).alloc (.cells #[.int .i64 h1, .int .i64 h2] 88)
    have p8 := Blk.new (V6.alloc (.cells #[.int .i64 a1, .int .i64 a2] 88)) #[.int .i64 h1, .int .i64 h2] 88
    simp only [World.size_alloc] at p8
    have hB7 := (hB6.alloc hs6 (.cells #[.int .i64 a1, .int .i64 a2] 88)).alloc (by simp; omega) (.cells #[.int .i64 h1, .int .i64 h2] 88)
    have hs7V := p8.lt
    have c10 := p1.two
    have c20 := p2.two
    have c70 := p7.two
    have c80 := p8.two
    obtain ⟨⟨bd1, bd2, bd3, bd4, bd5, bd6, bd7, bd8⟩, ⟨bd9, bd10⟩, ⟨bd11, bd12, bd13, bd14, bd15, bd16, bd17, bd18⟩⟩ := hNUM.b
    obtain ⟨⟨pd1, pd2⟩, ⟨pd3, pd4⟩, ⟨pd5, pd6⟩⟩ := hNUM.p
    have hq1 : ¬ h1 = 0 := by omega
    obtain ⟨c10, c11, _⟩ := c10
    obtain ⟨c20, c21, _⟩ := c20
    obtain ⟨c70, c71, _⟩ := c70
    obtain ⟨c80, c81, _⟩ := c80
    have hB7s := hB7.size
    have g1 := p1.lt
    have g2 := p2.lt
    have g3 := py.lt
    clear u1' u2' ky6
    gi_wp2_with (refine wpListIn_max _ rfl (.const (.int .i64 1)) (.tmp 62) _ rfl 1 ((ln - hm') * h2 / h1) rfl rfl ?_)
    rw [← hNUM.f]
    have hs7 : ∃ s7, V6.heap.size = s7 := ⟨_, rfl⟩
    obtain ⟨s7, hs7⟩ := hs7
    rw [hs7] at p7 p8 hs6 hs7V ⊢
    obtain ⟨V7, hV7⟩ : ∃ V7, (V6.alloc (.cells #[.int .i64 a1, .int .i64 a2] 88)).alloc (.cells #[.int .i64 h1, .int .i64 h2] 88) = V7 := ⟨_, rfl⟩
    rw [hV7] at p1 p2 py p7 p8 hB7 hs7V hB7s g1 g2 g3 ⊢
    clear c10 c11 c20 c21 c70 c71 c80 c81 hB6 hs7 hV7
    obtain ⟨F, hFd⟩ : ∃ F : Nat → Prop, F = fun k => capC bl bb (some ⟨b, off, none⟩) ca l cs k ∨ k = W.heap.size ∨ k = b1 ∨ k = b2 ∨ k = s7 ∨ k = s7 + 1 := ⟨_, rfl⟩
    have hFc : ∀ k, capC bl bb (some ⟨b, off, none⟩) ca l cs k → F k := fun k hk => by rw [hFd]; exact .inl hk
    have hFy : F W.heap.size := by rw [hFd]; exact .inr (.inl rfl)
    have hF1 : F b1 := by rw [hFd]; exact .inr (.inr (.inl rfl))
    have hF2 : F b2 := by rw [hFd]; exact .inr (.inr (.inr (.inl rfl)))
    have hF7 : F s7 := by rw [hFd]; exact .inr (.inr (.inr (.inr (.inl rfl))))
    have hF8 : F (s7 + 1) := by rw [hFd]; exact .inr (.inr (.inr (.inr (.inr rfl))))
    have hF : ∀ k, F k → k < V7.heap.size := by
      intro k hk
      rw [hFd] at hk
      rcases hk with hk | rfl | rfl | rfl | rfl | rfl
      · exact Nat.lt_of_lt_of_le (HCO.out k hk).1 (Nat.le_trans hsz hB7s)
      · exact g3
      · exact g1
      · exact g2
      · exact Nat.lt_of_succ_lt hs7V
      · exact hs7V
    have hFO : ∀ k, F k → ¬ O k := by
      intro k hk ho
      have h9 := hO k ho
      rw [hFd] at hk
      rcases hk with hk | rfl | rfl | rfl | rfl | rfl
      · exact (HCO.out k hk).2 ho
      · exact Nat.lt_irrefl _ h9
      · exact absurd (Nat.lt_of_lt_of_le h9 (Nat.le_trans hWW hb1)) (Nat.lt_irrefl _)
      · exact absurd (Nat.lt_of_lt_of_le h9 (Nat.le_trans hWW hb2)) (Nat.lt_irrefl _)
      · exact absurd (Nat.lt_of_lt_of_le h9 hs6) (Nat.lt_irrefl _)
      · exact absurd (Nat.lt_of_lt_of_le h9 (Nat.le_succ_of_le hs6)) (Nat.lt_irrefl _)
    have fr0 : Fr F V7 O V7 := ⟨Nat.le_refl _, fun k hk => ⟨hFO k hk, rfl⟩, fun k hk => Nat.lt_of_lt_of_le (hO k hk) hB7s⟩
    have k0V := k0.below hB7 k0.lt
    have k1V := k1.below hB7 k1.lt
    have hpV := hpW.below hB7 hsz
    have hcV := hcW.below hB7 hsz
    have hJ0 := HJ.out _ _ _ _ h0 (.of_below hB7)
    clear hFd hpW hcW k0 k1 hFO g1 g2 g3 hs6 hs7V
    have hFp : ∀ k, capR (some ⟨b, off, none⟩) (spans l.ps) k → F k := fun k hk => hFc k (.inr (.inr (.inl hk)))
    have hFq : ∀ k, capR ca (ints cs) k → F k := fun k hk => hFc k (.inr (.inr (.inr hk)))
    have hFl : F bl := hFc bl (.inl rfl)
    have hFb : F bb := hFc bb (.inr (.inl rfl))
    refine wpIn_loop (fun a' wr => ∃ (nn : Int) (pre : List (List Int)) (O1 : Nat → Prop) (ks : List Nat) (us : Nat → Value), us = (fun i => a'.tmps.getD i undef) ∧ (1 ≤ nn ∧ nn ≤ 1000001) ∧ cntAll (k + 1) l cs = pre ++ cntRest k l cs nn ∧ J O1 pre wr ∧ Fr F V7 O1 wr ∧ KS W.heap.size O1 ks wr ∧
      a' = { tmps := #[Value.func (Fn.yield lp) #[] #[], Value.pointer (some ⟨bb, 0, none⟩), Value.pointer (some ⟨bl, 0, none⟩), Value.pointer (some ⟨W.heap.size, 0, none⟩), undef, Value.pointer (some ⟨b1, 0, none⟩), Value.pointer (some ⟨b2, 0, none⟩), Value.pointer (some ⟨s7, 0, none⟩), Value.pointer (some ⟨s7 + 1, 0, none⟩), Value.bool true, Value.int .i64 nn, us 11, us 12, us 13, us 14, us 15, us 16, us 17, us 18, us 19, us 20, us 21, us 22, us 23, us 24, us 25, us 26, us 27, us 28, us 29, us 30, us 31, us 32, us 33, us 34, us 35, us 36, us 37, us 38, us 39, us 40, us 41, us 42, us 43, us 44, us 45, us 46, us 47, us 48, us 49, us 50, us 51, us 52, us 53, us 54, us 55, us 56, us 57, us 58, us 59, us 60, us 61, us 62, us 63, us 64, us 65, us 66, us 67, us 68, us 69, us 70, us 71, us 72, us 73, us 74, us 75, us 76, us 77, us 78, us 79, us 80, us 81, us 82, us 83, us 84, us 85, us 86, us 87, us 88, us 89, us 90, us 91, us 92, us 93, us 94, us 95, us 96, us 97, us 98, us 99, us 100], defers := marks ks }) (fun a' _ => (1000002 - intOf (a'.tmps.getD 10 undef)).toNat) ?start ?round
    case start => exact ⟨firstN l cs, [], O, [], _, rfl, ⟨hNUM.f1, Int.le_trans hNUM.f2 (by decide)⟩, rfl, hJ0, fr0, ⟨.nil, fun _ h => (by cases h)⟩, rfl⟩
    case round =>
      clear hJ0 fr0
      rintro a' wr ⟨nn, pre, O1, ks, us, hus, ⟨hn1, hn2⟩, hx, hJ1, hFr, hKS, rfl⟩
      clear hus
      obtain ⟨c10, c11, _⟩ := (hFr.blk hF1 p1).two
      obtain ⟨c20, c21, _⟩ := (hFr.blk hF2 p2).two
      obtain ⟨c70, c71, _⟩ := (hFr.blk hF7 p7).two
      obtain ⟨c80, c81, _⟩ := (hFr.blk hF8 p8).two
      obtain ⟨cl0, cl1, cl2, _⟩ := (hFr.blk hFl k0V).three
      obtain ⟨cb0, _⟩ := (hFr.blk hFb k1V).one
      have HX := hide hx
      have np0 : 0 ≤ nn * a1 := Int.mul_nonneg (Int.le_trans (by decide) hn1) (Int.le_trans (by decide) bd11)
      have np1 : nn * a1 ≤ 1000001 * 2000000 := Int.mul_le_mul hn2 bd12 (Int.le_trans (by decide) bd11) (by decide)
      have HLA := hide (hNUM.la nn)
      clear hx
      by_cases hle : nn ≤ lastN l cs
      · have hcond : nn * a1 ≤ (hn' - lm) * a2 := HLA.out.2 hle
        have hn3 : nn ≤ 1000000 := Int.le_trans hle hNUM.l2
        have hcs' := cok_snoc hcs hn1 hn3 (by have := HLEN.out; omega)
        gi_wp2_with fail
        refine ⟨trivial, rfl, (Calls.wide (clip_any ca m ccap wr hmc)).mono ?_⟩
        rintro e wr1 ⟨rfl, rfl⟩
        have hrw : Row wr w.heap.size ca (ints cs) := hFr.row hFq hcV
        gi_wp2_with (
          gi_at_builtin
          refine wpListIn_append_full _ rfl (.tmp 80) (.tmp 82) 42 rfl 3 i0 (.int .i64 0) under_ints HI.out hz0 hz1 hz2 ca cs m HM.out rfl w.heap.size (hrw.below ((Below.refl wr.heap.size wr).alloc (Nat.le_refl _) (.cells #[.int .i64 nn] 3)) (Nat.le_trans hsz (Nat.le_trans hB7s hFr.size))) hnil ⟨wr.heap.size, 0, none⟩ nn rfl ((Blk.new wr #[.int .i64 nn] 3).one.1) (by omega) ?_
          intro cap' W8 hz8 hrow8 hb8 hcap8
          have hW8 : Below wr.heap.size wr W8 := ((Below.refl wr.heap.size wr).alloc (Nat.le_refl _) (.cells #[.int .i64 nn] 3)).trans (hb8.mono (by simp))
          have hFr8 := hFr.below hF hW8
          have hKS8 := hKS.below hW8
          obtain ⟨q0, q1, q2, _⟩ := (hFr8.blk hFl k0V).three
          have z0 := (hFr8.blk hFl k0V).lt
          simp only [World.size_alloc] at hz8 hrow8
          clear hb8 c10 c11 c20 c21 c70 c71 c80 c81 cl0 cl1 cl2 cb0 hrw)
        refine ⟨trivial, rfl, (Calls.wide (period_any l (cs ++ [nn]) (some ⟨b, off, none⟩) (some ⟨wr.heap.size + 1, 0, none⟩) n cap (m + 1) cap' W8 hl hcs' HN.out (by rw [HM.out]; simp) hcap8
          ((hFr8.row hFp hpV).mono (Nat.le_trans hsz (Nat.le_trans hB7s hFr8.size))) (hrow8.mono (by omega)))).mono ?_⟩
        rintro e W9 ⟨rfl, hb9⟩
        have hW9 := hW8.trans (hb9.mono hW8.size)
        have hrow9 := hrow8.below hb9 (by omega)
        have hz9 := hb9.size
        clear hb9 z0 q0 q1 q2 hFr8 hKS8 hrow8 hW8
        generalize lowEnd l (cs ++ [nn]) = A at *
        generalize highEnd l (cs ++ [nn]) = B at *
        obtain ⟨A1, A2⟩ := A
        obtain ⟨B1, B2⟩ := B
        have hWA := (hW9.alloc hW9.size (.cells #[.int .i64 A1, .int .i64 A2] 88)).alloc (by simp; exact Nat.le_succ_of_le hW9.size) (.cells #[.int .i64 B1, .int .i64 B2] 88)
        cases hp2 : possible l (cs ++ [nn]) with
        | false =>
          gi_wp2_with fail
          refine ⟨⟨nn + 1, pre, O1, ks, _, rfl, ⟨Int.le_trans hn1 (Int.le_add_one (Int.le_refl _)), Int.add_le_add_right hn3 1⟩, ?_, HJ.out _ _ _ _ hJ1 (.of_below hWA), hFr.below hF hWA, hKS.below hWA, rfl⟩, ?_⟩
          · rw [HX.out, cntRest_no hle hp2]
          · simp [intOf]; omega
        | true =>
          have hFr9 := hFr.below hF hW9
          obtain ⟨q0, q1, q2, _⟩ := (hFr9.blk hFl k0V).three
          have z0 := (hFr9.blk hFl k0V).lt
          gi_wp2_with fail
          refine ⟨trivial, rfl, (Calls.wide (counts_any l (some ⟨b, off, none⟩) (some ⟨wr.heap.size + 1, 0, none⟩) n cap (m + 1) cap' _)).mono ?_⟩
          rintro e WC ⟨rfl, hWC⟩
          clear q0 q1 q2 z0 hFr9
          have hrowA := (hrow9.below ((Below.refl W9.heap.size W9).alloc (Nat.le_refl _) (.cells #[.int .i64 A1, .int .i64 A2] 88)) (by omega)).below ((Below.refl (W9.heap.size + 1) _).alloc (by simp) (.cells #[.int .i64 B1, .int .i64 B2] 88)) (by omega)
          have hzA : ((W9.alloc (.cells #[.int .i64 A1, .int .i64 A2] 88)).alloc (.cells #[.int .i64 B1, .int .i64 B2] 88)).heap.size = W9.heap.size + 2 := by simp
          gi_wp2_with fail
          obtain ⟨WC, hWCe⟩ : ∃ WC, (((W9.alloc (.cells #[.int .i64 A1, .int .i64 A2] 88)).alloc (.cells #[.int .i64 B1, .int .i64 B2] 88)).alloc (.cells #[.int .i64 l.lo, .int .i64 l.hi, .slice (some ⟨b, off, none⟩) n cap] 26)).alloc (.cells #[.slice (some ⟨wr.heap.size + 1, 0, none⟩) (m + 1) cap'] 42) = WC := ⟨_, rfl⟩
          have hzC : WC.heap.size = W9.heap.size + 4 := by rw [← hWCe]; simp
          have bLog := (Blk.new ((W9.alloc (.cells #[.int .i64 A1, .int .i64 A2] 88)).alloc (.cells #[.int .i64 B1, .int .i64 B2] 88)) #[.int .i64 l.lo, .int .i64 l.hi, .slice (some ⟨b, off, none⟩) n cap] 26).alloc (.cells #[.slice (some ⟨wr.heap.size + 1, 0, none⟩) (m + 1) cap'] 42)
          have bBeg := Blk.new (((W9.alloc (.cells #[.int .i64 A1, .int .i64 A2] 88)).alloc (.cells #[.int .i64 B1, .int .i64 B2] 88)).alloc (.cells #[.int .i64 l.lo, .int .i64 l.hi, .slice (some ⟨b, off, none⟩) n cap] 26)) #[.slice (some ⟨wr.heap.size + 1, 0, none⟩) (m + 1) cap'] 42
          simp only [World.size_alloc] at bLog bBeg
          rw [hWCe] at bLog bBeg
          have hWCb : Below wr.heap.size wr WC := by rw [← hWCe]; exact (hWA.alloc hWA.size _).alloc (by simp; exact Nat.le_succ_of_le (Nat.le_succ_of_le (Nat.le_succ_of_le hW9.size))) _
          have hrowC : Row WC (wr.heap.size + 1 + 1) (some ⟨wr.heap.size + 1, 0, none⟩) (ints (cs ++ [nn])) := by
            rw [← hWCe]
            exact (hrowA.below ((Below.refl (W9.heap.size + 2) _).alloc (by simp) _) (by omega)).below ((Below.refl (W9.heap.size + 2) _).alloc (by simp) _) (by omega)
          have hFrC := hFr.below hF hWCb
          have hKSC := hKS.below hWCb
          have hJC := HJ.out _ _ _ _ hJ1 (.of_below hWCb)
          have hwC := hWCb.size
          have hpC : Row WC WC.heap.size (some ⟨b, off, none⟩) (spans l.ps) := (hFrC.row hFp hpV).mono (Nat.le_trans hsz (Nat.le_trans hB7s hFrC.size))
          have hown := hFr.own
          have hks := hKS.2
          rw [hWCe]
          clear hWCe hWC hrowA hrow9 hzA hWA hW9 hFr hKS
          have hIT := HIH.out l (cs ++ [nn]) (W9.heap.size + 1 + 1) (W9.heap.size + 1 + 1 + 1) (some ⟨b, off, none⟩) (some ⟨wr.heap.size + 1, 0, none⟩) n cap (m + 1) cap' WC hl hcs' hp2 (by have := HLEN.out; simp; omega) HN.out (by rw [HM.out]; simp) hcap8 (by omega) (by intro h; cases h) bLog bBeg hpC (hrowC.mono (by omega))
          refine wp_rangeC (w0 := WC) (gf := 67) rfl (enters_of Try.func67 (by kernel_rfl) rfl) hIT (Nat.le_refl _) rfl O1 hFrC.own ?cap
            (fun O2 pre2 W2 => J O2 (pre ++ pre2) W2 ∧ Fr F V7 O2 W2 ∧ KS W.heap.size O2 ks W2) (fun c O2 pre2 W2 => c = .ret ∧ Jx O2 (pre ++ pre2) W2 ∧ KS W.heap.size O2 ks W2) ?hI ?hIx ⟨by rw [List.append_nil]; exact hJC, hFrC, hKSC⟩ ?rnd ?done ?stop
          case cap =>
            intro kk hk
            have hnO : ∀ k2, wr.heap.size ≤ k2 → ¬ O1 k2 := fun k2 h2 ho => by have := hown k2 ho; omega
            rcases hk with rfl | rfl | hk | hk
            · exact ⟨bLog.lt, hnO _ (by omega), rfl⟩
            · exact ⟨bBeg.lt, hnO _ (by omega), rfl⟩
            · exact ⟨Nat.lt_of_lt_of_le (hF _ (hFp _ hk)) hFrC.size, (hFrC.keep _ (hFp _ hk)).1, rfl⟩
            · obtain ⟨_, ad, e1, rfl⟩ := hk
              cases e1
              exact ⟨by show wr.heap.size + 1 < _; omega, hnO _ (by show _ ≤ wr.heap.size + 1; omega), rfl⟩
          case hI =>
            rintro O2 s A B ⟨h1, h2, h3⟩ hg
            exact ⟨HJ.out _ _ _ _ h1 (hg.mono (by have := hFrC.size; omega)), h2.grow hF hg hFrC.size, h3.grow hg fun k hk => Nat.lt_of_lt_of_le (hks k hk).2.1 hwC⟩
          case hIx =>
            rintro c O2 s A B ⟨h0, h1, h3⟩ hg
            exact ⟨h0, HJx.out _ _ _ _ h1 (hg.mono (by have := hFrC.size; omega)), h3.grow hg fun k hk => Nat.lt_of_lt_of_le (hks k hk).2.1 hwC⟩
          case rnd =>
            rintro lr O2 pre2 x args W2 hlr hO2 hpre ⟨sb, scap, rfl, hnb, hsb, hxc, hrow⟩ ⟨i1, i2, i3⟩ hW2
            have hpre' : (pre ++ pre2) ++ [x] <+: cntAll (k + 1) l cs := by
              obtain ⟨rest, hrest⟩ := hpre
              exact ⟨rest ++ cntRest k l cs (nn + 1), by rw [HX.out, cntRest_yes hle hp2, ← hrest]; simp⟩
            gi_wp2_with fail
            refine ⟨Below.refl _ _, fun W3 hg3 hz3 => ?_⟩
            have fr3 := i2.grow hF hg3 hFrC.size
            have ks3 := i3.grow hg3 fun k hk => Nat.lt_of_lt_of_le (hks k hk).2.1 hwC
            have cy := (fr3.blk hFy py).one.1
            have j3 := HJ.out _ _ _ _ i1 (hg3.mono (by have := hFrC.size; omega))
            obtain ⟨fn, tmps, assign, body, hy, hR⟩ := HY.out O2 (pre ++ pre2) x #[.slice (some ⟨sb, 0, none⟩) x.length scap] W3 fr3.own (by have := fr3.size; omega) hpre' ⟨sb, scap, rfl, hnb, by omega, hxc, (hrow.grow hg3).mono (by omega)⟩ j3
            have hR' := hide (roundIn_any 0 hR)
            clear hR i1 i2 i3 hg3 hz3 hrow j3
            try dsimp only at hy
            gi_wp2_with fail
            refine ⟨rfl, (roundIn_inRound hR'.out).mono ?_⟩
            rintro e W4 ⟨O3, hr3, ⟨rfl, hJ3⟩ | ⟨rfl, hJ3⟩⟩
            · gi_wp2_with fail
              exact ⟨O3, hr3, by rw [← List.append_assoc]; exact hJ3, fr3.rndO hF hr3, ks3.rndO hr3⟩
            · gi_wp2_with fail
              exact ⟨O3, hr3, rfl, by rw [← List.append_assoc]; exact hJ3, ks3.rndO hr3⟩
          case done =>
            rintro O2 W2 ⟨i1, i2, i3⟩ hnO hk hz2
            gi_wp2_with fail
            refine ⟨⟨nn + 1, pre ++ cntAll k l (cs ++ [nn]), O2, WC.heap.size :: ks, _, rfl, ⟨Int.le_trans hn1 (Int.le_add_one (Int.le_refl _)), Int.add_le_add_right hn3 1⟩, ?_, i1, i2, ⟨?_, ?_⟩, rfl⟩, ?_⟩
            · rw [HX.out, cntRest_yes hle hp2, List.append_assoc]
            · exact List.pairwise_cons.2 ⟨fun k hk e => by have := (hks k hk).2.1; omega, i3.1⟩
            · intro k2 h2
              rcases List.mem_cons.1 h2 with rfl | h2
              · exact ⟨by have := hFrC.size; omega, hz2, hnO, hk⟩
              · exact i3.2 k2 h2
            · simp [intOf]; omega
          case stop =>
            rintro c O2 pre2 x W2 hpre ⟨rfl, i1, i3⟩ hk hz2
            gi_wp2_with fail
            refine leaves_marks (m := W.heap.size) (WC.heap.size :: ks) W2 (List.pairwise_cons.2 ⟨fun k hk e => by have := (hks k hk).2.1; omega, i3.1⟩) (fun k2 h2 => ?_) fun w' hg => ⟨_, results_none rfl _ _ _, ⟨_, rfl⟩, O2, .inr ⟨pre ++ pre2, x, ?_, ?_⟩⟩
            · rcases List.mem_cons.1 h2 with rfl | h2
              · exact ⟨by have := hFrC.size; omega, hk⟩
              · exact ⟨(i3.2 k2 h2).1, (i3.2 k2 h2).2.2.2⟩
            · obtain ⟨rest, hrest⟩ := hpre
              exact ⟨rest ++ cntRest k l cs (nn + 1), by rw [HX.out, cntRest_yes hle hp2, ← hrest]; simp⟩
            · rw [List.append_assoc]
              exact HJx.out _ _ _ _ i1 hg
      · have hcond : ¬ nn * a1 ≤ (hn' - lm) * a2 := fun h => hle (HLA.out.1 h)
        gi_wp2_with fail
        refine leaves_marks ks wr hKS.1 (fun k hk => ⟨(hKS.2 k hk).1, (hKS.2 k hk).2.2.2⟩) fun w' hg => ⟨_, results_none rfl _ _ _, ⟨_, rfl⟩, O1, .inl ?_⟩
        have := HX.out
        rw [cntRest_done (by omega), List.append_nil] at this
        rw [this]
        exact HJ.out _ _ _ _ hJ1 hg

end Go.Proofs.Ytjgebepeghgmcaa
