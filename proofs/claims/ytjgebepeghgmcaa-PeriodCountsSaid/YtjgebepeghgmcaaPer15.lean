/-
  Package period: Counts.
-/
import Derived.Test.YtjgebepeghgmcaaPer14
import Derived.Deep.AppendLies
namespace Go.Proofs.Ytjgebepeghgmcaa
open Go.RowKit Go.Shelf
set_option linter.unusedVariables false
set_option linter.unusedSimpArgs false

theorem counts_iter : ∀ (k : Nat) (l : PLog) (cs : List Int) (bl bb : Nat) (a ca : Option Addr) (n cap m ccap : Nat) (w : World), LOk l → COk l cs → possible l cs = true → cs.length + 1 + k = l.ps.length →
      n = l.ps.length → m = cs.length → m ≤ ccap → bl ≠ bb → (ca = none → cs = []) →
      Blk w bl #[.int .i64 l.lo, .int .i64 l.hi, .slice a n cap] 26 → Blk w bb #[.slice ca m ccap] 42 → Row w w.heap.size a (spans l.ps) → Row w w.heap.size ca (ints cs) →
      IterC Try.prog 67 #[.pointer (some ⟨bb, 0, none⟩), .pointer (some ⟨bl, 0, none⟩)] (cntAll k l cs) (capC bl bb a ca l cs) w
  | 0, l, cs, bl, bb, a, ca, n, cap, m, ccap, w, hl, hcs, hp, hlen, hn, hm, hmc, hne, hnil, b0, b1, hr, hc => counts_iter0 l cs bl bb a ca n cap m ccap w hl hcs hlen hn hm hne b0 b1 hr hc
  | k + 1, l, cs, bl, bb, a, ca, n, cap, m, ccap, w, hl, hcs, hp, hlen, hn, hm, hmc, hne, hnil, b0, b1, hr, hc => counts_iterS k (counts_iter k) l cs bl bb a ca n cap m ccap w hl hcs hp hlen hn hm hmc hne hnil b0 b1 hr hc

def allC (l : PLog) : List (List Int) := cntAll (l.ps.length - 1) l []
def countsR (l : PLog) : List (List Int) × Int := if checkL l ≠ 0 then ([], checkL l) else if 500 < (allC l).length then ([], 16) else (allC l, 0)

/-- A slice in a row of slices. -/
def slv (p : (Nat × Nat) × List Int) : Value := .slice (some ⟨p.1.1, 0, none⟩) p.2.length p.1.2
/-- A slice of slices of integers. -/
def Rows2 (w : World) (v : Value) (xs : List (List Int)) : Prop :=
  ∃ ps : List ((Nat × Nat) × List Int), ps.map (·.2) = xs ∧ (∃ a cap, v = .slice a xs.length cap ∧ xs.length ≤ cap ∧ Row w w.heap.size a (ps.map slv)) ∧
    ∀ p ∈ ps, p.2.length ≤ p.1.2 ∧ Row w w.heap.size (some ⟨p.1.1, 0, none⟩) (ints p.2)
theorem Rows2.below {w w' : World} {v : Value} {xs : List (List Int)} (h : Rows2 w v xs) (hb : Below w.heap.size w w') : Rows2 w' v xs := by
  obtain ⟨ps, h1, ⟨a, cap, h2, h3, h4⟩, h5⟩ := h
  exact ⟨ps, h1, ⟨a, cap, h2, h3, (h4.below hb (Nat.le_refl _)).mono hb.size⟩, fun p hp => ⟨(h5 p hp).1, ((h5 p hp).2.below hb (Nat.le_refl _)).mono hb.size⟩⟩
theorem Rows2.nil (w : World) : Rows2 w (.slice none 0 0) [] := ⟨[], rfl, ⟨none, 0, rfl, Nat.le_refl _, .inl rfl⟩, fun _ h => (by cases h)⟩

/-- What Counts holds between two rounds. -/
structure CI (s b5 : Nat) (l : PLog) (a : Option Addr) (n cap : Nat) (w : World) (O : Nat → Prop) (pre : List (List Int)) (W : World) : Prop where
  out : ∃ (v : Value) (ps : List ((Nat × Nat) × List Int)), Blk W b5 #[v] 30 ∧ W.ownsRow (b5 + 1) 42 1 v pre.length (ps.map slv) ∧ ps.map (·.2) = pre ∧
    (∀ p ∈ ps, p.2.length ≤ p.1.2 ∧ ¬ O p.1.1 ∧ p.1.1 < W.heap.size ∧ Row W W.heap.size (some ⟨p.1.1, 0, none⟩) (ints p.2)) ∧ (∀ k, O k ↔ k = b5 ∨ k = s + 1 ∨ k = s + 2 ∨ v.ownBlock = some k)
  b0 : Blk W s #[.int .i64 l.lo, .int .i64 l.hi, .slice a n cap] 26
  b1 : Blk W (s + 1) #[.slice none 0 0] 30
  b2 : Blk W (s + 1 + 1) #[.int .i64 0] 31
  be : Below w.heap.size w W
  le : pre.length ≤ 500

theorem wpListIn_append_lies {F : Fence} {n0 : Nat} {P : Program} (w : World) {ops : Array Oper} {rest : List Oper} {o : Oper} {a : Act} {Q : Exit → Act → World → Prop} (hgd : o.guard = none) (s x : Operand) (t : TypeId)
    (ho : o.op = .call { callee := .builtin .append, args := #[s, x], argTypes := #[t, t] })
    (base : Nat) (e : TypeId) (i : TypeInfo) (z : Value) (size bytes : Nat) (ht : P.underlying t = some (.slice e)) (hi : P.info? e = some i) (hz : i.zero = some z)
    (hsize : i.size = size) (hby : i.bytes = bytes) (hzs : z.cells.size = size) (hsz : 0 < size)
    (v : Value) (n : Nat) (xs : List Value) (hs : a.eval s = v) (hown : w.ownsRow base e size v n xs)
    (ad : Addr) (m c : Nat) (news : List Value) (hx : a.eval x = .slice (some ad) m c) (hl : news.length = m * size) (hnews : ∀ j u, news[j]? = some u → w.cell? (ad.add j) = some u) (h1 : ∀ u ∈ news, u.oneCell' = true)
    (hm : 0 < m) (h63 : n + m ≤ maxLen) (hbytes : (n + m) * bytes ≤ 140737488355328) (hbase : base ≤ w.heap.size) (H : Nat) (hH : w.heap.size = H)
    (h : ∀ g cap w', w'.ownsRow base e size (.slice (some ⟨g, 0, none⟩) (n + m) cap) (n + m) (xs ++ news) → w.grownBy w' v.ownBlock → (v.ownBlock = some g ∨ g = H) → g < w'.heap.size → wpListIn F n0 P ops Q rest (a.put o.dst (.slice (some ⟨g, 0, none⟩) (n + m) cap)) w') : wpListIn F n0 P ops Q (o :: rest) a w := by
  refine wpListIn_plain hgd fun K hK => ?_
  obtain ⟨g, cap, w', hr, h2, h3, h4, h5⟩ := run_append_lies (P := P) w t o.type base e i z size bytes ht hi hz hsize hby hzs hsz v n xs hown ad m c news hl hnews h1 hm h63 hbytes hbase H hH
  unfold Oper.wpIn
  refine ⟨?_, ?_⟩
  · simp [Oper.about, ho, resolve, Target.leads, Sem.run_pure]
  · rw [Oper.semAt_plain F _ _ (by rw [ho]; intro c hc'; cases hc')]
    simp only [execOp, ho, resolve, invoke, builtin, Sem.run_bind, Sem.run_pure, Result.andThen_ok, List.map_toArray, List.map_cons, List.map_nil, hs, hx, hr]
    exact hK _ _ (h g cap w' h2 h3 h4 h5)

theorem CI.grow {s b5 : Nat} {l : PLog} {a : Option Addr} {n cap m : Nat} {w : World} {O : Nat → Prop} {pre : List (List Int)} {A B : World} (h : CI s b5 l a n cap w O pre A) (hg : Grow m A B) (hm : w.heap.size ≤ m) : CI s b5 l a n cap w O pre B := by
  obtain ⟨⟨v, ps, h1, h2, h3, h4, h5⟩, e0, e1, e2, e3, e4⟩ := h
  refine ⟨⟨v, ps, h1.grow hg, ?_, h3, fun p hp => ⟨(h4 p hp).1, (h4 p hp).2.1, Nat.lt_of_lt_of_le (h4 p hp).2.2.1 hg.size, ((h4 p hp).2.2.2.grow hg).mono hg.size⟩, h5⟩, e0.grow hg, e1.grow hg, e2.grow hg, e3.trans ((hg.mono hm).below e3.size), e4⟩
  refine ⟨h2.1, h2.2.imp id ?_⟩
  rintro ⟨g, cp, cur, r1, r2, r3, r4⟩
  exact ⟨g, cp, cur, r1, r2, hg.block _ _ r3 (.inr rfl), r4⟩

theorem info_ints0 : (Try.prog.info? 42).map (fun i => (i.zero, i.size, i.bytes)) = some (some (.slice none 0 0), 1, 24) := by kernel_rfl
theorem under_intss : Try.prog.underlying 30 = some (.slice 42) := by kernel_rfl
theorem info_ints : ∃ i : TypeInfo, Try.prog.info? 42 = some i ∧ i.zero = some (.slice none 0 0) ∧ i.size = 1 ∧ i.bytes = 24 := info_parts info_ints0

attribute [local go_sem] Oper.semAt_some in
set_option maxRecDepth 100000 in
set_option maxHeartbeats 8000000 in
theorem countsF_any (l : PLog) (a : Option Addr) (n cap : Nat) (w : World) (hn : n = l.ps.length) (hn1 : n ≤ 1000000000) (hp : Row w w.heap.size a (spans l.ps)) :
    Calls Try.prog 15 #[.agg #[.int .i64 l.lo, .int .i64 l.hi, .slice a n cap]] w fun e w' =>
      ∃ v, e = .returned (.tuple #[v, .int .i64 (countsR l).2]) ∧ Rows2 w' v (countsR l).1 ∧ Below w.heap.size w w' := by
  have HCK := hide (fun (W : World) (hp : Row W W.heap.size a (spans l.ps)) => check_any l a n cap W hn (by omega) hp)
  have HN := hide hn
  have hn2 : n ≤ 1000000000 := hn1
  clear hn hn1
  refine (callsIn_wide (n := 0)).1 ?_
  refine callsIn_of_wp_marks Try.func15 rfl trivial ?_ rfl
  simp only [Try.ntmps15, List.size_toArray, List.length_cons, List.length_nil, Nat.reduceAdd, Nat.reduceSub, Array.replicate_succ, Array.replicate_zero, List.push_toArray, List.append_toArray, List.nil_append, List.cons_append]
  gi_wp2_with fail
  generalize hW : World.alloc (World.alloc (World.alloc w _) _) _ = V
  have hB : Below w.heap.size w V := by rw [← hW]; exact (((Below.refl _ _).alloc (Nat.le_refl _) _).alloc (by simp) _).alloc (by simp; omega) _
  have b0 : Blk V w.heap.size #[.int .i64 l.lo, .int .i64 l.hi, .slice a n cap] 26 := by rw [← hW]; exact ((Blk.new w _ _).alloc _).alloc _
  have b1 : Blk V (w.heap.size + 1) #[.slice none 0 0] 30 := by rw [← hW]; exact (by simpa using Blk.new (World.alloc w _) _ _ : Blk _ (w.heap.size + 1) _ _).alloc _
  have b2 : Blk V (w.heap.size + 1 + 1) #[.int .i64 0] 31 := by rw [← hW]; exact (by simpa using Blk.new (World.alloc (World.alloc w _) _) _ _)
  have hsV := hB.size
  have hpV := hp.below hB (Nat.le_refl _)
  clear hW
  refine ⟨trivial, rfl, (Calls.wide (HCK.out V (hpV.mono hsV))).mono ?_⟩
  rintro e W1 ⟨rfl, hb1⟩
  have c0 := b0.kept hb1
  have c1 := b1.kept hb1
  have c2 := b2.kept hb1
  have hB1 := hB.trans (hb1.mono hsV)
  have hs1 := hB1.size
  have hp1 := hpV.below hb1 hsV
  clear b0 b1 b2 hB hb1 hsV hpV hp
  obtain ⟨x0, x1, x2, _⟩ := c0.three
  obtain ⟨u0, f0⟩ := c1.one
  obtain ⟨v0, g0⟩ := c2.one
  have y0 := c0.lt
  have y1 := c1.lt
  have y2 := c2.lt
  by_cases hck : checkL l = 0
  · have hl := lok_of_check hck
    rw [hck]
    gi_wp2_with fail
    refine ⟨trivial, rfl, (Calls.wide (counts_any l a none n cap 0 0 _)).mono ?_⟩
    rintro e WC ⟨rfl, hWC⟩
    gi_wp2_with fail
    have hcok : COk l [] := ⟨by have := hl.len2; simp; omega, fun x hx => (by cases hx)⟩
    obtain ⟨W5, hW5⟩ : ∃ W5, ((W1.alloc (.cells #[.slice none 0 0] 30)).alloc (.cells #[.int .i64 l.lo, .int .i64 l.hi, .slice a n cap] 26)).alloc (.cells #[.slice none 0 0] 42) = W5 := ⟨_, rfl⟩
    have hz5 : W5.heap.size = W1.heap.size + 3 := by rw [← hW5]; simp
    have b5 := ((Blk.new W1 #[.slice none 0 0] 30).alloc (.cells #[.int .i64 l.lo, .int .i64 l.hi, .slice a n cap] 26)).alloc (.cells #[.slice none 0 0] 42)
    have bLog := (Blk.new (W1.alloc (.cells #[.slice none 0 0] 30)) #[.int .i64 l.lo, .int .i64 l.hi, .slice a n cap] 26).alloc (.cells #[.slice none 0 0] 42)
    have bBeg := Blk.new ((W1.alloc (.cells #[.slice none 0 0] 30)).alloc (.cells #[.int .i64 l.lo, .int .i64 l.hi, .slice a n cap] 26)) #[.slice none 0 0] 42
    have hW15 : Below W1.heap.size W1 W5 := by rw [← hW5]; exact (((Below.refl _ _).alloc (Nat.le_refl _) _).alloc (by simp) _).alloc (by simp; omega) _
    simp only [World.size_alloc] at bLog bBeg
    rw [hW5] at b5 bLog bBeg ⊢
    have hB5 := hB1.trans (hW15.mono hs1)
    have d0 := c0.kept hW15
    have d1 := c1.kept hW15
    have d2 := c2.kept hW15
    have hp5 := hp1.below hW15 hs1
    have hs5 := hB5.size
    clear hW5 hWC x0 x1 x2 u0 f0 v0 g0 c0 c1 c2 hp1 hB1 hW15
    have hIT := counts_iter (l.ps.length - 1) l [] (W1.heap.size + 1) (W1.heap.size + 1 + 1) a none n cap 0 0 W5 hl hcok (possible_nil hl) (by have := hl.len2; simp; omega) HN.out rfl (Nat.le_refl _) (by omega) (fun _ => rfl) bLog bBeg (hp5.mono hs5) (.inl rfl)
    refine wp_rangeC (w0 := W5) (gf := 67) rfl (enters_of Try.func67 (by kernel_rfl) rfl) hIT (Nat.le_refl _) rfl (fun k => k = W1.heap.size ∨ k = w.heap.size + 1 ∨ k = w.heap.size + 2) ?ho ?cap
      (fun O pre W => CI w.heap.size W1.heap.size l a n cap w O pre W) (fun c O pre W => c = .ret ∧ 500 < pre.length ∧ Blk W (w.heap.size + 1) #[.slice none 0 0] 30 ∧ Blk W (w.heap.size + 1 + 1) #[.int .i64 16] 31 ∧ Below w.heap.size w W) ?hI ?hIx ?h0 ?rnd ?done ?stop
    case ho => rintro k (rfl | rfl | rfl) <;> omega
    case cap =>
      rintro k (rfl | rfl | hk | hk)
      · exact ⟨bLog.lt, by omega, rfl⟩
      · exact ⟨bBeg.lt, by omega, rfl⟩
      · have := hp5.capLt hk
        exact ⟨by omega, by omega, rfl⟩
      · exact absurd rfl hk.1
    case hI =>
      exact fun O s A B h hg => h.grow hg hs5
    case hIx =>
      rintro c O s A B ⟨h1, h2, h3, h4, h5⟩ hg
      exact ⟨h1, h2, h3.grow hg, h4.grow hg, h5.trans ((hg.mono hs5).below h5.size)⟩
    case h0 =>
      exact ⟨⟨.slice none 0 0, [], b5, World.ownsRow_nil _ _ _ _, rfl, fun p hp => (by cases hp), fun k => by simp [Value.ownBlock]⟩, d0, d1, d2, hB5, by simp⟩
    case rnd =>
      obtain ⟨i0, hi, hz0, hz1, hz2⟩ := info_ints
      have HI := hide hi
      clear hi
      rintro lr O pre x args W2 hlr hO hpre ⟨sb, scap, rfl, hnb, hsb, hxc, hrow⟩ hci hW2
      gi_wp2_with fail
      refine ⟨Below.refl _ _, fun W3 hg hz3 => ?_⟩
      have hrow3 := hrow.grow hg
      obtain ⟨⟨v, ps, h1, h2, h3, h4, h5⟩, e0, e1, e2, e3, e4⟩ := hci.grow hg hs5
      have HZ3 := hide hz3
      clear hci hrow hg hz3
      obtain ⟨va, vcap, rfl⟩ : ∃ va vcap, v = .slice va pre.length vcap := by
        rcases h2.2 with ⟨rfl, h0⟩ | ⟨g, cp, cur, rfl, _⟩
        · exact ⟨none, 0, by rw [h0]⟩
        · exact ⟨_, _, rfl⟩
      obtain ⟨m0, mf⟩ := h1.one
      obtain ⟨m1, mf1⟩ := e1.one
      obtain ⟨m2, mf2⟩ := e2.one
      have l1 := h1.lt
      have l2 := e1.lt
      have l3 := e2.lt
      by_cases h500 : pre.length = 500
      · have hc : ((pre.length : Int) == 500) = true := by simp; omega
        gi_wp2_with fail
        exact ⟨O, ⟨((Rnd.refl _ _).setCell (p := ⟨w.heap.size + 1, 0, none⟩) (.inl ((h5 _).2 (.inr (.inl rfl)))) _).setCell (p := ⟨w.heap.size + 1 + 1, 0, none⟩) (.inl ((h5 _).2 (.inr (.inr (.inl rfl))))) _, fun k h => .inl h⟩, rfl, by simp; omega,
          (e1.set 0 (.slice none 0 0)).other (p := ⟨w.heap.size + 1 + 1, 0, none⟩) (by simp) (.int .i64 16), (e2.other (p := ⟨w.heap.size + 1, 0, none⟩) (by simp) (.slice none 0 0)).set 0 (.int .i64 16),
          (e3.setCell (p := ⟨w.heap.size + 1, 0, none⟩) (Nat.le_succ _) _).setCell (p := ⟨w.heap.size + 1 + 1, 0, none⟩) (by show _ ≤ w.heap.size + 1 + 1; omega) _⟩
      · have hc : ((pre.length : Int) == 500) = false := by rw [beq_eq_false_iff_ne]; omega
        have hle : pre.length + 1 ≤ 500 := by omega
        gi_wp2_with (
          gi_at_builtin
          refine wpListIn_append_lies _ rfl (.tmp 18) (.tmp 20) 30 rfl (W1.heap.size + 1) 42 i0 (.slice none 0 0) 1 24 under_intss HI.out hz0 hz1 hz2 rfl (by decide) _ _ _ rfl (h2.alloc _) ⟨W3.heap.size, 0, none⟩ 1 1 [.slice (some ⟨sb, 0, none⟩) x.length scap] rfl rfl (cell_one_new _ _ _) (by intro u hu; simp at hu; subst hu; rfl) (by decide) (by unfold maxLen; omega) (by omega) (by simp; omega) _ rfl ?_
          intro g2 cap2 W4 ow4 gr4 at4 lt4
          have bk4 : Blk W4 W1.heap.size #[.slice va pre.length vcap] 30 := (gr4.block W1.heap.size (by simp; omega) (fun e => by have := h2.lt _ e.symm; omega)).trans (h1.alloc _)
          obtain ⟨k4, kf4⟩ := bk4.one
          have lt4' := bk4.lt
          clear m0 mf m1 mf1 m2 mf2)
        have hown : ∀ k, (Value.slice va pre.length vcap).ownBlock = some k → W1.heap.size + 1 ≤ k := fun k e => (h2.lt k e).1
        have hkeep : ∀ k, k < W3.heap.size → k ≠ W1.heap.size → ¬ (Value.slice va pre.length vcap).ownBlock = some k → (W4.setCell ⟨W1.heap.size, 0, none⟩ (.slice (some ⟨g2, 0, none⟩) (pre.length + 1) cap2)).heap[k]? = W3.heap[k]? := fun k hk h1 h2 =>
          (Below.heap_setCell _ _ _ _ h1).trans ((gr4.block k (by simp; omega) (fun e => h2 e.symm)).trans (Below.heap_alloc _ _ _ hk))
        have hsz4 : W3.heap.size + 1 ≤ W4.heap.size := by have := gr4.size; simpa using this
        have hsz4' : (W4.setCell ⟨W1.heap.size, 0, none⟩ (.slice (some ⟨g2, 0, none⟩) (pre.length + 1) cap2)).heap.size = W4.heap.size := by simp [World.setCell]
        have hO5 : ∀ k, ¬ O k → k ≠ W1.heap.size ∧ ¬ (Value.slice va pre.length vcap).ownBlock = some k := fun k h => ⟨fun e => h ((h5 k).2 (.inl e)), fun e => h ((h5 k).2 (.inr (.inr (.inr e))))⟩
        have hg2 : ∀ k, k < W3.heap.size → ¬ O k → k ≠ g2 := fun k hk h e => by
          rcases at4 with h4 | h4
          · exact (hO5 k h).2 (e ▸ h4)
          · simp at h4; omega
        have hg1 : W1.heap.size ≠ g2 := fun e => by
          rcases at4 with h4 | h4
          · have := hown _ h4; omega
          · simp at h4; omega
        have hsb3 : sb < W3.heap.size := by rw [HZ3.out]; exact hsb
        have hrowT : ∀ (bb : Nat) (vs : List Value), bb < W3.heap.size → ¬ O bb → Row W3 W3.heap.size (some ⟨bb, 0, none⟩) vs → Row (W4.setCell ⟨W1.heap.size, 0, none⟩ (.slice (some ⟨g2, 0, none⟩) (pre.length + 1) cap2)) (W4.setCell ⟨W1.heap.size, 0, none⟩ (.slice (some ⟨g2, 0, none⟩) (pre.length + 1) cap2)).heap.size (some ⟨bb, 0, none⟩) vs := fun bb vs hb ho hr =>
          (hr.at fun k hk => by
            obtain ⟨_, ad, e, rfl⟩ := hk
            cases e
            exact hkeep bb hb (hO5 bb ho).1 (hO5 bb ho).2).mono (by rw [hsz4']; omega)
        refine ⟨fun k => k = W1.heap.size ∨ k = w.heap.size + 1 ∨ k = w.heap.size + 2 ∨ k = g2, ⟨⟨gr4.os, gr4.tape, gr4.output, by rw [hsz4']; omega, fun k hk hn => hkeep k hk (hO5 k hn).1 (hO5 k hn).2⟩, ?_⟩,
          ⟨⟨.slice (some ⟨g2, 0, none⟩) (pre.length + 1) cap2, ps ++ [((sb, scap), x)], bk4.set 0 _, ?_, ?_, ?_, ?_⟩, ?_, ?_, ?_, ?_, by simp; omega⟩⟩
        · rintro k (rfl | rfl | rfl | rfl)
          · exact .inl ((h5 _).2 (.inl rfl))
          · exact .inl ((h5 _).2 (.inr (.inl rfl)))
          · exact .inl ((h5 _).2 (.inr (.inr (.inl rfl))))
          · rcases at4 with h4 | h4
            · exact .inl ((h5 _).2 (.inr (.inr (.inr h4))))
            · simp at h4
              exact .inr ⟨by omega, by rw [hsz4']; exact lt4⟩
        · have hkp := ow4.kept (w' := W4.setCell ⟨W1.heap.size, 0, none⟩ (.slice (some ⟨g2, 0, none⟩) (pre.length + 1) cap2)) (row := some W1.heap.size) ⟨rfl, rfl, rfl, by rw [hsz4']; exact Nat.le_refl _, fun k hk hne => Below.heap_setCell _ _ _ _ (fun e => hne (by rw [e]))⟩ (.inr (by simp [Value.ownBlock]; exact fun e => hg1 e.symm))
          rw [List.length_append, List.map_append]
          exact hkp
        · rw [List.map_append, h3]; rfl
        · intro p hp
          rcases List.mem_append.1 hp with hp | hp
          · obtain ⟨p1, p2, p3, p4⟩ := h4 p hp
            exact ⟨p1, fun h => by rcases h with h | h | h | h; exact (hO5 _ p2).1 h; exact p2 ((h5 _).2 (.inr (.inl h))); exact p2 ((h5 _).2 (.inr (.inr (.inl h)))); exact hg2 _ p3 p2 h, by rw [hsz4']; omega, hrowT _ _ p3 p2 p4⟩
          · obtain rfl : p = ((sb, scap), x) := by simpa using hp
            exact ⟨hxc, fun h => by rcases h with h | h | h | h; exact (hO5 _ hnb).1 h; exact hnb ((h5 _).2 (.inr (.inl h))); exact hnb ((h5 _).2 (.inr (.inr (.inl h)))); exact hg2 _ hsb3 hnb h, by rw [hsz4']; show sb < _; omega, hrowT _ _ hsb3 hnb (hrow3.mono (by rw [HZ3.out]; exact Nat.le_refl _))⟩
        · intro k
          simp [Value.ownBlock, eq_comm]
        · exact (hkeep _ e0.lt (by omega) (fun e => by have := hown _ e; omega)).trans e0
        · exact (hkeep _ e1.lt (by omega) (fun e => by have := hown _ e; omega)).trans e1
        · exact (hkeep _ e2.lt (by omega) (fun e => by have := hown _ e; omega)).trans e2
        · exact ⟨gr4.os.trans e3.os, gr4.tape.trans e3.tape, gr4.output.trans e3.output, by rw [hsz4']; have := e3.size; omega, fun k hk => (hkeep k (by have := e3.size; omega) (by omega) (fun e => by have := hown _ e; omega)).trans (e3.block k hk)⟩
    case done =>
      rintro O W2 ⟨⟨v, ps, h1, h2, h3, h4, h5⟩, e0, e1, e2, e3, e4⟩ hnO hk hz2
      have HR : Hid (countsR l = (allC l, 0)) := hide (by unfold countsR; rw [if_neg (by simpa using hck), if_neg (by unfold allC; omega)])
      obtain ⟨va, vcap, rfl⟩ : ∃ va vcap, v = .slice va (cntAll (l.ps.length - 1) l []).length vcap := by
        rcases h2.2 with ⟨rfl, h0⟩ | ⟨g, cp, cur, rfl, _⟩
        · exact ⟨none, 0, by rw [h0]⟩
        · exact ⟨_, _, rfl⟩
      have hrows : (cntAll (l.ps.length - 1) l []).length ≤ vcap ∧ Row W2 W2.heap.size va (ps.map slv) ∧ ∀ k, capR va (ps.map slv) k → W1.heap.size + 1 ≤ k := by
        rcases h2.2 with ⟨hv, h0⟩ | ⟨g, cp, cur, hv, hb, hc, hle, _, _, htk⟩
        · injection hv with hv1 hv2 hv3
          subst hv1
          have hps : ps.map slv = [] := List.eq_nil_of_length_eq_zero (by rw [h2.1, h0])
          rw [hps]
          exact ⟨by omega, .inl rfl, fun k hk => absurd rfl hk.1⟩
        · injection hv with hv1 hv2 hv3
          subst hv1 hv3
          refine ⟨hle, (row_of_heap hc (by rw [h2.1]; exact htk)).mono (Array.getElem?_eq_some_iff.1 hc).1, fun k hk => ?_⟩
          obtain ⟨_, ad, e, rfl⟩ := hk
          cases e
          exact hb
      obtain ⟨m0, mf⟩ := h1.one
      obtain ⟨m1, mf1⟩ := e1.one
      obtain ⟨m2, mf2⟩ := e2.one
      have l1 := h1.lt
      have l2 := e1.lt
      have l3 := e2.lt
      gi_wp2_with fail
      have hkp : ∀ k, k ≠ w.heap.size + 1 → k ≠ w.heap.size + 1 + 1 → ((W2.setCell ⟨w.heap.size + 1, 0, none⟩ (.slice va (cntAll (l.ps.length - 1) l []).length vcap)).setCell ⟨w.heap.size + 1 + 1, 0, none⟩ (.int .i64 0)).heap[k]? = W2.heap[k]? := fun k h1 h2 =>
        (Below.heap_setCell _ _ _ _ h2).trans (Below.heap_setCell _ _ _ _ h1)
      have q1 := (e1.set 0 (.slice va (cntAll (l.ps.length - 1) l []).length vcap)).other (p := ⟨w.heap.size + 1 + 1, 0, none⟩) (by simp) (.int .i64 0)
      have q2 := (e2.other (p := ⟨w.heap.size + 1, 0, none⟩) (by simp) (.slice va (cntAll (l.ps.length - 1) l []).length vcap)).set 0 (.int .i64 0)
      have hBf := (e3.setCell (p := ⟨w.heap.size + 1, 0, none⟩) (Nat.le_succ _) (.slice va (cntAll (l.ps.length - 1) l []).length vcap)).setCell (p := ⟨w.heap.size + 1 + 1, 0, none⟩) (by show _ ≤ w.heap.size + 1 + 1; omega) (.int .i64 0)
      have hzz : ((W2.setCell ⟨w.heap.size + 1, 0, none⟩ (.slice va (cntAll (l.ps.length - 1) l []).length vcap)).setCell ⟨w.heap.size + 1 + 1, 0, none⟩ (.int .i64 0)).heap.size = W2.heap.size := by simp [World.setCell]
      refine leaves_marks (m := W5.heap.size) [W5.heap.size] _ (List.pairwise_singleton _ _) (fun k h => ?_) fun w' hg => ?_
      · obtain rfl : k = W5.heap.size := by simpa using h
        exact ⟨Nat.le_refl _, (hkp _ (by omega) (by omega)).trans hk⟩
      · have r1 := (q1.grow hg).cell 0
        have r2 := (q2.grow hg).cell 0
        refine ⟨.tuple #[.slice va (cntAll (l.ps.length - 1) l []).length vcap, .int .i64 0], by simp [results, Try.results15, go_sem, r1, r2], .slice va (cntAll (l.ps.length - 1) l []).length vcap, by rw [HR.out], ?_, hBf.trans ((hg.mono hs5).below hBf.size)⟩
        rw [HR.out]
        refine ⟨ps, h3, ⟨va, vcap, rfl, hrows.1, ((hrows.2.1.at fun k hk => ?_).grow hg).mono (by have := hg.size; omega)⟩, fun p hp => ⟨(h4 p hp).1, (((h4 p hp).2.2.2.at fun k hk => ?_).grow hg).mono (by have := hg.size; omega)⟩⟩
        · have := hrows.2.2 k hk
          exact hkp k (by omega) (by omega)
        · obtain ⟨_, ad, e, rfl⟩ := hk
          cases e
          exact hkp _ (fun e => (h4 p hp).2.1 ((h5 _).2 (.inr (.inl e)))) (fun e => (h4 p hp).2.1 ((h5 _).2 (.inr (.inr (.inl e)))))
    case stop =>
      rintro c O pre x W2 hpre ⟨rfl, h500, q1, q2, q3⟩ hk hz2
      have HR : Hid (countsR l = ([], 16)) := hide (by unfold countsR; rw [if_neg (by simpa using hck), if_pos (by have := hpre.length_le; unfold allC; omega)])
      gi_wp2_with fail
      refine leaves_marks (m := W5.heap.size) [W5.heap.size] W2 (List.pairwise_singleton _ _) (fun k h => ?_) fun w' hg => ?_
      · obtain rfl : k = W5.heap.size := by simpa using h
        exact ⟨Nat.le_refl _, hk⟩
      have r1 := (q1.grow hg).cell 0
      have r2 := (q2.grow hg).cell 0
      exact ⟨.tuple #[.slice none 0 0, .int .i64 16], by simp [results, Try.results15, go_sem, r1, r2], .slice none 0 0, by rw [HR.out], by rw [HR.out]; exact Rows2.nil _, q3.trans ((hg.mono hs5).below q3.size)⟩
  · have HR : Hid (countsR l = ([], checkL l)) := hide (by unfold countsR; rw [if_pos hck])
    have H2 : (checkL l != 0) = true := by rw [bne_iff_ne]; exact hck
    clear hck
    gi_wp2_with fail
    have q1 := (c1.set 0 (.slice none 0 0)).other (p := ⟨w.heap.size + 1 + 1, 0, none⟩) (by simp) (.int .i64 (checkL l))
    have q2 := (c2.other (p := ⟨w.heap.size + 1, 0, none⟩) (by simp) (.slice none 0 0)).set 0 (.int .i64 (checkL l))
    have hBf := (hB1.setCell (p := ⟨w.heap.size + 1, 0, none⟩) (Nat.le_succ _) (.slice none 0 0)).setCell (p := ⟨w.heap.size + 1 + 1, 0, none⟩) (by show _ ≤ w.heap.size + 1 + 1; omega) (.int .i64 (checkL l))
    have r1 := q1.cell 0
    have r2 := q2.cell 0
    refine ⟨.tuple #[.slice none 0 0, .int .i64 (checkL l)], by simp [results, Try.results15, go_sem, r1, r2], .slice none 0 0, by rw [HR.out], by rw [HR.out]; exact Rows2.nil _, hBf⟩

end Go.Proofs.Ytjgebepeghgmcaa
