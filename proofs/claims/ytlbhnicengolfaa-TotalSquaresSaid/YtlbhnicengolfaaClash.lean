/-
  Package total: Clash.
-/
import Derived.Test.YtlbhnicengolfaaGrpS
namespace Go.Proofs.Ytlbhnicengolfaa
open Go.RowKit
set_option linter.unusedVariables false
set_option linter.unusedSimpArgs false

theorem groups_any (sa ta : Option Addr) (sn sc tn tc : Nat) (w : World) :
    Calls Try.prog 60 #[netV sa ta sn sc tn tc] w fun e w' =>
      e = .returned (.func (.func 81) #[] #[.pointer (some ⟨w.heap.size, 0, none⟩)]) ∧ w' = w.alloc (.cells #[.slice sa sn sc, .slice ta tn tc] 25) := by
  go_enter Try.func60, Try.ntmps60
  go_wp2
  go_ret
  exact ⟨rfl, rfl⟩

/-- What Clash returns. -/
def claR (n : TNet) : List Int × Int :=
  if checkT n ≠ 0 then ([], checkT n) else match (grpAll n).find? (fun x => brkR n x.2) with
    | some x => (x.1, 0)
    | none => ([], 6)
def claPost (R : List Int × Int) (w : World) (e : Ending) (w' : World) : Prop :=
  ∃ v, e = .returned (.tuple #[v, .int .i64 R.2]) ∧ (R.2 = 0 → ∃ b cap, v = .slice (some ⟨b, 0, none⟩) R.1.length cap ∧ Row w' w'.heap.size (some ⟨b, 0, none⟩) (ints R.1)) ∧ (R.2 ≠ 0 → v = .slice none 0 0) ∧ Below w.heap.size w w'
theorem claPost_none {R : List Int × Int} {w w' : World} {E : Int} (hR : R = ([], E)) (hE : E ≠ 0) (hb : Below w.heap.size w w') : claPost R w (.returned (.tuple #[.slice none 0 0, .int .i64 E])) w' := by
  subst hR
  exact ⟨_, rfl, (fun h => absurd h hE), fun _ => rfl, hb⟩
theorem claPost_some {R : List Int × Int} {w w' : World} {l : List Int} {b cap : Nat} (hR : R = (l, 0)) (hr : Row w' w'.heap.size (some ⟨b, 0, none⟩) (ints l)) (hb : Below w.heap.size w w') : claPost R w (.returned (.tuple #[.slice (some ⟨b, 0, none⟩) l.length cap, .int .i64 0])) w' := by
  subst hR
  exact ⟨_, rfl, (fun _ => ⟨_, _, rfl, hr⟩), (fun h => absurd rfl h), hb⟩
theorem find_pre {α : Type} {p : α → Bool} {xs pre : List α} {x : α} (h : pre ++ [x] <+: xs) (h0 : ∀ y ∈ pre, p y = false) (h1 : p x = true) : xs.find? p = some x := by
  obtain ⟨t, rfl⟩ := h
  rw [List.append_assoc, List.find?_append, List.find?_eq_none.2 (fun y hy => by rw [h0 y hy]; simp)]
  simp [h1]
theorem gIt_mono (sn : Nat) (O O' : Nat → Prop) (x : List Int × List Int) (args : Array Value) (W : World) (h : ∀ k, O k → O' k) (hi : GIt sn O' x args W) : GIt sn O x args W := by
  obtain ⟨b, cap, g, h1, h2, h3, h4⟩ := hi
  exact ⟨b, cap, g, h1, fun k => h2 (h _ k), fun k => h3 (h _ k), h4⟩

attribute [local go_sem] Oper.semAt_some in
set_option maxRecDepth 100000 in
set_option maxHeartbeats 8000000 in
theorem clash_any (n : TNet) (sa ta : Option Addr) (sn sc tn tc : Nat) (w : World) (h : NetIn n sa ta sn tn tc w) (hnz : checkT n = 0 → NzAll n) :
    Calls Try.prog 34 #[netV sa ta sn sc tn tc] w fun e w' => claPost (claR n) w e w' := by
  have H := hide h
  have HNZ := hide hnz
  have HR : Hid (claR n = if checkT n ≠ 0 then ([], checkT n) else match (grpAll n).find? (fun x => brkR n x.2) with | some x => (x.1, 0) | none => ([], 6)) := hide rfl
  clear h hnz
  refine (callsIn_wide (n := 0)).1 ?_
  refine callsIn_of_wp_marks Try.func34 rfl trivial ?_ rfl
  simp only [Try.ntmps34, List.size_toArray, List.length_cons, List.length_nil, Nat.reduceAdd, Nat.reduceSub, Array.replicate_succ, Array.replicate_zero, List.push_toArray, List.append_toArray, List.nil_append, List.cons_append]
  gi_wp2_with fail
  generalize hW : World.alloc (World.alloc (World.alloc w _) _) _ = V
  have hB : Below w.heap.size w V := by rw [← hW]; exact (((Below.refl _ _).alloc (Nat.le_refl _) _).alloc (by simp) _).alloc (by simp; omega) _
  have b0 : Blk V w.heap.size #[.slice sa sn sc, .slice ta tn tc] 25 := by rw [← hW]; exact ((Blk.new w _ _).alloc _).alloc _
  have b1 : Blk V (w.heap.size + 1) #[.slice none 0 0] 38 := by rw [← hW]; exact (by simpa using Blk.new (World.alloc w _) _ _ : Blk _ (w.heap.size + 1) _ _).alloc _
  have b2 : Blk V (w.heap.size + 1 + 1) #[.int .i64 0] 28 := by rw [← hW]; exact (by simpa using Blk.new (World.alloc (World.alloc w _) _) _ _)
  have hsV := hB.size
  clear hW
  refine ⟨trivial, rfl, (Calls.wide ((H.out.below hB).check sc)).mono ?_⟩
  rintro e W1 ⟨rfl, hb1⟩
  have c0 := b0.kept hb1
  have c1 := b1.kept hb1
  have c2 := b2.kept hb1
  have hB1 := hB.trans (hb1.mono hsV)
  have hs1 := hB1.size
  clear b0 b1 b2 hB hb1 hsV
  obtain ⟨x0, x1, _⟩ := c0.two
  obtain ⟨u0, f0⟩ := c1.one
  obtain ⟨v0, g0⟩ := c2.one
  have y0 := c0.lt
  have y1 := c1.lt
  have y2 := c2.lt
  by_cases hck : checkT n = 0
  · have hn := nok_of_check hck
    have HN := hide hn
    have HNA := hide (HNZ.out hck)
    have HR1 : Hid (claR n = match (grpAll n).find? (fun x => brkR n x.2) with | some x => (x.1, 0) | none => ([], 6)) := hide (by rw [HR.out, if_neg (by simpa using hck)])
    rw [hck]
    clear hn hck HR HNZ
    gi_wp2_with fail
    refine ⟨trivial, rfl, (Calls.wide (groups_any sa ta sn sc tn tc _)).mono ?_⟩
    rintro e WC ⟨rfl, hWC⟩
    subst hWC
    gi_wp2_with fail
    obtain ⟨W5, hW5⟩ : ∃ W5, W1.alloc (.cells #[.slice sa sn sc, .slice ta tn tc] 25) = W5 := ⟨_, rfl⟩
    have b5 := Blk.new W1 #[.slice sa sn sc, .slice ta tn tc] 25
    have hW15 : Below W1.heap.size W1 W5 := by rw [← hW5]; exact (Below.refl _ _).alloc (Nat.le_refl _) _
    rw [hW5] at b5 ⊢
    have hB5 := hB1.trans (hW15.mono hs1)
    have d0 := c0.kept hW15
    have d1 := c1.kept hW15
    have d2 := c2.kept hW15
    have hs5 := hB5.size
    have hs51 := b5.lt
    clear hW5 x0 x1 u0 f0 v0 g0 c0 c1 c2 hB1 hW15
    have hIT := groups_iter n W1.heap.size sa ta sn sc tn tc W5 (H.out.below hB5) HN.out HNA.out b5
    refine wp_rangeG (w0 := W5) (gf := 81) rfl (enters_of Try.func81 (by kernel_rfl) rfl) hIT (Nat.le_refl _) (gIt_mono sn) (fun O x args W h => by obtain ⟨b, cap, g, rfl, _⟩ := h; rfl) (fun k => k = w.heap.size + 1 ∨ k = w.heap.size + 1 + 1) ?ho ?cap
      (fun O pre W => (∀ y ∈ pre, brkR n y.2 = false) ∧ Blk W w.heap.size #[.slice sa sn sc, .slice ta tn tc] 25 ∧ Blk W (w.heap.size + 1) #[.slice none 0 0] 38 ∧ Blk W (w.heap.size + 1 + 1) #[.int .i64 0] 28 ∧ Below w.heap.size w W ∧ (∀ k, O k ↔ k = w.heap.size + 1 ∨ k = w.heap.size + 1 + 1))
      (fun c O pre W => c = .ret ∧ ∃ pre' x b cap, pre = pre' ++ [x] ∧ (∀ y ∈ pre', brkR n y.2 = false) ∧ brkR n x.2 = true ∧ Blk W (w.heap.size + 1) #[.slice (some ⟨b, 0, none⟩) x.1.length cap] 38 ∧ Blk W (w.heap.size + 1 + 1) #[.int .i64 0] 28 ∧ Row W W.heap.size (some ⟨b, 0, none⟩) (ints x.1) ∧ Below w.heap.size w W) ?hI ?hIx ?h0 ?rnd ?done ?stop
    case ho => rintro k (rfl | rfl) <;> omega
    case cap =>
      rintro k (rfl | hk | hk)
      · exact ⟨b5.lt, by omega, rfl⟩
      · have := H.out.rs.capLt hk
        exact ⟨by omega, by omega, rfl⟩
      · have := H.out.rt.capLt hk
        exact ⟨by omega, by omega, rfl⟩
    case hI =>
      rintro O s A B ⟨h1, h2, h3, h4, h5, h6⟩ hg
      exact ⟨h1, h2.grow hg, h3.grow hg, h4.grow hg, h5.trans ((hg.mono hs5).below h5.size), h6⟩
    case hIx =>
      rintro c O s A B ⟨h1, pre', x, b, cap, h2, h3, h4, h5, h6, h7, h8⟩ hg
      exact ⟨h1, pre', x, b, cap, h2, h3, h4, h5.grow hg, h6.grow hg, (h7.grow hg).mono hg.size, h8.trans ((hg.mono hs5).below h8.size)⟩
    case h0 => exact ⟨fun y hy => (by cases hy), d0, d1, d2, hB5, fun k => Iff.rfl⟩
    case rnd =>
      rintro lr O pre x args W2 hlr hO hpre ⟨b, cap, g, rfl, hnb, hng, hb, hgl, hrl, hrc, hlen⟩ ⟨h1, h2, h3, h4, h5, h6⟩ hW2
      gi_wp2_with fail
      refine ⟨Below.refl _ _, fun W3 hg hz3 => ?_⟩
      have e0 := h2.grow hg
      have e1 := h3.grow hg
      have e2 := h4.grow hg
      have e3 := h5.trans ((hg.mono hs5).below h5.size)
      have hrl3 := (hrl.grow hg).mono hg.size
      have hrc3 := (hrc.grow hg).mono hg.size
      have HP := hide h1
      have HO := hide h6
      clear h1 h2 h3 h4 h5 h6 hrl hrc hg hz3
      obtain ⟨m0, m1, _⟩ := e0.two
      have l0 := e0.lt
      gi_wp2_with fail
      refine ⟨trivial, rfl, (Calls.inRound lr (broken_any n x.2 sa ta (some ⟨g, 0, none⟩) sn sc tn tc sn W3 (H.out.below e3) HN.out hlen.symm hrc3)).mono ?_⟩
      rintro e W4 ⟨rfl, hb4⟩
      have t1 := e1.kept hb4
      have t2 := e2.kept hb4
      have t0 := e0.kept hb4
      have tB := e3.trans (hb4.mono e3.size)
      have hrl4 := (hrl3.below hb4 (Nat.le_refl _)).mono hb4.size
      clear m0 m1 l0 e0 e1 e2 e3 hrl3 hrc3
      obtain ⟨m1, mf1⟩ := t1.one
      obtain ⟨m2, mf2⟩ := t2.one
      have l1 := t1.lt
      have l2 := t2.lt
      cases hbr : brkR n x.2 with
      | false =>
        have HBR := hide hbr
        clear hbr
        gi_wp2_with fail
        exact ⟨O, .of_below hb4, fun y hy => (List.mem_append.1 hy).elim (HP.out y) (fun h => by rw [List.mem_singleton.1 h]; exact HBR.out), t0, t1, t2, tB, HO.out⟩
      | true =>
        have HBR := hide hbr
        clear hbr
        gi_wp2_with fail
        have hkp : ∀ k, k ≠ w.heap.size + 1 → k ≠ w.heap.size + 1 + 1 → ((W4.setCell ⟨w.heap.size + 1, 0, none⟩ (.slice (some ⟨b, 0, none⟩) x.1.length cap)).setCell ⟨w.heap.size + 1 + 1, 0, none⟩ (.int .i64 0)).heap[k]? = W4.heap[k]? := fun k h1 h2 =>
          (Below.heap_setCell _ _ _ _ h2).trans (Below.heap_setCell _ _ _ _ h1)
        have hzz : ((W4.setCell ⟨w.heap.size + 1, 0, none⟩ (.slice (some ⟨b, 0, none⟩) x.1.length cap)).setCell ⟨w.heap.size + 1 + 1, 0, none⟩ (.int .i64 0)).heap.size = W4.heap.size := by simp [World.setCell]
        refine ⟨O, ⟨((Rnd.of_below hb4).setCell (p := ⟨w.heap.size + 1, 0, none⟩) (.inl ((HO.out _).2 (.inl rfl))) _).setCell (p := ⟨w.heap.size + 1 + 1, 0, none⟩) (.inl ((HO.out _).2 (.inr rfl))) _, fun k h => .inl h⟩, rfl, pre, x, b, cap, rfl, HP.out, HBR.out,
          (t1.set 0 _).other (p := ⟨w.heap.size + 1 + 1, 0, none⟩) (by simp) (.int .i64 0), (t2.other (p := ⟨w.heap.size + 1, 0, none⟩) (by simp) _).set 0 (.int .i64 0), ?_,
          (tB.setCell (p := ⟨w.heap.size + 1, 0, none⟩) (Nat.le_succ _) _).setCell (p := ⟨w.heap.size + 1 + 1, 0, none⟩) (by show _ ≤ w.heap.size + 1 + 1; omega) _⟩
        refine (hrl4.at fun k hk => ?_).mono (by rw [hzz]; exact Nat.le_refl _)
        obtain ⟨_, ad, e, rfl⟩ := hk
        cases e
        exact hkp _ (fun e => hnb ((HO.out _).2 (.inl e))) (fun e => hnb ((HO.out _).2 (.inr e)))
    case done =>
      rintro O W2 ⟨h1, h2, e1, e2, e3, h6⟩ hnO hk hz2
      have HF : Hid (claR n = ([], 6)) := hide (by rw [HR1.out, List.find?_eq_none.2 (fun y hy => by rw [h1 y hy]; simp)])
      obtain ⟨m1, mf1⟩ := e1.one
      obtain ⟨m2, mf2⟩ := e2.one
      have l1 := e1.lt
      have l2 := e2.lt
      clear h1 h2
      gi_wp2_with fail
      have hkp : ∀ k, k ≠ w.heap.size + 1 → k ≠ w.heap.size + 1 + 1 → ((W2.setCell ⟨w.heap.size + 1, 0, none⟩ (.slice none 0 0)).setCell ⟨w.heap.size + 1 + 1, 0, none⟩ (.int .i64 6)).heap[k]? = W2.heap[k]? := fun k h1 h2 =>
        (Below.heap_setCell _ _ _ _ h2).trans (Below.heap_setCell _ _ _ _ h1)
      have q1 := (e1.set 0 (.slice none 0 0)).other (p := ⟨w.heap.size + 1 + 1, 0, none⟩) (by simp) (.int .i64 6)
      have q2 := (e2.other (p := ⟨w.heap.size + 1, 0, none⟩) (by simp) (.slice none 0 0)).set 0 (.int .i64 6)
      have hBf := (e3.setCell (p := ⟨w.heap.size + 1, 0, none⟩) (Nat.le_succ _) (.slice none 0 0)).setCell (p := ⟨w.heap.size + 1 + 1, 0, none⟩) (by show _ ≤ w.heap.size + 1 + 1; omega) (.int .i64 6)
      refine leaves_marks (m := W5.heap.size) [W5.heap.size] _ (List.pairwise_singleton _ _) (fun k h => ?_) fun w' hg => ?_
      · obtain rfl : k = W5.heap.size := by simpa using h
        exact ⟨Nat.le_refl _, (hkp _ (by omega) (by omega)).trans hk⟩
      · have r1 := (q1.grow hg).cell 0
        have r2 := (q2.grow hg).cell 0
        exact ⟨.tuple #[.slice none 0 0, .int .i64 6], by simp [results, Try.results34, go_sem, r1, r2], claPost_none HF.out (by decide) (hBf.trans ((hg.mono hs5).below hBf.size))⟩
    case stop =>
      rintro c O pre x W2 hpre ⟨rfl, pre', y, b, cap, he, h3, h4, q1, q2, hr, q3⟩ hk hz2
      rw [he] at hpre
      have HF : Hid (claR n = (y.1, 0)) := hide (by rw [HR1.out, find_pre hpre h3 h4])
      clear he hpre h3 h4
      gi_wp2_with fail
      refine leaves_marks (m := W5.heap.size) [W5.heap.size] W2 (List.pairwise_singleton _ _) (fun k h => ?_) fun w' hg => ?_
      · obtain rfl : k = W5.heap.size := by simpa using h
        exact ⟨Nat.le_refl _, hk⟩
      have r1 := (q1.grow hg).cell 0
      have r2 := (q2.grow hg).cell 0
      exact ⟨.tuple #[.slice (some ⟨b, 0, none⟩) y.1.length cap, .int .i64 0], by simp [results, Try.results34, go_sem, r1, r2], claPost_some HF.out ((hr.grow hg).mono hg.size) (q3.trans ((hg.mono hs5).below q3.size))⟩
  · have HF : Hid (claR n = ([], checkT n)) := hide (by rw [HR.out, if_pos hck])
    have HC := hide hck
    have H2 : (checkT n != 0) = true := by rw [bne_iff_ne]; exact hck
    clear hck
    generalize checkT n = C at *
    gi_wp2_with fail
    have q1 := (c1.set 0 (.slice none 0 0)).other (p := ⟨w.heap.size + 1 + 1, 0, none⟩) (by simp) (.int .i64 C)
    have q2 := (c2.other (p := ⟨w.heap.size + 1, 0, none⟩) (by simp) (.slice none 0 0)).set 0 (.int .i64 C)
    have hBf := (hB1.setCell (p := ⟨w.heap.size + 1, 0, none⟩) (Nat.le_succ _) (.slice none 0 0)).setCell (p := ⟨w.heap.size + 1 + 1, 0, none⟩) (by show _ ≤ w.heap.size + 1 + 1; omega) (.int .i64 C)
    have r1 := q1.cell 0
    have r2 := q2.cell 0
    exact ⟨.tuple #[.slice none 0 0, .int .i64 C], by simp [results, Try.results34, go_sem, r1, r2], claPost_none HF.out HC.out hBf⟩

end Go.Proofs.Ytlbhnicengolfaa
