/-
  Package period: Simplest.
-/
import Derived.Test.YtjgebepeghgmcaaPer11
namespace Go.Proofs.Ytjgebepeghgmcaa
open Go.RowKit Go.Shelf
set_option linter.unusedVariables false
set_option linter.unusedSimpArgs false

def simplestR (a b : Int × Int) : (Int × Int) × Int :=
  if !(validR a && validR b) then ((0, 0), 1) else if 0 < a.1 * b.2 - b.1 * a.2 then ((0, 0), 5) else (redR (simpF 2000001 a b), 0)

theorem validR_in {a : Int × Int} (h : validR a = true) : 0 ≤ a.1 ∧ a.1 ≤ 1000000 ∧ 1 ≤ a.2 ∧ a.2 ≤ 1000000 := by
  unfold validR at h
  rw [Bool.and_eq_true] at h
  have h1 := bet_true h.1
  have h2 := bet_true h.2
  omega

set_option maxRecDepth 100000 in
set_option maxHeartbeats 4000000 in
theorem simplestF_any (a b : Int × Int) (w : World) :
    Calls Try.prog 20 #[.agg #[.int .i64 a.1, .int .i64 a.2], .agg #[.int .i64 b.1, .int .i64 b.2]] w fun e w' =>
      e = .returned (.tuple #[.agg #[.int .i64 (simplestR a b).1.1, .int .i64 (simplestR a b).1.2], .int .i64 (simplestR a b).2]) ∧ Below w.heap.size w w' := by
  have HVA := hide (fun w => valid_any a w)
  have HVB := hide (fun w => valid_any b w)
  have HS : Hid (simplestR a b = _) := hide (by unfold simplestR; rfl)
  have HBA := hide (fun h => @validR_in a h)
  have HBB := hide (fun h => @validR_in b h)
  obtain ⟨x, y⟩ := a
  obtain ⟨u, v⟩ := b
  dsimp only at *
  go_enter Try.func20, Try.ntmps20
  go_wp2_with fail
  generalize hW : World.alloc (World.alloc (World.alloc w _) _) _ = V
  have hB : Below w.heap.size w V := by rw [← hW]; exact (((Below.refl _ _).alloc (Nat.le_refl _) _).alloc (by simp) _).alloc (by simp; omega) _
  have b0 : Blk V w.heap.size #[.int .i64 x, .int .i64 y] 41 := by rw [← hW]; exact ((Blk.new w _ _).alloc _).alloc _
  have b1 : Blk V (w.heap.size + 1) #[.int .i64 u, .int .i64 v] 41 := by rw [← hW]; exact (by simpa using Blk.new (World.alloc w _) _ _ : Blk _ (w.heap.size + 1) _ _).alloc _
  have b2 : Blk V (w.heap.size + 1 + 1) #[.int .i64 0, .int .i64 0] 41 := by rw [← hW]; exact (by simpa using Blk.new (World.alloc (World.alloc w _) _) _ _)
  have hsV := hB.size
  clear hW
  obtain ⟨x0, x1, _, _⟩ := b0.two
  obtain ⟨u0, u1, _, _⟩ := b1.two
  obtain ⟨v0, v1, f0, f1⟩ := b2.two
  have y0 := b0.lt
  have y1 := b1.lt
  have y2 := b2.lt
  refine (HVA.out _).mono ?_
  rintro e W1 ⟨rfl, hb1⟩
  have c0 := b0.kept hb1
  have c1 := b1.kept hb1
  have c2 := b2.kept hb1
  have hB1 := hB.trans (hb1.mono hsV)
  have hs1 := hB1.size
  clear b0 b1 b2 hB hb1 hsV x0 x1 u0 u1 v0 v1 f0 f1 y0 y1 y2
  obtain ⟨x0, x1, _, _⟩ := c0.two
  obtain ⟨u0, u1, _, _⟩ := c1.two
  obtain ⟨v0, v1, f0, f1⟩ := c2.two
  have y0 := c0.lt
  have y1 := c1.lt
  have y2 := c2.lt
  cases hva : validR (x, y) with
  | false =>
    have HR : Hid (simplestR (x, y) (u, v) = ((0, 0), 1)) := hide (by rw [HS.out, hva]; rfl)
    clear HS HBA HBB HVA HVB
    go_wp2_with fail
    have q2 := c2.set2 (.int .i64 0) (.int .i64 0)
    have hBf := below_set2 hB1 (k := w.heap.size + 1 + 1) (by omega) (.int .i64 0) (.int .i64 0)
    refine bodyPost_ret (v := .tuple #[.agg #[.int .i64 0, .int .i64 0], .int .i64 1]) (by simp [results, Try.results20, go_sem, q2.two]) rfl ⟨by rw [HR.out], hBf⟩
  | true =>
    go_wp2_with fail
    refine (HVB.out _).mono ?_
    rintro e W2 ⟨rfl, hb2⟩
    have d0 := c0.kept hb2
    have d1 := c1.kept hb2
    have d2 := c2.kept hb2
    have hB2 := hB1.trans (hb2.mono hs1)
    have hs2 := hB2.size
    clear c0 c1 c2 hB1 hb2 hs1 x0 x1 u0 u1 v0 v1 f0 f1 y0 y1 y2
    obtain ⟨x0, x1, _, _⟩ := d0.two
    obtain ⟨u0, u1, _, _⟩ := d1.two
    obtain ⟨v0, v1, f0, f1⟩ := d2.two
    have y0 := d0.lt
    have y1 := d1.lt
    have y2 := d2.lt
    cases hvb : validR (u, v) with
    | false =>
      have HR : Hid (simplestR (x, y) (u, v) = ((0, 0), 1)) := hide (by rw [HS.out, hva, hvb]; rfl)
      clear HS HBA HBB HVA HVB
      go_wp2_with fail
      have q2 := d2.set2 (.int .i64 0) (.int .i64 0)
      have hBf := below_set2 hB2 (k := w.heap.size + 1 + 1) (by omega) (.int .i64 0) (.int .i64 0)
      refine bodyPost_ret (v := .tuple #[.agg #[.int .i64 0, .int .i64 0], .int .i64 1]) (by simp [results, Try.results20, go_sem, q2.two]) rfl ⟨by rw [HR.out], hBf⟩
    | true =>
      obtain ⟨p1, p2, p3, p4⟩ := HBA.out hva
      obtain ⟨p5, p6, p7, p8⟩ := HBB.out hvb
      have HS' : Hid (simplestR (x, y) (u, v) = if 0 < x * v - u * y then ((0, 0), 5) else (redR (simpF 2000001 (x, y) (u, v)), 0)) := hide (by rw [HS.out, hva, hvb]; rfl)
      clear HS HBA HBB HVA HVB hva hvb
      go_wp2_with fail
      clear v0 v1 f0 f1
      go_region
      have t1 := ((Blk.new W2 #[.int .i64 x, .int .i64 y] 88).alloc (.cells #[.int .i64 u, .int .i64 v] 88)).drew
      have t2 := (Blk.new (W2.alloc (.cells #[.int .i64 x, .int .i64 y] 88)) #[.int .i64 u, .int .i64 v] 88).drew
      have t0 := ((d2.alloc (.cells #[.int .i64 x, .int .i64 y] 88)).alloc (.cells #[.int .i64 u, .int .i64 v] 88)).drew
      have hBU := ((hB2.alloc hs2 (.cells #[.int .i64 x, .int .i64 y] 88)).alloc (by simp; omega) (.cells #[.int .i64 u, .int .i64 v] 88)).drew
      rotate_left
      have t2 := ((Blk.new W2 #[.int .i64 u, .int .i64 v] 88).alloc (.cells #[.int .i64 x, .int .i64 y] 88)).drew
      have t1 := (Blk.new (W2.alloc (.cells #[.int .i64 u, .int .i64 v] 88)) #[.int .i64 x, .int .i64 y] 88).drew
      have t0 := ((d2.alloc (.cells #[.int .i64 u, .int .i64 v] 88)).alloc (.cells #[.int .i64 x, .int .i64 y] 88)).drew
      have hBU := ((hB2.alloc hs2 (.cells #[.int .i64 u, .int .i64 v] 88)).alloc (by simp; omega) (.cells #[.int .i64 x, .int .i64 y] 88)).drew
      all_goals
        simp only [World.size_alloc] at t1 t2
        generalize hV : World.drew _ = V at *
        clear hV d0 d1 d2 hB2 x0 x1 u0 u1 y0 y1 y2
        have hlt1 := t1.lt
        generalize W2.heap.size + 1 = p1' at *
        generalize W2.heap.size = p2' at *
        clear hs2
        obtain ⟨x0, x1, _, _⟩ := t1.two
        obtain ⟨u0, u1, _, _⟩ := t2.two
        have y0 := t1.lt
        have y1 := t2.lt
        go_wp2_with fail
        refine (compare_any x y u v V (by unfold Small; omega) (by unfold Small; omega) (by unfold Small; omega) (by unfold Small; omega)).mono ?_
        rintro e W3 ⟨rfl, hb3⟩
        have r0 := t0.kept hb3
        have r1 := t1.kept hb3
        have r2 := t2.kept hb3
        have hB3 := hBU.trans (hb3.mono hBU.size)
        have hs3 := hB3.size
        clear t0 t1 t2 hb3 hBU
        obtain ⟨x0, x1, _, _⟩ := r1.two
        obtain ⟨u0, u1, _, _⟩ := r2.two
        obtain ⟨v0, v1, f0, f1⟩ := r0.two
        have y0 := r1.lt
        have y1 := r2.lt
        have y2 := r0.lt
        by_cases hc : 0 < x * v - u * y
        · have HR : Hid (simplestR (x, y) (u, v) = ((0, 0), 5)) := hide (by rw [HS'.out, if_pos hc])
          clear HS'
          have hc' : (x * v - u * y > 0) := hc
          go_wp2_with fail
          have q2 := r0.set2 (.int .i64 0) (.int .i64 0)
          have hBf := below_set2 hB3 (k := w.heap.size + 1 + 1) (by omega) (.int .i64 0) (.int .i64 0)
          refine bodyPost_ret (v := .tuple #[.agg #[.int .i64 0, .int .i64 0], .int .i64 5]) (by simp [results, Try.results20, go_sem, q2.two]) rfl ⟨by rw [HR.out], hBf⟩
        · have HR : Hid (simplestR (x, y) (u, v) = (redR (simpF 2000001 (x, y) (u, v)), 0)) := hide (by rw [HS'.out, if_neg hc])
          have hok : SOk (x, y) (u, v) := ⟨p1, p2, p3, p4, p5, p6, p7, p8, by dsimp only; omega⟩
          have hk : (((x, y) : Int × Int).2 + ((u, v) : Int × Int).2).toNat < 2000001 := by dsimp only; omega
          have hbd := simpF_bound 2000001 _ _ hok hk
          have HSI := hide (fun w => simplest_any 2000001 _ _ w hok hk)
          clear HS' hok hk
          generalize simpF 2000001 (x, y) (u, v) = r at *
          dsimp only at hbd
          have hc' : ¬ (x * v - u * y > 0) := hc
          have hc'' : decide (0 < x * v - u * y) = false := by simp; omega
          go_wp2_with fail
          refine (HSI.out _).mono ?_
          rintro e W4 ⟨rfl, hb4⟩
          have z0 := r0.kept hb4
          have hB4 := hB3.trans (hb4.mono hs3)
          clear r0 r1 r2 hB3 hs3 hb4 x0 x1 u0 u1 v0 v1 f0 f1 y0 y1 y2
          go_wp2_with fail
          refine (reduced_any r W4 (by omega) (by omega) (by omega) (by omega)).mono ?_
          rintro e W5 ⟨rfl, hb5⟩
          have z5 := z0.kept hb5
          have hB5 := hB4.trans (hb5.mono hB4.size)
          obtain ⟨v0, v1, f0, f1⟩ := z5.two
          have y2 := z5.lt
          go_wp2_with fail
          have q2 := z5.set2 (.int .i64 (redR r).1) (.int .i64 (redR r).2)
          have hBf := below_set2 hB5 (k := w.heap.size + 1 + 1) (by omega) (.int .i64 (redR r).1) (.int .i64 (redR r).2)
          refine bodyPost_ret (v := .tuple #[.agg #[.int .i64 (redR r).1, .int .i64 (redR r).2], .int .i64 0]) (by simp [results, Try.results20, go_sem, q2.two]) rfl ⟨by rw [HR.out], hBf⟩

end Go.Proofs.Ytjgebepeghgmcaa
