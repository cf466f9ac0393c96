/-
  Package period: simplest, Simplest.
-/
import Derived.Test.YtjgebepeghgmcaaPer10
namespace Go.Proofs.Ytjgebepeghgmcaa
open Go.RowKit Go.Shelf
set_option linter.unusedVariables false
set_option linter.unusedSimpArgs false

def upR (a : Int × Int) : Int := (a.1 + a.2 - 1) / a.2
def simpF : Nat → Int × Int → Int × Int → Int × Int
  | 0, a, _ => a
  | k + 1, a, b =>
    if upR a * b.2 ≤ b.1 then (upR a, 1)
    else
      let x := simpF k (b.2, b.1 - a.1 / a.2 * b.2) (a.2, a.1 - a.1 / a.2 * a.2)
      (a.1 / a.2 * x.1 + x.2, x.1)

structure SOk (a b : Int × Int) : Prop where
  a1 : 0 ≤ a.1
  a1' : a.1 ≤ 1000000
  a2 : 1 ≤ a.2
  a2' : a.2 ≤ 1000000
  b1 : 0 ≤ b.1
  b1' : b.1 ≤ 1000000
  b2 : 1 ≤ b.2
  b2' : b.2 ≤ 1000000
  le : a.1 * b.2 ≤ b.1 * a.2

theorem sok_next {a b : Int × Int} (h : SOk a b) (hu : ¬ upR a * b.2 ≤ b.1) :
    SOk (b.2, b.1 - a.1 / a.2 * b.2) (a.2, a.1 - a.1 / a.2 * a.2) ∧ (b.1 - a.1 / a.2 * b.2) < b.2 ∧ a.1 - a.1 / a.2 * a.2 < a.2 := by
  obtain ⟨x, y⟩ := a
  obtain ⟨u, v⟩ := b
  obtain ⟨h1, h2, h3, h4, h5, h6, h7, h8, h9⟩ := h
  dsimp only [upR] at *
  have e1 : x / y * y + x % y = x := by have := Int.mul_ediv_add_emod x y; rw [Int.mul_comm]; exact this
  have e2 : 0 ≤ x % y := Int.emod_nonneg _ (by omega)
  have e3 : x % y < y := Int.emod_lt_of_pos _ (by omega)
  generalize hn : x / y = n at *
  generalize hr : x % y = r at *
  -- up is n + 1, as the rest is not 0
  have hr0 : r ≠ 0 := by
    intro h0
    apply hu
    have : (x + y - 1) / y = n := by
      rw [← e1, h0]
      rw [show n * y + 0 + y - 1 = (y - 1) + n * y from by omega, Int.add_mul_ediv_right _ _ (by omega), Int.ediv_eq_zero_of_lt (by omega) (by omega)]
      omega
    rw [this]
    have e : n * v * y ≤ u * y := by
      have : x * v = n * v * y := by rw [← e1, h0, Int.add_zero, Int.mul_right_comm]
      omega
    exact Int.le_of_mul_le_mul_right e (by omega)
  have hup : (x + y - 1) / y = n + 1 := by
    rw [← e1, show n * y + r + y - 1 = (r - 1) + (n + 1) * y from by rw [Int.add_mul]; omega, Int.add_mul_ediv_right _ _ (by omega), Int.ediv_eq_zero_of_lt (by omega) (by omega)]
    omega
  rw [hup, Int.add_mul] at hu
  have k1 : u - n * v < v := by omega
  have k2 : v * r ≤ y * (u - n * v) := by
    have a1 : x * v = n * v * y + v * r := by rw [← e1, Int.add_mul, Int.mul_right_comm, Int.mul_comm r v]
    have a2 : y * (u - n * v) = u * y - n * v * y := by rw [Int.mul_sub, Int.mul_comm y u, Int.mul_comm y (n * v)]
    omega
  have k3 : 1 ≤ u - n * v := by
    have : 0 < v * r := Int.mul_pos (by omega) (by omega)
    have : 0 < y * (u - n * v) := by omega
    have := Int.pos_of_mul_pos_right (a := y) (b := u - n * v) this (by omega)
    omega
  have k4 : x - n * y = r := by omega
  exact ⟨⟨by dsimp only; omega, by dsimp only; omega, by dsimp only; omega, by dsimp only; omega, by dsimp only; omega, by dsimp only; omega, by dsimp only; omega, by dsimp only; omega, by dsimp only; rw [k4]; exact k2⟩, k1, by omega⟩

theorem simpF_bound : ∀ (k : Nat) (a b : Int × Int), SOk a b → (a.2 + b.2).toNat < k →
    0 ≤ (simpF k a b).1 ∧ (simpF k a b).1 ≤ a.1 ∧ (simpF k a b).1 ≤ b.1 ∧ 1 ≤ (simpF k a b).2 ∧ (simpF k a b).2 ≤ a.2 ∧ (simpF k a b).2 ≤ b.2 ∧ (0 < a.1 → 0 < (simpF k a b).1)
  | 0, a, b, _, hk => by omega
  | k + 1, a, b, h, hk => by
    unfold simpF
    have h9 := h.le
    have h1 := h.a1; have h3 := h.a2; have h5 := h.b1; have h7 := h.b2
    split
    · rename_i hu
      have hup : 0 ≤ upR a := Int.ediv_nonneg (by omega) (by omega)
      have hup2 : upR a ≤ a.1 := by
        unfold upR
        have : (a.1 + a.2 - 1) / a.2 < a.1 + 1 := by
          apply Int.ediv_lt_of_lt_mul (by omega)
          have : 0 ≤ a.1 * (a.2 - 1) := Int.mul_nonneg h1 (by omega)
          rw [Int.mul_sub] at this
          rw [Int.add_mul]
          omega
        omega
      have hup3 : upR a ≤ b.1 := by
        have : 0 ≤ upR a * (b.2 - 1) := Int.mul_nonneg hup (by omega)
        rw [Int.mul_sub] at this
        omega
      refine ⟨hup, hup2, hup3, by dsimp only; omega, by dsimp only; omega, by dsimp only; omega, fun h0 => ?_⟩
      show 0 < (a.1 + a.2 - 1) / a.2
      have := Int.le_ediv_of_mul_le (a := 1) (b := a.1 + a.2 - 1) (c := a.2) (by omega) (by omega)
      omega
    · rename_i hu
      obtain ⟨hs, hl1, hl2⟩ := sok_next h hu
      obtain ⟨r1, r2, r3, r4, r5, r6, r7⟩ := simpF_bound k _ _ hs (by dsimp only; have := hs.a2; dsimp only at this; omega)
      dsimp only at *
      generalize simpF k _ _ = x at *
      have hn : 0 ≤ a.1 / a.2 := Int.ediv_nonneg h1 (by omega)
      have m1 : a.1 / a.2 * x.1 ≤ a.1 / a.2 * a.2 := Int.mul_le_mul_of_nonneg_left r3 hn
      have m2 : a.1 / a.2 * x.1 ≤ a.1 / a.2 * b.2 := Int.mul_le_mul_of_nonneg_left r2 hn
      have m3 : 0 ≤ a.1 / a.2 * x.1 := Int.mul_nonneg hn r1
      have := r7 (by omega)
      refine ⟨by omega, by omega, by omega, by omega, by omega, by omega, fun _ => by omega⟩

set_option maxRecDepth 100000 in
set_option maxHeartbeats 4000000 in
theorem simplest_any : ∀ (k : Nat) (a b : Int × Int) (w : World), SOk a b → (a.2 + b.2).toNat < k →
    Calls Try.prog 48 #[.agg #[.int .i64 a.1, .int .i64 a.2], .agg #[.int .i64 b.1, .int .i64 b.2]] w fun e w' =>
      e = .returned (.agg #[.int .i64 (simpF k a b).1, .int .i64 (simpF k a b).2]) ∧ Below w.heap.size w w'
  | 0, a, b, w, _, hk => by omega
  | k + 1, a, b, w, h, hk => by
    have HN := hide (fun hu => sok_next h hu)
    have HB := hide (fun hu => simpF_bound k _ _ (sok_next h hu).1 (by have := (sok_next h hu).2; have := h.a2; have := h.b2; dsimp only; omega))
    have HK := hide (fun (hu) (w : World) => simplest_any k _ _ w (sok_next h hu).1 (by have := (sok_next h hu).2; have := h.a2; have := h.b2; dsimp only; omega))
    have HS : Hid (simpF (k + 1) a b = _) := hide (by unfold simpF; rfl)
    obtain ⟨x, y⟩ := a
    obtain ⟨u, v⟩ := b
    obtain ⟨h1, h2, h3, h4, h5, h6, h7, h8, h9⟩ := h
    have H9 := hide h9
    clear h9 hk
    dsimp only at *
    go_enter Try.func48, Try.ntmps48
    go_wp2_with fail
    generalize hW : World.alloc (World.alloc (World.alloc w _) _) _ = V
    have hB : Below w.heap.size w V := by rw [← hW]; exact (((Below.refl _ _).alloc (Nat.le_refl _) _).alloc (by simp) _).alloc (by simp; omega) _
    have b0 : Blk V w.heap.size #[.int .i64 x, .int .i64 y] 88 := by rw [← hW]; exact ((Blk.new w _ _).alloc _).alloc _
    have b1 : Blk V (w.heap.size + 1) #[.int .i64 u, .int .i64 v] 88 := by rw [← hW]; exact (by simpa using Blk.new (World.alloc w _) _ _ : Blk _ (w.heap.size + 1) _ _).alloc _
    have b2 : Blk V (w.heap.size + 1 + 1) #[.int .i64 0, .int .i64 0] 88 := by rw [← hW]; exact (by simpa using Blk.new (World.alloc (World.alloc w _) _) _ _)
    have hsV := hB.size
    clear hW
    obtain ⟨x0, x1, _, _⟩ := b0.two
    obtain ⟨u0, u1, _, _⟩ := b1.two
    obtain ⟨v0, v1, f0, f1⟩ := b2.two
    have y0 := b0.lt
    have y1 := b1.lt
    have y2 := b2.lt
    have hy0 : ¬ y = 0 := by omega
    go_wp2_with fail
    have hup : Hid ((x + y - 1) / y = upR (x, y)) := hide rfl
    have p0 : 0 ≤ upR (x, y) := Int.ediv_nonneg (by dsimp only; omega) (by dsimp only; omega)
    have p1 : upR (x, y) ≤ 1000000 := by
      have : (x + y - 1) / y < x + 1 := by
        apply Int.ediv_lt_of_lt_mul (by omega)
        have : 0 ≤ x * (y - 1) := Int.mul_nonneg h1 (by omega)
        rw [Int.mul_sub] at this
        rw [Int.add_mul]
        omega
      show (x + y - 1) / y ≤ _
      omega
    rw [hup.out]
    generalize hp : upR (x, y) = p at *
    have hX := @Ext.cell V
    have hXf := @Ext.frozen V
    have HW := hide (fun X : Ext V => Ext.call (whole_any p X.w))
    have HC := hide (fun X : Ext V => Ext.call (compare_any p 1 u v X.w (by unfold Small; omega) (by unfold Small; omega) (by unfold Small; omega) (by unfold Small; omega)))
    refine wp_region_all (Ext.w (W := V)) (by kernel_rfl) (by kernel_rfl) (Ext.start V) ?_
    repeat (quiet_step (first | (go_at_call 66; with_reducible exact HW.out _) | (go_at_call 47; with_reducible exact HC.out _)))
    refine wpQuiet_nil ?_
    intro X
    have c0 := b0.kept X.below
    have c1 := b1.kept X.below
    have c2 := b2.kept X.below
    have hBX := hB.trans (X.below.mono hsV)
    clear hX hXf HW HC hB b0 b1 b2 x0 x1 u0 u1 v0 v1 f0 f1 y0 y1 y2 hsV hup
    have hsX := hBX.size
    obtain ⟨x0, x1, _, _⟩ := c0.two
    obtain ⟨u0, u1, _, _⟩ := c1.two
    obtain ⟨v0, v1, f0, f1⟩ := c2.two
    have y0 := c0.lt
    have y1 := c1.lt
    have y2 := c2.lt
    by_cases hc : p * v - u ≤ 0
    · have HR : Hid (simpF (k + 1) (x, y) (u, v) = (p, 1)) := hide (by rw [HS.out, if_pos (by omega)])
      clear HS HN HB HK
      go_wp2_with fail
      refine (whole_any _ _).mono ?_
      rintro e W2 ⟨rfl, hb2⟩
      have d2 := c2.kept hb2
      obtain ⟨v0, v1, f0, f1⟩ := d2.two
      have y2 := d2.lt
      have hB2 := hBX.trans (hb2.mono hsX)
      clear c0 c1 c2 x0 x1 u0 u1 y0 y1
      go_wp2_with fail
      have q2 := d2.set2 (.int .i64 p) (.int .i64 1)
      have hBf := below_set2 hB2 (k := w.heap.size + 1 + 1) (by omega) (.int .i64 p) (.int .i64 1)
      refine bodyPost_ret (v := .agg #[.int .i64 p, .int .i64 1]) (by simp [results, Try.results48, go_sem, q2.two]) rfl ⟨by rw [HR.out], hBf⟩
    · have HR := HS.out
      rw [if_neg (by omega)] at HR
      have HR' := hide HR
      clear HR HS
      have hlt : u < p * v := by omega
      have hn := HN.out (by first | omega | exact hlt)
      have hx := HB.out (by first | omega | exact hlt)
      have HK' := hide (HK.out (by first | omega | exact hlt))
      have e1 : 0 ≤ x / y := Int.ediv_nonneg (by omega) (by omega)
      have e2 : x / y * y ≤ x := by have := Int.mul_ediv_add_emod x y; have := Int.emod_nonneg x hy0; rw [Int.mul_comm]; omega
      have hnx : x / y ≤ 1000000 := by
        have : x / y * 1 ≤ x / y * y := Int.mul_le_mul_of_nonneg_left h3 e1
        omega
      obtain ⟨⟨n1, n2, n3, n4, n5, n6, n7, n8, _⟩, _, _⟩ := hn
      dsimp only at n1 n2 n3 n4 n5 n6 n7 n8
      have hnv : 0 ≤ x / y * v := Int.mul_nonneg e1 (by omega)
      have hny : 0 ≤ x / y * y := Int.mul_nonneg e1 (by omega)
      have hc' : decide (p * v - u ≤ 0) = false := by simp; omega
      clear HN HB HK
      generalize hn : x / y = n at *
      generalize hg : simpF k _ _ = r at *
      clear hg
      obtain ⟨r1, r2⟩ := r
      dsimp only at HR' HK' hx
      have hnd : ¬ (p * v - u ≤ 0) := hc
      go_wp2_with fail
      refine (HK'.out _).mono ?_
      rintro e W2 ⟨rfl, hb2⟩
      have d2 := (c2.kept hb2).alloc (.cells #[.int .i64 r1, .int .i64 r2] 88)
      have yw := (c2.kept hb2).lt
      have d3 := Blk.new W2 #[.int .i64 r1, .int .i64 r2] 88
      have hBX' := (hBX.trans (hb2.mono hsX)).alloc (by omega) (.cells #[.int .i64 r1, .int .i64 r2] 88)
      have dk := c2.kept hb2
      have hBk := hBX.trans (hb2.mono hsX)
      obtain ⟨v0, v1, f0, f1⟩ := (c2.kept hb2).two
      clear c0 c1 c2 x0 x1 u0 u1 y0 y1 y2
      obtain ⟨g1, g2, g3, g4, g5, g6, g7⟩ := hx
      have m1 : n * r1 ≤ x := by
        have : n * r1 ≤ n * y := Int.mul_le_mul_of_nonneg_left g3 e1
        omega
      have m0 : 0 ≤ n * r1 := Int.mul_nonneg e1 g1
      go_wp2_with fail
      have q2 := (dk.set2 (.int .i64 (n * r1 + r2)) (.int .i64 r1)).alloc (.cells #[.int .i64 r1, .int .i64 r2] 88)
      have hBf := (below_set2 hBk (k := w.heap.size + 1 + 1) (by omega) (.int .i64 (n * r1 + r2)) (.int .i64 r1)).alloc (by simp [World.setCell]; omega) (.cells #[.int .i64 r1, .int .i64 r2] 88)
      refine bodyPost_ret (v := .agg #[.int .i64 (n * r1 + r2), .int .i64 r1]) (by simp [results, Try.results48, go_sem, q2.two]) rfl ⟨by rw [HR'.out], hBf⟩

end Go.Proofs.Ytjgebepeghgmcaa
