/-
  PeriodSimplest: the walk.
-/
import Derived.Test.YtjgebepeghgmcaaKnown
import Derived.Test.YtjgebepeghgmcaaPlain1
import Derived.Outline
import Derived.IntWalk
namespace Go.Proofs.Ytjgebepeghgmcaa
open Go.RowKit Go.Shelf
set_option linter.unusedVariables false
set_option linter.unusedSimpArgs false

def lessR (a b : Int × Int) : Bool := decide (a.1 * b.2 < b.1 * a.2)
theorem less_any (a b : Int × Int) (w : World) (ha : Small 2000000000 a.1) (ha' : Small 2000000000 a.2) (hb : Small 2000000000 b.1) (hb' : Small 2000000000 b.2) :
    Calls Try.prog 32 #[.agg #[.int .i64 a.1, .int .i64 a.2], .agg #[.int .i64 b.1, .int .i64 b.2]] w fun e w' => e = .returned (.bool (lessR a b)) ∧ Below w.heap.size w w' := by
  have h1 := mul_small ha hb'
  have h2 := mul_small hb ha'
  obtain ⟨x, y⟩ := a
  obtain ⟨u, v⟩ := b
  have e1 : Hid (wrap64 (x * v) = x * v) := hide (by unfold Small at *; dsimp only at *; generalize x * v = z at *; unfold wrap64; omega)
  have e2 : Hid (wrap64 (u * y) = u * y) := hide (by unfold Small at *; dsimp only at *; generalize u * y = z at *; unfold wrap64; omega)
  have E : Hid (lessR (x, y) (u, v) = decide (wrap64 (x * v) < wrap64 (u * y))) := hide (by rw [e1.out, e2.out]; rfl)
  clear h1 h2 ha ha' hb hb'
  go_enter Try.func32, Try.ntmps32
  go_wp2
  go_ret
  exact ⟨by rw [E.out]; rfl, ((Below.refl _ _).alloc (Nat.le_refl _) _).alloc (by simp) _⟩

/-- What is known of the simplest fraction from (m1, m2) to (n1, n2). -/
structure SimpAt (m1 m2 n1 n2 r1 r2 : Int) : Prop where
  r1a : 0 ≤ r1
  r1b : r1 ≤ 255
  r2a : 1 ≤ r2
  r2b : r2 ≤ 60
  lo : m1 * r2 ≤ r1 * m2
  hi : r1 * n2 ≤ n1 * r2
  min : ∀ p q : Int, 1 ≤ q → 0 ≤ p → m1 * q ≤ p * m2 → p * n2 ≤ n1 * q → r2 ≤ q ∧ r1 ≤ p

theorem simp_at {m1 m2 n1 n2 : Int} (h1 : 0 ≤ m1) (h2 : m1 ≤ 255) (h3 : 1 ≤ m2) (h4 : m2 ≤ 60) (h5 : 0 ≤ n1) (h6 : n1 ≤ 255) (h7 : 1 ≤ n2) (h8 : n2 ≤ 60) (hle : m1 * n2 ≤ n1 * m2) :
    ∃ r1 r2, simplestR (m1, m2) (n1, n2) = ((r1, r2), 0) ∧ SimpAt m1 m2 n1 n2 r1 r2 := by
  have hok : SOk (m1, m2) (n1, n2) := ⟨h1, by dsimp only; omega, h3, by dsimp only; omega, h5, by dsimp only; omega, h7, by dsimp only; omega, hle⟩
  have hk : (((m1, m2) : Int × Int).2 + ((n1, n2) : Int × Int).2).toNat < 2000001 := by dsimp only; omega
  have hva : validR (m1, m2) = true := by simp [validR, bet]; omega
  have hvb : validR (n1, n2) = true := by simp [validR, bet]; omega
  have e : simplestR (m1, m2) (n1, n2) = (simpF 2000001 (m1, m2) (n1, n2), 0) := by
    unfold simplestR
    rw [hva, hvb, if_neg (by simp), if_neg (by dsimp only; omega), simpF_red hok hk]
  obtain ⟨b1, b2, b3, b4, b5, b6, b7⟩ := simpF_bound 2000001 _ _ hok hk
  obtain ⟨s1, s2, s3⟩ := simpF_spec 2000001 _ _ hok hk
  rw [e]
  generalize simpF 2000001 (m1, m2) (n1, n2) = r at *
  obtain ⟨r1, r2⟩ := r
  exact ⟨r1, r2, rfl, ⟨b1, by dsimp only at *; omega, b4, by dsimp only at *; omega, s1, s2, s3⟩⟩

attribute [local go_sem] grows growAt growUpon in
set_option maxRecDepth 100000 in
set_option maxHeartbeats 4000000 in
theorem psimp_any (a0 a1 b0 b1 : Int) (w : World) (h1 : 0 ≤ a0 ∧ a0 ≤ 255) (h2 : 0 ≤ a1 ∧ a1 ≤ 255) (h3 : 0 ≤ b0 ∧ b0 ≤ 255) (h4 : 0 ≤ b1 ∧ b1 ≤ 255) :
    Calls Try.prog 10 #[.agg #[.int .u8 a0, .int .u8 a1], .agg #[.int .u8 b0, .int .u8 b1]] w fun e w' => e = .returned (.bool true) ∧ Below w.heap.size w w' := by
  have m1 : 0 ≤ a1 % 60 ∧ a1 % 60 < 60 := by omega
  have m2 : 0 ≤ b1 % 60 ∧ b1 % 60 < 60 := by omega
  go_enter Try.func10, Try.ntmps10
  go_wp2_with fail
  generalize hW : World.alloc (World.alloc w _) _ = V
  have hB : Below w.heap.size w V := by rw [← hW]; exact ((Below.refl _ _).alloc (Nat.le_refl _) _).alloc (by simp) _
  have k0 : Blk V w.heap.size #[.int .u8 a0, .int .u8 a1] 50 := by rw [← hW]; exact (Blk.new w _ _).alloc _
  have k1 : Blk V (w.heap.size + 1) #[.int .u8 b0, .int .u8 b1] 50 := by rw [← hW]; exact (by simpa using Blk.new (World.alloc w _) _ _)
  have hsV := hB.size
  clear hW
  obtain ⟨c0, c1, _⟩ := k0.two
  obtain ⟨c2, c3, _⟩ := k1.two
  have z0 := k0.lt
  have z1 := k1.lt
  have hX := @Ext.cell V
  have i1 : IntKind.i64.wrap a0 = a0 := IntWalk.i64_in _ (by omega)
  have i2 : IntKind.i64.wrap a1 = a1 := IntWalk.i64_in _ (by omega)
  have i3 : IntKind.i64.wrap b0 = b0 := IntWalk.i64_in _ (by omega)
  have i4 : IntKind.i64.wrap b1 = b1 := IntWalk.i64_in _ (by omega)
  have t1 : a1.tmod 60 = a1 % 60 := Int.tmod_eq_emod_of_nonneg (by omega)
  have t2 : b1.tmod 60 = b1 % 60 := Int.tmod_eq_emod_of_nonneg (by omega)
  have i5 : IntKind.i64.wrap (1 + a1 % 60) = 1 + a1 % 60 := IntWalk.i64_in _ (by omega)
  have i6 : IntKind.i64.wrap (1 + b1 % 60) = 1 + b1 % 60 := IntWalk.i64_in _ (by omega)
  refine wp_region_two #[.int .i64 0, .int .i64 0] #[.int .i64 0, .int .i64 0] 41 41 5 6 18 (by kernel_rfl) (by kernel_rfl) (by decide)
    ⟨_, rfl, rfl, rfl, (by intro cs b h; cases h), fun ev w => by simp [go_sem]⟩ ⟨_, rfl, rfl, rfl, (by intro cs b h; cases h), fun ev w => by simp [go_sem]⟩ ?_
  simp only [List.take_succ_cons, List.take_zero, List.drop_succ_cons, List.drop_zero]
  repeat (refine wpGrow_step (fun K hK => ?_); go_simp; first | (refine hK _ ?_; clear hK K) | (apply Exists.intro; refine ⟨fun _ => ?_, hK _ ?_⟩; (first | (go_at_call 33; with_reducible exact part_any _ _ _)); clear hK K))
  refine wpGrow_nil ?_
  clear i1 i2 i3 i4 i5 i6 t1 t2
  intro U p5 p6 hbU hl1 hl2 hne bb1 bb2
  obtain ⟨x2, hx2⟩ : ∃ x2, x2 = 1 + a1 % 60 := ⟨_, rfl⟩
  obtain ⟨y2, hy2⟩ : ∃ y2, y2 = 1 + b1 % 60 := ⟨_, rfl⟩
  have hx2' : 1 ≤ x2 ∧ x2 ≤ 60 := by omega
  have hy2' : 1 ≤ y2 ∧ y2 ≤ 60 := by omega
  rw [← hx2, ← hy2]
  clear hx2 hy2 c0 c1 c2 c3 hX k0 k1 z0 z1
  have hBU := hB.trans (hbU.mono hsV)
  obtain ⟨q1, q1', g1, g1'⟩ := bb1.two
  obtain ⟨q2, q2', g2, g2'⟩ := bb2.two
  have hne' : ¬ p6 = p5 := fun e => hne e.symm
  simp only [Act.put, List.setIfInBounds_toArray, List.set_cons_zero, List.set_cons_succ]
  go_wp2_with fail
  have t5 := (bb1.set2 (.int .i64 a0) (.int .i64 x2)).other2 (k := p6) hne (.int .i64 b0) (.int .i64 y2)
  have t6 := (bb2.other2 (k := p5) (Ne.symm hne) (.int .i64 a0) (.int .i64 x2)).set2 (.int .i64 b0) (.int .i64 y2)
  have hB2 := below_set2 (below_set2 hBU (k := p5) (by omega) (.int .i64 a0) (.int .i64 x2)) (k := p6) (by omega) (.int .i64 b0) (.int .i64 y2)
  generalize hV : World.setCell (World.setCell (World.setCell (World.setCell U _ _) _ _) _ _) _ _ = V2 at *
  have hp5 : w.heap.size ≤ p5 := by omega
  have hp6 : w.heap.size ≤ p6 := by omega
  clear hV bb1 bb2 q1 q1' q2 q2' g1 g1' g2 g2' hbU hBU hB hsV hl1 hl2 m1 m2 h2 h4
  refine (less_any (b0, y2) (a0, x2) V2 (by unfold Small; dsimp only; omega) (by unfold Small; dsimp only; omega) (by unfold Small; dsimp only; omega) (by unfold Small; dsimp only; omega)).mono ?_
  rintro e W3 ⟨rfl, hb3⟩
  have k5 := t5.kept hb3
  have k6 := t6.kept hb3
  have hB3 := hB2.trans (hb3.mono hB2.size)
  clear t5 t6 hB2 hb3
  obtain ⟨q1, q1', g1, g1'⟩ := k5.two
  obtain ⟨q2, q2', g2, g2'⟩ := k6.two
  have l5 := k5.lt
  have l6 := k6.lt
  cases hsw : lessR (b0, y2) (a0, x2) with
  | true =>
    have hle : b0 * x2 ≤ a0 * y2 := by have := of_decide_eq_true hsw; dsimp only at this; omega
    go_wp2_with fail
    have S : BSt w [(p5, #[.int .i64 b0, .int .i64 y2], 41), (p6, #[.int .i64 a0, .int .i64 x2], 41)] ((((W3.setCell ⟨p5, 0, none⟩ (.int .i64 b0)).setCell ⟨p5, 1, none⟩ (.int .i64 y2)).setCell ⟨p6, 0, none⟩ (.int .i64 a0)).setCell ⟨p6, 1, none⟩ (.int .i64 x2)) :=
      ⟨below_set2 (below_set2 hB3 hp5 _ _) hp6 _ _, fun p hp => by
        rcases List.mem_cons.1 hp with rfl | hp
        · exact (k5.set2 (.int .i64 b0) (.int .i64 y2)).other2 (k := p6) hne _ _
        · obtain rfl : p = (p6, #[.int .i64 a0, .int .i64 x2], 41) := by simpa using hp
          exact (k6.other2 (k := p5) (Ne.symm hne) (.int .i64 b0) (.int .i64 y2)).set2 (.int .i64 a0) (.int .i64 x2)⟩
    generalize World.setCell (World.setCell (World.setCell (World.setCell W3 _ _) _ _) _ _) _ _ = V3 at *
    clear q1 q1' g1 g1' q2 q2' g2 g2' l5 l6 k5 k6 hB3 hsw hne hne' hp5 hp6
    have hm1 := h3
    have hm2 := hy2'
    have hn1 := h1
    have hn2 := hx2'
    clear h1 h3 hx2' hy2'
    generalize b0 = m1 at *
    generalize y2 = m2 at *
    generalize a0 = n1 at *
    generalize x2 = n2 at *
    obtain ⟨r1, r2, hR, HA⟩ := simp_at hm1.1 hm1.2 hm2.1 hm2.2 hn1.1 hn1.2 hn2.1 hn2.2 hle
    have HSA := hide HA
    obtain ⟨ra, rb, rc, rd, rlo, rhi, hmin⟩ := HA
    clear hle hmin
    refine (simplest_v (m1, m2) (n1, n2) _ hR V3).mono ?_
    rintro e W4 ⟨rfl, hb4⟩
    dsimp only
    have k5 := ((S.kept hb4).boxes _ (by simp : (p5, #[Value.int .i64 m1, Value.int .i64 m2], 41) ∈ _))
    have k6 := ((S.kept hb4).boxes _ (by simp : (p6, #[Value.int .i64 n1, Value.int .i64 n2], 41) ∈ _))
    have S4 := (S.kept hb4).new #[.int .i64 r1, .int .i64 r2] 41
    obtain ⟨q1, q1', _⟩ := k5.two
    obtain ⟨q2, q2', _⟩ := k6.two
    have l5 := k5.lt
    have l6 := k6.lt
    clear S hb4 hR k5 k6
    go_wp2_with fail
    clear q1 q1' q2 q2' l5 l6
    generalize World.alloc W4 _ = V4 at *
    generalize W4.heap.size = p7 at *
    refine (less_any (r1, r2) (m1, m2) V4 (by unfold Small; dsimp only; omega) (by unfold Small; dsimp only; omega) (by unfold Small; dsimp only; omega) (by unfold Small; dsimp only; omega)).mono ?_
    rintro e W5 ⟨rfl, hb5⟩
    rw [show lessR (r1, r2) (m1, m2) = false from decide_eq_false (by dsimp only; omega)]
    have S5 := S4.kept hb5
    clear S4 hb5
    have k7 := (S5.boxes _ (by simp : (p7, #[Value.int .i64 r1, Value.int .i64 r2], 41) ∈ _)).two
    have k6 := (S5.boxes _ (by simp : (p6, #[Value.int .i64 n1, Value.int .i64 n2], 41) ∈ _)).two
    go_wp2_with fail
    clear k7 k6
    refine (less_any (n1, n2) (r1, r2) W5 (by unfold Small; dsimp only; omega) (by unfold Small; dsimp only; omega) (by unfold Small; dsimp only; omega) (by unfold Small; dsimp only; omega)).mono ?_
    rintro e W6 ⟨rfl, hb6⟩
    rw [show lessR (n1, n2) (r1, r2) = false from decide_eq_false (by dsimp only; omega)]
    have S6 := S5.kept hb6
    clear S5 hb6
    go_wp2_with fail
    clear ra rlo rhi
    go_loopw [9, 10, 11] (fun d _ _ wr => ∃ q : Int, d = .int .i64 q ∧ 1 ≤ q ∧ q ≤ r2 ∧ BSt w [(p7, #[.int .i64 r1, .int .i64 r2], 41), (p5, #[.int .i64 m1, .int .i64 m2], 41), (p6, #[.int .i64 n1, .int .i64 n2], 41)] wr) (fun d _ _ _ => (r2 + 1 - intOf d).toNat)
    case atStart => exact ⟨1, rfl, by omega, rc, S6⟩
    case round =>
      clear S6
      obtain ⟨q, rfl, hq1, hq2, S⟩ := hrel
      have k7 := (S.boxes _ (by simp : (p7, #[Value.int .i64 r1, Value.int .i64 r2], 41) ∈ _)).two
      go_wp2_with fail
      clear k7
      obtain ⟨wo, rfl⟩ : ∃ wo : World, wo = wr := ⟨_, rfl⟩
      go_loopw [10, 11] (fun d _ wr => ∃ p : Int, d = .int .i64 p ∧ 0 ≤ p ∧ p ≤ 301 ∧ (q = r2 → p ≤ r1) ∧ BSt w [(p7, #[.int .i64 r1, .int .i64 r2], 41), (p5, #[.int .i64 m1, .int .i64 m2], 41), (p6, #[.int .i64 n1, .int .i64 n2], 41)] wr) (fun d _ _ => (301 - intOf d).toNat)
      case atStart => exact ⟨0, rfl, by omega, by omega, fun _ => (HSA.out).r1a, S⟩
      case round =>
        clear S
        obtain ⟨p, rfl, hp1, hp2, hpr, S⟩ := hrel
        have HPR := hide hpr
        clear hpr
        by_cases hp : p ≤ 300
        · go_wp2_with fail
          refine (part_any p q _).mono ?_
          rintro e W7 ⟨rfl, hb7⟩
          have k5 := ((S.kept hb7).boxes _ (by simp : (p5, #[Value.int .i64 m1, Value.int .i64 m2], 41) ∈ _))
          have k6 := ((S.kept hb7).boxes _ (by simp : (p6, #[Value.int .i64 n1, Value.int .i64 n2], 41) ∈ _))
          have k7 := ((S.kept hb7).boxes _ (by simp : (p7, #[Value.int .i64 r1, Value.int .i64 r2], 41) ∈ _))
          have S7 := (S.kept hb7).new #[.int .i64 p, .int .i64 q] 41
          obtain ⟨q1, q1', _⟩ := k5.two
          have l5 := k5.lt
          clear S hb7 k5 k6 k7
          go_wp2_with fail
          clear q1 q1' l5
          generalize World.alloc W7 _ = V7 at *
          generalize W7.heap.size = p11 at *
          refine (less_any (p, q) (m1, m2) V7 (by unfold Small; dsimp only; omega) (by unfold Small; dsimp only; omega) (by unfold Small; dsimp only; omega) (by unfold Small; dsimp only; omega)).mono ?_
          rintro e W8 ⟨rfl, hb8⟩
          have S8 := S7.kept hb8
          clear S7 hb8
          have k6 := (S8.boxes _ (by simp : (p6, #[Value.int .i64 n1, Value.int .i64 n2], 41) ∈ _)).two
          have k11 := (S8.boxes _ (by simp : (p11, #[Value.int .i64 p, Value.int .i64 q], 41) ∈ _)).two
          have S8' : BSt w [(p7, #[.int .i64 r1, .int .i64 r2], 41), (p5, #[.int .i64 m1, .int .i64 m2], 41), (p6, #[.int .i64 n1, .int .i64 n2], 41)] W8 := ⟨S8.be, S8.boxes.tail⟩
          cases hA : lessR (p, q) (m1, m2) with
          | true =>
            have hneq : ¬ (q = r2 ∧ p = r1) := by
              rintro ⟨rfl, rfl⟩
              have h1 := of_decide_eq_true hA
              have h2 := HSA.out.lo
              dsimp only at h1
              omega
            have HPR' := hide (fun h : q = r2 => (by have := HPR.out h; omega : p + 1 ≤ r1))
            clear hneq hA
            go_wp2_with fail
            go_roundw
            case rel => exact ⟨p + 1, rfl, by omega, by omega, HPR'.out, S8'⟩
            case measure => simp [intOf]; omega
          | false =>
            have hA' : m1 * q ≤ p * m2 := by have := of_decide_eq_false hA; dsimp only at this; omega
            clear hA
            go_wp2_with fail
            clear k6 k11
            refine (less_any (n1, n2) (p, q) W8 (by unfold Small; dsimp only; omega) (by unfold Small; dsimp only; omega) (by unfold Small; dsimp only; omega) (by unfold Small; dsimp only; omega)).mono ?_
            rintro e W9 ⟨rfl, hb9⟩
            have S9 := S8.kept hb9
            clear S8 S8' hb9
            have k7 := (S9.boxes _ (by simp : (p7, #[Value.int .i64 r1, Value.int .i64 r2], 41) ∈ _)).two
            have k11 := (S9.boxes _ (by simp : (p11, #[Value.int .i64 p, Value.int .i64 q], 41) ∈ _)).two
            have S9' : BSt w [(p7, #[.int .i64 r1, .int .i64 r2], 41), (p5, #[.int .i64 m1, .int .i64 m2], 41), (p6, #[.int .i64 n1, .int .i64 n2], 41)] W9 := ⟨S9.be, S9.boxes.tail⟩
            cases hB : lessR (n1, n2) (p, q) with
            | true =>
              have hneq : ¬ (q = r2 ∧ p = r1) := by
                rintro ⟨rfl, rfl⟩
                have h1 := of_decide_eq_true hB
                have h2 := HSA.out.hi
                dsimp only at h1
                omega
              have HPR' := hide (fun h : q = r2 => (by have := HPR.out h; omega : p + 1 ≤ r1))
              clear hneq hB hA'
              go_wp2_with fail
              go_roundw
              case rel => exact ⟨p + 1, rfl, by omega, by omega, HPR'.out, S9'⟩
              case measure => simp [intOf]; omega
            | false =>
              have hB' : p * n2 ≤ n1 * q := by have := of_decide_eq_false hB; dsimp only at this; omega
              obtain ⟨g1, g2⟩ := HSA.out.min p q hq1 hp1 hA' hB'
              obtain rfl : q = r2 := by omega
              obtain rfl : p = r1 := by have := HPR.out rfl; omega
              clear hA' hB' hB g1 g2
              go_wp2_with fail
              refine (works_any W9).mono ?_
              rintro e W10 ⟨rfl, hb10⟩
              go_wp2_with fail
              go_ret
              exact ⟨rfl, S9.be.trans (hb10.mono S9.be.size)⟩
        · have hq3 : q + 1 ≤ r2 := by
            by_cases e : q = r2
            · have := HPR.out e
              omega
            · omega
          go_wp2_with fail
          go_roundw
          case rel => exact ⟨q + 1, rfl, by omega, hq3, S⟩
          case measure => simp [intOf]; omega
  | false =>
    have hle : a0 * y2 ≤ b0 * x2 := by have := of_decide_eq_false hsw; dsimp only at this; omega
    go_wp2_with fail
    have S : BSt w [(p5, #[.int .i64 a0, .int .i64 x2], 41), (p6, #[.int .i64 b0, .int .i64 y2], 41)] W3 :=
      ⟨hB3, fun p hp => by
        rcases List.mem_cons.1 hp with rfl | hp
        · exact k5
        · obtain rfl : p = (p6, #[.int .i64 b0, .int .i64 y2], 41) := by simpa using hp
          exact k6⟩
    generalize W3 = V3 at *
    clear q1 q1' g1 g1' q2 q2' g2 g2' l5 l6 k5 k6 hB3 hsw hne hne' hp5 hp6
    have hm1 := h1
    have hm2 := hx2'
    have hn1 := h3
    have hn2 := hy2'
    clear h1 h3 hx2' hy2'
    generalize a0 = m1 at *
    generalize x2 = m2 at *
    generalize b0 = n1 at *
    generalize y2 = n2 at *
    obtain ⟨r1, r2, hR, HA⟩ := simp_at hm1.1 hm1.2 hm2.1 hm2.2 hn1.1 hn1.2 hn2.1 hn2.2 hle
    have HSA := hide HA
    obtain ⟨ra, rb, rc, rd, rlo, rhi, hmin⟩ := HA
    clear hle hmin
    refine (simplest_v (m1, m2) (n1, n2) _ hR V3).mono ?_
    rintro e W4 ⟨rfl, hb4⟩
    dsimp only
    have k5 := ((S.kept hb4).boxes _ (by simp : (p5, #[Value.int .i64 m1, Value.int .i64 m2], 41) ∈ _))
    have k6 := ((S.kept hb4).boxes _ (by simp : (p6, #[Value.int .i64 n1, Value.int .i64 n2], 41) ∈ _))
    have S4 := (S.kept hb4).new #[.int .i64 r1, .int .i64 r2] 41
    obtain ⟨q1, q1', _⟩ := k5.two
    obtain ⟨q2, q2', _⟩ := k6.two
    have l5 := k5.lt
    have l6 := k6.lt
    clear S hb4 hR k5 k6
    go_wp2_with fail
    clear q1 q1' q2 q2' l5 l6
    generalize World.alloc W4 _ = V4 at *
    generalize W4.heap.size = p7 at *
    refine (less_any (r1, r2) (m1, m2) V4 (by unfold Small; dsimp only; omega) (by unfold Small; dsimp only; omega) (by unfold Small; dsimp only; omega) (by unfold Small; dsimp only; omega)).mono ?_
    rintro e W5 ⟨rfl, hb5⟩
    rw [show lessR (r1, r2) (m1, m2) = false from decide_eq_false (by dsimp only; omega)]
    have S5 := S4.kept hb5
    clear S4 hb5
    have k7 := (S5.boxes _ (by simp : (p7, #[Value.int .i64 r1, Value.int .i64 r2], 41) ∈ _)).two
    have k6 := (S5.boxes _ (by simp : (p6, #[Value.int .i64 n1, Value.int .i64 n2], 41) ∈ _)).two
    go_wp2_with fail
    clear k7 k6
    refine (less_any (n1, n2) (r1, r2) W5 (by unfold Small; dsimp only; omega) (by unfold Small; dsimp only; omega) (by unfold Small; dsimp only; omega) (by unfold Small; dsimp only; omega)).mono ?_
    rintro e W6 ⟨rfl, hb6⟩
    rw [show lessR (n1, n2) (r1, r2) = false from decide_eq_false (by dsimp only; omega)]
    have S6 := S5.kept hb6
    clear S5 hb6
    go_wp2_with fail
    clear ra rlo rhi
    go_loopw [9, 10, 11] (fun d _ _ wr => ∃ q : Int, d = .int .i64 q ∧ 1 ≤ q ∧ q ≤ r2 ∧ BSt w [(p7, #[.int .i64 r1, .int .i64 r2], 41), (p5, #[.int .i64 m1, .int .i64 m2], 41), (p6, #[.int .i64 n1, .int .i64 n2], 41)] wr) (fun d _ _ _ => (r2 + 1 - intOf d).toNat)
    case atStart => exact ⟨1, rfl, by omega, rc, S6⟩
    case round =>
      clear S6
      obtain ⟨q, rfl, hq1, hq2, S⟩ := hrel
      have k7 := (S.boxes _ (by simp : (p7, #[Value.int .i64 r1, Value.int .i64 r2], 41) ∈ _)).two
      go_wp2_with fail
      clear k7
      obtain ⟨wo, rfl⟩ : ∃ wo : World, wo = wr := ⟨_, rfl⟩
      go_loopw [10, 11] (fun d _ wr => ∃ p : Int, d = .int .i64 p ∧ 0 ≤ p ∧ p ≤ 301 ∧ (q = r2 → p ≤ r1) ∧ BSt w [(p7, #[.int .i64 r1, .int .i64 r2], 41), (p5, #[.int .i64 m1, .int .i64 m2], 41), (p6, #[.int .i64 n1, .int .i64 n2], 41)] wr) (fun d _ _ => (301 - intOf d).toNat)
      case atStart => exact ⟨0, rfl, by omega, by omega, fun _ => (HSA.out).r1a, S⟩
      case round =>
        clear S
        obtain ⟨p, rfl, hp1, hp2, hpr, S⟩ := hrel
        have HPR := hide hpr
        clear hpr
        by_cases hp : p ≤ 300
        · go_wp2_with fail
          refine (part_any p q _).mono ?_
          rintro e W7 ⟨rfl, hb7⟩
          have k5 := ((S.kept hb7).boxes _ (by simp : (p5, #[Value.int .i64 m1, Value.int .i64 m2], 41) ∈ _))
          have k6 := ((S.kept hb7).boxes _ (by simp : (p6, #[Value.int .i64 n1, Value.int .i64 n2], 41) ∈ _))
          have k7 := ((S.kept hb7).boxes _ (by simp : (p7, #[Value.int .i64 r1, Value.int .i64 r2], 41) ∈ _))
          have S7 := (S.kept hb7).new #[.int .i64 p, .int .i64 q] 41
          obtain ⟨q1, q1', _⟩ := k5.two
          have l5 := k5.lt
          clear S hb7 k5 k6 k7
          go_wp2_with fail
          clear q1 q1' l5
          generalize World.alloc W7 _ = V7 at *
          generalize W7.heap.size = p11 at *
          refine (less_any (p, q) (m1, m2) V7 (by unfold Small; dsimp only; omega) (by unfold Small; dsimp only; omega) (by unfold Small; dsimp only; omega) (by unfold Small; dsimp only; omega)).mono ?_
          rintro e W8 ⟨rfl, hb8⟩
          have S8 := S7.kept hb8
          clear S7 hb8
          have k6 := (S8.boxes _ (by simp : (p6, #[Value.int .i64 n1, Value.int .i64 n2], 41) ∈ _)).two
          have k11 := (S8.boxes _ (by simp : (p11, #[Value.int .i64 p, Value.int .i64 q], 41) ∈ _)).two
          have S8' : BSt w [(p7, #[.int .i64 r1, .int .i64 r2], 41), (p5, #[.int .i64 m1, .int .i64 m2], 41), (p6, #[.int .i64 n1, .int .i64 n2], 41)] W8 := ⟨S8.be, S8.boxes.tail⟩
          cases hA : lessR (p, q) (m1, m2) with
          | true =>
            have hneq : ¬ (q = r2 ∧ p = r1) := by
              rintro ⟨rfl, rfl⟩
              have h1 := of_decide_eq_true hA
              have h2 := HSA.out.lo
              dsimp only at h1
              omega
            have HPR' := hide (fun h : q = r2 => (by have := HPR.out h; omega : p + 1 ≤ r1))
            clear hneq hA
            go_wp2_with fail
            go_roundw
            case rel => exact ⟨p + 1, rfl, by omega, by omega, HPR'.out, S8'⟩
            case measure => simp [intOf]; omega
          | false =>
            have hA' : m1 * q ≤ p * m2 := by have := of_decide_eq_false hA; dsimp only at this; omega
            clear hA
            go_wp2_with fail
            clear k6 k11
            refine (less_any (n1, n2) (p, q) W8 (by unfold Small; dsimp only; omega) (by unfold Small; dsimp only; omega) (by unfold Small; dsimp only; omega) (by unfold Small; dsimp only; omega)).mono ?_
            rintro e W9 ⟨rfl, hb9⟩
            have S9 := S8.kept hb9
            clear S8 S8' hb9
            have k7 := (S9.boxes _ (by simp : (p7, #[Value.int .i64 r1, Value.int .i64 r2], 41) ∈ _)).two
            have k11 := (S9.boxes _ (by simp : (p11, #[Value.int .i64 p, Value.int .i64 q], 41) ∈ _)).two
            have S9' : BSt w [(p7, #[.int .i64 r1, .int .i64 r2], 41), (p5, #[.int .i64 m1, .int .i64 m2], 41), (p6, #[.int .i64 n1, .int .i64 n2], 41)] W9 := ⟨S9.be, S9.boxes.tail⟩
            cases hB : lessR (n1, n2) (p, q) with
            | true =>
              have hneq : ¬ (q = r2 ∧ p = r1) := by
                rintro ⟨rfl, rfl⟩
                have h1 := of_decide_eq_true hB
                have h2 := HSA.out.hi
                dsimp only at h1
                omega
              have HPR' := hide (fun h : q = r2 => (by have := HPR.out h; omega : p + 1 ≤ r1))
              clear hneq hB hA'
              go_wp2_with fail
              go_roundw
              case rel => exact ⟨p + 1, rfl, by omega, by omega, HPR'.out, S9'⟩
              case measure => simp [intOf]; omega
            | false =>
              have hB' : p * n2 ≤ n1 * q := by have := of_decide_eq_false hB; dsimp only at this; omega
              obtain ⟨g1, g2⟩ := HSA.out.min p q hq1 hp1 hA' hB'
              obtain rfl : q = r2 := by omega
              obtain rfl : p = r1 := by have := HPR.out rfl; omega
              clear hA' hB' hB g1 g2
              go_wp2_with fail
              refine (works_any W9).mono ?_
              rintro e W10 ⟨rfl, hb10⟩
              go_wp2_with fail
              go_ret
              exact ⟨rfl, S9.be.trans (hb10.mono S9.be.size)⟩
        · have hq3 : q + 1 ≤ r2 := by
            by_cases e : q = r2
            · have := HPR.out e
              omega
            · omega
          go_wp2_with fail
          go_roundw
          case rel => exact ⟨q + 1, rfl, by omega, hq3, S⟩
          case measure => simp [intOf]; omega

end Go.Proofs.Ytjgebepeghgmcaa
