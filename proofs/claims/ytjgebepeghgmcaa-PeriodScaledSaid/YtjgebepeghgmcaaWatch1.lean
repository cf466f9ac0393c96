/-
  The law's functions works60 and tried.
-/
import Derived.Test.YtjgebepeghgmcaaKnown
import Derived.Deep.DeepCutAuto
import Derived.IntWalk
namespace Go.Proofs.Ytjgebepeghgmcaa
open Go.RowKit Go.Shelf
set_option linter.unusedVariables false
set_option linter.unusedSimpArgs false

def stepMax (a x : Int) : Int := if x > a then x else a
def stepMin (a x : Int) : Int := if x < a then x else a
def fF (ps : List (Int × Int)) (cs : List Int) (p : Int) : Nat → Int
  | 0 => -1099511627776
  | k + 1 => stepMax (fF ps cs p k) (60 * los ps k - csum cs 0 k * p)
def lL (ps : List (Int × Int)) (cs : List Int) (p : Int) : Nat → Int
  | 0 => 1099511627776
  | k + 1 => stepMin (lL ps cs p k) (60 * his ps k - csum cs 0 k * p)
def works60R (ps : List (Int × Int)) (cs : List Int) (p : Int) : Bool := decide (fF ps cs p ps.length ≤ lL ps cs p ps.length)

theorem csum_snoc (cs : List Int) (k : Nat) (hk : k < cs.length) : csum cs 0 (k + 1) = csum cs 0 k + iat cs k := by
  unfold csum
  rw [List.drop_zero, Nat.sub_zero, Nat.sub_zero, take_snoc cs k hk, List.sum_append, List.sum_singleton]
theorem csum_zero (cs : List Int) : csum cs 0 0 = 0 := by simp [csum]

/-- Small numbers stay small. -/
structure WOk (ps : List (Int × Int)) (cs : List Int) (p : Int) : Prop where
  p0 : 0 ≤ p
  p1 : p ≤ 1000000
  len : cs.length + 1 = ps.length
  l8 : ps.length ≤ 8
  lo : ∀ k, k < ps.length → 0 ≤ los ps k ∧ los ps k ≤ 1000000
  hi : ∀ k, k < ps.length → 0 ≤ his ps k ∧ his ps k ≤ 1000000
  cs : ∀ x ∈ cs, 0 ≤ x ∧ x ≤ 1000000

theorem WOk.sum {ps : List (Int × Int)} {cs : List Int} {p : Int} (h : WOk ps cs p) : ∀ k, k < ps.length → 0 ≤ csum cs 0 k ∧ csum cs 0 k ≤ 1000000 * (k : Int)
  | 0, _ => by rw [csum_zero]; omega
  | k + 1, hk => by
    have hl := h.len
    have hkc : k < cs.length := by omega
    have ih := h.sum k (by omega)
    have hx := h.cs (iat cs k) (by rw [iat_eq cs k hkc]; exact List.getElem_mem _)
    rw [csum_snoc cs k hkc]
    omega
theorem WOk.prod {ps : List (Int × Int)} {cs : List Int} {p : Int} (h : WOk ps cs p) (k : Nat) (hk : k < ps.length) : 0 ≤ csum cs 0 k * p ∧ csum cs 0 k * p ≤ 8000000000000 := by
  have h1 := h.sum k hk
  have h2 := h.l8
  exact ⟨Int.mul_nonneg h1.1 h.p0, by have := Int.mul_le_mul (by omega : csum cs 0 k ≤ 8000000) h.p1 h.p0 (by omega); omega⟩
theorem WOk.bound {ps : List (Int × Int)} {cs : List Int} {p : Int} (h : WOk ps cs p) : ∀ k, k ≤ ps.length → -10000000000000 ≤ fF ps cs p k ∧ fF ps cs p k ≤ 10000000000000 ∧ -10000000000000 ≤ lL ps cs p k ∧ lL ps cs p k ≤ 10000000000000
  | 0, _ => by simp [fF, lL]
  | k + 1, hk => by
    have ih := h.bound k (by omega)
    have h1 := h.prod k (by omega)
    have h2 := h.lo k (by omega)
    have h3 := h.hi k (by omega)
    simp only [fF, lL, stepMax, stepMin]
    refine ⟨?_, ?_, ?_, ?_⟩ <;> split <;> omega

set_option maxRecDepth 100000 in
set_option maxHeartbeats 2000000 in
theorem works60_any (lo hi : Int) (ps : List (Int × Int)) (cs : List Int) (a ca : Option Addr) (n cap m ccap : Nat) (p : Int) (w : World) (hn : n = ps.length) (hm : m = cs.length) (hw : WOk ps cs p) (hp : Row w w.heap.size a (spans ps)) (hc : Row w w.heap.size ca (ints cs)) :
    Calls Try.prog 59 #[.agg #[.int .i64 lo, .int .i64 hi, .slice a n cap], .slice ca m ccap, .int .i64 p] w fun e w' => e = .returned (.bool (works60R ps cs p)) ∧ Below w.heap.size w w' := by
  have HW := hide hw
  have hn8 : n ≤ 8 := by rw [hn]; exact hw.l8
  have hmn : m + 1 = n := by rw [hn, hm]; exact hw.len
  have HN := hide hn
  have HM := hide hm
  have p0 := hw.p0
  have p1 := hw.p1
  clear hn hm hw
  go_enter Try.func59, Try.ntmps59
  go_wp2_with fail
  generalize hW : World.alloc w _ = V
  have hB : Below w.heap.size w V := by rw [← hW]; exact (Below.refl _ _).alloc (Nat.le_refl _) _
  have b0 : Blk V w.heap.size #[.int .i64 lo, .int .i64 hi, .slice a n cap] 26 := by rw [← hW]; exact Blk.new w _ _
  clear hW
  go_loopw [7, 8, 9, 10, 11, 15] (fun f l s _ _ i wr => ∃ k : Nat, k ≤ n ∧ i = .int .i64 k ∧ f = .int .i64 (fF ps cs p k) ∧ l = .int .i64 (lL ps cs p k) ∧ s = .int .i64 (csum cs 0 (k - 1)) ∧ Below w.heap.size w wr) (fun _ _ _ _ _ i _ => n - (intOf i).toNat)
  case atStart => exact ⟨0, Nat.zero_le _, rfl, rfl, rfl, by rw [Nat.zero_sub, csum_zero], hB⟩
  case round =>
    obtain ⟨k, hk, rfl, rfl, rfl, rfl, hbe⟩ := hrel
    have hsw := hbe.size
    by_cases hlt : k < n
    · have hkp : k < ps.length := by rw [← HN.out]; exact hlt
      have hr := hp.below hbe (Nat.le_refl _)
      have hrc := hc.below hbe (Nat.le_refl _)
      obtain ⟨b, off, rfl, hb, hcl⟩ := hr.span (by omega)
      obtain ⟨cl1, cl2⟩ := hcl k hkp
      have g1 := HW.out.lo k hkp
      have g2 := HW.out.hi k hkp
      have g3 := HW.out.prod k hkp
      have g4 := HW.out.sum k hkp
      have g5 := HW.out.bound k (by omega)
      have F1 : Hid (fF ps cs p (k + 1) = stepMax (fF ps cs p k) (60 * los ps k - csum cs 0 k * p)) := hide rfl
      have L1 : Hid (lL ps cs p (k + 1) = stepMin (lL ps cs p k) (60 * his ps k - csum cs 0 k * p)) := hide rfl
      clear hr hcl
      by_cases h0 : 0 < k
      · obtain ⟨j, rfl⟩ : ∃ j, k = j + 1 := ⟨k - 1, by omega⟩
        have hjc : j < cs.length := by rw [← HM.out]; omega
        obtain ⟨b2, off2, rfl, hb2, hcl2⟩ := hrc.int (by omega)
        have cl3 := hcl2 j hjc
        have hsn := csum_snoc cs j hjc
        have g6 := HW.out.sum j (by omega)
        have hjm : j < m := by omega
        have HSN := hide hsn
        have hsum : csum cs 0 j + iat cs j ≤ 8000000 := by omega
        have hx0 : 0 ≤ iat cs j := (HW.out.cs (iat cs j) (by rw [iat_eq cs j hjc]; exact List.getElem_mem _)).1
        rw [Nat.add_sub_cancel]
        clear hcl2 hrc hsn
        generalize iat cs j = x at *
        have hb2' : b2 < wr.heap.size := by omega
        go_upto_region 8 with (fail)
        rw [← HSN.out]
        generalize hSS : csum cs 0 (j + 1) = S at *
        have HSS := hide hSS
        clear hSS
        generalize los ps (j + 1) = L at *
        generalize his ps (j + 1) = H at *
        generalize fF ps cs p (j + 1) = F at *
        generalize lL ps cs p (j + 1) = M at *
        obtain ⟨X, hX⟩ : ∃ X, wr.alloc (.cells #[.int .i64 L, .int .i64 H] 23) = X := ⟨_, rfl⟩
        have hbX : Below w.heap.size w X := by rw [← hX]; exact hbe.alloc hsw _
        have bX : Blk X wr.heap.size #[.int .i64 L, .int .i64 H] 23 := by rw [← hX]; exact Blk.new wr _ _
        rw [hX]
        clear hX
        generalize wr.heap.size = p11 at *
        obtain ⟨x0, x1, -⟩ := bX.two
        have lX := bX.lt
        have i1 : IntKind.i64.wrap (60 * L) = 60 * L := IntWalk.i64_in _ (by omega)
        have i2 : IntKind.i64.wrap (60 * H) = 60 * H := IntWalk.i64_in _ (by omega)
        have i3 : IntKind.i64.wrap (S * p) = S * p := IntWalk.i64_in _ (by omega)
        have i4 : IntKind.i64.wrap (60 * L - S * p) = 60 * L - S * p := IntWalk.i64_in _ (by omega)
        have i5 : IntKind.i64.wrap (60 * H - S * p) = 60 * H - S * p := IntWalk.i64_in _ (by omega)
        go_quiet (fail)
        obtain ⟨F', hF'⟩ : ∃ F', stepMax F (60 * L - S * p) = F' := ⟨_, rfl⟩
        obtain ⟨M', hM'⟩ : ∃ M', stepMin M (60 * H - S * p) = M' := ⟨_, rfl⟩
        rw [show (if F < 60 * L - S * p then 60 * L - S * p else F) = F' from hF', show (if 60 * H - S * p < M then 60 * H - S * p else M) = M' from hM']
        rw [hF'] at F1
        rw [hM'] at L1
        clear hF' hM' i1 i2 i3 i4 i5
        go_wp2_with fail
        go_roundw
        case rel => exact ⟨(j + 1) + 1, by omega, by go_num, by rw [F1.out], by rw [L1.out], by rw [Nat.add_sub_cancel, HSS.out], below_drewN hbX _⟩
        case measure => simp [intOf]; omega
      · obtain rfl : k = 0 := by omega
        simp only [Nat.zero_mul, Nat.add_zero] at cl1 cl2
        clear h0 hrc
        go_upto_region 8 with (fail)
        rw [Nat.zero_sub]
        generalize hSS : csum cs 0 0 = S at *
        have HSS := hide hSS
        clear hSS
        generalize los ps 0 = L at *
        generalize his ps 0 = H at *
        generalize fF ps cs p 0 = F at *
        generalize lL ps cs p 0 = M at *
        obtain ⟨X, hX⟩ : ∃ X, wr.alloc (.cells #[.int .i64 L, .int .i64 H] 23) = X := ⟨_, rfl⟩
        have hbX : Below w.heap.size w X := by rw [← hX]; exact hbe.alloc hsw _
        have bX : Blk X wr.heap.size #[.int .i64 L, .int .i64 H] 23 := by rw [← hX]; exact Blk.new wr _ _
        rw [hX]
        clear hX
        generalize wr.heap.size = p11 at *
        obtain ⟨x0, x1, -⟩ := bX.two
        have lX := bX.lt
        have i1 : IntKind.i64.wrap (60 * L) = 60 * L := IntWalk.i64_in _ (by omega)
        have i2 : IntKind.i64.wrap (60 * H) = 60 * H := IntWalk.i64_in _ (by omega)
        have i3 : IntKind.i64.wrap (S * p) = S * p := IntWalk.i64_in _ (by omega)
        have i4 : IntKind.i64.wrap (60 * L - S * p) = 60 * L - S * p := IntWalk.i64_in _ (by omega)
        have i5 : IntKind.i64.wrap (60 * H - S * p) = 60 * H - S * p := IntWalk.i64_in _ (by omega)
        go_quiet (fail)
        obtain ⟨F', hF'⟩ : ∃ F', stepMax F (60 * L - S * p) = F' := ⟨_, rfl⟩
        obtain ⟨M', hM'⟩ : ∃ M', stepMin M (60 * H - S * p) = M' := ⟨_, rfl⟩
        rw [show (if F < 60 * L - S * p then 60 * L - S * p else F) = F' from hF', show (if 60 * H - S * p < M then 60 * H - S * p else M) = M' from hM']
        rw [hF'] at F1
        rw [hM'] at L1
        clear hF' hM' i1 i2 i3 i4 i5
        go_wp2_with fail
        go_roundw
        case rel => exact ⟨0 + 1, by omega, by go_num, by rw [F1.out], by rw [L1.out], by rw [Nat.add_sub_cancel, HSS.out], below_drewN hbX _⟩
        case measure => simp [intOf]; omega
    · have HR : Hid (works60R ps cs p = decide (fF ps cs p k ≤ lL ps cs p k)) := hide (by unfold works60R; rw [show ps.length = k by rw [← HN.out]; omega])
      go_wp2_with fail
      go_ret
      exact ⟨by rw [HR.out]; rfl, hbe⟩

end Go.Proofs.Ytjgebepeghgmcaa
