/-
  The law's functions works60 and tried. The law's function tried. The law's log by numbers: Watch.made. Plain facts: the ends of the period of counts; a period that fits all passages. Plain facts: when a period fits a log and its counts: below every upper end and above every lower end. Plain facts: where all sums of counts are at most six, what is tried in sixtieths is the ends of the period. Plain facts: two pairs that contradict each other prove that counts are not possible; the pairs of the ends do just where they are not. The log of a watch is valid; counts for it. Plain facts: all counts are just those that are possible, in order. Plain facts: the counts of a watch are those that are possible among all of a sum of at most six, in order; the sums. Plain facts: where all differences of times and both ends of the period are multiplied by the same number, the same counts are possible, with multiplied ends.
-/
import Derived.Test.YtjgebepeghgmcaaKnown
import Derived.Deep.DeepCutAuto
import Derived.IntWalk
/-! ## Watch1: The law's functions works60 and tried. -/
namespace Go.Proofs.Ytjgebepeghgmcaa
open Go.RowKit Go.Shelf
set_option linter.unusedVariables false
set_option linter.unusedSimpArgs false

def stepMax (a x : Int) : Int := if x > a then x else a
def stepMin (a x : Int) : Int := if x < a then x else a
def fF (ps : List (Int × Int)) (cs : List Int) (p : Int) : Nat → Int
  | 0 => -1099511627776
  | k + 1 => stepMax (fF ps cs p k) (60 * los ps k - csum cs 0 k * p)
def lL (ps : List (Int × Int)) (cs : List Int) (p : Int) : Nat → Int
  | 0 => 1099511627776
  | k + 1 => stepMin (lL ps cs p k) (60 * his ps k - csum cs 0 k * p)
def works60R (ps : List (Int × Int)) (cs : List Int) (p : Int) : Bool := decide (fF ps cs p ps.length ≤ lL ps cs p ps.length)

theorem csum_snoc (cs : List Int) (k : Nat) (hk : k < cs.length) : csum cs 0 (k + 1) = csum cs 0 k + iat cs k := by
  unfold csum
  rw [List.drop_zero, Nat.sub_zero, Nat.sub_zero, take_snoc cs k hk, List.sum_append, List.sum_singleton]
theorem csum_zero (cs : List Int) : csum cs 0 0 = 0 := by simp [csum]

/-- Small numbers stay small. -/
structure WOk (ps : List (Int × Int)) (cs : List Int) (p : Int) : Prop where
  p0 : 0 ≤ p
  p1 : p ≤ 1000000
  len : cs.length + 1 = ps.length
  l8 : ps.length ≤ 8
  lo : ∀ k, k < ps.length → 0 ≤ los ps k ∧ los ps k ≤ 1000000
  hi : ∀ k, k < ps.length → 0 ≤ his ps k ∧ his ps k ≤ 1000000
  cs : ∀ x ∈ cs, 0 ≤ x ∧ x ≤ 1000000

theorem WOk.sum {ps : List (Int × Int)} {cs : List Int} {p : Int} (h : WOk ps cs p) : ∀ k, k < ps.length → 0 ≤ csum cs 0 k ∧ csum cs 0 k ≤ 1000000 * (k : Int)
  | 0, _ => by rw [csum_zero]; omega
  | k + 1, hk => by
    have hl := h.len
    have hkc : k < cs.length := by omega
    have ih := h.sum k (by omega)
    have hx := h.cs (iat cs k) (by rw [iat_eq cs k hkc]; exact List.getElem_mem _)
    rw [csum_snoc cs k hkc]
    omega
theorem WOk.prod {ps : List (Int × Int)} {cs : List Int} {p : Int} (h : WOk ps cs p) (k : Nat) (hk : k < ps.length) : 0 ≤ csum cs 0 k * p ∧ csum cs 0 k * p ≤ 8000000000000 := by
  have h1 := h.sum k hk
  have h2 := h.l8
  exact ⟨Int.mul_nonneg h1.1 h.p0, by have := Int.mul_le_mul (by omega : csum cs 0 k ≤ 8000000) h.p1 h.p0 (by omega); omega⟩
theorem WOk.bound {ps : List (Int × Int)} {cs : List Int} {p : Int} (h : WOk ps cs p) : ∀ k, k ≤ ps.length → -10000000000000 ≤ fF ps cs p k ∧ fF ps cs p k ≤ 10000000000000 ∧ -10000000000000 ≤ lL ps cs p k ∧ lL ps cs p k ≤ 10000000000000
  | 0, _ => by simp [fF, lL]
  | k + 1, hk => by
    have ih := h.bound k (by omega)
    have h1 := h.prod k (by omega)
    have h2 := h.lo k (by omega)
    have h3 := h.hi k (by omega)
    simp only [fF, lL, stepMax, stepMin]
    refine ⟨?_, ?_, ?_, ?_⟩ <;> split <;> omega

set_option maxRecDepth 100000 in
set_option maxHeartbeats 2000000 in
theorem works60_any (lo hi : Int) (ps : List (Int × Int)) (cs : List Int) (a ca : Option Addr) (n cap m ccap : Nat) (p : Int) (w : World) (hn : n = ps.length) (hm : m = cs.length) (hw : WOk ps cs p) (hp : Row w w.heap.size a (spans ps)) (hc : Row w w.heap.size ca (ints cs)) :
    Calls Try.prog 59 #[.agg #[.int .i64 lo, .int .i64 hi, .slice a n cap], .slice ca m ccap, .int .i64 p] w fun e w' => e = .returned (.bool (works60R ps cs p)) ∧ Below w.heap.size w w' := by
  have HW := hide hw
  have hn8 : n ≤ 8 := by rw [hn]; exact hw.l8
  have hmn : m + 1 = n := by rw [hn, hm]; exact hw.len
  have HN := hide hn
  have HM := hide hm
  have p0 := hw.p0
  have p1 := hw.p1
  clear hn hm hw
  go_enter Try.func59, Try.ntmps59
  go_wp2_with fail
  generalize hW : World.alloc w _ = V
  have hB : Below w.heap.size w V := by rw [← hW]; exact (Below.refl _ _).alloc (Nat.le_refl _) _
  have b0 : Blk V w.heap.size #[.int .i64 lo, .int .i64 hi, .slice a n cap] 26 := by rw [← hW]; exact Blk.new w _ _
  clear hW
  go_loopw [7, 8, 9, 10, 11, 15] (fun f l s _ _ i wr => ∃ k : Nat, k ≤ n ∧ i = .int .i64 k ∧ f = .int .i64 (fF ps cs p k) ∧ l = .int .i64 (lL ps cs p k) ∧ s = .int .i64 (csum cs 0 (k - 1)) ∧ Below w.heap.size w wr) (fun _ _ _ _ _ i _ => n - (intOf i).toNat)
  case atStart => exact ⟨0, Nat.zero_le _, rfl, rfl, rfl, by rw [Nat.zero_sub, csum_zero], hB⟩
  case round =>
    obtain ⟨k, hk, rfl, rfl, rfl, rfl, hbe⟩ := hrel
    have hsw := hbe.size
    by_cases hlt : k < n
    · have hkp : k < ps.length := by rw [← HN.out]; exact hlt
      have hr := hp.below hbe (Nat.le_refl _)
      have hrc := hc.below hbe (Nat.le_refl _)
      obtain ⟨b, off, rfl, hb, hcl⟩ := hr.span (by omega)
      obtain ⟨cl1, cl2⟩ := hcl k hkp
      have g1 := HW.out.lo k hkp
      have g2 := HW.out.hi k hkp
      have g3 := HW.out.prod k hkp
      have g4 := HW.out.sum k hkp
      have g5 := HW.out.bound k (by omega)
      have F1 : Hid (fF ps cs p (k + 1) = stepMax (fF ps cs p k) (60 * los ps k - csum cs 0 k * p)) := hide rfl
      have L1 : Hid (lL ps cs p (k + 1) = stepMin (lL ps cs p k) (60 * his ps k - csum cs 0 k * p)) := hide rfl
      clear hr hcl
      by_cases h0 : 0 < k
      · obtain ⟨j, rfl⟩ : ∃ j, k = j + 1 := ⟨k - 1, by omega⟩
        have hjc : j < cs.length := by rw [← HM.out]; omega
        obtain ⟨b2, off2, rfl, hb2, hcl2⟩ := hrc.int (by omega)
        have cl3 := hcl2 j hjc
        have hsn := csum_snoc cs j hjc
        have g6 := HW.out.sum j (by omega)
        have hjm : j < m := by omega
        have HSN := hide hsn
        have hsum : csum cs 0 j + iat cs j ≤ 8000000 := by omega
        have hx0 : 0 ≤ iat cs j := (HW.out.cs (iat cs j) (by rw [iat_eq cs j hjc]; exact List.getElem_mem _)).1
        rw [Nat.add_sub_cancel]
        clear hcl2 hrc hsn
        generalize iat cs j = x at *
        have hb2' : b2 < wr.heap.size := by omega
        go_upto_region 8 with (fail)
        rw [← HSN.out]
        generalize hSS : csum cs 0 (j + 1) = S at *
        have HSS := hide hSS
        clear hSS
        generalize los ps (j + 1) = L at *
        generalize his ps (j + 1) = H at *
        generalize fF ps cs p (j + 1) = F at *
        generalize lL ps cs p (j + 1) = M at *
        obtain ⟨X, hX⟩ : ∃ X, wr.alloc (.cells #[.int .i64 L, .int .i64 H] 23) = X := ⟨_, rfl⟩
        have hbX : Below w.heap.size w X := by rw [← hX]; exact hbe.alloc hsw _
        have bX : Blk X wr.heap.size #[.int .i64 L, .int .i64 H] 23 := by rw [← hX]; exact Blk.new wr _ _
        rw [hX]
        clear hX
        generalize wr.heap.size = p11 at *
        obtain ⟨x0, x1, -⟩ := bX.two
        have lX := bX.lt
        have i1 : IntKind.i64.wrap (60 * L) = 60 * L := IntWalk.i64_in _ (by omega)
        have i2 : IntKind.i64.wrap (60 * H) = 60 * H := IntWalk.i64_in _ (by omega)
        have i3 : IntKind.i64.wrap (S * p) = S * p := IntWalk.i64_in _ (by omega)
        have i4 : IntKind.i64.wrap (60 * L - S * p) = 60 * L - S * p := IntWalk.i64_in _ (by omega)
        have i5 : IntKind.i64.wrap (60 * H - S * p) = 60 * H - S * p := IntWalk.i64_in _ (by omega)
        go_quiet (fail)
        obtain ⟨F', hF'⟩ : ∃ F', stepMax F (60 * L - S * p) = F' := ⟨_, rfl⟩
        obtain ⟨M', hM'⟩ : ∃ M', stepMin M (60 * H - S * p) = M' := ⟨_, rfl⟩
        rw [show (if F < 60 * L - S * p then 60 * L - S * p else F) = F' from hF', show (if 60 * H - S * p < M then 60 * H - S * p else M) = M' from hM']
        rw [hF'] at F1
        rw [hM'] at L1
        clear hF' hM' i1 i2 i3 i4 i5
        go_wp2_with fail
        go_roundw
        case rel => exact ⟨(j + 1) + 1, by omega, by go_num, by rw [F1.out], by rw [L1.out], by rw [Nat.add_sub_cancel, HSS.out], below_drewN hbX _⟩
        case measure => simp [intOf]; omega
      · obtain rfl : k = 0 := by omega
        simp only [Nat.zero_mul, Nat.add_zero] at cl1 cl2
        clear h0 hrc
        go_upto_region 8 with (fail)
        rw [Nat.zero_sub]
        generalize hSS : csum cs 0 0 = S at *
        have HSS := hide hSS
        clear hSS
        generalize los ps 0 = L at *
        generalize his ps 0 = H at *
        generalize fF ps cs p 0 = F at *
        generalize lL ps cs p 0 = M at *
        obtain ⟨X, hX⟩ : ∃ X, wr.alloc (.cells #[.int .i64 L, .int .i64 H] 23) = X := ⟨_, rfl⟩
        have hbX : Below w.heap.size w X := by rw [← hX]; exact hbe.alloc hsw _
        have bX : Blk X wr.heap.size #[.int .i64 L, .int .i64 H] 23 := by rw [← hX]; exact Blk.new wr _ _
        rw [hX]
        clear hX
        generalize wr.heap.size = p11 at *
        obtain ⟨x0, x1, -⟩ := bX.two
        have lX := bX.lt
        have i1 : IntKind.i64.wrap (60 * L) = 60 * L := IntWalk.i64_in _ (by omega)
        have i2 : IntKind.i64.wrap (60 * H) = 60 * H := IntWalk.i64_in _ (by omega)
        have i3 : IntKind.i64.wrap (S * p) = S * p := IntWalk.i64_in _ (by omega)
        have i4 : IntKind.i64.wrap (60 * L - S * p) = 60 * L - S * p := IntWalk.i64_in _ (by omega)
        have i5 : IntKind.i64.wrap (60 * H - S * p) = 60 * H - S * p := IntWalk.i64_in _ (by omega)
        go_quiet (fail)
        obtain ⟨F', hF'⟩ : ∃ F', stepMax F (60 * L - S * p) = F' := ⟨_, rfl⟩
        obtain ⟨M', hM'⟩ : ∃ M', stepMin M (60 * H - S * p) = M' := ⟨_, rfl⟩
        rw [show (if F < 60 * L - S * p then 60 * L - S * p else F) = F' from hF', show (if 60 * H - S * p < M then 60 * H - S * p else M) = M' from hM']
        rw [hF'] at F1
        rw [hM'] at L1
        clear hF' hM' i1 i2 i3 i4 i5
        go_wp2_with fail
        go_roundw
        case rel => exact ⟨0 + 1, by omega, by go_num, by rw [F1.out], by rw [L1.out], by rw [Nat.add_sub_cancel, HSS.out], below_drewN hbX _⟩
        case measure => simp [intOf]; omega
    · have HR : Hid (works60R ps cs p = decide (fF ps cs p k ≤ lL ps cs p k)) := hide (by unfold works60R; rw [show ps.length = k by rw [← HN.out]; omega])
      go_wp2_with fail
      go_ret
      exact ⟨by rw [HR.out]; rfl, hbe⟩

end Go.Proofs.Ytjgebepeghgmcaa

/-! ## Watch2: The law's function tried. -/
namespace Go.Proofs.Ytjgebepeghgmcaa
open Go.RowKit Go.Shelf
set_option linter.unusedVariables false
set_option linter.unusedSimpArgs false

/-- What has been found among the periods from lo on that are below p. -/
structure TI (W : Int → Bool) (lo p l g : Int) (f : Bool) : Prop where
  yes : f = true → lo ≤ l ∧ l < p ∧ W l = true ∧ lo ≤ g ∧ g < p ∧ W g = true ∧ ∀ q, lo ≤ q → q < p → W q = true → l ≤ q ∧ q ≤ g
  no : f = false → l = 0 ∧ g = 0 ∧ ∀ q, lo ≤ q → q < p → W q = false
theorem TI.start (W : Int → Bool) (lo : Int) : TI W lo lo 0 0 false := ⟨fun h => (by cases h), fun _ => ⟨rfl, rfl, fun q h1 h2 => by omega⟩⟩
theorem TI.skip {W : Int → Bool} {lo p l g : Int} {f : Bool} (h : TI W lo p l g f) (hp : W p = false) : TI W lo (p + 1) l g f := by
  refine ⟨fun hf => ?_, fun hf => ?_⟩
  · obtain ⟨h1, h2, h3, h4, h5, h6, h7⟩ := h.yes hf
    refine ⟨h1, by omega, h3, h4, by omega, h6, fun q a b c => ?_⟩
    by_cases e : q = p
    · rw [e, hp] at c; cases c
    · exact h7 q a (by omega) c
  · obtain ⟨h1, h2, h3⟩ := h.no hf
    refine ⟨h1, h2, fun q a b => ?_⟩
    by_cases e : q = p
    · rw [e]; exact hp
    · exact h3 q a (by omega)
theorem TI.first {W : Int → Bool} {lo p l g : Int} (h : TI W lo p l g false) (hp : W p = true) (hlo : lo ≤ p) : TI W lo (p + 1) p p true := by
  obtain ⟨_, _, h3⟩ := h.no rfl
  refine ⟨fun _ => ⟨hlo, by omega, hp, hlo, by omega, hp, fun q a b c => ?_⟩, fun hf => (by cases hf)⟩
  by_cases e : q = p
  · omega
  · rw [h3 q a (by omega)] at c; cases c
theorem TI.more {W : Int → Bool} {lo p l g : Int} (h : TI W lo p l g true) (hp : W p = true) (hlo : lo ≤ p) : TI W lo (p + 1) l p true := by
  obtain ⟨h1, h2, h3, h4, h5, h6, h7⟩ := h.yes rfl
  refine ⟨fun _ => ⟨h1, by omega, h3, hlo, by omega, hp, fun q a b c => ?_⟩, fun hf => (by cases hf)⟩
  by_cases e : q = p
  · omega
  · have := h7 q a (by omega) c
    omega

/-- What tried returns. -/
def TriedPost (lo hi : Int) (ps : List (Int × Int)) (cs : List Int) (w : World) (e : Ending) (w' : World) : Prop :=
  ∃ (l g : Int) (f : Bool), e = .returned (.tuple #[.int .i64 l, .int .i64 g, .bool f]) ∧ TI (works60R ps cs) (60 * lo) (60 * hi + 1) l g f ∧ Below w.heap.size w w'

set_option maxRecDepth 100000 in
set_option maxHeartbeats 2000000 in
theorem tried_any (lo hi : Int) (ps : List (Int × Int)) (cs : List Int) (a ca : Option Addr) (n cap m ccap : Nat) (w : World) (hlo : 0 ≤ lo) (hlh : lo ≤ hi) (hhi : hi ≤ 10000) (hn : n = ps.length) (hm : m = cs.length) (hw : ∀ p, 0 ≤ p → p ≤ 1000000 → WOk ps cs p) (hp : Row w w.heap.size a (spans ps)) (hc : Row w w.heap.size ca (ints cs)) :
    Calls Try.prog 28 #[.agg #[.int .i64 lo, .int .i64 hi, .slice a n cap], .slice ca m ccap] w (TriedPost lo hi ps cs w) := by
  have HCALL := hide (fun (p : Int) (h0 : 0 ≤ p) (h1 : p ≤ 1000000) (W : World) (h2 : Row W W.heap.size a (spans ps)) (h3 : Row W W.heap.size ca (ints cs)) => works60_any lo hi ps cs a ca n cap m ccap p W hn hm (hw p h0 h1) h2 h3)
  clear hn hm hw
  go_enter Try.func28, Try.ntmps28
  go_wp2_with fail
  generalize hW : World.alloc w _ = V
  have hB : Below w.heap.size w V := by rw [← hW]; exact (Below.refl _ _).alloc (Nat.le_refl _) _
  have b0 : Blk V w.heap.size #[.int .i64 lo, .int .i64 hi, .slice a n cap] 26 := by rw [← hW]; exact Blk.new w _ _
  have S : BSt w [(w.heap.size, #[.int .i64 lo, .int .i64 hi, .slice a n cap], 26)] V := ⟨hB, fun p hp => by obtain rfl := List.mem_singleton.1 hp; exact b0⟩
  clear hW hB b0
  go_loopw [4, 5, 6, 7] (fun l g f p wr => ∃ (ll gg pp : Int) (ff : Bool), l = .int .i64 ll ∧ g = .int .i64 gg ∧ f = .bool ff ∧ p = .int .i64 pp ∧ 60 * lo ≤ pp ∧ pp ≤ 60 * hi + 1 ∧ TI (works60R ps cs) (60 * lo) pp ll gg ff ∧ BSt w [(w.heap.size, #[.int .i64 lo, .int .i64 hi, .slice a n cap], 26)] wr) (fun _ _ _ p _ => (60 * hi + 1 - intOf p).toNat)
  case atStart => exact ⟨0, 0, _, false, rfl, rfl, rfl, rfl, by omega, by omega, TI.start _ _, S⟩
  case round =>
    clear S
    obtain ⟨l, g, p, f, rfl, rfl, rfl, rfl, h1, h2, hTI, S⟩ := hrel
    have HTI := hide hTI
    have k0 := (S.boxes _ (by simp : (w.heap.size, #[Value.int .i64 lo, Value.int .i64 hi, Value.slice a n cap], 26) ∈ _)).three
    clear hTI
    by_cases hp1 : p ≤ 60 * hi
    · go_wp2_with fail
      refine (HCALL.out p (by omega) (by omega) _ ((hp.below S.be (Nat.le_refl _)).mono S.be.size) ((hc.below S.be (Nat.le_refl _)).mono S.be.size)).mono ?_
      rintro e W1 ⟨rfl, hb1⟩
      have S1 := S.kept hb1
      clear S hb1 k0
      cases hwk : works60R ps cs p with
      | false =>
        have H2 := hide (HTI.out.skip hwk)
        clear hwk HTI
        go_wp2_with fail
        go_roundw
        case rel => exact ⟨l, g, p + 1, f, rfl, rfl, rfl, rfl, by omega, by omega, H2.out, S1⟩
        case measure => simp [intOf]; omega
      | true =>
        cases f with
        | false =>
          have H2 := hide (HTI.out.first hwk h1)
          clear hwk HTI
          go_wp2_with fail
          go_roundw
          case rel => exact ⟨p, p, p + 1, true, rfl, rfl, rfl, rfl, by omega, by omega, H2.out, S1⟩
          case measure => simp [intOf]; omega
        | true =>
          have H2 := hide (HTI.out.more hwk h1)
          clear hwk HTI
          go_wp2_with fail
          go_roundw
          case rel => exact ⟨l, p, p + 1, true, rfl, rfl, rfl, rfl, by omega, by omega, H2.out, S1⟩
          case measure => simp [intOf]; omega
    · have hpe : p = 60 * hi + 1 := by omega
      have H2 : Hid (TI (works60R ps cs) (60 * lo) (60 * hi + 1) l g f) := hide (by rw [← hpe]; exact HTI.out)
      clear hpe
      go_wp2_with fail
      refine bodyPost_ret (v := .tuple #[.int .i64 l, .int .i64 g, .bool f]) (by simp [results, Try.results28, go_sem]) rfl ⟨l, g, f, rfl, H2.out, S.be⟩

end Go.Proofs.Ytjgebepeghgmcaa

/-! ## Watch3: The law's log by numbers: Watch.made. -/
namespace Go.Proofs.Ytjgebepeghgmcaa
open Go.RowKit Go.Shelf
set_option linter.unusedVariables false
set_option linter.unusedSimpArgs false

theorem own_stay {w w' : World} {base : Nat} {e : TypeId} {size n : Nat} {v : Value} {xs : List Value} (h : w.ownsRow base e size v n xs) (hk : ∀ k, v.ownBlock = some k → w'.heap[k]? = w.heap[k]?) : w'.ownsRow base e size v n xs := by
  refine ⟨h.1, h.2.imp id ?_⟩
  rintro ⟨g, cap, cur, rfl, r1, r2, r3⟩
  exact ⟨g, cap, cur, rfl, r1, (hk g rfl).trans r2, r3⟩

/-- A watch. -/
structure WNum where
  p0 : Int
  p1 : Int
  t : Nat → Int
  two : Bool
structure WNum.Ok (x : WNum) : Prop where
  p0 : 0 ≤ x.p0 ∧ x.p0 ≤ 255
  p1 : 0 ≤ x.p1 ∧ x.p1 ≤ 255
  t : ∀ i, 0 ≤ x.t i ∧ x.t i ≤ 255
def WNum.lo (x : WNum) : Int := 3 + x.p0 % 3
def WNum.hi (x : WNum) : Int := x.lo + x.p1 % 4
def WNum.at : WNum → Nat → Int
  | _, 0 => 0
  | x, k + 1 => x.at k + x.t (2 * k) % 5 + x.t (2 * k + 1) % 2 + 1
def WNum.span (x : WNum) (k : Nat) : Int × Int := (x.at k + x.t (2 * k) % 5, x.at k + x.t (2 * k) % 5 + x.t (2 * k + 1) % 2)
def WNum.ps (x : WNum) (k : Nat) : List (Int × Int) := (List.range k).map x.span
def WNum.n (x : WNum) : Nat := if x.two then 2 else 3
def WNum.log (x : WNum) : PLog := ⟨x.lo, x.hi, x.ps x.n⟩
def WNum.val (x : WNum) : Value := .agg #[.int .u8 x.p0, .int .u8 x.p1, .int .u8 (x.t 0), .int .u8 (x.t 1), .int .u8 (x.t 2), .int .u8 (x.t 3), .int .u8 (x.t 4), .int .u8 (x.t 5), .bool x.two]

theorem spans_append : ∀ (a b : List (Int × Int)), spans (a ++ b) = spans a ++ spans b
  | [], b => rfl
  | p :: a, b => by simp [spans, spans_append a b]
theorem WNum.ps_succ (x : WNum) (k : Nat) : x.ps (k + 1) = x.ps k ++ [x.span k] := by simp [WNum.ps, List.range_succ]
theorem WNum.ps_len (x : WNum) (k : Nat) : (x.ps k).length = k := by simp [WNum.ps]

theorem WNum.at_bound {x : WNum} (h : x.Ok) : ∀ k : Nat, 0 ≤ x.at k ∧ x.at k ≤ 6 * (k : Int)
  | 0 => by simp [WNum.at]
  | k + 1 => by
    have := at_bound h k
    have h1 := h.t (2 * k)
    have h2 := h.t (2 * k + 1)
    simp only [WNum.at]
    omega

theorem info_span0 : (Try.prog.info? 23).map (fun i => (i.zero, i.size, i.bytes)) = some (some (.agg #[.int .i64 0, .int .i64 0]), 2, 16) := by kernel_rfl
theorem under_spans : Try.prog.underlying 24 = some (.slice 23) := by kernel_rfl
theorem info_span : ∃ i : TypeInfo, Try.prog.info? 23 = some i ∧ i.zero = some (.agg #[.int .i64 0, .int .i64 0]) ∧ i.size = 2 ∧ i.bytes = 16 := info_parts info_span0

/-- What the loop of made holds between two rounds. -/
structure MadeI (x : WNum) (w : World) (k : Nat) (v : Value) (wr : World) : Prop where
  b0 : Blk wr w.heap.size #[.int .u8 x.p0, .int .u8 x.p1, .int .u8 (x.t 0), .int .u8 (x.t 1), .int .u8 (x.t 2), .int .u8 (x.t 3), .int .u8 (x.t 4), .int .u8 (x.t 5), .bool x.two] 53
  b1 : Blk wr (w.heap.size + 1) #[.int .i64 0, .int .i64 0, .slice none 0 0] 26
  b2 : Blk wr (w.heap.size + 1 + 1) #[.int .i64 x.lo, .int .i64 x.hi, v] 26
  own : wr.ownsRow (w.heap.size + 3) 23 2 v k (spans (x.ps k))
  be : Below w.heap.size w wr
  sz : w.heap.size + 3 ≤ wr.heap.size

theorem MadeI.next {x : WNum} {w : World} {k g cap : Nat} {v : Value} {wr wr' : World} (h : MadeI x w k v wr)
    (ho : wr'.ownsRow (w.heap.size + 3) 23 2 (.slice (some ⟨g, 0, none⟩) (k + 1) cap) (k + 1) (spans (x.ps k) ++ [.int .i64 (x.span k).1, .int .i64 (x.span k).2])) (hg : wr.grownBy wr' v.ownBlock) :
    MadeI x w (k + 1) (.slice (some ⟨g, 0, none⟩) (k + 1) cap) (wr'.setCell ⟨w.heap.size + 1 + 1, 2, none⟩ (.slice (some ⟨g, 0, none⟩) (k + 1) cap)) := by
  have keep : ∀ j, j < w.heap.size + 3 → wr'.heap[j]? = wr.heap[j]? := fun j hj => hg.block j (by have := h.sz; omega) (fun e => by have := (h.own.lt j e.symm).1; omega)
  have hgb := (ho.lt g rfl).1
  refine ⟨?_, ?_, ?_, ?_, ?_, ?_⟩
  · exact Blk.other (p := ⟨w.heap.size + 1 + 1, 2, none⟩) ((keep _ (by omega)).trans h.b0) (by show w.heap.size ≠ w.heap.size + 1 + 1; omega) _
  · exact Blk.other (p := ⟨w.heap.size + 1 + 1, 2, none⟩) ((keep _ (by omega)).trans h.b1) (by show w.heap.size + 1 ≠ w.heap.size + 1 + 1; omega) _
  · exact Blk.set ((keep _ (by omega)).trans h.b2 : Blk wr' _ _ _) 2 _
  · have e : spans (x.ps (k + 1)) = spans (x.ps k) ++ [.int .i64 (x.span k).1, .int .i64 (x.span k).2] := by rw [WNum.ps_succ, spans_append]; rfl
    rw [e]
    exact own_stay ho (fun j hj => Below.heap_setCell _ _ _ _ (by
      have := (ho.lt j hj).1
      show j ≠ w.heap.size + 1 + 1
      omega))
  · refine ⟨hg.os.trans h.be.os, hg.tape.trans h.be.tape, hg.output.trans h.be.output, Nat.le_trans h.be.size (by have := hg.size; simpa [World.setCell] using this), fun j hj => ?_⟩
    exact (Below.heap_setCell _ _ _ _ (by show j ≠ w.heap.size + 1 + 1; omega)).trans ((keep j (by omega)).trans (h.be.block j hj))
  · have := hg.size
    have := h.sz
    simp [World.setCell]
    omega

set_option maxRecDepth 100000 in
set_option maxHeartbeats 2000000 in
theorem made_any (x : WNum) (w : World) (hx : x.Ok) :
    Calls Try.prog 27 #[x.val] w fun e w' => ∃ ad cap, e = .returned (.agg #[.int .i64 x.lo, .int .i64 x.hi, .slice (some ad) x.n cap]) ∧ x.n ≤ cap ∧ Row w' w'.heap.size (some ad) (spans x.log.ps) ∧ Below w.heap.size w w' := by
  have HX := hide hx
  obtain ⟨a1, a2⟩ := hx.p0
  obtain ⟨b1, b2⟩ := hx.p1
  have c0 := hx.t 0
  have c1 := hx.t 1
  have c2 := hx.t 2
  have c3 := hx.t 3
  have c4 := hx.t 4
  have c5 := hx.t 5
  have HLO : Hid (x.lo = 3 + x.p0 % 3) := hide rfl
  have HHI : Hid (x.hi = x.lo + x.p1 % 4) := hide rfl
  have hlo : 3 ≤ x.lo ∧ x.lo ≤ 5 := by unfold WNum.lo; omega
  have HV : Hid (x.val = .agg #[.int .u8 x.p0, .int .u8 x.p1, .int .u8 (x.t 0), .int .u8 (x.t 1), .int .u8 (x.t 2), .int .u8 (x.t 3), .int .u8 (x.t 4), .int .u8 (x.t 5), .bool x.two]) := hide rfl
  rw [HV.out]
  clear hx
  generalize hP0 : x.p0 = p0 at *
  generalize hP1 : x.p1 = p1 at *
  have HP0 := hide hP0
  have HP1 := hide hP1
  clear hP0 hP1 HV
  go_enter Try.func27, Try.ntmps27
  go_wp2_with fail
  generalize hW : World.alloc (World.alloc (World.alloc w _) _) _ = V
  have M0 : MadeI x w 0 (.slice none 0 0) V := by
    rw [← hW]
    refine ⟨?_, ?_, ?_, World.ownsRow_nil _ _ _ _, (((Below.refl _ _).alloc (Nat.le_refl _) _).alloc (by simp) _).alloc (by simp; omega) _, by simp⟩
    · rw [HP0.out, HP1.out]; exact ((Blk.new w _ _).alloc _).alloc _
    · exact (by simpa using Blk.new (World.alloc w _) _ _ : Blk _ (w.heap.size + 1) _ _).alloc _
    · rw [HHI.out, HLO.out]; exact (by simpa using Blk.new (World.alloc (World.alloc w _) _) _ _)
  clear hW
  obtain ⟨i0, hi, hz0, hz1, hz2⟩ := info_span
  have HI := hide hi
  clear hi hlo
  have hn3 : x.n ≤ 3 := by unfold WNum.n; split <;> omega
  generalize hL : x.lo = L at *
  generalize hH : x.hi = H at *
  have HL := hide hL
  have HH := hide hH
  clear hL hH
  go_loopw [4, 5, 6, 7] (fun t i _ _ wr => ∃ (k : Nat) (v : Value), k ≤ x.n ∧ i = .int .i64 k ∧ t = .int .i64 (x.at k) ∧ MadeI x w k v wr) (fun _ i _ _ _ => 3 - (intOf i).toNat)
  case atStart => exact ⟨0, _, Nat.zero_le _, rfl, rfl, M0⟩
  case round =>
    clear M0
    obtain ⟨k, v, hk, rfl, rfl, hM⟩ := hrel
    have HM := hide hM
    have hm0 := hM.b0
    have hm1 := hM.b1
    have hm2 := hM.b2
    have hsz := hM.sz
    rw [HL.out, HH.out] at hm2
    have l0 := hm0.lt
    have l1 := hm1.lt
    have l2 := hm2.lt
    have n0 := hm0.cell 0
    have n1 := hm0.cell 1
    have n2 := hm0.cell 2
    have n3 := hm0.cell 3
    have n4 := hm0.cell 4
    have n5 := hm0.cell 5
    have n6 := hm0.cell 6
    have n7 := hm0.cell 7
    have n8 := hm0.cell 8
    simp at n0 n1 n2 n3 n4 n5 n6 n7 n8
    obtain ⟨q0, q1, q2, q3, q4, q5⟩ := hm2.three
    obtain ⟨r0, r1, r2, r3, r4, r5⟩ := hm1.three
    have hat := WNum.at_bound HX.out k
    clear hM hm0
    have hk3 : k = 0 ∨ k = 1 ∨ k = 2 ∨ k = 3 := by omega
    rcases hk3 with rfl | rfl | rfl | rfl
    · obtain ⟨va, vcap, rfl⟩ : ∃ va vcap, v = .slice va 0 vcap := by
        rcases HM.out.own.2 with ⟨rfl, h0⟩ | ⟨g, cp, cur, rfl, _⟩
        · exact ⟨none, 0, by simp at h0 ⊢⟩
        · exact ⟨_, _, rfl⟩
      have HSP : Hid (x.span 0 = (x.at 0 + x.t 0 % 5, x.at 0 + x.t 0 % 5 + x.t 1 % 2)) := hide rfl
      have HAT : Hid (x.at (0 + 1) = x.at 0 + x.t 0 % 5 + x.t 1 % 2 + 1) := hide rfl
      have hkn : Hid (0 + 1 ≤ x.n) := hide (by unfold WNum.n; split <;> omega)
      generalize x.at 0 = A at *
      generalize x.t 0 = T0 at *
      generalize x.t 1 = T1 at *
      have m0 : 0 ≤ T0 % 5 ∧ T0 % 5 < 5 := by omega
      have m1 : 0 ≤ T1 % 2 ∧ T1 % 2 < 2 := by omega
      go_wp2_with (
        at_builtin
        refine wpList_append_lies _ rfl (.tmp 57) (.tmp 61) 24 rfl (w.heap.size + 3) 23 i0 (.agg #[.int .i64 0, .int .i64 0]) 2 16 under_spans HI.out hz0 hz1 hz2 rfl (by decide) _ 0 _ rfl (HM.out.own.alloc _) ⟨_, 0, none⟩ 1 1 [.int .i64 (A + T0 % 5), .int .i64 (A + T0 % 5 + T1 % 2)] rfl rfl (World.news_of_block (World.alloc_heap_new _ _)) (by intro u hu; simp at hu; rcases hu with rfl | rfl <;> rfl) (by decide) (by unfold maxLen; omega) (by omega) (by simp; omega) _ rfl ?_
        intro g2 cap2 W6 ow6 gr6 at6 lt6
        have HM' : Hid (MadeI x w 0 (.slice va 0 vcap) (wr.alloc (.cells #[.int .i64 (A + T0 % 5), .int .i64 (A + T0 % 5 + T1 % 2)] 23))) := hide ⟨HM.out.b0.alloc _, HM.out.b1.alloc _, HM.out.b2.alloc _, HM.out.own.alloc _, HM.out.be.alloc HM.out.be.size _, by simp; omega⟩
        have HN := hide (HM'.out.next (by rw [HSP.out]; exact ow6) gr6)
        have d2 : Blk W6 (w.heap.size + 1 + 1) #[.int .i64 L, .int .i64 H, .slice va 0 vcap] 26 := (gr6.block _ (by simp; omega) (fun e => by have := (HM.out.own.lt _ e.symm).1; omega)).trans (hm2.alloc _)
        clear ow6 gr6 at6 lt6 q0 q1 q2 q3 q4 q5 r0 r1 r2 r3 r4 r5 n0 n1 n2 n3 n4 n5 n6 n7 n8 l0 l1 l2
        obtain ⟨q0, q1, q2, q3, q4, q5⟩ := d2.three
        have l2 := d2.lt)
      go_roundw
      case rel => exact ⟨0 + 1, _, hkn.out, by go_num, by rw [HAT.out], HN.out⟩
      case measure => simp [intOf]
    · obtain ⟨va, vcap, rfl⟩ : ∃ va vcap, v = .slice va 1 vcap := by
        rcases HM.out.own.2 with ⟨rfl, h0⟩ | ⟨g, cp, cur, rfl, _⟩
        · exact ⟨none, 0, by simp at h0 ⊢⟩
        · exact ⟨_, _, rfl⟩
      have HSP : Hid (x.span 1 = (x.at 1 + x.t 2 % 5, x.at 1 + x.t 2 % 5 + x.t 3 % 2)) := hide rfl
      have HAT : Hid (x.at (1 + 1) = x.at 1 + x.t 2 % 5 + x.t 3 % 2 + 1) := hide rfl
      have hkn : Hid (1 + 1 ≤ x.n) := hide (by unfold WNum.n; split <;> omega)
      generalize x.at 1 = A at *
      generalize x.t 2 = T0 at *
      generalize x.t 3 = T1 at *
      have m0 : 0 ≤ T0 % 5 ∧ T0 % 5 < 5 := by omega
      have m1 : 0 ≤ T1 % 2 ∧ T1 % 2 < 2 := by omega
      go_wp2_with (
        at_builtin
        refine wpList_append_lies _ rfl (.tmp 57) (.tmp 61) 24 rfl (w.heap.size + 3) 23 i0 (.agg #[.int .i64 0, .int .i64 0]) 2 16 under_spans HI.out hz0 hz1 hz2 rfl (by decide) _ 1 _ rfl (HM.out.own.alloc _) ⟨_, 0, none⟩ 1 1 [.int .i64 (A + T0 % 5), .int .i64 (A + T0 % 5 + T1 % 2)] rfl rfl (World.news_of_block (World.alloc_heap_new _ _)) (by intro u hu; simp at hu; rcases hu with rfl | rfl <;> rfl) (by decide) (by unfold maxLen; omega) (by omega) (by simp; omega) _ rfl ?_
        intro g2 cap2 W6 ow6 gr6 at6 lt6
        have HM' : Hid (MadeI x w 1 (.slice va 1 vcap) (wr.alloc (.cells #[.int .i64 (A + T0 % 5), .int .i64 (A + T0 % 5 + T1 % 2)] 23))) := hide ⟨HM.out.b0.alloc _, HM.out.b1.alloc _, HM.out.b2.alloc _, HM.out.own.alloc _, HM.out.be.alloc HM.out.be.size _, by simp; omega⟩
        have HN := hide (HM'.out.next (by rw [HSP.out]; exact ow6) gr6)
        have d2 : Blk W6 (w.heap.size + 1 + 1) #[.int .i64 L, .int .i64 H, .slice va 1 vcap] 26 := (gr6.block _ (by simp; omega) (fun e => by have := (HM.out.own.lt _ e.symm).1; omega)).trans (hm2.alloc _)
        clear ow6 gr6 at6 lt6 q0 q1 q2 q3 q4 q5 r0 r1 r2 r3 r4 r5 n0 n1 n2 n3 n4 n5 n6 n7 n8 l0 l1 l2
        obtain ⟨q0, q1, q2, q3, q4, q5⟩ := d2.three
        have l2 := d2.lt)
      go_roundw
      case rel => exact ⟨1 + 1, _, hkn.out, by go_num, by rw [HAT.out], HN.out⟩
      case measure => simp [intOf]
    · cases htw : x.two with
      | true =>
        rw [htw] at n8
        obtain ⟨g, cap, cur, rfl, hg1, hc, hle, -, -, htk⟩ : ∃ g cap cur, v = .slice (some ⟨g, 0, none⟩) 2 cap ∧ w.heap.size + 3 ≤ g ∧ wr.heap[g]? = some (.cells cur 23 (0, 0)) ∧ 2 ≤ cap ∧ True ∧ True ∧ cur.toList.take (2 * 2) = spans (x.ps 2) := by
          rcases HM.out.own.2 with ⟨_, h0⟩ | ⟨g, cp, cur, hv, hb, hc, hle, _, _, htk⟩
          · simp at h0
          · exact ⟨g, cp, cur, hv, hb, hc, hle, trivial, trivial, htk⟩
        have HROW : Hid (Row wr (g + 1) (some ⟨g, 0, none⟩) (spans (x.ps 2))) := hide (row_of_heap hc (by rw [spans_length, WNum.ps_len]; exact htk))
        have HG := hide hc
        have hglt : g < wr.heap.size := (Array.getElem?_eq_some_iff.1 hc).1
        have HNN : Hid (x.n = 2) := hide (by unfold WNum.n; rw [htw]; rfl)
        have hbe := HM.out.be
        clear hc htk
        go_wp2_with fail
        have e1 : Blk _ (w.heap.size + 1) #[.int .i64 L, .int .i64 H, .slice (some ⟨g, 0, none⟩) 2 cap] _ := ((hm1.set 0 (.int .i64 L)).set 1 (.int .i64 H)).set 2 (.slice (some ⟨g, 0, none⟩) 2 cap)
        have hBf := ((hbe.setCell (p := ⟨w.heap.size + 1, 0, none⟩) (Nat.le_succ _) (.int .i64 L)).setCell (p := ⟨w.heap.size + 1, 1, none⟩) (Nat.le_succ _) (.int .i64 H)).setCell (p := ⟨w.heap.size + 1, 2, none⟩) (Nat.le_succ _) (.slice (some ⟨g, 0, none⟩) 2 cap)
        have hrow : Row (((wr.setCell ⟨w.heap.size + 1, 0, none⟩ (.int .i64 L)).setCell ⟨w.heap.size + 1, 1, none⟩ (.int .i64 H)).setCell ⟨w.heap.size + 1, 2, none⟩ (.slice (some ⟨g, 0, none⟩) 2 cap)) (g + 1) (some ⟨g, 0, none⟩) (spans (x.ps 2)) := HROW.out.at fun k hk => by
          obtain ⟨_, ad, e, rfl⟩ := hk
          cases e
          exact (Below.heap_setCell _ _ _ _ (by show g ≠ _; dsimp only; omega)).trans ((Below.heap_setCell _ _ _ _ (by show g ≠ _; dsimp only; omega)).trans (Below.heap_setCell _ _ _ _ (by show g ≠ _; dsimp only; omega)))
        generalize hZ : World.setCell (World.setCell (World.setCell wr _ _) _ _) _ _ = Z at *
        have hzs : g + 1 ≤ Z.heap.size := by rw [← hZ]; simp [World.setCell]; omega
        refine bodyPost_ret (v := .agg #[.int .i64 L, .int .i64 H, .slice (some ⟨g, 0, none⟩) 2 cap]) (by simp [results, Try.results27, go_sem, e1.three]) rfl ⟨⟨g, 0, none⟩, cap, by rw [HNN.out, HL.out, HH.out], by rw [HNN.out]; exact hle, ?_, hBf⟩
        show Row Z Z.heap.size _ (spans (x.ps x.n))
        rw [HNN.out]
        exact hrow.mono hzs
      | false =>
        rw [htw] at n8
        obtain ⟨va, vcap, rfl⟩ : ∃ va vcap, v = .slice va 2 vcap := by
          rcases HM.out.own.2 with ⟨rfl, h0⟩ | ⟨g, cp, cur, rfl, _⟩
          · exact ⟨none, 0, by simp at h0 ⊢⟩
          · exact ⟨_, _, rfl⟩
        have HSP : Hid (x.span 2 = (x.at 2 + x.t 4 % 5, x.at 2 + x.t 4 % 5 + x.t 5 % 2)) := hide rfl
        have HAT : Hid (x.at (2 + 1) = x.at 2 + x.t 4 % 5 + x.t 5 % 2 + 1) := hide rfl
        have hkn : Hid (2 + 1 ≤ x.n) := hide (by unfold WNum.n; rw [htw]; decide)
        generalize x.at 2 = A at *
        generalize x.t 4 = T0 at *
        generalize x.t 5 = T1 at *
        have m0 : 0 ≤ T0 % 5 ∧ T0 % 5 < 5 := by omega
        have m1 : 0 ≤ T1 % 2 ∧ T1 % 2 < 2 := by omega
        go_wp2_with (
          at_builtin
          refine wpList_append_lies _ rfl (.tmp 57) (.tmp 61) 24 rfl (w.heap.size + 3) 23 i0 (.agg #[.int .i64 0, .int .i64 0]) 2 16 under_spans HI.out hz0 hz1 hz2 rfl (by decide) _ 2 _ rfl (HM.out.own.alloc _) ⟨_, 0, none⟩ 1 1 [.int .i64 (A + T0 % 5), .int .i64 (A + T0 % 5 + T1 % 2)] rfl rfl (World.news_of_block (World.alloc_heap_new _ _)) (by intro u hu; simp at hu; rcases hu with rfl | rfl <;> rfl) (by decide) (by unfold maxLen; omega) (by omega) (by simp; omega) _ rfl ?_
          intro g2 cap2 W6 ow6 gr6 at6 lt6
          have HM' : Hid (MadeI x w 2 (.slice va 2 vcap) (wr.alloc (.cells #[.int .i64 (A + T0 % 5), .int .i64 (A + T0 % 5 + T1 % 2)] 23))) := hide ⟨HM.out.b0.alloc _, HM.out.b1.alloc _, HM.out.b2.alloc _, HM.out.own.alloc _, HM.out.be.alloc HM.out.be.size _, by simp; omega⟩
          have HN := hide (HM'.out.next (by rw [HSP.out]; exact ow6) gr6)
          have d2 : Blk W6 (w.heap.size + 1 + 1) #[.int .i64 L, .int .i64 H, .slice va 2 vcap] 26 := (gr6.block _ (by simp; omega) (fun e => by have := (HM.out.own.lt _ e.symm).1; omega)).trans (hm2.alloc _)
          clear ow6 gr6 at6 lt6 q0 q1 q2 q3 q4 q5 r0 r1 r2 r3 r4 r5 n0 n1 n2 n3 n4 n5 n6 n7 n8 l0 l1 l2
          obtain ⟨q0, q1, q2, q3, q4, q5⟩ := d2.three
          have l2 := d2.lt)
        go_roundw
        case rel => exact ⟨2 + 1, _, hkn.out, by go_num, by rw [HAT.out], HN.out⟩
        case measure => simp [intOf]
    · obtain ⟨g, cap, cur, rfl, hg1, hc, hle, -, -, htk⟩ : ∃ g cap cur, v = .slice (some ⟨g, 0, none⟩) 3 cap ∧ w.heap.size + 3 ≤ g ∧ wr.heap[g]? = some (.cells cur 23 (0, 0)) ∧ 3 ≤ cap ∧ True ∧ True ∧ cur.toList.take (3 * 2) = spans (x.ps 3) := by
        rcases HM.out.own.2 with ⟨_, h0⟩ | ⟨g, cp, cur, hv, hb, hc, hle, _, _, htk⟩
        · simp at h0
        · exact ⟨g, cp, cur, hv, hb, hc, hle, trivial, trivial, htk⟩
      have HROW : Hid (Row wr (g + 1) (some ⟨g, 0, none⟩) (spans (x.ps 3))) := hide (row_of_heap hc (by rw [spans_length, WNum.ps_len]; exact htk))
      have HG := hide hc
      have hglt : g < wr.heap.size := (Array.getElem?_eq_some_iff.1 hc).1
      have HNN : Hid (x.n = 3) := hide (by omega)
      have hbe := HM.out.be
      clear hc htk
      go_wp2_with fail
      have e1 : Blk _ (w.heap.size + 1) #[.int .i64 L, .int .i64 H, .slice (some ⟨g, 0, none⟩) 3 cap] _ := ((hm1.set 0 (.int .i64 L)).set 1 (.int .i64 H)).set 2 (.slice (some ⟨g, 0, none⟩) 3 cap)
      have hBf := ((hbe.setCell (p := ⟨w.heap.size + 1, 0, none⟩) (Nat.le_succ _) (.int .i64 L)).setCell (p := ⟨w.heap.size + 1, 1, none⟩) (Nat.le_succ _) (.int .i64 H)).setCell (p := ⟨w.heap.size + 1, 2, none⟩) (Nat.le_succ _) (.slice (some ⟨g, 0, none⟩) 3 cap)
      have hrow : Row (((wr.setCell ⟨w.heap.size + 1, 0, none⟩ (.int .i64 L)).setCell ⟨w.heap.size + 1, 1, none⟩ (.int .i64 H)).setCell ⟨w.heap.size + 1, 2, none⟩ (.slice (some ⟨g, 0, none⟩) 3 cap)) (g + 1) (some ⟨g, 0, none⟩) (spans (x.ps 3)) := HROW.out.at fun k hk => by
        obtain ⟨_, ad, e, rfl⟩ := hk
        cases e
        exact (Below.heap_setCell _ _ _ _ (by show g ≠ _; dsimp only; omega)).trans ((Below.heap_setCell _ _ _ _ (by show g ≠ _; dsimp only; omega)).trans (Below.heap_setCell _ _ _ _ (by show g ≠ _; dsimp only; omega)))
      generalize hZ : World.setCell (World.setCell (World.setCell wr _ _) _ _) _ _ = Z at *
      have hzs : g + 1 ≤ Z.heap.size := by rw [← hZ]; simp [World.setCell]; omega
      refine bodyPost_ret (v := .agg #[.int .i64 L, .int .i64 H, .slice (some ⟨g, 0, none⟩) 3 cap]) (by simp [results, Try.results27, go_sem, e1.three]) rfl ⟨⟨g, 0, none⟩, cap, by rw [HNN.out, HL.out, HH.out], by rw [HNN.out]; exact hle, ?_, hBf⟩
      show Row Z Z.heap.size _ (spans (x.ps x.n))
      rw [HNN.out]
      exact hrow.mono hzs

end Go.Proofs.Ytjgebepeghgmcaa

/-! ## Plain3: Plain facts: the ends of the period of counts; a period that fits all passages. -/
namespace Go.Proofs.Ytjgebepeghgmcaa

/-- Fractions, compared crosswise. -/
theorem cross_trans {a b c d e f : Int} (hb : 0 < b) (hd : 0 < d) (hf : 0 < f) (h1 : a * d ≤ c * b) (h2 : c * f ≤ e * d) : a * f ≤ e * b := by
  have g1 : a * d * f ≤ c * b * f := Int.mul_le_mul_of_nonneg_right h1 (by omega)
  have g2 : c * f * b ≤ e * d * b := Int.mul_le_mul_of_nonneg_right h2 (by omega)
  have g3 : (a * f) * d ≤ (e * b) * d := by grind
  exact Int.le_of_mul_le_mul_right g3 hd

theorem pick_best {α : Type} (f : α → Int × Int) : ∀ (xs : List α) (o : Option α) (b : α), (∀ x ∈ xs, 0 < (f x).2) → (∀ x, o = some x → 0 < (f x).2) →
    xs.foldl (pick fun x y => decide (0 < cmpR (f x) (f y))) o = some b → (∀ x, o = some x → cmpR (f x) (f b) ≤ 0) ∧ ∀ x ∈ xs, cmpR (f x) (f b) ≤ 0
  | [], o, b, _, _, h => by
    simp at h
    subst h
    refine ⟨fun x hx => ?_, fun x hx => (by cases hx)⟩
    cases hx
    unfold cmpR
    omega
  | y :: ys, o, b, hp, ho, h => by
    rw [List.foldl_cons] at h
    have hy := hp y List.mem_cons_self
    have hpk : ∀ x, pick (fun x y => decide (0 < cmpR (f x) (f y))) o y = some x → 0 < (f x).2 := fun x hx => by
      rcases pick_mem _ o y x hx with rfl | h'
      · exact hy
      · exact ho x h'
    obtain ⟨h1, h2⟩ := pick_best f ys _ b (fun x hx => hp x (List.mem_cons_of_mem _ hx)) hpk h
    have hb2 : 0 < (f b).2 := by
      rcases foldl_pick_mem _ ys _ b h with hm | hm
      · exact hp b (List.mem_cons_of_mem _ hm)
      · exact hpk b hm
    cases o with
    | none =>
      refine ⟨fun x hx => (by cases hx), fun x hx => ?_⟩
      rcases List.mem_cons.1 hx with rfl | hx
      · exact h1 _ rfl
      · exact h2 x hx
    | some z =>
      have hz := ho z rfl
      by_cases hc : 0 < cmpR (f y) (f z)
      · have e : pick (fun x y => decide (0 < cmpR (f x) (f y))) (some z) y = some y := by simp [pick, hc]
        have g := h1 y e
        refine ⟨fun x hx => ?_, fun x hx => ?_⟩
        · cases hx
          unfold cmpR at *
          have := cross_trans (a := (f z).1) (b := (f z).2) (c := (f y).1) (d := (f y).2) (e := (f b).1) (f := (f b).2) hz hy hb2 (by omega) (by omega)
          omega
        · rcases List.mem_cons.1 hx with rfl | hx
          · exact g
          · exact h2 x hx
      · have e : pick (fun x y => decide (0 < cmpR (f x) (f y))) (some z) y = some z := by simp [pick, hc]
        have g := h1 z e
        refine ⟨fun x hx => (by cases hx; exact g), fun x hx => ?_⟩
        rcases List.mem_cons.1 hx with rfl | hx
        · unfold cmpR at *
          have := cross_trans (a := (f x).1) (b := (f x).2) (c := (f z).1) (d := (f z).2) (e := (f b).1) (f := (f b).2) hy hz hb2 (by omega) (by omega)
          omega
        · exact h2 x hx

/-- The same for the least one. -/
theorem pick_least {α : Type} (f : α → Int × Int) (xs : List α) (b : α) (hp : ∀ x ∈ xs, 0 < (f x).2) (h : firstBy (fun x y => decide (cmpR (f x) (f y) < 0)) xs = some b) : ∀ x ∈ xs, cmpR (f b) (f x) ≤ 0 := by
  have e : (fun x y => decide (cmpR (f x) (f y) < 0)) = fun x y => decide (0 < cmpR ((fun x => (-(f x).1, (f x).2)) x) ((fun x => (-(f x).1, (f x).2)) y)) := by
    funext x y
    refine decide_eq_decide.2 ?_
    unfold cmpR
    dsimp only
    rw [Int.neg_mul, Int.neg_mul]
    omega
  rw [e] at h
  have := (pick_best (fun x => (-(f x).1, (f x).2)) xs none b hp (fun x hx => (by cases hx)) h).2
  intro x hx
  have g := this x hx
  simp only [cmpR, Int.neg_mul] at g
  unfold cmpR
  omega

structure LowIs (l : PLog) (cs : List Int) : Prop where
  pos : 1 ≤ (lowEnd l cs).2
  lo : l.lo * (lowEnd l cs).2 ≤ (lowEnd l cs).1
  pair : ∀ i k, i < k → k ≤ cs.length → (bel l.ps cs (i, k)).1 * (lowEnd l cs).2 ≤ (lowEnd l cs).1 * (bel l.ps cs (i, k)).2
  is : lowEnd l cs = (l.lo, 1) ∨ ∃ i k, i < k ∧ k ≤ cs.length ∧ lowEnd l cs = bel l.ps cs (i, k)
structure HighIs (l : PLog) (cs : List Int) : Prop where
  pos : 1 ≤ (highEnd l cs).2
  hi : (highEnd l cs).1 ≤ l.hi * (highEnd l cs).2
  pair : ∀ i k, i < k → k ≤ cs.length → (highEnd l cs).1 * (abv l.ps cs (i, k)).2 ≤ (abv l.ps cs (i, k)).1 * (highEnd l cs).2
  is : highEnd l cs = (l.hi, 1) ∨ ∃ i k, i < k ∧ k ≤ cs.length ∧ highEnd l cs = abv l.ps cs (i, k)

theorem low_best {l : PLog} {cs : List Int} (hl : LOk l) (hc : COk l cs) (h0 : 0 < cs.length) (i k : Nat) (hik : i < k) (hk : k ≤ cs.length) : cmpR (bel l.ps cs (i, k)) (bel l.ps cs (lowOf l.ps cs)) ≤ 0 := by
  have hne : firstBy (lowBetter l.ps cs) (pairsOf (cs.length + 1)) ≠ none := firstBy_some _ _ (by
    have : (0, 1) ∈ pairsOf (cs.length + 1) := mem_pairsOf.2 ⟨by decide, by simp; omega⟩
    intro h
    rw [h] at this
    cases this)
  unfold lowOf
  cases hb : firstBy (lowBetter l.ps cs) (pairsOf (cs.length + 1)) with
  | none => exact absurd hb hne
  | some b =>
    have := (pick_best (bel l.ps cs) (pairsOf (cs.length + 1)) none b (fun x hx => by
      have := mem_pairsOf.1 hx
      have := (bel_small hl hc this.1 (by omega)).2.1
      omega) (fun x hx => (by cases hx)) hb).2 (i, k) (mem_pairsOf.2 ⟨hik, by dsimp only; omega⟩)
    exact this
theorem high_best {l : PLog} {cs : List Int} (hl : LOk l) (hc : COk l cs) (h0 : 0 < cs.length) (i k : Nat) (hik : i < k) (hk : k ≤ cs.length) : cmpR (abv l.ps cs (highOf l.ps cs)) (abv l.ps cs (i, k)) ≤ 0 := by
  have hne : firstBy (highBetter l.ps cs) (pairsOf (cs.length + 1)) ≠ none := firstBy_some _ _ (by
    have : (0, 1) ∈ pairsOf (cs.length + 1) := mem_pairsOf.2 ⟨by decide, by simp; omega⟩
    intro h
    rw [h] at this
    cases this)
  unfold highOf
  cases hb : firstBy (highBetter l.ps cs) (pairsOf (cs.length + 1)) with
  | none => exact absurd hb hne
  | some b =>
    exact pick_least (abv l.ps cs) (pairsOf (cs.length + 1)) b (fun x hx => by
      have := mem_pairsOf.1 hx
      have := bel_small hl hc this.1 (by omega)
      omega) hb (i, k) (mem_pairsOf.2 ⟨hik, by dsimp only; omega⟩)

theorem low_is {l : PLog} {cs : List Int} (hl : LOk l) (hc : COk l cs) : LowIs l cs := by
  have e := ends_pos hl hc
  by_cases h0 : cs.length = 0
  · have el : lowEnd l cs = (l.lo, 1) := by unfold lowEnd; rw [if_pos h0]
    rw [el] at e
    exact ⟨by rw [el]; exact Int.le_refl 1, by rw [el]; simp, fun i k h1 h2 => by omega, .inl el⟩
  · have hm := lowOf_mem (ps := l.ps) (cs := cs) (by omega)
    have hp := (bel_small hl hc hm.1 hm.2).2.1
    have hbest := fun i k h1 h2 => low_best hl hc (by omega) i k h1 h2
    by_cases hcmp : 0 < cmpR (bel l.ps cs (lowOf l.ps cs)) (l.lo, 1)
    · have el : lowEnd l cs = bel l.ps cs (lowOf l.ps cs) := by unfold lowEnd; rw [if_neg h0, if_pos hcmp]
      unfold cmpR at hcmp hbest
      dsimp only at hcmp
      exact ⟨by rw [el]; exact hp, by rw [el]; omega, fun i k h1 h2 => by rw [el]; have := hbest i k h1 h2; omega, .inr ⟨_, _, hm.1, hm.2, el⟩⟩
    · have el : lowEnd l cs = (l.lo, 1) := by unfold lowEnd; rw [if_neg h0, if_neg hcmp]
      unfold cmpR at hcmp hbest
      dsimp only at hcmp
      refine ⟨by rw [el]; exact Int.le_refl 1, by rw [el]; simp, fun i k h1 h2 => ?_, .inl el⟩
      rw [el]
      have hb := hbest i k h1 h2
      have hq := (bel_small hl hc (p := (i, k)) h1 h2).2.1
      have := cross_trans (a := (bel l.ps cs (i, k)).1) (b := (bel l.ps cs (i, k)).2) (c := (bel l.ps cs (lowOf l.ps cs)).1) (d := (bel l.ps cs (lowOf l.ps cs)).2) (e := l.lo) (f := 1) (by omega) (by omega) (by decide) (by omega) (by omega)
      dsimp only
      omega
theorem high_is {l : PLog} {cs : List Int} (hl : LOk l) (hc : COk l cs) : HighIs l cs := by
  by_cases h0 : cs.length = 0
  · have el : highEnd l cs = (l.hi, 1) := by unfold highEnd; rw [if_pos h0]
    exact ⟨by rw [el]; exact Int.le_refl 1, by rw [el]; simp, fun i k h1 h2 => by omega, .inl el⟩
  · have hm := highOf_mem (ps := l.ps) (cs := cs) (by omega)
    have hp := bel_small hl hc hm.1 hm.2
    have hbest := fun i k h1 h2 => high_best hl hc (by omega) i k h1 h2
    by_cases hcmp : cmpR (abv l.ps cs (highOf l.ps cs)) (l.hi, 1) < 0
    · have el : highEnd l cs = abv l.ps cs (highOf l.ps cs) := by unfold highEnd; rw [if_neg h0, if_pos hcmp]
      unfold cmpR at hcmp hbest
      dsimp only at hcmp
      exact ⟨by rw [el]; omega, by rw [el]; omega, fun i k h1 h2 => by rw [el]; have := hbest i k h1 h2; omega, .inr ⟨_, _, hm.1, hm.2, el⟩⟩
    · have el : highEnd l cs = (l.hi, 1) := by unfold highEnd; rw [if_neg h0, if_neg hcmp]
      unfold cmpR at hcmp hbest
      dsimp only at hcmp
      refine ⟨by rw [el]; exact Int.le_refl 1, by rw [el]; simp, fun i k h1 h2 => ?_, .inl el⟩
      rw [el]
      have hb := hbest i k h1 h2
      have hq := bel_small hl hc (p := (i, k)) h1 h2
      have := cross_trans (a := l.hi) (b := 1) (c := (abv l.ps cs (highOf l.ps cs)).1) (d := (abv l.ps cs (highOf l.ps cs)).2) (e := (abv l.ps cs (i, k)).1) (f := (abv l.ps cs (i, k)).2) (by decide) (by omega) (by omega) (by omega) (by omega)
      dsimp only
      omega

end Go.Proofs.Ytjgebepeghgmcaa

/-! ## Plain4: Plain facts: when a period fits a log and its counts: below every upper end and above every lower end. -/
namespace Go.Proofs.Ytjgebepeghgmcaa

theorem fF_le (ps : List (Int × Int)) (cs : List Int) (p z : Int) : ∀ k, (fF ps cs p k ≤ z ↔ -1099511627776 ≤ z ∧ ∀ i, i < k → 60 * los ps i - csum cs 0 i * p ≤ z)
  | 0 => by
    unfold fF
    exact ⟨fun h => ⟨h, fun i hi => by omega⟩, fun h => h.1⟩
  | k + 1 => by
    have ih := fF_le ps cs p z k
    unfold fF stepMax
    constructor
    · intro h
      have h1 : fF ps cs p k ≤ z := by split at h <;> omega
      have h2 : 60 * los ps k - csum cs 0 k * p ≤ z := by split at h <;> omega
      refine ⟨(ih.1 h1).1, fun i hi => ?_⟩
      by_cases e : i = k
      · rw [e]; exact h2
      · exact (ih.1 h1).2 i (by omega)
    · intro h
      have h1 := ih.2 ⟨h.1, fun i hi => h.2 i (by omega)⟩
      have h2 := h.2 k (by omega)
      split <;> omega
theorem le_lL (ps : List (Int × Int)) (cs : List Int) (p z : Int) : ∀ k, (z ≤ lL ps cs p k ↔ z ≤ 1099511627776 ∧ ∀ i, i < k → z ≤ 60 * his ps i - csum cs 0 i * p)
  | 0 => by
    unfold lL
    exact ⟨fun h => ⟨h, fun i hi => by omega⟩, fun h => h.1⟩
  | k + 1 => by
    have ih := le_lL ps cs p z k
    unfold lL stepMin
    constructor
    · intro h
      have h1 : z ≤ lL ps cs p k := by split at h <;> omega
      have h2 : z ≤ 60 * his ps k - csum cs 0 k * p := by split at h <;> omega
      refine ⟨(ih.1 h1).1, fun i hi => ?_⟩
      by_cases e : i = k
      · rw [e]; exact h2
      · exact (ih.1 h1).2 i (by omega)
    · intro h
      have h1 := ih.2 ⟨h.1, fun i hi => h.2 i (by omega)⟩
      have h2 := h.2 k (by omega)
      split <;> omega

/-- All bounds on the start are compatible, two by two. -/
theorem works60_iff {ps : List (Int × Int)} {cs : List Int} {p : Int} (hw : WOk ps cs p) (hp : p ≤ 100000) :
    works60R ps cs p = true ↔ ∀ i j, i < ps.length → j < ps.length → 60 * los ps i - csum cs 0 i * p ≤ 60 * his ps j - csum cs 0 j * p := by
  unfold works60R
  rw [decide_eq_true_iff, fF_le]
  have hs : ∀ k, k < ps.length → 0 ≤ csum cs 0 k * p ∧ csum cs 0 k * p ≤ 8000000 * 100000 := fun k hk => by
    have h1 := hw.sum k hk
    have h2 := hw.p0
    have h8 := hw.l8
    exact ⟨Int.mul_nonneg h1.1 h2, Int.mul_le_mul (by omega) hp h2 (by omega)⟩
  constructor
  · intro h i j hi hj
    exact ((le_lL ps cs p _ _).1 (h.2 i hi)).2 j hj
  · intro h
    refine ⟨(le_lL ps cs p _ _).2 ⟨by decide, fun j hj => ?_⟩, fun i hi => (le_lL ps cs p _ _).2 ⟨?_, fun j hj => h i j hi hj⟩⟩
    · have := hs j hj
      have := hw.hi j hj
      omega
    · have := hs i hi
      have := hw.lo i hi
      omega

theorem csum_sub (cs : List Int) (i k : Nat) (h : i ≤ k) : csum cs i k = csum cs 0 k - csum cs 0 i := by
  unfold csum
  rw [List.drop_zero, Nat.sub_zero, Nat.sub_zero]
  have e : cs.take k = cs.take i ++ (cs.drop i).take (k - i) := by
    rw [List.take_drop, show i + (k - i) = k by omega]
    conv => lhs; rw [← List.take_append_drop i (cs.take k)]
    rw [List.take_take, Nat.min_eq_left h]
  rw [e, List.sum_append]
  omega

/-- Within the bounds of the log: a period fits exactly between the two ends. -/
theorem works_ends {l : PLog} {cs : List Int} {p : Int} (hl : LOk l) (hc : COk l cs) (hw : WOk l.ps cs p) (hp : p ≤ 100000) (h1 : 60 * l.lo ≤ p) (h2 : p ≤ 60 * l.hi) :
    works60R l.ps cs p = true ↔ 60 * (lowEnd l cs).1 ≤ p * (lowEnd l cs).2 ∧ p * (highEnd l cs).2 ≤ 60 * (highEnd l cs).1 := by
  have hlen := hw.len
  have L := low_is hl hc
  have H := high_is hl hc
  rw [works60_iff hw hp]
  constructor
  · intro h
    constructor
    · rcases L.is with e | ⟨i, k, hik, hk, e⟩
      · rw [e]; dsimp only; omega
      · rw [e]
        have := h k i (by omega) (by omega)
        unfold bel
        dsimp only
        rw [csum_sub cs i k (by omega)]
        grind
    · rcases H.is with e | ⟨i, k, hik, hk, e⟩
      · rw [e]; dsimp only; omega
      · rw [e]
        have := h i k (by omega) (by omega)
        unfold abv
        dsimp only
        rw [csum_sub cs i k (by omega)]
        grind
  · rintro ⟨ha, hb⟩ i j hi hj
    have La := L.pos
    have Hb := H.pos
    rcases Nat.lt_trichotomy i j with hij | hij | hij
    · have g := H.pair i j hij (by omega)
      have gp := (bel_small hl hc (p := (i, j)) hij (by dsimp only; omega)).2.1
      have gp' : 0 < (abv l.ps cs (i, j)).2 := by unfold abv; unfold bel at gp; exact gp
      have := cross_trans (a := p) (b := 60) (c := (highEnd l cs).1) (d := (highEnd l cs).2) (e := (abv l.ps cs (i, j)).1) (f := (abv l.ps cs (i, j)).2) (by decide) (by omega) gp' (by omega) g
      unfold abv at this
      dsimp only at this
      rw [csum_sub cs i j (by omega)] at this
      grind
    · rw [hij]
      have := (hl.inb j hj).2.1
      omega
    · have g := L.pair j i hij (by omega)
      have gp := (bel_small hl hc (p := (j, i)) hij (by dsimp only; omega)).2.1
      have := cross_trans (a := (bel l.ps cs (j, i)).1) (b := (bel l.ps cs (j, i)).2) (c := (lowEnd l cs).1) (d := (lowEnd l cs).2) (e := p) (f := 60) (by omega) (by omega) (by decide) g (by omega)
      unfold bel at this
      dsimp only at this
      rw [csum_sub cs j i (by omega)] at this
      grind

end Go.Proofs.Ytjgebepeghgmcaa

/-! ## Plain5: Plain facts: where all sums of counts are at most six, what is tried in sixtieths is the ends of the period. -/
namespace Go.Proofs.Ytjgebepeghgmcaa

/-- An end in sixtieths. -/
def in60 (r : Int × Int) : Int := r.1 * (60 / r.2)
theorem in60_is {r : Int × Int} (h1 : 1 ≤ r.2) (h6 : r.2 ≤ 6) : in60 r * r.2 = 60 * r.1 := by
  have h : r.2 = 1 ∨ r.2 = 2 ∨ r.2 = 3 ∨ r.2 = 4 ∨ r.2 = 5 ∨ r.2 = 6 := by omega
  unfold in60
  rcases h with e | e | e | e | e | e <;> rw [e] <;> omega
theorem in60_le {r : Int × Int} (h1 : 1 ≤ r.2) (h6 : r.2 ≤ 6) (p : Int) : in60 r ≤ p ↔ 60 * r.1 ≤ p * r.2 := by
  rw [← in60_is h1 h6]
  exact ⟨fun h => Int.mul_le_mul_of_nonneg_right h (by omega), fun h => Int.le_of_mul_le_mul_right h (by omega)⟩
theorem le_in60 {r : Int × Int} (h1 : 1 ≤ r.2) (h6 : r.2 ≤ 6) (p : Int) : p ≤ in60 r ↔ p * r.2 ≤ 60 * r.1 := by
  rw [← in60_is h1 h6]
  exact ⟨fun h => Int.mul_le_mul_of_nonneg_right h (by omega), fun h => Int.le_of_mul_le_mul_right h (by omega)⟩

/-- All sums of counts are at most six. -/
structure Six (l : PLog) (cs : List Int) : Prop where
  lok : LOk l
  cok : COk l cs
  hi : l.hi ≤ 1000
  w : ∀ p, 0 ≤ p → p ≤ 1000000 → WOk l.ps cs p
  six : ∀ i k, i < k → k ≤ cs.length → csum cs i k ≤ 6

theorem Six.dens {l : PLog} {cs : List Int} (h : Six l cs) : (1 ≤ (lowEnd l cs).2 ∧ (lowEnd l cs).2 ≤ 6) ∧ (1 ≤ (highEnd l cs).2 ∧ (highEnd l cs).2 ≤ 6) := by
  have L := low_is h.lok h.cok
  have H := high_is h.lok h.cok
  refine ⟨⟨L.pos, ?_⟩, ⟨H.pos, ?_⟩⟩
  · rcases L.is with e | ⟨i, k, hik, hk, e⟩
    · rw [e]; dsimp only; omega
    · rw [e]; exact h.six i k hik hk
  · rcases H.is with e | ⟨i, k, hik, hk, e⟩
    · rw [e]; dsimp only; omega
    · rw [e]; exact h.six i k hik hk
theorem Six.ends {l : PLog} {cs : List Int} (h : Six l cs) : 60 * l.lo ≤ in60 (lowEnd l cs) ∧ in60 (highEnd l cs) ≤ 60 * l.hi := by
  have L := low_is h.lok h.cok
  have H := high_is h.lok h.cok
  obtain ⟨⟨a1, a2⟩, b1, b2⟩ := h.dens
  constructor
  · rw [le_in60 a1 a2]
    have := L.lo
    grind
  · rw [in60_le b1 b2]
    have := H.hi
    grind
theorem Six.works {l : PLog} {cs : List Int} (h : Six l cs) {p : Int} (h1 : 60 * l.lo ≤ p) (h2 : p ≤ 60 * l.hi) : works60R l.ps cs p = true ↔ in60 (lowEnd l cs) ≤ p ∧ p ≤ in60 (highEnd l cs) := by
  obtain ⟨⟨a1, a2⟩, b1, b2⟩ := h.dens
  have := h.lok.lo1
  have := h.hi
  rw [works_ends h.lok h.cok (h.w p (by omega) (by omega)) (by omega) h1 h2, in60_le a1 a2, le_in60 b1 b2]
theorem Six.poss {l : PLog} {cs : List Int} (h : Six l cs) : Go.Proofs.Ytjgebepeghgmcaa.possible l cs = true ↔ in60 (lowEnd l cs) ≤ in60 (highEnd l cs) := by
  obtain ⟨⟨a1, a2⟩, b1, b2⟩ := h.dens
  have ea := in60_is a1 a2
  have eb := in60_is b1 b2
  rw [in60_le a1 a2]
  unfold Go.Proofs.Ytjgebepeghgmcaa.possible cmpR
  rw [decide_eq_true_iff]
  have e3 : in60 (highEnd l cs) * (lowEnd l cs).2 * (highEnd l cs).2 = 60 * ((highEnd l cs).1 * (lowEnd l cs).2) := by
    rw [Int.mul_right_comm, eb, Int.mul_assoc]
  have e4 : 60 * (lowEnd l cs).1 * (highEnd l cs).2 = 60 * ((lowEnd l cs).1 * (highEnd l cs).2) := Int.mul_assoc _ _ _
  constructor
  · intro g
    have g1 : 60 * (lowEnd l cs).1 * (highEnd l cs).2 ≤ in60 (highEnd l cs) * (lowEnd l cs).2 * (highEnd l cs).2 := by omega
    exact Int.le_of_mul_le_mul_right g1 (by omega)
  · intro g
    have g1 : 60 * (lowEnd l cs).1 * (highEnd l cs).2 ≤ in60 (highEnd l cs) * (lowEnd l cs).2 * (highEnd l cs).2 := Int.mul_le_mul_of_nonneg_right g (by omega)
    omega
/-- What is tried finds just the ends. -/
theorem Six.found {l : PLog} {cs : List Int} (h : Six l cs) {a g : Int} {f : Bool} (ht : TI (works60R l.ps cs) (60 * l.lo) (60 * l.hi + 1) a g f) :
    f = Go.Proofs.Ytjgebepeghgmcaa.possible l cs ∧ (f = true → a = in60 (lowEnd l cs) ∧ g = in60 (highEnd l cs)) := by
  obtain ⟨e1, e2⟩ := h.ends
  have hyes : f = true → in60 (lowEnd l cs) ≤ in60 (highEnd l cs) ∧ a = in60 (lowEnd l cs) ∧ g = in60 (highEnd l cs) := fun hf => by
    obtain ⟨h1, h2, h3, h4, h5, h6, h7⟩ := ht.yes hf
    have w1 := (h.works h1 (by omega)).1 h3
    have w2 := (h.works h4 (by omega)).1 h6
    have w3 := h7 (in60 (lowEnd l cs)) e1 (by omega) ((h.works e1 (by omega)).2 ⟨by omega, by omega⟩)
    have w4 := h7 (in60 (highEnd l cs)) (by omega) (by omega) ((h.works (by omega) e2).2 ⟨by omega, by omega⟩)
    exact ⟨by omega, by omega, by omega⟩
  refine ⟨?_, fun hf => (hyes hf).2⟩
  cases hf : f with
  | true => exact (h.poss.2 (hyes hf).1).symm
  | false =>
    have hno := (ht.no hf).2.2
    cases hp : Go.Proofs.Ytjgebepeghgmcaa.possible l cs with
    | false => rfl
    | true =>
      have hle := h.poss.1 hp
      have := hno (in60 (lowEnd l cs)) e1 (by omega)
      rw [(h.works e1 (by omega)).2 ⟨by omega, hle⟩] at this
      cases this

end Go.Proofs.Ytjgebepeghgmcaa

/-! ## Plain6: Plain facts: two pairs that contradict each other prove that counts are not possible; the pairs of the ends do just where they are not. -/
namespace Go.Proofs.Ytjgebepeghgmcaa

/-- Two pairs do not contradict each other. -/
def agree (l : PLog) (cs : List Int) (p q : Nat × Nat) : Prop :=
  cmpR (bel l.ps cs p) (abv l.ps cs q) ≤ 0 ∧ cmpR (bel l.ps cs p) (l.hi, 1) ≤ 0 ∧ 0 ≤ cmpR (abv l.ps cs q) (l.lo, 1)

theorem possible_agree {l : PLog} {cs : List Int} (hl : LOk l) (hc : COk l cs) (h : possible l cs = true) {p q : Nat × Nat} (hp : p.1 < p.2 ∧ p.2 ≤ cs.length) (hq : q.1 < q.2 ∧ q.2 ≤ cs.length) : agree l cs p q := by
  have L := low_is hl hc
  have H := high_is hl hc
  have e1 := L.pair p.1 p.2 hp.1 hp.2
  have e2 := H.pair q.1 q.2 hq.1 hq.2
  have d1 := (bel_small hl hc hp.1 hp.2).2.1
  have d2 := bel_small hl hc hq.1 hq.2
  have d3 : 1 ≤ (abv l.ps cs q).2 := by rw [d2.2.2.2.2.1]; exact d2.2.1
  have a1 := L.pos
  have b1 := H.pos
  have alo := L.lo
  have bhi := H.hi
  have e : (lowEnd l cs).1 * (highEnd l cs).2 ≤ (highEnd l cs).1 * (lowEnd l cs).2 := by
    unfold possible cmpR at h
    have := of_decide_eq_true h
    omega
  have t1 : (bel l.ps cs p).1 * (highEnd l cs).2 ≤ (highEnd l cs).1 * (bel l.ps cs p).2 := cross_trans (by omega) (by omega) (by omega) e1 e
  have t2 : (bel l.ps cs p).1 * (abv l.ps cs q).2 ≤ (abv l.ps cs q).1 * (bel l.ps cs p).2 := cross_trans (by omega) (by omega) (by omega) t1 e2
  have t3 : (bel l.ps cs p).1 * 1 ≤ l.hi * (bel l.ps cs p).2 := cross_trans (by omega) (by omega : 0 < (highEnd l cs).2) (by decide) t1 (by omega)
  have t4 : l.lo * (highEnd l cs).2 ≤ (highEnd l cs).1 * 1 := cross_trans (by decide) (by omega : 0 < (lowEnd l cs).2) (by omega) (by omega) e
  have t5 : l.lo * (abv l.ps cs q).2 ≤ (abv l.ps cs q).1 * 1 := cross_trans (by decide) (by omega : 0 < (highEnd l cs).2) (by omega) t4 e2
  unfold agree cmpR
  dsimp only
  omega

theorem agree_possible {l : PLog} {cs : List Int} (hl : LOk l) (h : agree l cs (lowOf l.ps cs) (highOf l.ps cs)) : possible l cs = true := by
  have := hl.lohi
  unfold agree cmpR at h
  dsimp only at h
  unfold possible lowEnd highEnd cmpR
  apply decide_eq_true
  split
  · dsimp only; omega
  · split <;> split <;> (try dsimp only) <;> omega

theorem verify_pairs {l : PLog} {cs : List Int} (hcd : countedL l cs = 0) {p q : Int × Int} (hp : pairOk p l.ps.length = true) (hq : pairOk q l.ps.length = true) :
    (verifyR l cs p q = 12 ∧ agree l cs (natPair p) (natPair q)) ∨ (verifyR l cs p q = 0 ∧ ¬ agree l cs (natPair p) (natPair q)) := by
  unfold verifyR
  rw [if_neg (by rw [hcd]; simp), if_neg (by rw [hp, hq]; simp)]
  by_cases h : agree l cs (natPair p) (natPair q)
  · left
    refine ⟨?_, h⟩
    unfold agree at h
    rw [if_pos h]
  · right
    refine ⟨?_, h⟩
    unfold agree at h
    rw [if_neg h]

end Go.Proofs.Ytjgebepeghgmcaa

/-! ## Watch4: The log of a watch is valid; counts for it. -/
namespace Go.Proofs.Ytjgebepeghgmcaa

theorem WNum.los_ps (x : WNum) {k i : Nat} (h : i < k) : los (x.ps k) i = (x.span i).1 ∧ his (x.ps k) i = (x.span i).2 := by
  have e : (x.ps k).getD i (0, 0) = x.span i := by
    unfold WNum.ps
    simp [List.getD, h]
  unfold los his
  rw [e]
  exact ⟨rfl, rfl⟩
theorem WNum.n_is (x : WNum) : x.n = 2 ∨ x.n = 3 := by
  unfold WNum.n
  split
  · exact .inl rfl
  · exact .inr rfl
theorem WNum.span_bound {x : WNum} (h : x.Ok) (k : Nat) (hk : k < 3) : 0 ≤ (x.span k).1 ∧ (x.span k).1 ≤ (x.span k).2 ∧ (x.span k).2 ≤ 20 ∧ (x.span k).2 < (x.span (k + 1)).1 := by
  have h1 := h.t (2 * k)
  have h2 := h.t (2 * k + 1)
  have h3 := h.t (2 * (k + 1))
  have h4 := x.at_bound h k
  simp only [WNum.span, WNum.at]
  omega
theorem WNum.lo_hi {x : WNum} (h : x.Ok) : 3 ≤ x.lo ∧ x.lo ≤ x.hi ∧ x.hi ≤ 8 := by
  have := h.p0
  have := h.p1
  simp only [WNum.hi, WNum.lo]
  omega
theorem WNum.lok {x : WNum} (h : x.Ok) : LOk x.log := by
  have hn := x.n_is
  obtain ⟨h1, h2, h3⟩ := x.lo_hi h
  refine ⟨?_, ?_, ?_, ?_, ?_, ?_, ?_⟩
  · show 1 ≤ x.lo; omega
  · exact h2
  · show x.hi ≤ 10000; omega
  · show 2 ≤ (x.ps x.n).length; rw [x.ps_len]; omega
  · show (x.ps x.n).length ≤ 8; rw [x.ps_len]; omega
  · intro i hi
    have hi' : i < x.n := by have : i < (x.ps x.n).length := hi; rwa [x.ps_len] at this
    obtain ⟨e1, e2⟩ := x.los_ps hi'
    show 0 ≤ los (x.ps x.n) i ∧ los (x.ps x.n) i ≤ his (x.ps x.n) i ∧ his (x.ps x.n) i ≤ 1000000
    rw [e1, e2]
    have := x.span_bound h i (by omega)
    omega
  · intro i hi
    have hi' : i + 1 < x.n := by have : i + 1 < (x.ps x.n).length := hi; rwa [x.ps_len] at this
    obtain ⟨e1, e2⟩ := x.los_ps (by omega : i < x.n)
    obtain ⟨e3, e4⟩ := x.los_ps hi'
    show his (x.ps x.n) i < los (x.ps x.n) (i + 1)
    rw [e2, e3]
    exact (x.span_bound h i (by omega)).2.2.2

/-- Counts for a watch: one or two, together at most six. -/
structure CSix (x : WNum) (cs : List Int) : Prop where
  len : cs.length + 1 = x.n
  pos : ∀ c ∈ cs, 1 ≤ c
  six : cs.sum ≤ 6

theorem sum_le_of_pos : ∀ (cs : List Int), (∀ c ∈ cs, 1 ≤ c) → 0 ≤ cs.sum ∧ ∀ c ∈ cs, c ≤ cs.sum
  | [], _ => ⟨by simp, fun c hc => by cases hc⟩
  | y :: ys, h => by
    obtain ⟨h1, h2⟩ := sum_le_of_pos ys fun c hc => h c (List.mem_cons_of_mem _ hc)
    have hy := h y List.mem_cons_self
    rw [List.sum_cons]
    refine ⟨by omega, fun c hc => ?_⟩
    rcases List.mem_cons.1 hc with rfl | hc
    · omega
    · have := h2 c hc; omega
theorem sum_append_pos (a b : List Int) (h : ∀ c ∈ a ++ b, 1 ≤ c) : a.sum ≤ (a ++ b).sum ∧ b.sum ≤ (a ++ b).sum := by
  have h1 := (sum_le_of_pos a fun c hc => h c (List.mem_append_left _ hc)).1
  have h2 := (sum_le_of_pos b fun c hc => h c (List.mem_append_right _ hc)).1
  rw [List.sum_append]
  omega
theorem csum_le {cs : List Int} (h : ∀ c ∈ cs, 1 ≤ c) (i k : Nat) : csum cs i k ≤ cs.sum := by
  unfold csum
  have e1 := (sum_append_pos ((cs.drop i).take (k - i)) ((cs.drop i).drop (k - i)) (by rw [List.take_append_drop]; exact fun c hc => h c (List.mem_of_mem_drop hc))).1
  rw [List.take_append_drop] at e1
  have e2 := (sum_append_pos (cs.take i) (cs.drop i) (by rw [List.take_append_drop]; exact h)).2
  rw [List.take_append_drop] at e2
  omega

theorem CSix.six_ok {x : WNum} {cs : List Int} (hx : x.Ok) (h : CSix x cs) : Six x.log cs := by
  have hl := x.lok hx
  have hn := x.n_is
  have hlen := h.len
  have hs := sum_le_of_pos cs h.pos
  have h6 := h.six
  have hpl : x.log.ps.length = x.n := x.ps_len _
  have hc : ∀ c ∈ cs, 1 ≤ c ∧ c ≤ 1000000 := fun c hc => ⟨h.pos c hc, by have := hs.2 c hc; omega⟩
  refine ⟨hl, ⟨by omega, hc⟩, ?_, fun p hp0 hp1 => ?_, fun i k _ _ => ?_⟩
  · have := (x.lo_hi hx).2.2
    show x.hi ≤ 1000
    omega
  · refine ⟨hp0, hp1, by omega, by omega, fun k hk => ?_, fun k hk => ?_, fun c h' => ?_⟩
    · have := hl.inb k hk; omega
    · have := hl.inb k hk; omega
    · have := hc c h'; omega
  · have := csum_le h.pos i k
    omega

theorem checkPs_of : ∀ (ps : List (Int × Int)) (last : Int), (∀ i, i < ps.length → 0 ≤ los ps i ∧ los ps i ≤ his ps i ∧ his ps i ≤ 1000000) → (∀ i, i + 1 < ps.length → his ps i < los ps (i + 1)) → (0 < ps.length → last < los ps 0) → checkPs last ps = 0
  | [], _, _, _, _ => rfl
  | p :: r, last, h1, h2, h3 => by
    have a := h1 0 (by simp)
    have b := h3 (by simp)
    simp only [los, his, List.getD_cons_zero] at a b
    unfold checkPs
    rw [if_neg (by omega), if_neg (by omega)]
    refine checkPs_of r p.2 (fun i hi => ?_) (fun i hi => ?_) (fun h0 => ?_)
    · have := h1 (i + 1) (by simp; omega)
      simpa [los, his] using this
    · have := h2 (i + 1) (by simp; omega)
      simpa [los, his] using this
    · have := h2 0 (by simp; omega)
      simpa [los, his] using this
theorem checkL_of {l : PLog} (h : LOk l) : checkL l = 0 := by
  have h1 := h.lo1
  have h2 := h.lohi
  have h3 := h.hi1
  have h4 := h.len2
  have h5 := h.len8
  unfold checkL
  rw [if_neg (by omega), if_neg (by omega), if_neg (by omega)]
  exact checkPs_of l.ps (-1) h.inb h.inc (fun h0 => by have := h.inb 0 h0; omega)
theorem countedL_of {l : PLog} {cs : List Int} (h : LOk l) (hc : COk l cs) (hlen : cs.length + 1 = l.ps.length) : countedL l cs = 0 := by
  unfold countedL
  rw [if_neg (by rw [checkL_of h]; simp), if_neg (by omega), if_neg]
  simp only [List.any_eq_true, not_exists, not_and]
  intro c hcm
  have := hc.inb c hcm
  simp [this]

end Go.Proofs.Ytjgebepeghgmcaa

/-! ## Plain7: Plain facts: all counts are just those that are possible, in order. -/
namespace Go.Proofs.Ytjgebepeghgmcaa
set_option linter.unusedVariables false
set_option linter.unusedSimpArgs false

/-! ### more counts, narrower bounds -/
theorem csum_app (cs es : List Int) (i k : Nat) (hk : k ≤ cs.length) : csum (cs ++ es) i k = csum cs i k := by
  unfold csum
  by_cases hi : i ≤ cs.length
  · rw [List.drop_append_of_le_length hi, List.take_append_of_le_length (by rw [List.length_drop]; omega)]
  · rw [show k - i = 0 by omega]
    simp
theorem bel_app (ps : List (Int × Int)) (cs es : List Int) (i k : Nat) (hk : k ≤ cs.length) : bel ps (cs ++ es) (i, k) = bel ps cs (i, k) ∧ abv ps (cs ++ es) (i, k) = abv ps cs (i, k) := by
  unfold bel abv
  dsimp only
  rw [csum_app cs es i k hk]
  exact ⟨rfl, rfl⟩
theorem COk.left {l : PLog} {cs es : List Int} (h : COk l (cs ++ es)) : COk l cs :=
  ⟨by have := h.len; simp at this; omega, fun x hx => h.inb x (List.mem_append_left _ hx)⟩

theorem ends_app {l : PLog} {cs es : List Int} (hl : LOk l) (hc : COk l (cs ++ es)) :
    (lowEnd l cs).1 * (lowEnd l (cs ++ es)).2 ≤ (lowEnd l (cs ++ es)).1 * (lowEnd l cs).2 ∧ (highEnd l (cs ++ es)).1 * (highEnd l cs).2 ≤ (highEnd l cs).1 * (highEnd l (cs ++ es)).2 := by
  have L := low_is hl hc.left
  have H := high_is hl hc.left
  have L' := low_is hl hc
  have H' := high_is hl hc
  constructor
  · rcases L.is with e | ⟨i, k, hik, hk, e⟩
    · rw [e]
      have := L'.lo
      dsimp only
      omega
    · have := L'.pair i k hik (by simp; omega)
      rw [(bel_app l.ps cs es i k hk).1, ← e] at this
      exact this
  · rcases H.is with e | ⟨i, k, hik, hk, e⟩
    · rw [e]
      have := H'.hi
      dsimp only
      omega
    · have := H'.pair i k hik (by simp; omega)
      rw [(bel_app l.ps cs es i k hk).2, ← e] at this
      exact this
theorem possible_le {l : PLog} {cs : List Int} : possible l cs = true ↔ (lowEnd l cs).1 * (highEnd l cs).2 ≤ (highEnd l cs).1 * (lowEnd l cs).2 := by
  unfold possible cmpR
  rw [decide_eq_true_iff]
  omega
theorem possible_app {l : PLog} {cs es : List Int} (hl : LOk l) (hc : COk l (cs ++ es)) (h : possible l (cs ++ es) = true) : possible l cs = true := by
  rw [possible_le] at h ⊢
  obtain ⟨h1, h2⟩ := ends_app hl hc
  have L := low_is hl hc.left
  have H := high_is hl hc.left
  have L' := low_is hl hc
  have H' := high_is hl hc
  have g1 := cross_trans (a := (lowEnd l cs).1) (b := (lowEnd l cs).2) (c := (lowEnd l (cs ++ es)).1) (d := (lowEnd l (cs ++ es)).2) (e := (highEnd l (cs ++ es)).1) (f := (highEnd l (cs ++ es)).2) (by have := L.pos; omega) (by have := L'.pos; omega) (by have := H'.pos; omega) h1 h
  exact cross_trans (by have := L.pos; omega) (by have := H'.pos; omega) (by have := H.pos; omega) g1 h2

theorem csum_last (cs : List Int) (n : Int) : csum (cs ++ [n]) cs.length (cs.length + 1) = n := by
  unfold csum
  rw [List.drop_append_of_le_length (Nat.le_refl _), List.drop_length, List.nil_append, show cs.length + 1 - cs.length = 1 by omega]
  simp
/-- The next count lies between the two numbers from which, and up to which, it is looked for. -/
theorem count_range {l : PLog} {cs : List Int} {n : Int} (hl : LOk l) (hc : COk l (cs ++ [n])) (h : possible l (cs ++ [n]) = true) : firstN l cs ≤ n ∧ n ≤ lastN l cs := by
  have hn := hc.inb n (by simp)
  have hlen := hc.len
  have L := low_is hl hc.left
  have H := high_is hl hc.left
  have L' := low_is hl hc
  have H' := high_is hl hc
  have E := ends_pos hl hc.left
  obtain ⟨h1, h2⟩ := ends_app hl hc
  rw [possible_le] at h
  have pl := L'.pair cs.length (cs.length + 1) (by omega) (by simp)
  have ph := H'.pair cs.length (cs.length + 1) (by omega) (by simp)
  unfold bel at pl
  unfold abv at ph
  dsimp only at pl ph
  rw [csum_last] at pl ph
  have g1 := cross_trans (a := los l.ps (cs.length + 1) - his l.ps cs.length) (b := n) (c := (lowEnd l (cs ++ [n])).1) (d := (lowEnd l (cs ++ [n])).2) (e := (highEnd l (cs ++ [n])).1) (f := (highEnd l (cs ++ [n])).2) (by omega) (by have := L'.pos; omega) (by have := H'.pos; omega) pl h
  have g2 := cross_trans (by omega) (by have := H'.pos; omega) (by have := H.pos; omega) g1 h2
  have g3 := cross_trans (a := (lowEnd l cs).1) (b := (lowEnd l cs).2) (c := (lowEnd l (cs ++ [n])).1) (d := (lowEnd l (cs ++ [n])).2) (e := (highEnd l (cs ++ [n])).1) (f := (highEnd l (cs ++ [n])).2) (by have := L.pos; omega) (by have := L'.pos; omega) (by have := H'.pos; omega) h1 h
  have g4 := cross_trans (by have := L.pos; omega) (by have := H'.pos; omega) (by omega) g3 ph
  constructor
  · unfold firstN gapLo
    refine Int.max_le.2 ⟨hn.1, ?_⟩
    rw [Int.mul_comm (highEnd l cs).1 n] at g2
    exact Int.le_of_lt_add_one ((Int.ediv_lt_iff_lt_mul (by omega)).2 (by
      have : (n + 1) * (highEnd l cs).1 = n * (highEnd l cs).1 + (highEnd l cs).1 := by rw [Int.add_mul, Int.one_mul]
      omega))
  · unfold lastN gapHi
    rw [Int.mul_comm (lowEnd l cs).1 n] at g4
    exact (Int.le_ediv_iff_mul_le (by omega)).2 g4

/-! ### what is among all counts -/
theorem mem_nsFrom {n last x : Int} : x ∈ nsFrom n last ↔ n ≤ x ∧ x ≤ last := by
  unfold nsFrom
  simp only [List.mem_map, List.mem_range]
  constructor
  · rintro ⟨j, hj, rfl⟩
    omega
  · rintro ⟨h1, h2⟩
    exact ⟨(x - n).toNat, by omega, by omega⟩

theorem mem_cntAll {l : PLog} (hl : LOk l) : ∀ (k : Nat) (cs c : List Int), COk l cs → cs.length + 1 + k = l.ps.length → possible l cs = true →
    (c ∈ cntAll k l cs ↔ ∃ ds, ds.length = k ∧ c = cs ++ ds ∧ COk l c ∧ possible l c = true)
  | 0, cs, c, hcs, hlen, hp => by
    unfold cntAll
    rw [List.mem_singleton]
    constructor
    · rintro rfl
      exact ⟨[], rfl, by simp, hcs, hp⟩
    · rintro ⟨ds, hd, rfl, _⟩
      obtain rfl := List.length_eq_zero_iff.1 hd
      simp
  | k + 1, cs, c, hcs, hlen, hp => by
    unfold cntAll
    rw [List.mem_flatMap]
    constructor
    · rintro ⟨n, hn, hm⟩
      rw [mem_nsFrom] at hn
      split at hm
      · rename_i hpn
        have hcn : COk l (cs ++ [n]) := by
          refine ⟨by simp; omega, fun x hx => ?_⟩
          rcases List.mem_append.1 hx with h | h
          · exact hcs.inb x h
          · obtain rfl := List.mem_singleton.1 h
            have e := ends_pos hl hcs
            have g := low_ge hl hcs
            have h1 : 1 ≤ x := Int.le_trans (by unfold firstN; omega) hn.1
            have hg := hl.inb (cs.length + 1) (by omega)
            have hg2 := hl.inb cs.length (by omega)
            refine ⟨h1, Int.le_trans hn.2 ?_⟩
            unfold lastN gapHi
            have hlo : los l.ps cs.length ≤ his l.ps (cs.length + 1) := by have := hl.inc cs.length (by omega); omega
            exact Int.le_trans (div_le_of_le (by omega) (by omega) g (by omega)) (by omega)
        obtain ⟨ds, h1, h2, h3, h4⟩ := (mem_cntAll hl k (cs ++ [n]) c hcn (by simp; omega) hpn).1 hm
        exact ⟨n :: ds, by simp [h1], by rw [h2]; simp, h3, h4⟩
      · cases hm
    · rintro ⟨ds, hd, rfl, h3, h4⟩
      match ds, hd with
      | n :: ds, hd =>
        have e : cs ++ n :: ds = (cs ++ [n]) ++ ds := by simp
        rw [e] at h3 h4 ⊢
        have hcn := h3.left
        have hpn := possible_app hl h3 h4
        refine ⟨n, mem_nsFrom.2 (count_range hl hcn hpn), ?_⟩
        rw [if_pos hpn]
        exact (mem_cntAll hl k (cs ++ [n]) _ hcn (by simp; omega) hpn).2 ⟨ds, by simpa using hd, rfl, h3, h4⟩

theorem mem_allC {l : PLog} (hl : LOk l) (c : List Int) : c ∈ allC l ↔ c.length + 1 = l.ps.length ∧ COk l c ∧ possible l c = true := by
  have h2 := hl.len2
  unfold allC
  rw [mem_cntAll hl (l.ps.length - 1) [] c ⟨by simp; omega, fun x hx => (by cases hx)⟩ (by simp; omega) (possible_nil hl)]
  constructor
  · rintro ⟨ds, h1, rfl, h3, h4⟩
    exact ⟨by omega, h3, h4⟩
  · rintro ⟨h1, h3, h4⟩
    exact ⟨c, by omega, by simp, h3, h4⟩

/-! ### in order -/
def lexlt : List Int → List Int → Prop
  | [], _ => False
  | _ :: _, [] => False
  | a :: r, b :: t => a < b ∨ a = b ∧ lexlt r t
theorem lexlt_irrefl : ∀ a, ¬ lexlt a a
  | [] => fun h => h
  | a :: r => fun h => by
    unfold lexlt at h
    rcases h with h | ⟨_, h⟩
    · omega
    · exact lexlt_irrefl r h
theorem lexlt_trans : ∀ a b c, lexlt a b → lexlt b c → lexlt a c
  | [], _, _, h, _ => h.elim
  | a :: r, [], _, h, _ => h.elim
  | a :: r, b :: t, [], _, h => h.elim
  | a :: r, b :: t, c :: u, h1, h2 => by
    unfold lexlt at h1 h2 ⊢
    rcases h1 with h1 | ⟨rfl, h1⟩
    · rcases h2 with h2 | ⟨rfl, h2⟩
      · exact .inl (by omega)
      · exact .inl h1
    · rcases h2 with h2 | ⟨rfl, h2⟩
      · exact .inl h2
      · exact .inr ⟨rfl, lexlt_trans r t u h1 h2⟩
theorem lexlt_app : ∀ cs a b, lexlt a b → lexlt (cs ++ a) (cs ++ b)
  | [], _, _, h => h
  | c :: cs, a, b, h => Or.inr ⟨rfl, lexlt_app cs a b h⟩

theorem pair_flat {α : Type} {r : List Int → List Int → Prop} {f : α → List (List Int)} : ∀ {xs : List α}, (∀ x ∈ xs, (f x).Pairwise r) → xs.Pairwise (fun x y => ∀ a ∈ f x, ∀ b ∈ f y, r a b) → (xs.flatMap f).Pairwise r
  | [], _, _ => List.Pairwise.nil
  | x :: xs, h1, h2 => by
    rw [List.flatMap_cons, List.pairwise_append]
    obtain ⟨h3, h4⟩ := List.pairwise_cons.1 h2
    refine ⟨h1 x List.mem_cons_self, pair_flat (fun y hy => h1 y (List.mem_cons_of_mem _ hy)) h4, fun a ha b hb => ?_⟩
    obtain ⟨y, hy, hb⟩ := List.mem_flatMap.1 hb
    exact h3 y hy a ha b hb
theorem nsFrom_sorted (n last : Int) : (nsFrom n last).Pairwise (· < ·) := by
  unfold nsFrom
  rw [List.pairwise_map]
  exact List.Pairwise.imp (fun h => by omega) List.pairwise_lt_range

theorem cntAll_begins : ∀ (k : Nat) (l : PLog) (cs c : List Int), c ∈ cntAll k l cs → ∃ ds, c = cs ++ ds
  | 0, l, cs, c, h => ⟨[], by unfold cntAll at h; rw [List.mem_singleton] at h; simp [h]⟩
  | k + 1, l, cs, c, h => by
    unfold cntAll at h
    obtain ⟨n, _, hm⟩ := List.mem_flatMap.1 h
    split at hm
    · obtain ⟨ds, rfl⟩ := cntAll_begins k l _ _ hm
      exact ⟨n :: ds, by simp⟩
    · cases hm
theorem cntAll_sorted : ∀ (k : Nat) (l : PLog) (cs : List Int), (cntAll k l cs).Pairwise lexlt
  | 0, l, cs => List.pairwise_singleton _ _
  | k + 1, l, cs => by
    unfold cntAll
    refine pair_flat (fun n _ => ?_) ((nsFrom_sorted _ _).imp fun {n m} hnm a ha b hb => ?_)
    · split
      · exact cntAll_sorted k l _
      · exact List.Pairwise.nil
    · split at ha
      · split at hb
        · obtain ⟨ds, rfl⟩ := cntAll_begins _ _ _ _ ha
          obtain ⟨es, rfl⟩ := cntAll_begins _ _ _ _ hb
          rw [List.append_assoc, List.append_assoc]
          exact lexlt_app cs _ _ (Or.inl hnm)
        · cases hb
      · cases ha
theorem allC_sorted (l : PLog) : (allC l).Pairwise lexlt := cntAll_sorted _ _ _

/-- Two ordered lists of the same elements are equal. -/
theorem sorted_ext {α : Type} {r : α → α → Prop} (hi : ∀ a, ¬ r a a) (ht : ∀ a b c, r a b → r b c → r a c) : ∀ (xs ys : List α), xs.Pairwise r → ys.Pairwise r → (∀ a, a ∈ xs ↔ a ∈ ys) → xs = ys
  | [], [], _, _, _ => rfl
  | [], y :: ys, _, _, h => absurd ((h y).2 List.mem_cons_self) (by simp)
  | x :: xs, [], _, _, h => absurd ((h x).1 List.mem_cons_self) (by simp)
  | x :: xs, y :: ys, h1, h2, h => by
    obtain ⟨a1, a2⟩ := List.pairwise_cons.1 h1
    obtain ⟨b1, b2⟩ := List.pairwise_cons.1 h2
    have exy : x = y := by
      rcases List.mem_cons.1 ((h x).1 List.mem_cons_self) with e | e
      · exact e
      · rcases List.mem_cons.1 ((h y).2 List.mem_cons_self) with e' | e'
        · exact e'.symm
        · exact absurd (ht _ _ _ (b1 x e) (a1 y e')) (hi y)
    subst exy
    refine List.cons_eq_cons.2 ⟨rfl, sorted_ext hi ht xs ys a2 b2 fun a => ?_⟩
    constructor
    · intro ha
      rcases List.mem_cons.1 ((h a).1 (List.mem_cons_of_mem _ ha)) with e | e
      · subst e
        exact absurd (a1 a ha) (hi a)
      · exact e
    · intro ha
      rcases List.mem_cons.1 ((h a).2 (List.mem_cons_of_mem _ ha)) with e | e
      · subst e
        exact absurd (b1 a ha) (hi a)
      · exact e

end Go.Proofs.Ytjgebepeghgmcaa

/-! ## Plain8: Plain facts: the counts of a watch are those that are possible among all of a sum of at most six, in order; the sums. -/
namespace Go.Proofs.Ytjgebepeghgmcaa
set_option linter.unusedVariables false
set_option linter.unusedSimpArgs false

/-- What the inner loop tries from b on. -/
def restB (two : Bool) (a b : Int) : List (List Int) := if two then (nsFrom b 1).map fun _ => [a] else (nsFrom b (6 - a)).map fun b => [a, b]
/-- What the outer loop tries from a on. -/
def restA (two : Bool) (a : Int) : List (List Int) := (nsFrom a 6).flatMap fun a => restB two a 1

theorem restA_lt {two : Bool} {a : Int} (h : a ≤ 6) : restA two a = restB two a 1 ++ restA two (a + 1) := by
  unfold restA
  rw [nsFrom_lt h, List.flatMap_cons]
theorem restA_ge {two : Bool} {a : Int} (h : 6 < a) : restA two a = [] := by
  unfold restA
  rw [nsFrom_ge h]
  rfl
theorem restB_two {a b : Int} (h : b ≤ 1) : restB true a b = [a] :: restB true a (b + 1) := by
  unfold restB
  rw [if_pos rfl, if_pos rfl, nsFrom_lt h]
  rfl
theorem restB_two_no {a b : Int} (h : 1 < b) : restB true a b = [] := by
  unfold restB
  rw [if_pos rfl, nsFrom_ge h]
  rfl
theorem restB_three {a b : Int} (h : a + b ≤ 6) : restB false a b = [a, b] :: restB false a (b + 1) := by
  unfold restB
  rw [if_neg (by simp), if_neg (by simp), nsFrom_lt (by omega)]
  rfl
theorem restB_three_no {a b : Int} (h : 6 < a + b) : restB false a b = [] := by
  unfold restB
  rw [if_neg (by simp), nsFrom_ge (by omega)]
  rfl

theorem mem_restA {two : Bool} {c : List Int} : c ∈ restA two 1 ↔ c.length = (if two then 1 else 2) ∧ (∀ x ∈ c, 1 ≤ x) ∧ c.sum ≤ 6 := by
  unfold restA restB
  rw [List.mem_flatMap]
  cases two with
  | true =>
    simp only [if_true]
    constructor
    · rintro ⟨a, ha, hc⟩
      obtain ⟨b, hb, rfl⟩ := List.mem_map.1 hc
      rw [mem_nsFrom] at ha
      simp
      omega
    · rintro ⟨h1, h2, h3⟩
      match c, h1 with
      | [a], _ =>
        have := h2 a (by simp)
        simp at h3
        exact ⟨a, mem_nsFrom.2 ⟨this, h3⟩, List.mem_map.2 ⟨1, mem_nsFrom.2 ⟨by omega, by omega⟩, rfl⟩⟩
  | false =>
    simp only [Bool.false_eq_true, if_false]
    constructor
    · rintro ⟨a, ha, hc⟩
      obtain ⟨b, hb, rfl⟩ := List.mem_map.1 hc
      rw [mem_nsFrom] at ha hb
      simp
      omega
    · rintro ⟨h1, h2, h3⟩
      match c, h1 with
      | [a, b], _ =>
        have := h2 a (by simp)
        have := h2 b (by simp)
        simp at h3
        exact ⟨a, mem_nsFrom.2 ⟨by omega, by omega⟩, List.mem_map.2 ⟨b, mem_nsFrom.2 ⟨by omega, by omega⟩, rfl⟩⟩
theorem restA_sorted (two : Bool) : (restA two 1).Pairwise lexlt := by
  unfold restA
  refine pair_flat (fun a _ => ?_) ((nsFrom_sorted _ _).imp fun {n m} hnm c hc d hd => ?_)
  · unfold restB
    split
    · rw [show nsFrom 1 1 = [1] by decide]
      exact List.pairwise_singleton _ _
    · rw [List.pairwise_map]
      exact (nsFrom_sorted _ _).imp fun h => Or.inr ⟨rfl, Or.inl h⟩
  · unfold restB at hc hd
    split at hc
    · rename_i h2
      obtain ⟨_, _, rfl⟩ := List.mem_map.1 hc
      rw [if_pos h2] at hd
      obtain ⟨_, _, rfl⟩ := List.mem_map.1 hd
      exact Or.inl hnm
    · rename_i h2
      obtain ⟨_, _, rfl⟩ := List.mem_map.1 hc
      rw [if_neg h2] at hd
      obtain ⟨_, _, rfl⟩ := List.mem_map.1 hd
      exact Or.inl hnm

/-- The sum of possible counts of a watch. -/
theorem watch_six {x : WNum} (hx : x.Ok) {c : List Int} (hlen : c.length + 1 = x.n) (hc : COk x.log c) (hp : possible x.log c = true) : c.sum ≤ 6 := by
  have hl := x.lok hx
  have H := high_is hl hc
  have L := low_is hl hc
  have hn := x.n_is
  have hlh := x.lo_hi hx
  rw [possible_le] at hp
  have e := H.pair 0 c.length (by omega) (Nat.le_refl _)
  unfold abv at e
  dsimp only at e
  have hs : csum c 0 c.length = c.sum := by unfold csum; rw [List.drop_zero, Nat.sub_zero, List.take_length]
  have hcs := csum_bound hc 0 c.length (by omega) (Nat.le_refl _)
  rw [hs] at e hcs
  have g0 := L.lo
  have g1 := cross_trans (a := x.log.lo) (b := 1) (c := (lowEnd x.log c).1) (d := (lowEnd x.log c).2) (e := (highEnd x.log c).1) (f := (highEnd x.log c).2) (by decide) (by have := L.pos; omega) (by have := H.pos; omega) (by omega) hp
  have g2 := cross_trans (by decide) (by have := H.pos; omega) (by omega) g1 e
  have e1 : los x.log.ps 0 = (x.span 0).1 := (x.los_ps (by omega : 0 < x.n)).1
  have e2 : his x.log.ps c.length = (x.span c.length).2 := (x.los_ps (by omega : c.length < x.n)).2
  rw [e1, e2] at g2
  have h0 := x.span_bound hx 0 (by omega)
  have t0 := hx.t 0
  have t1 := hx.t 1
  have t2 := hx.t 2
  have t3 := hx.t 3
  have t4 := hx.t 4
  have t5 := hx.t 5
  have hend : (x.span c.length).2 ≤ 17 := by
    rcases (by omega : c.length = 1 ∨ c.length = 2) with h | h <;> rw [h] <;> simp only [WNum.span, WNum.at] <;> omega
  have hlo : x.log.lo = x.lo := rfl
  rw [hlo] at g2
  by_cases h6 : c.sum ≤ 6
  · exact h6
  · have : x.lo * 7 ≤ x.lo * c.sum := Int.mul_le_mul_of_nonneg_left (by omega) (by omega)
    omega

/-- The counts of a watch. -/
theorem watch_counts {x : WNum} (hx : x.Ok) : allC x.log = (restA x.two 1).filter (possible x.log) := by
  have hl := x.lok hx
  have hpl : x.log.ps.length = x.n := x.ps_len _
  have hn : x.n = if x.two then 2 else 3 := rfl
  refine sorted_ext lexlt_irrefl lexlt_trans _ _ (allC_sorted _) ((restA_sorted _).filter _) fun c => ?_
  rw [mem_allC hl, List.mem_filter, mem_restA, hpl]
  constructor
  · rintro ⟨h1, h2, h3⟩
    refine ⟨⟨?_, fun y hy => (h2.inb y hy).1, watch_six hx h1 h2 h3⟩, h3⟩
    rw [hn] at h1
    split at h1 <;> simp_all
  · rintro ⟨⟨h1, h2, h3⟩, h4⟩
    have hlen : c.length + 1 = x.n := by
      rw [hn, h1]
      split <;> rfl
    refine ⟨hlen, ⟨by omega, fun y hy => ⟨h2 y hy, ?_⟩⟩, h4⟩
    have := (sum_le_of_pos c h2).2 y hy
    omega

/-- How few there are. -/
theorem watch_few {x : WNum} (hx : x.Ok) : (allC x.log).length ≤ 500 := by
  rw [watch_counts hx]
  refine Nat.le_trans (List.length_filter_le _ _) ?_
  cases x.two <;> decide
theorem watch_countsR {x : WNum} (hx : x.Ok) : countsR x.log = (allC x.log, 0) := by
  unfold countsR
  rw [if_neg (by rw [checkL_of (x.lok hx)]; simp), if_neg (by have := watch_few hx; omega)]

/-- The smallest and the greatest sum of what has been met. -/
structure SumI (pre : List (List Int)) (lo hi : Int) : Prop where
  all : ∀ c ∈ pre, lo ≤ c.sum ∧ c.sum ≤ hi
  some : pre ≠ [] → (∃ c ∈ pre, c.sum = lo) ∧ ∃ c ∈ pre, c.sum = hi
  none : pre = [] → lo = 100 ∧ hi = 0
theorem SumI.start : SumI [] 100 0 := ⟨fun _ h => (by cases h), fun h => absurd rfl h, fun _ => ⟨rfl, rfl⟩⟩
theorem SumI.more {pre : List (List Int)} {lo hi : Int} (h : SumI pre lo hi) (c : List Int) (h0 : 0 ≤ c.sum) (h1 : c.sum ≤ 100) : SumI (pre ++ [c]) (min lo c.sum) (max hi c.sum) := by
  refine ⟨fun d hd => ?_, fun _ => ?_, fun h => by simp at h⟩
  · rcases List.mem_append.1 hd with hd | hd
    · have := h.all d hd
      omega
    · obtain rfl := List.mem_singleton.1 hd
      omega
  · by_cases hp : pre = []
    · obtain ⟨rfl, rfl⟩ := h.none hp
      exact ⟨⟨c, by simp, by omega⟩, ⟨c, by simp, by omega⟩⟩
    · obtain ⟨⟨a, ha, ea⟩, b, hb, eb⟩ := h.some hp
      constructor
      · by_cases hl : lo ≤ c.sum
        · exact ⟨a, List.mem_append_left _ ha, by omega⟩
        · exact ⟨c, by simp, by omega⟩
      · by_cases hl : c.sum ≤ hi
        · exact ⟨b, List.mem_append_left _ hb, by omega⟩
        · exact ⟨c, by simp, by omega⟩
theorem sums_small {cs : List Int} (h : ∀ x ∈ cs, 1 ≤ x) (h6 : cs.sum ≤ 6) (hl : cs.length ≤ 8) : sumW cs = cs.sum := by
  have := (sum_le_of_pos cs h)
  exact (sumW_eq cs (by omega) (fun x hx => ⟨by have := h x hx; omega, by have := this.2 x hx; omega⟩)).1

theorem least_is {cs : List (List Int)} (hne : cs ≠ []) : leastC cs ∈ cs ∧ ∀ c ∈ cs, sumW (leastC cs) ≤ sumW c := by
  unfold leastC
  cases hb : firstBy (fun x y => decide (sumW x < sumW y)) cs with
  | none => exact absurd hb (firstBy_some _ _ hne)
  | some b =>
    refine ⟨firstBy_mem _ _ _ hb, fun c hc => ?_⟩
    have := pick_least (fun c => (sumW c, 1)) cs b (fun _ _ => Int.zero_lt_one) (by
      rw [← hb]
      congr 1
      funext x y
      refine decide_eq_decide.2 ?_
      unfold cmpR
      dsimp only
      omega) c hc
    unfold cmpR at this
    dsimp only at this
    show sumW b ≤ _
    omega
theorem most_is {cs : List (List Int)} (hne : cs ≠ []) : mostC cs ∈ cs ∧ ∀ c ∈ cs, sumW c ≤ sumW (mostC cs) := by
  unfold mostC
  cases hb : firstBy (fun x y => decide (sumW y < sumW x)) cs with
  | none => exact absurd hb (firstBy_some _ _ hne)
  | some b =>
    refine ⟨firstBy_mem _ _ _ hb, fun c hc => ?_⟩
    have := (pick_best (fun c => (sumW c, 1)) cs none b (fun _ _ => Int.zero_lt_one) (fun x h => by cases h) (by
      rw [← hb]
      unfold firstBy
      congr 1
      funext x y
      congr 1
      funext x y
      refine decide_eq_decide.2 ?_
      unfold cmpR
      dsimp only
      omega)).2 c hc
    unfold cmpR at this
    dsimp only at this
    show _ ≤ sumW b
    omega

/-- What Total returns for a watch. -/
theorem watch_total {x : WNum} (hx : x.Ok) {lo hi : Int} (h : SumI (allC x.log) lo hi) : (allC x.log = [] → totalR x.log = ((0, 0), 13)) ∧ (allC x.log ≠ [] → totalR x.log = ((lo, hi), 0)) := by
  have hl := x.lok hx
  have hpl : x.log.ps.length = x.n := x.ps_len _
  have hn := x.n_is
  have hsm : ∀ c ∈ allC x.log, sumW c = c.sum := fun c hc => by
    obtain ⟨h1, h2, h3⟩ := (mem_allC hl c).1 hc
    exact sums_small (fun y hy => (h2.inb y hy).1) (watch_six hx (by omega) h2 h3) (by omega)
  unfold totalR
  rw [watch_countsR hx]
  dsimp only
  constructor
  · intro e
    rw [if_neg (by simp), if_pos (by rw [e]; rfl)]
  · intro e
    obtain ⟨⟨a, ha, ea⟩, b, hb, eb⟩ := h.some e
    rw [if_neg (by simp), if_neg (by simpa using e)]
    obtain ⟨l1, l2⟩ := least_is e
    obtain ⟨m1, m2⟩ := most_is e
    have p1 := l2 a ha
    have p2 := m2 b hb
    have q1 := (h.all _ l1).1
    have q2 := (h.all _ m1).2
    rw [hsm _ l1, hsm a ha] at p1
    rw [hsm _ m1, hsm b hb] at p2
    rw [hsm _ l1, hsm _ m1]
    exact Prod.ext (Prod.ext (by dsimp only; omega) (by dsimp only; omega)) rfl

end Go.Proofs.Ytjgebepeghgmcaa

/-! ## Plain9: Plain facts: where all differences of times and both ends of the period are multiplied by the same number, the same counts are possible, with multiplied ends. -/
namespace Go.Proofs.Ytjgebepeghgmcaa
set_option linter.unusedVariables false
set_option linter.unusedSimpArgs false

theorem foldl_pick_congr {α : Type} {bt bt' : α → α → Bool} (S : α → Prop) (h : ∀ x y, S x → S y → bt x y = bt' x y) : ∀ (xs : List α) (o : Option α), (∀ x ∈ xs, S x) → (∀ x, o = some x → S x) → xs.foldl (pick bt) o = xs.foldl (pick bt') o
  | [], _, _, _ => rfl
  | x :: xs, o, h1, h2 => by
    have hx := h1 x List.mem_cons_self
    have e : pick bt o x = pick bt' o x := by
      cases o with
      | none => rfl
      | some b => simp only [pick]; rw [h x b hx (h2 b rfl)]
    rw [List.foldl_cons, List.foldl_cons, e]
    refine foldl_pick_congr S h xs _ (fun y hy => h1 y (List.mem_cons_of_mem _ hy)) fun y hy => ?_
    rcases pick_mem bt' o x y hy with rfl | hy
    · exact hx
    · exact h2 y hy
theorem firstBy_congr {α : Type} {bt bt' : α → α → Bool} (S : α → Prop) (h : ∀ x y, S x → S y → bt x y = bt' x y) (xs : List α) (h1 : ∀ x ∈ xs, S x) : firstBy bt xs = firstBy bt' xs :=
  foldl_pick_congr S h xs none h1 fun x hx => (by cases hx)

/-- All differences, and both ends of the period, are n times as great. -/
structure Sc (n : Int) (l l' : PLog) : Prop where
  n1 : 1 ≤ n
  lo : l'.lo = n * l.lo
  hi : l'.hi = n * l.hi
  len : l'.ps.length = l.ps.length
  dif : ∀ i k, i < k → k < l.ps.length → los l'.ps k - his l'.ps i = n * (los l.ps k - his l.ps i) ∧ his l'.ps k - los l'.ps i = n * (his l.ps k - los l.ps i)

theorem cmp_scaled (n : Int) (r o : Int × Int) : cmpR (n * r.1, r.2) (n * o.1, o.2) = n * cmpR r o := by
  unfold cmpR
  dsimp only
  rw [Int.mul_sub, Int.mul_assoc, Int.mul_assoc]
theorem pos_scaled {n x : Int} (hn : 1 ≤ n) : (0 < n * x ↔ 0 < x) ∧ (n * x < 0 ↔ x < 0) ∧ (n * x ≤ 0 ↔ x ≤ 0) := by
  have h : 0 < n := by omega
  refine ⟨⟨fun g => ?_, fun g => Int.mul_pos h g⟩, ⟨fun g => ?_, fun g => Int.mul_neg_of_pos_of_neg h g⟩, ⟨fun g => ?_, fun g => Int.mul_nonpos_of_nonneg_of_nonpos (by omega) g⟩⟩
  · by_cases hx : 0 < x
    · exact hx
    · have := Int.mul_nonpos_of_nonneg_of_nonpos (by omega : 0 ≤ n) (by omega : x ≤ 0); omega
  · by_cases hx : x < 0
    · exact hx
    · have := Int.mul_nonneg (by omega : 0 ≤ n) (by omega : 0 ≤ x); omega
  · by_cases hx : x ≤ 0
    · exact hx
    · have := Int.mul_pos h (by omega : 0 < x); omega

theorem Sc.bel {n : Int} {l l' : PLog} (h : Sc n l l') (cs : List Int) {p : Nat × Nat} (h1 : p.1 < p.2) (h2 : p.2 < l.ps.length) :
    Go.Proofs.Ytjgebepeghgmcaa.bel l'.ps cs p = (n * (Go.Proofs.Ytjgebepeghgmcaa.bel l.ps cs p).1, (Go.Proofs.Ytjgebepeghgmcaa.bel l.ps cs p).2) ∧ abv l'.ps cs p = (n * (abv l.ps cs p).1, (abv l.ps cs p).2) := by
  obtain ⟨e1, e2⟩ := h.dif p.1 p.2 h1 h2
  unfold Go.Proofs.Ytjgebepeghgmcaa.bel abv
  rw [e1, e2]
  exact ⟨rfl, rfl⟩
theorem Sc.picks {n : Int} {l l' : PLog} (h : Sc n l l') {cs : List Int} (hlen : cs.length + 1 ≤ l.ps.length) : lowOf l'.ps cs = lowOf l.ps cs ∧ highOf l'.ps cs = highOf l.ps cs := by
  have hm : ∀ p ∈ pairsOf (cs.length + 1), p.1 < p.2 ∧ p.2 < l.ps.length := fun p hp => by
    have := mem_pairsOf.1 hp
    omega
  have n1 := h.n1
  constructor
  · unfold lowOf
    rw [firstBy_congr (bt := lowBetter l'.ps cs) (bt' := lowBetter l.ps cs) (fun p => p.1 < p.2 ∧ p.2 < l.ps.length) (fun x y hx hy => ?_) _ hm]
    unfold lowBetter
    rw [(h.bel cs hx.1 hx.2).1, (h.bel cs hy.1 hy.2).1, cmp_scaled]
    exact decide_eq_decide.2 (pos_scaled n1).1
  · unfold highOf
    rw [firstBy_congr (bt := highBetter l'.ps cs) (bt' := highBetter l.ps cs) (fun p => p.1 < p.2 ∧ p.2 < l.ps.length) (fun x y hx hy => ?_) _ hm]
    unfold highBetter
    rw [(h.bel cs hx.1 hx.2).2, (h.bel cs hy.1 hy.2).2, cmp_scaled]
    exact decide_eq_decide.2 (pos_scaled n1).2.1
theorem Sc.ends {n : Int} {l l' : PLog} (h : Sc n l l') {cs : List Int} (hlen : cs.length + 1 ≤ l.ps.length) :
    lowEnd l' cs = (n * (lowEnd l cs).1, (lowEnd l cs).2) ∧ highEnd l' cs = (n * (highEnd l cs).1, (highEnd l cs).2) := by
  obtain ⟨e1, e2⟩ := h.picks hlen
  have n1 := h.n1
  by_cases h0 : cs.length = 0
  · unfold lowEnd highEnd
    rw [if_pos h0, if_pos h0, if_pos h0, if_pos h0, h.lo, h.hi]
    exact ⟨rfl, rfl⟩
  · have a1 := lowOf_mem (ps := l.ps) (cs := cs) (by omega)
    have a2 := highOf_mem (ps := l.ps) (cs := cs) (by omega)
    have b1 := (h.bel cs a1.1 (by omega)).1
    have b2 := (h.bel cs a2.1 (by omega)).2
    unfold lowEnd highEnd
    rw [if_neg h0, if_neg h0, if_neg h0, if_neg h0, e1, e2, b1, b2, h.lo, h.hi]
    have c1 := cmp_scaled n (Go.Proofs.Ytjgebepeghgmcaa.bel l.ps cs (lowOf l.ps cs)) (l.lo, 1)
    have c2 := cmp_scaled n (abv l.ps cs (highOf l.ps cs)) (l.hi, 1)
    dsimp only at c1 c2
    rw [c1, c2]
    constructor
    · by_cases hh : 0 < cmpR (Go.Proofs.Ytjgebepeghgmcaa.bel l.ps cs (lowOf l.ps cs)) (l.lo, 1)
      · rw [if_pos ((pos_scaled n1).1.2 hh), if_pos hh]
      · rw [if_neg (fun g => hh ((pos_scaled n1).1.1 g)), if_neg hh]
    · by_cases hh : cmpR (abv l.ps cs (highOf l.ps cs)) (l.hi, 1) < 0
      · rw [if_pos ((pos_scaled n1).2.1.2 hh), if_pos hh]
      · rw [if_neg (fun g => hh ((pos_scaled n1).2.1.1 g)), if_neg hh]
theorem Sc.possible {n : Int} {l l' : PLog} (h : Sc n l l') {cs : List Int} (hlen : cs.length + 1 ≤ l.ps.length) : Go.Proofs.Ytjgebepeghgmcaa.possible l' cs = Go.Proofs.Ytjgebepeghgmcaa.possible l cs := by
  obtain ⟨e1, e2⟩ := h.ends hlen
  unfold Go.Proofs.Ytjgebepeghgmcaa.possible
  rw [e1, e2, cmp_scaled]
  exact decide_eq_decide.2 (pos_scaled h.n1).2.2
theorem Sc.cok {n : Int} {l l' : PLog} (h : Sc n l l') {cs : List Int} : COk l' cs ↔ COk l cs :=
  ⟨fun c => ⟨by rw [← h.len]; exact c.len, c.inb⟩, fun c => ⟨by rw [h.len]; exact c.len, c.inb⟩⟩
theorem Sc.allC {n : Int} {l l' : PLog} (h : Sc n l l') (hl : LOk l) (hl' : LOk l') : Go.Proofs.Ytjgebepeghgmcaa.allC l' = Go.Proofs.Ytjgebepeghgmcaa.allC l := by
  refine sorted_ext lexlt_irrefl lexlt_trans _ _ (allC_sorted _) (allC_sorted _) fun c => ?_
  rw [mem_allC hl, mem_allC hl', h.cok, h.len]
  constructor
  · rintro ⟨h1, h2, h3⟩
    exact ⟨h1, h2, by rw [← h.possible (by omega)]; exact h3⟩
  · rintro ⟨h1, h2, h3⟩
    exact ⟨h1, h2, by rw [h.possible (by omega)]; exact h3⟩

/-- Reduced forms of a multiplied fraction. -/
theorem red_is {r : Int × Int} (h2 : 1 ≤ r.2) (h1 : 0 ≤ r.1) : ∃ g, 1 ≤ g ∧ g * (redR r).1 = r.1 ∧ g * (redR r).2 = r.2 ∧ 1 ≤ (redR r).2 ∧ (redR r).2 ≤ r.2 ∧ 0 ≤ (redR r).1 ∧ (redR r).1 ≤ r.1 := by
  have hg : 0 < gcdI r.1 r.2 := by
    unfold gcdI
    have : 0 < Int.gcd r.1 r.2 := Int.gcd_pos_of_ne_zero_right _ (by omega)
    omega
  have e1 : gcdI r.1 r.2 * (redR r).1 = r.1 := Int.mul_ediv_cancel' (Int.gcd_dvd_left ..)
  have e2 : gcdI r.1 r.2 * (redR r).2 = r.2 := Int.mul_ediv_cancel' (Int.gcd_dvd_right ..)
  generalize gcdI r.1 r.2 = g at *
  generalize (redR r).1 = a at *
  generalize (redR r).2 = b at *
  have hb : 1 ≤ b := by
    by_cases h : 1 ≤ b
    · exact h
    · have : g * b ≤ g * 0 := Int.mul_le_mul_of_nonneg_left (by omega) (by omega)
      omega
  have ha : 0 ≤ a := by
    by_cases h : 0 ≤ a
    · exact h
    · have : g * a ≤ g * (-1) := Int.mul_le_mul_of_nonneg_left (by omega) (by omega)
      omega
  have hb6 : 1 * b ≤ g * b := Int.mul_le_mul_of_nonneg_right (by omega) (by omega)
  have ha6 : 1 * a ≤ g * a := Int.mul_le_mul_of_nonneg_right (by omega) (by omega)
  exact ⟨g, by omega, e1, e2, hb, by omega, ha, by omega⟩
theorem red_scaled {n : Int} {r : Int × Int} (hn : 1 ≤ n) (h2 : 1 ≤ r.2) (h1 : 0 ≤ r.1) : (redR (n * r.1, r.2)).1 * (redR r).2 = n * (redR r).1 * (redR (n * r.1, r.2)).2 := by
  obtain ⟨g, hg, e1, e2, _⟩ := red_is h2 h1
  obtain ⟨k, hk, f1, f2, _⟩ := red_is (r := (n * r.1, r.2)) h2 (Int.mul_nonneg (by omega) h1)
  dsimp only at f1 f2
  generalize redR r = p at *
  generalize redR (n * r.1, r.2) = q at *
  obtain ⟨p1, p2⟩ := p
  obtain ⟨q1, q2⟩ := q
  dsimp only at *
  have : (g * k) * (q1 * p2) = (g * k) * (n * p1 * q2) := by
    have a1 : (g * k) * (q1 * p2) = (k * q1) * (g * p2) := by grind
    have a2 : (g * k) * (n * p1 * q2) = n * (g * p1) * (k * q2) := by grind
    rw [a1, a2, f1, e2, e1, f2]
  exact Int.eq_of_mul_eq_mul_left (by have := Int.mul_pos (by omega : 0 < g) (by omega : 0 < k); omega) this

/-! ### the two logs of PeriodScaled -/
def scaleP (n : Int) (p : Int × Int) : Int × Int := (n * p.1, n * p.2)
def shiftP (d : Int) (p : Int × Int) : Int × Int := (p.1 + d, p.2 + d)
def scaleL (n : Int) (l : PLog) : PLog := ⟨n * l.lo, n * l.hi, l.ps.map (scaleP n)⟩
def shiftL (d : Int) (l : PLog) : PLog := ⟨l.lo, l.hi, l.ps.map (shiftP d)⟩
theorem los_map (f : Int × Int → Int × Int) (ps : List (Int × Int)) (k : Nat) (hk : k < ps.length) : los (ps.map f) k = (f (los ps k, his ps k)).1 ∧ his (ps.map f) k = (f (los ps k, his ps k)).2 := by
  unfold los his
  simp [List.getD, hk]
theorem scale_sc {n : Int} (hn : 1 ≤ n) (l : PLog) : Sc n l (scaleL n l) := by
  refine ⟨hn, rfl, rfl, by simp [scaleL], fun i k hik hk => ?_⟩
  obtain ⟨a1, a2⟩ := los_map (scaleP n) l.ps i (by omega)
  obtain ⟨b1, b2⟩ := los_map (scaleP n) l.ps k hk
  unfold scaleL
  dsimp only
  rw [a1, a2, b1, b2]
  unfold scaleP
  dsimp only
  rw [Int.mul_sub, Int.mul_sub]
  exact ⟨rfl, rfl⟩
theorem shift_sc (d : Int) (l : PLog) : Sc 1 l (shiftL d l) := by
  refine ⟨by omega, by simp [shiftL], by simp [shiftL], by simp [shiftL], fun i k hik hk => ?_⟩
  obtain ⟨a1, a2⟩ := los_map (shiftP d) l.ps i (by omega)
  obtain ⟨b1, b2⟩ := los_map (shiftP d) l.ps k hk
  unfold shiftL
  dsimp only
  rw [a1, a2, b1, b2]
  unfold shiftP
  dsimp only
  omega
theorem WNum.small {x : WNum} (hx : x.Ok) {i : Nat} (hi : i < x.n) : 0 ≤ los x.log.ps i ∧ los x.log.ps i ≤ his x.log.ps i ∧ his x.log.ps i ≤ 20 := by
  obtain ⟨e1, e2⟩ := x.los_ps hi
  have hn := x.n_is
  have := x.span_bound hx i (by omega)
  show 0 ≤ los (x.ps x.n) i ∧ los (x.ps x.n) i ≤ his (x.ps x.n) i ∧ his (x.ps x.n) i ≤ 20
  rw [e1, e2]
  omega
theorem scale_ok {x : WNum} (hx : x.Ok) {n : Int} (hn : 1 ≤ n) (hn4 : n ≤ 40) : LOk (scaleL n x.log) := by
  have hl := x.lok hx
  have hlh := x.lo_hi hx
  have hpl : x.log.ps.length = x.n := x.ps_len _
  have h1 : n * x.lo ≤ n * x.hi := Int.mul_le_mul_of_nonneg_left hlh.2.1 (by omega)
  have h2 : n * x.hi ≤ 40 * 8 := Int.mul_le_mul hn4 hlh.2.2 (by omega) (by omega)
  have h3 : 1 * 3 ≤ n * x.lo := Int.mul_le_mul hn hlh.1 (by omega) (by omega)
  refine ⟨by show 1 ≤ n * x.lo; omega, h1, by show n * x.hi ≤ 10000; omega, by simpa [scaleL] using hl.len2, by simpa [scaleL] using hl.len8, fun i hi => ?_, fun i hi => ?_⟩
  · have hi' : i < x.log.ps.length := by simpa [scaleL] using hi
    obtain ⟨a1, a2⟩ := los_map (scaleP n) x.log.ps i hi'
    have hs := x.small hx (by rw [← hpl]; exact hi')
    show 0 ≤ los (x.log.ps.map (scaleP n)) i ∧ los (x.log.ps.map (scaleP n)) i ≤ his (x.log.ps.map (scaleP n)) i ∧ his (x.log.ps.map (scaleP n)) i ≤ 1000000
    rw [a1, a2]
    unfold scaleP
    dsimp only
    have g1 : n * los x.log.ps i ≤ n * his x.log.ps i := Int.mul_le_mul_of_nonneg_left hs.2.1 (by omega)
    have g2 : n * his x.log.ps i ≤ 40 * 20 := Int.mul_le_mul hn4 hs.2.2 (by omega) (by omega)
    have g3 : 0 ≤ n * los x.log.ps i := Int.mul_nonneg (by omega) hs.1
    omega
  · have hi' : i + 1 < x.log.ps.length := by simpa [scaleL] using hi
    obtain ⟨_, a2⟩ := los_map (scaleP n) x.log.ps i (by omega)
    obtain ⟨b1, _⟩ := los_map (scaleP n) x.log.ps (i + 1) hi'
    show his (x.log.ps.map (scaleP n)) i < los (x.log.ps.map (scaleP n)) (i + 1)
    rw [a2, b1]
    exact Int.mul_lt_mul_of_pos_left (hl.inc i hi') (by omega)
theorem shift_ok {x : WNum} (hx : x.Ok) {d : Int} (hd : 0 ≤ d) (hd4 : d ≤ 255) : LOk (shiftL d x.log) := by
  have hl := x.lok hx
  have hpl : x.log.ps.length = x.n := x.ps_len _
  refine ⟨hl.lo1, hl.lohi, hl.hi1, by simpa [shiftL] using hl.len2, by simpa [shiftL] using hl.len8, fun i hi => ?_, fun i hi => ?_⟩
  · have hi' : i < x.log.ps.length := by simpa [shiftL] using hi
    obtain ⟨a1, a2⟩ := los_map (shiftP d) x.log.ps i hi'
    have hs := x.small hx (by rw [← hpl]; exact hi')
    show 0 ≤ los (x.log.ps.map (shiftP d)) i ∧ los (x.log.ps.map (shiftP d)) i ≤ his (x.log.ps.map (shiftP d)) i ∧ his (x.log.ps.map (shiftP d)) i ≤ 1000000
    rw [a1, a2]
    unfold shiftP
    dsimp only
    omega
  · have hi' : i + 1 < x.log.ps.length := by simpa [shiftL] using hi
    obtain ⟨_, a2⟩ := los_map (shiftP d) x.log.ps i (by omega)
    obtain ⟨b1, _⟩ := los_map (shiftP d) x.log.ps (i + 1) hi'
    show his (x.log.ps.map (shiftP d)) i < los (x.log.ps.map (shiftP d)) (i + 1)
    rw [a2, b1]
    have := hl.inc i hi'
    unfold shiftP
    dsimp only
    omega

end Go.Proofs.Ytjgebepeghgmcaa
