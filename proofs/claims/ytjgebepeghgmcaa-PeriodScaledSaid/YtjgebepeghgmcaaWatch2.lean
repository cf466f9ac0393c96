/-
  The law's function tried.
-/
import Derived.Test.YtjgebepeghgmcaaWatch1
namespace Go.Proofs.Ytjgebepeghgmcaa
open Go.RowKit Go.Shelf
set_option linter.unusedVariables false
set_option linter.unusedSimpArgs false

/-- What has been found among the periods from lo on that are below p. -/
structure TI (W : Int → Bool) (lo p l g : Int) (f : Bool) : Prop where
  yes : f = true → lo ≤ l ∧ l < p ∧ W l = true ∧ lo ≤ g ∧ g < p ∧ W g = true ∧ ∀ q, lo ≤ q → q < p → W q = true → l ≤ q ∧ q ≤ g
  no : f = false → l = 0 ∧ g = 0 ∧ ∀ q, lo ≤ q → q < p → W q = false
theorem TI.start (W : Int → Bool) (lo : Int) : TI W lo lo 0 0 false := ⟨fun h => (by cases h), fun _ => ⟨rfl, rfl, fun q h1 h2 => by omega⟩⟩
theorem TI.skip {W : Int → Bool} {lo p l g : Int} {f : Bool} (h : TI W lo p l g f) (hp : W p = false) : TI W lo (p + 1) l g f := by
  refine ⟨fun hf => ?_, fun hf => ?_⟩
  · obtain ⟨h1, h2, h3, h4, h5, h6, h7⟩ := h.yes hf
    refine ⟨h1, by omega, h3, h4, by omega, h6, fun q a b c => ?_⟩
    by_cases e : q = p
    · rw [e, hp] at c; cases c
    · exact h7 q a (by omega) c
  · obtain ⟨h1, h2, h3⟩ := h.no hf
    refine ⟨h1, h2, fun q a b => ?_⟩
    by_cases e : q = p
    · rw [e]; exact hp
    · exact h3 q a (by omega)
theorem TI.first {W : Int → Bool} {lo p l g : Int} (h : TI W lo p l g false) (hp : W p = true) (hlo : lo ≤ p) : TI W lo (p + 1) p p true := by
  obtain ⟨_, _, h3⟩ := h.no rfl
  refine ⟨fun _ => ⟨hlo, by omega, hp, hlo, by omega, hp, fun q a b c => ?_⟩, fun hf => (by cases hf)⟩
  by_cases e : q = p
  · omega
  · rw [h3 q a (by omega)] at c; cases c
theorem TI.more {W : Int → Bool} {lo p l g : Int} (h : TI W lo p l g true) (hp : W p = true) (hlo : lo ≤ p) : TI W lo (p + 1) l p true := by
  obtain ⟨h1, h2, h3, h4, h5, h6, h7⟩ := h.yes rfl
  refine ⟨fun _ => ⟨h1, by omega, h3, hlo, by omega, hp, fun q a b c => ?_⟩, fun hf => (by cases hf)⟩
  by_cases e : q = p
  · omega
  · have := h7 q a (by omega) c
    omega

/-- What tried returns. -/
def TriedPost (lo hi : Int) (ps : List (Int × Int)) (cs : List Int) (w : World) (e : Ending) (w' : World) : Prop :=
  ∃ (l g : Int) (f : Bool), e = .returned (.tuple #[.int .i64 l, .int .i64 g, .bool f]) ∧ TI (works60R ps cs) (60 * lo) (60 * hi + 1) l g f ∧ Below w.heap.size w w'

set_option maxRecDepth 100000 in
set_option maxHeartbeats 2000000 in
theorem tried_any (lo hi : Int) (ps : List (Int × Int)) (cs : List Int) (a ca : Option Addr) (n cap m ccap : Nat) (w : World) (hlo : 0 ≤ lo) (hlh : lo ≤ hi) (hhi : hi ≤ 10000) (hn : n = ps.length) (hm : m = cs.length) (hw : ∀ p, 0 ≤ p → p ≤ 1000000 → WOk ps cs p) (hp : Row w w.heap.size a (spans ps)) (hc : Row w w.heap.size ca (ints cs)) :
    Calls Try.prog 28 #[.agg #[.int .i64 lo, .int .i64 hi, .slice a n cap], .slice ca m ccap] w (TriedPost lo hi ps cs w) := by
  have HCALL := hide (fun (p : Int) (h0 : 0 ≤ p) (h1 : p ≤ 1000000) (W : World) (h2 : Row W W.heap.size a (spans ps)) (h3 : Row W W.heap.size ca (ints cs)) => works60_any lo hi ps cs a ca n cap m ccap p W hn hm (hw p h0 h1) h2 h3)
  clear hn hm hw
  go_enter Try.func28, Try.ntmps28
  go_wp2_with fail
  generalize hW : World.alloc w _ = V
  have hB : Below w.heap.size w V := by rw [← hW]; exact (Below.refl _ _).alloc (Nat.le_refl _) _
  have b0 : Blk V w.heap.size #[.int .i64 lo, .int .i64 hi, .slice a n cap] 26 := by rw [← hW]; exact Blk.new w _ _
  have S : BSt w [(w.heap.size, #[.int .i64 lo, .int .i64 hi, .slice a n cap], 26)] V := ⟨hB, fun p hp => by obtain rfl := List.mem_singleton.1 hp; exact b0⟩
  clear hW hB b0
  go_loopw [4, 5, 6, 7] (fun l g f p wr => ∃ (ll gg pp : Int) (ff : Bool), l = .int .i64 ll ∧ g = .int .i64 gg ∧ f = .bool ff ∧ p = .int .i64 pp ∧ 60 * lo ≤ pp ∧ pp ≤ 60 * hi + 1 ∧ TI (works60R ps cs) (60 * lo) pp ll gg ff ∧ BSt w [(w.heap.size, #[.int .i64 lo, .int .i64 hi, .slice a n cap], 26)] wr) (fun _ _ _ p _ => (60 * hi + 1 - intOf p).toNat)
  case atStart => exact ⟨0, 0, _, false, rfl, rfl, rfl, rfl, by omega, by omega, TI.start _ _, S⟩
  case round =>
    clear S
    obtain ⟨l, g, p, f, rfl, rfl, rfl, rfl, h1, h2, hTI, S⟩ := hrel
    have HTI := hide hTI
    have k0 := (S.boxes _ (by simp : (w.heap.size, #[Value.int .i64 lo, Value.int .i64 hi, Value.slice a n cap], 26) ∈ _)).three
    clear hTI
    by_cases hp1 : p ≤ 60 * hi
    · go_wp2_with fail
      refine (HCALL.out p (by omega) (by omega) _ ((hp.below S.be (Nat.le_refl _)).mono S.be.size) ((hc.below S.be (Nat.le_refl _)).mono S.be.size)).mono ?_
      rintro e W1 ⟨rfl, hb1⟩
      have S1 := S.kept hb1
      clear S hb1 k0
      cases hwk : works60R ps cs p with
      | false =>
        have H2 := hide (HTI.out.skip hwk)
        clear hwk HTI
        go_wp2_with fail
        go_roundw
        case rel => exact ⟨l, g, p + 1, f, rfl, rfl, rfl, rfl, by omega, by omega, H2.out, S1⟩
        case measure => simp [intOf]; omega
      | true =>
        cases f with
        | false =>
          have H2 := hide (HTI.out.first hwk h1)
          clear hwk HTI
          go_wp2_with fail
          go_roundw
          case rel => exact ⟨p, p, p + 1, true, rfl, rfl, rfl, rfl, by omega, by omega, H2.out, S1⟩
          case measure => simp [intOf]; omega
        | true =>
          have H2 := hide (HTI.out.more hwk h1)
          clear hwk HTI
          go_wp2_with fail
          go_roundw
          case rel => exact ⟨l, p, p + 1, true, rfl, rfl, rfl, rfl, by omega, by omega, H2.out, S1⟩
          case measure => simp [intOf]; omega
    · have hpe : p = 60 * hi + 1 := by omega
      have H2 : Hid (TI (works60R ps cs) (60 * lo) (60 * hi + 1) l g f) := hide (by rw [← hpe]; exact HTI.out)
      clear hpe
      go_wp2_with fail
      refine bodyPost_ret (v := .tuple #[.int .i64 l, .int .i64 g, .bool f]) (by simp [results, Try.results28, go_sem]) rfl ⟨l, g, f, rfl, H2.out, S.be⟩

end Go.Proofs.Ytjgebepeghgmcaa
