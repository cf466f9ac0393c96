/-
  Package period and package slices: searching in a list of numbers.
-/
import Derived.Test.YtjgebepeghgmcaaPer1
namespace Go.Proofs.Ytjgebepeghgmcaa
open Go.RowKit
set_option linter.unusedVariables false
set_option linter.unusedSimpArgs false

/-- Where the first element with a property is; -1: nowhere. -/
def idxW (q : Int → Bool) (xs : List Int) : Int := if xs.any q then (xs.findIdx q : Int) else -1
theorem idxW_none (q : Int → Bool) (xs : List Int) (h : ∀ k, k < xs.length → q (iat xs k) = false) : idxW q xs = -1 := by
  unfold idxW
  rw [if_neg]
  simp only [List.any_eq_true, not_exists, not_and]
  intro x hx
  obtain ⟨k, hk, rfl⟩ := List.getElem_of_mem hx
  rw [← iat_eq xs k hk, h k hk]
  simp
theorem idxW_some (q : Int → Bool) (xs : List Int) (k : Nat) (hk : k < xs.length) (h : ∀ j, j < k → q (iat xs j) = false) (hq : q (iat xs k) = true) : idxW q xs = k := by
  have h2 : xs.findIdx q = k := by
    rw [List.findIdx_eq hk]
    refine ⟨by rw [← iat_eq xs k hk]; exact hq, fun j hj => ?_⟩
    have := h j hj
    rw [iat_eq xs j (by omega)] at this
    simp [this]
  unfold idxW
  rw [if_pos, h2]
  exact List.any_eq_true.2 ⟨xs[k], List.getElem_mem _, by rw [← iat_eq xs k hk]; exact hq⟩
theorem idxW_any (q : Int → Bool) (xs : List Int) : decide (0 ≤ idxW q xs) = xs.any q := by
  unfold idxW
  cases h : xs.any q <;> simp

set_option maxRecDepth 100000 in
set_option maxHeartbeats 1000000 in
theorem indexFunc_any (q : Int → Bool) (g : Nat) (xs : List Int) (a : Option Addr) (n cap B : Nat) (w : World) (hn : n = xs.length) (hl : n ≤ 1000000000) (h : Row w B a (ints xs))
    (eg : ∀ args w, (callFunc g args).run Try.prog w = .ok (.enter g args) w)
    (hq : ∀ (x : Int) (w : World), Calls Try.prog g #[.int .i64 x] w fun e w' => e = .returned (.bool (q x)) ∧ w = w') :
    Calls Try.prog 71 #[.slice a n cap, .func (.func g) #[] #[]] w fun e w' => e = .returned (.int .i64 (idxW q xs)) ∧ w = w' := by
  have HQ := hide hq
  have HN := hide hn
  clear hq hn
  go_enter Try.func71, Try.ntmps71
  go_wp2
  go_loop [4, 5, 8] (fun _ _ i => ∃ k : Nat, k ≤ n ∧ i = .int .i64 k ∧ ∀ j, j < k → q (iat xs j) = false) (fun _ _ i => n - (intOf i).toNat)
  case atStart => exact ⟨0, Nat.zero_le _, rfl, fun j hj => by omega⟩
  case round =>
    obtain ⟨k, hk, rfl, hno⟩ := hrel
    have HNo := hide hno
    clear hno
    by_cases hlt : k < n
    · have hkl : k < xs.length := by rw [← HN.out]; exact hlt
      obtain ⟨b, off, rfl, hb, hc⟩ := h.int (by omega)
      have hcell := hc k hkl
      clear hc h
      go_wp2_with fail
      refine (HQ.out (iat xs k) _).mono ?_
      rintro e w' ⟨rfl, rfl⟩
      cases hv : q (iat xs k) with
      | true =>
        have E := hide (idxW_some q xs k hkl HNo.out hv)
        clear hv
        go_wp2
        go_ret
        exact ⟨by rw [E.out]; rfl, rfl⟩
      | false =>
        have HV := hide hv
        clear hv
        go_wp2
        go_round
        case rel => exact ⟨k + 1, by omega, by go_num, fun j hj => by
          rcases Nat.lt_succ_iff_lt_or_eq.1 hj with h | rfl
          · exact HNo.out j h
          · exact HV.out⟩
        case measure => simp [intOf]; omega
    · have E := hide (idxW_none q xs fun j hj => HNo.out j (by have := HN.out; omega))
      go_wp2
      go_ret
      exact ⟨by rw [E.out]; rfl, rfl⟩

set_option maxRecDepth 100000 in
set_option maxHeartbeats 1000000 in
theorem containsFunc_any (q : Int → Bool) (g : Nat) (xs : List Int) (a : Option Addr) (n cap B : Nat) (w : World) (hn : n = xs.length) (hl : n ≤ 1000000000) (h : Row w B a (ints xs))
    (eg : ∀ args w, (callFunc g args).run Try.prog w = .ok (.enter g args) w)
    (hq : ∀ (x : Int) (w : World), Calls Try.prog g #[.int .i64 x] w fun e w' => e = .returned (.bool (q x)) ∧ w = w') :
    Calls Try.prog 53 #[.slice a n cap, .func (.func g) #[] #[]] w fun e w' => e = .returned (.bool (xs.any q)) ∧ w = w' := by
  have HC := hide (fun w (h : Row w B a (ints xs)) => indexFunc_any q g xs a n cap B w hn hl h eg hq)
  have E := hide (idxW_any q xs)
  clear hq hn eg
  go_enter Try.func53, Try.ntmps53
  go_wp2_with (go_at_call 71; refine (HC.out _ h).mono ?_; rintro e w' ⟨rfl, rfl⟩)
  go_ret
  exact ⟨by rw [← E.out]; rfl, rfl⟩

set_option maxRecDepth 100000 in
set_option maxHeartbeats 1000000 in
theorem index_any (v : Int) (xs : List Int) (a : Option Addr) (n cap B : Nat) (w : World) (hn : n = xs.length) (hl : n ≤ 1000000000) (h : Row w B a (ints xs)) :
    Calls Try.prog 72 #[.slice a n cap, .int .i64 v] w fun e w' => e = .returned (.int .i64 (idxW (fun x => decide (x = v)) xs)) ∧ w = w' := by
  have HN := hide hn
  clear hn
  go_enter Try.func72, Try.ntmps72
  go_wp2
  go_loop [4, 5, 8] (fun _ _ i => ∃ k : Nat, k ≤ n ∧ i = .int .i64 k ∧ ∀ j, j < k → decide (iat xs j = v) = false) (fun _ _ i => n - (intOf i).toNat)
  case atStart => exact ⟨0, Nat.zero_le _, rfl, fun j hj => by omega⟩
  case round =>
    obtain ⟨k, hk, rfl, hno⟩ := hrel
    have HNo := hide hno
    clear hno
    by_cases hlt : k < n
    · have hkl : k < xs.length := by rw [← HN.out]; exact hlt
      obtain ⟨b, off, rfl, hb, hc⟩ := h.int (by omega)
      have hcell := hc k hkl
      clear hc h
      by_cases hv : iat xs k = v
      · have E := hide (idxW_some (fun x => decide (x = v)) xs k hkl HNo.out (by simp [hv]))
        have hv' : (v == iat xs k) = true := by simp [hv]
        clear hv
        go_wp2
        go_ret
        exact ⟨by rw [E.out]; rfl, rfl⟩
      · have HV : Hid (decide (iat xs k = v) = false) := hide (by simp [hv])
        have hv' : (v == iat xs k) = false := by simp; omega
        clear hv
        go_wp2
        go_round
        case rel => exact ⟨k + 1, by omega, by go_num, fun j hj => by
          rcases Nat.lt_succ_iff_lt_or_eq.1 hj with h | rfl
          · exact HNo.out j h
          · exact HV.out⟩
        case measure => simp [intOf]; omega
    · have E := hide (idxW_none (fun x => decide (x = v)) xs fun j hj => HNo.out j (by have := HN.out; omega))
      go_wp2
      go_ret
      exact ⟨by rw [E.out]; rfl, rfl⟩

set_option maxRecDepth 100000 in
set_option maxHeartbeats 1000000 in
theorem contains_any (v : Int) (xs : List Int) (a : Option Addr) (n cap B : Nat) (w : World) (hn : n = xs.length) (hl : n ≤ 1000000000) (h : Row w B a (ints xs)) :
    Calls Try.prog 57 #[.slice a n cap, .int .i64 v] w fun e w' => e = .returned (.bool (xs.any fun x => decide (x = v))) ∧ w = w' := by
  have HC := hide (fun w (h : Row w B a (ints xs)) => index_any v xs a n cap B w hn hl h)
  have E := hide (idxW_any (fun x => decide (x = v)) xs)
  clear hn
  go_enter Try.func57, Try.ntmps57
  go_wp2_with (go_at_call 72; refine (HC.out _ h).mono ?_; rintro e w' ⟨rfl, rfl⟩)
  go_ret
  exact ⟨by rw [← E.out]; rfl, rfl⟩

theorem clip_any (a : Option Addr) (n cap : Nat) (w : World) (hn : n ≤ cap) :
    Calls Try.prog 68 #[.slice a n cap] w fun e w' => e = .returned (.slice a n n) ∧ w = w' := by
  go_enter Try.func68, Try.ntmps68
  go_wp2
  go_ret
  exact ⟨rfl, rfl⟩

end Go.Proofs.Ytjgebepeghgmcaa
