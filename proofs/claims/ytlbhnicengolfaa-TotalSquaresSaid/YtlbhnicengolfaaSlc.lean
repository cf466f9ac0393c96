/-
  Package slices: searching in a list of numbers, and in a list of spans.
-/
import Derived.Test.YtlbhnicengolfaaHead
import Derived.Test.YtlbhnicengolfaaBlk
import Derived.Test.YtlbhnicengolfaaProg
import Derived.WalkSpells
import Derived.WalkLawsBesides
import Derived.BigQuiet
import Derived.IntWalk
import Derived.Outline
import Derived.Deep.DeepCutAuto
namespace Go.Proofs.Ytlbhnicengolfaa
open Go.RowKit
set_option linter.unusedVariables false
set_option linter.unusedSimpArgs false

/-- Where the first element with a property is; -1: nowhere. -/
def idxW {α : Type} (q : α → Bool) (xs : List α) : Int := if xs.any q then (xs.findIdx q : Int) else -1
theorem idxW_none {α : Type} (d : α) (q : α → Bool) (xs : List α) (h : ∀ k, k < xs.length → q (xs.getD k d) = false) : idxW q xs = -1 := by
  unfold idxW
  rw [if_neg]
  simp only [List.any_eq_true, not_exists, not_and]
  intro x hx
  obtain ⟨k, hk, rfl⟩ := List.getElem_of_mem hx
  have := h k hk
  rw [List.getD_eq_getElem?_getD, List.getElem?_eq_getElem hk] at this
  simpa using this
theorem idxW_some {α : Type} (d : α) (q : α → Bool) (xs : List α) (k : Nat) (hk : k < xs.length) (h : ∀ j, j < k → q (xs.getD j d) = false) (hq : q (xs.getD k d) = true) : idxW q xs = k := by
  have e : ∀ j (hj : j < xs.length), xs.getD j d = xs[j] := fun j hj => by rw [List.getD_eq_getElem?_getD, List.getElem?_eq_getElem hj]; rfl
  have h2 : xs.findIdx q = k := by
    rw [List.findIdx_eq hk]
    refine ⟨by rw [← e k hk]; exact hq, fun j hj => ?_⟩
    have := h j hj
    rw [e j (by omega)] at this
    simp [this]
  unfold idxW
  rw [if_pos, h2]
  exact List.any_eq_true.2 ⟨xs[k], List.getElem_mem _, by rw [← e k hk]; exact hq⟩
theorem idxW_any {α : Type} (q : α → Bool) (xs : List α) : decide (0 ≤ idxW q xs) = xs.any q := by
  unfold idxW
  cases h : xs.any q <;> simp
theorem mem_getD {α : Type} (d : α) {xs : List α} {k : Nat} (h : k < xs.length) : xs.getD k d ∈ xs := by
  rw [List.getD_eq_getElem?_getD, List.getElem?_eq_getElem h]
  exact List.getElem_mem h


set_option maxRecDepth 100000 in
set_option maxHeartbeats 1000000 in
theorem indexFuncI (q : Int → Bool) (g : Nat) (lb : Array Value) (xs : List (Int)) (a : Option Addr) (n cap : Nat) (w : World) (hn : n = xs.length) (hl : n ≤ 1000000000) (h : Row w w.heap.size a (ints xs))
    (eg : ∀ args w, (callFunc g args).run Try.prog w = .ok (.enter g args) w)
    (hq : ∀ (x : Int) (W : World), x ∈ xs → Below w.heap.size w W → Calls Try.prog g (#[.int .i64 x] ++ lb) W fun e w' => e = .returned (.bool (q x)) ∧ Below W.heap.size W w') :
    Calls Try.prog 72 #[.slice a n cap, .func (.func g) #[] lb] w fun e w' => e = .returned (.int .i64 (idxW q xs)) ∧ Below w.heap.size w w' := by
  have HQ := hide hq
  have HN := hide hn
  clear hq hn
  go_enter Try.func72, Try.ntmps72
  go_wp2
  go_loopw [8] (fun i wr => ∃ k : Nat, k ≤ n ∧ i = .int .i64 k ∧ (∀ j, j < k → q (xs.getD j 0) = false) ∧ Below w.heap.size w wr) (fun i _ => n - (intOf i).toNat)
  case atStart => exact ⟨0, Nat.zero_le _, rfl, fun j hj => by omega, Below.refl _ _⟩
  case round =>
    obtain ⟨k, hk, rfl, hno, hbe⟩ := hrel
    have HNo := hide hno
    clear hno
    by_cases hlt : k < n
    · have hkl : k < xs.length := by rw [← HN.out]; exact hlt
      obtain ⟨b, off, rfl, hb, hc⟩ := (h.below hbe (Nat.le_refl _)).int (by omega)
      have hcell := hc k hkl
      rw [iat] at hcell
      clear hc
      have HM := hide (mem_getD 0 hkl)
      have HH := hide h
      clear h
      have HQK := hide (HQ.out _ wr HM.out hbe)
      generalize hx : xs.getD k 0 = x at *
      have HX := hide hx
      clear hx
      go_wp2_with fail
      refine HQK.out.mono ?_
      rintro e w' ⟨rfl, hb'⟩
      have hbe' := hbe.trans (hb'.mono hbe.size)
      clear HQK hbe hb'
      cases hv : q x with
      | true =>
        have E := hide (idxW_some 0 q xs k hkl HNo.out (by rw [HX.out]; exact hv))
        clear hv
        go_wp2
        go_ret
        exact ⟨by rw [E.out]; rfl, hbe'⟩
      | false =>
        have HV := hide hv
        clear hv
        go_wp2
        go_roundw
        case rel => exact ⟨k + 1, by omega, by go_num, fun j hj => by
          rcases Nat.lt_succ_iff_lt_or_eq.1 hj with h | rfl
          · exact HNo.out j h
          · rw [HX.out]; exact HV.out, hbe'⟩
        case measure => simp [intOf]; omega
    · have E := hide (idxW_none 0 q xs fun j hj => HNo.out j (by have := HN.out; omega))
      go_wp2
      go_ret
      exact ⟨by rw [E.out]; rfl, hbe⟩

set_option maxRecDepth 100000 in
set_option maxHeartbeats 1000000 in
theorem containsFuncI (q : Int → Bool) (g : Nat) (lb : Array Value) (xs : List (Int)) (a : Option Addr) (n cap : Nat) (w : World) (hn : n = xs.length) (hl : n ≤ 1000000000) (h : Row w w.heap.size a (ints xs))
    (eg : ∀ args w, (callFunc g args).run Try.prog w = .ok (.enter g args) w)
    (hq : ∀ (x : Int) (W : World), x ∈ xs → Below w.heap.size w W → Calls Try.prog g (#[.int .i64 x] ++ lb) W fun e w' => e = .returned (.bool (q x)) ∧ Below W.heap.size W w') :
    Calls Try.prog 66 #[.slice a n cap, .func (.func g) #[] lb] w fun e w' => e = .returned (.bool (xs.any q)) ∧ Below w.heap.size w w' := by
  have HC := hide (indexFuncI q g lb xs a n cap w hn hl h eg hq)
  have E := hide (idxW_any q xs)
  clear hq hn eg
  go_enter Try.func66, Try.ntmps66
  go_wp2_with (go_at_call 72; refine HC.out.mono ?_; rintro e w' ⟨rfl, hb⟩)
  go_ret
  exact ⟨by rw [← E.out]; rfl, hb⟩

set_option maxRecDepth 100000 in
set_option maxHeartbeats 1000000 in
theorem indexFuncS (q : Int × Int → Bool) (g : Nat) (lb : Array Value) (xs : List (Int × Int)) (a : Option Addr) (n cap : Nat) (w : World) (hn : n = xs.length) (hl : n ≤ 1000000000) (h : Row w w.heap.size a (spans xs))
    (eg : ∀ args w, (callFunc g args).run Try.prog w = .ok (.enter g args) w)
    (hq : ∀ (x : Int × Int) (W : World), x ∈ xs → Below w.heap.size w W → Calls Try.prog g (#[.agg #[.int .i64 x.1, .int .i64 x.2]] ++ lb) W fun e w' => e = .returned (.bool (q x)) ∧ Below W.heap.size W w') :
    Calls Try.prog 64 #[.slice a n cap, .func (.func g) #[] lb] w fun e w' => e = .returned (.int .i64 (idxW q xs)) ∧ Below w.heap.size w w' := by
  have HQ := hide hq
  have HN := hide hn
  clear hq hn
  go_enter Try.func64, Try.ntmps64
  go_wp2
  go_loopw [8] (fun i wr => ∃ k : Nat, k ≤ n ∧ i = .int .i64 k ∧ (∀ j, j < k → q (xs.getD j (0, 0)) = false) ∧ Below w.heap.size w wr) (fun i _ => n - (intOf i).toNat)
  case atStart => exact ⟨0, Nat.zero_le _, rfl, fun j hj => by omega, Below.refl _ _⟩
  case round =>
    obtain ⟨k, hk, rfl, hno, hbe⟩ := hrel
    have HNo := hide hno
    clear hno
    by_cases hlt : k < n
    · have hkl : k < xs.length := by rw [← HN.out]; exact hlt
      obtain ⟨b, off, rfl, hb, hc⟩ := (h.below hbe (Nat.le_refl _)).span (by omega)
      obtain ⟨hcell, hcell2⟩ := hc k hkl
      rw [los] at hcell
      rw [his] at hcell2
      clear hc
      have HM := hide (mem_getD (0, 0) hkl)
      have HH := hide h
      clear h
      have HQK := hide (HQ.out _ wr HM.out hbe)
      generalize hx : xs.getD k (0, 0) = x at *
      have HX := hide hx
      clear hx
      go_wp2_with fail
      refine HQK.out.mono ?_
      rintro e w' ⟨rfl, hb'⟩
      have hbe' := hbe.trans (hb'.mono hbe.size)
      clear HQK hbe hb'
      cases hv : q x with
      | true =>
        have E := hide (idxW_some (0, 0) q xs k hkl HNo.out (by rw [HX.out]; exact hv))
        clear hv
        go_wp2
        go_ret
        exact ⟨by rw [E.out]; rfl, hbe'⟩
      | false =>
        have HV := hide hv
        clear hv
        go_wp2
        go_roundw
        case rel => exact ⟨k + 1, by omega, by go_num, fun j hj => by
          rcases Nat.lt_succ_iff_lt_or_eq.1 hj with h | rfl
          · exact HNo.out j h
          · rw [HX.out]; exact HV.out, hbe'⟩
        case measure => simp [intOf]; omega
    · have E := hide (idxW_none (0, 0) q xs fun j hj => HNo.out j (by have := HN.out; omega))
      go_wp2
      go_ret
      exact ⟨by rw [E.out]; rfl, hbe⟩

set_option maxRecDepth 100000 in
set_option maxHeartbeats 1000000 in
theorem containsFuncS (q : Int × Int → Bool) (g : Nat) (lb : Array Value) (xs : List (Int × Int)) (a : Option Addr) (n cap : Nat) (w : World) (hn : n = xs.length) (hl : n ≤ 1000000000) (h : Row w w.heap.size a (spans xs))
    (eg : ∀ args w, (callFunc g args).run Try.prog w = .ok (.enter g args) w)
    (hq : ∀ (x : Int × Int) (W : World), x ∈ xs → Below w.heap.size w W → Calls Try.prog g (#[.agg #[.int .i64 x.1, .int .i64 x.2]] ++ lb) W fun e w' => e = .returned (.bool (q x)) ∧ Below W.heap.size W w') :
    Calls Try.prog 49 #[.slice a n cap, .func (.func g) #[] lb] w fun e w' => e = .returned (.bool (xs.any q)) ∧ Below w.heap.size w w' := by
  have HC := hide (indexFuncS q g lb xs a n cap w hn hl h eg hq)
  have E := hide (idxW_any q xs)
  clear hq hn eg
  go_enter Try.func49, Try.ntmps49
  go_wp2_with (go_at_call 64; refine HC.out.mono ?_; rintro e w' ⟨rfl, hb⟩)
  go_ret
  exact ⟨by rw [← E.out]; rfl, hb⟩

set_option maxRecDepth 100000 in
set_option maxHeartbeats 1000000 in
theorem indexFuncT (q : Int × Int → Bool) (g : Nat) (lb : Array Value) (xs : List (Int × Int)) (a : Option Addr) (n cap : Nat) (w : World) (hn : n = xs.length) (hl : n ≤ 1000000000) (h : Row w w.heap.size a (spans xs))
    (eg : ∀ args w, (callFunc g args).run Try.prog w = .ok (.enter g args) w)
    (hq : ∀ (x : Int × Int) (W : World), x ∈ xs → Below w.heap.size w W → Calls Try.prog g (#[.agg #[.int .i64 x.1, .int .i64 x.2]] ++ lb) W fun e w' => e = .returned (.bool (q x)) ∧ Below W.heap.size W w') :
    Calls Try.prog 84 #[.slice a n cap, .func (.func g) #[] lb] w fun e w' => e = .returned (.int .i64 (idxW q xs)) ∧ Below w.heap.size w w' := by
  have HQ := hide hq
  have HN := hide hn
  clear hq hn
  go_enter Try.func84, Try.ntmps84
  go_wp2
  go_loopw [8] (fun i wr => ∃ k : Nat, k ≤ n ∧ i = .int .i64 k ∧ (∀ j, j < k → q (xs.getD j (0, 0)) = false) ∧ Below w.heap.size w wr) (fun i _ => n - (intOf i).toNat)
  case atStart => exact ⟨0, Nat.zero_le _, rfl, fun j hj => by omega, Below.refl _ _⟩
  case round =>
    obtain ⟨k, hk, rfl, hno, hbe⟩ := hrel
    have HNo := hide hno
    clear hno
    by_cases hlt : k < n
    · have hkl : k < xs.length := by rw [← HN.out]; exact hlt
      obtain ⟨b, off, rfl, hb, hc⟩ := (h.below hbe (Nat.le_refl _)).span (by omega)
      obtain ⟨hcell, hcell2⟩ := hc k hkl
      rw [los] at hcell
      rw [his] at hcell2
      clear hc
      have HM := hide (mem_getD (0, 0) hkl)
      have HH := hide h
      clear h
      have HQK := hide (HQ.out _ wr HM.out hbe)
      generalize hx : xs.getD k (0, 0) = x at *
      have HX := hide hx
      clear hx
      go_wp2_with fail
      refine HQK.out.mono ?_
      rintro e w' ⟨rfl, hb'⟩
      have hbe' := hbe.trans (hb'.mono hbe.size)
      clear HQK hbe hb'
      cases hv : q x with
      | true =>
        have E := hide (idxW_some (0, 0) q xs k hkl HNo.out (by rw [HX.out]; exact hv))
        clear hv
        go_wp2
        go_ret
        exact ⟨by rw [E.out]; rfl, hbe'⟩
      | false =>
        have HV := hide hv
        clear hv
        go_wp2
        go_roundw
        case rel => exact ⟨k + 1, by omega, by go_num, fun j hj => by
          rcases Nat.lt_succ_iff_lt_or_eq.1 hj with h | rfl
          · exact HNo.out j h
          · rw [HX.out]; exact HV.out, hbe'⟩
        case measure => simp [intOf]; omega
    · have E := hide (idxW_none (0, 0) q xs fun j hj => HNo.out j (by have := HN.out; omega))
      go_wp2
      go_ret
      exact ⟨by rw [E.out]; rfl, hbe⟩

set_option maxRecDepth 100000 in
set_option maxHeartbeats 1000000 in
theorem containsFuncT (q : Int × Int → Bool) (g : Nat) (lb : Array Value) (xs : List (Int × Int)) (a : Option Addr) (n cap : Nat) (w : World) (hn : n = xs.length) (hl : n ≤ 1000000000) (h : Row w w.heap.size a (spans xs))
    (eg : ∀ args w, (callFunc g args).run Try.prog w = .ok (.enter g args) w)
    (hq : ∀ (x : Int × Int) (W : World), x ∈ xs → Below w.heap.size w W → Calls Try.prog g (#[.agg #[.int .i64 x.1, .int .i64 x.2]] ++ lb) W fun e w' => e = .returned (.bool (q x)) ∧ Below W.heap.size W w') :
    Calls Try.prog 79 #[.slice a n cap, .func (.func g) #[] lb] w fun e w' => e = .returned (.bool (xs.any q)) ∧ Below w.heap.size w w' := by
  have HC := hide (indexFuncT q g lb xs a n cap w hn hl h eg hq)
  have E := hide (idxW_any q xs)
  clear hq hn eg
  go_enter Try.func79, Try.ntmps79
  go_wp2_with (go_at_call 84; refine HC.out.mono ?_; rintro e w' ⟨rfl, hb⟩)
  go_ret
  exact ⟨by rw [← E.out]; rfl, hb⟩

set_option maxRecDepth 100000 in
set_option maxHeartbeats 1000000 in
theorem index_any (v : Int) (xs : List Int) (a : Option Addr) (n cap B : Nat) (w : World) (hn : n = xs.length) (hl : n ≤ 1000000000) (h : Row w B a (ints xs)) :
    Calls Try.prog 83 #[.slice a n cap, .int .i64 v] w fun e w' => e = .returned (.int .i64 (idxW (fun x => decide (x = v)) xs)) ∧ w = w' := by
  have HN := hide hn
  clear hn
  go_enter Try.func83, Try.ntmps83
  go_wp2
  go_loop [4, 5, 8] (fun _ _ i => ∃ k : Nat, k ≤ n ∧ i = .int .i64 k ∧ ∀ j, j < k → decide (xs.getD j 0 = v) = false) (fun _ _ i => n - (intOf i).toNat)
  case atStart => exact ⟨0, Nat.zero_le _, rfl, fun j hj => by omega⟩
  case round =>
    obtain ⟨k, hk, rfl, hno⟩ := hrel
    have HNo := hide hno
    clear hno
    by_cases hlt : k < n
    · have hkl : k < xs.length := by rw [← HN.out]; exact hlt
      obtain ⟨b, off, rfl, hb, hc⟩ := h.int (by omega)
      have hcell := hc k hkl
      rw [iat] at hcell
      clear hc h
      generalize hx : xs.getD k 0 = x at *
      have HX := hide hx
      clear hx
      by_cases hv : x = v
      · have E := hide (idxW_some 0 (fun x => decide (x = v)) xs k hkl HNo.out (by rw [HX.out]; simp [hv]))
        have hv' : (v == x) = true := by simp [hv]
        clear hv
        go_wp2
        go_ret
        exact ⟨by rw [E.out]; rfl, rfl⟩
      · have HV : Hid (decide (x = v) = false) := hide (by simp [hv])
        have hv' : (v == x) = false := by simp; omega
        clear hv
        go_wp2
        go_round
        case rel => exact ⟨k + 1, by omega, by go_num, fun j hj => by
          rcases Nat.lt_succ_iff_lt_or_eq.1 hj with h | rfl
          · exact HNo.out j h
          · rw [HX.out]; exact HV.out⟩
        case measure => simp [intOf]; omega
    · have E := hide (idxW_none 0 (fun x => decide (x = v)) xs fun j hj => HNo.out j (by have := HN.out; omega))
      go_wp2
      go_ret
      exact ⟨by rw [E.out]; rfl, rfl⟩

set_option maxRecDepth 100000 in
set_option maxHeartbeats 1000000 in
theorem contains_any (v : Int) (xs : List Int) (a : Option Addr) (n cap B : Nat) (w : World) (hn : n = xs.length) (hl : n ≤ 1000000000) (h : Row w B a (ints xs)) :
    Calls Try.prog 71 #[.slice a n cap, .int .i64 v] w fun e w' => e = .returned (.bool (decide (v ∈ xs))) ∧ w = w' := by
  have HC := hide (fun w (h : Row w B a (ints xs)) => index_any v xs a n cap B w hn hl h)
  have E : Hid (decide (0 ≤ idxW (fun x => decide (x = v)) xs) = decide (v ∈ xs)) := hide (by rw [idxW_any, Bool.eq_iff_iff]; simp)
  clear hn
  go_enter Try.func71, Try.ntmps71
  go_wp2_with (go_at_call 83; refine (HC.out _ h).mono ?_; rintro e w' ⟨rfl, rfl⟩)
  go_ret
  exact ⟨by rw [← E.out]; rfl, rfl⟩

end Go.Proofs.Ytlbhnicengolfaa
