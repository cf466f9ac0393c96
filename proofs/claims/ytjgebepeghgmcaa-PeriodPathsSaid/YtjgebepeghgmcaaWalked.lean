/-
  The law's function walked: the moves of a path, one by one.
-/
import Derived.Test.YtjgebepeghgmcaaPlain2
import Derived.Deep.DeepCutAuto
namespace Go.Proofs.Ytjgebepeghgmcaa
open Go.RowKit Go.Shelf
set_option linter.unusedVariables false
set_option linter.unusedSimpArgs false

def bools (xs : List Bool) : List Value := xs.map Value.bool
theorem bools_length (xs : List Bool) : (bools xs).length = xs.length := by simp [bools]
/-- A slice of bools that a function returns. -/
def RowB (w : World) (v : Value) (xs : List Bool) : Prop := ∃ a cap, v = .slice a xs.length cap ∧ xs.length ≤ cap ∧ Row w w.heap.size a (bools xs)
theorem RowB.below {w w' : World} {v : Value} {xs : List Bool} (h : RowB w v xs) (hb : Below w.heap.size w w') : RowB w' v xs := by
  obtain ⟨a, cap, h1, h2, h3⟩ := h
  exact ⟨a, cap, h1, h2, (h3.below hb (Nat.le_refl _)).mono hb.size⟩
theorem RowB.of_own {w : World} {B : Nat} {v : Value} {xs : List Bool} (h : w.ownsRow B 4 1 v xs.length (bools xs)) : RowB w v xs := by
  rcases h.2 with ⟨rfl, h0⟩ | ⟨g, cap, cur, rfl, _, hc, hle, _, _, htk⟩
  · have : xs = [] := List.eq_nil_of_length_eq_zero h0
    subst this
    exact ⟨none, 0, rfl, Nat.le_refl _, .inl rfl⟩
  · exact ⟨_, cap, rfl, hle, (row_of_heap hc (by rw [bools_length]; simpa using htk)).mono (Array.getElem?_eq_some_iff.1 hc).1⟩

theorem movesOf_append : ∀ (l r : List Int) (i : Nat), movesOf i (l ++ r) = movesOf i l ++ movesOf (i + l.length) r
  | [], r, i => by simp [movesOf]
  | n :: l, r, i => by
    simp only [List.cons_append, movesOf]
    rw [movesOf_append l r (i + 1), List.append_assoc, List.length_cons, show i + 1 + l.length = i + (l.length + 1) by omega]
theorem movesOf_snoc (l : List Int) (k : Nat) (hk : k < l.length) : movesOf 0 (l.take (k + 1)) = movesOf 0 (l.take k) ++ List.replicate (iat l k).toNat (decide (k % 2 = 0)) := by
  rw [take_snoc l k hk, movesOf_append, List.length_take, Nat.min_eq_left (by omega), Nat.zero_add]
  simp [movesOf]
theorem movesOf_len_le (l : List Int) (k : Nat) : (movesOf 0 (l.take k)).length ≤ (movesOf 0 l).length := by
  conv => rhs; rw [← List.take_append_drop k l, movesOf_append, List.length_append]
  omega

theorem info_bool0 : (Try.prog.info? 4).map (fun i => (i.zero, i.size, i.bytes)) = some (some (.bool false), 1, 1) := by kernel_rfl
theorem under_bools : Try.prog.underlying 74 = some (.slice 4) := by kernel_rfl
theorem info_bool : ∃ i : TypeInfo, Try.prog.info? 4 = some i ∧ i.zero = some (.bool false) ∧ i.size = 1 ∧ i.bytes = 1 := info_parts info_bool0

set_option maxRecDepth 100000 in
set_option maxHeartbeats 2000000 in
theorem walked_any (l : List Int) (pa : Option Addr) (n cap : Nat) (w : World) (hn : n = l.length) (hl : n ≤ 1000000000) (hr : Runs l) (hs : (movesOf 0 l).length ≤ 600) (h : Row w w.heap.size pa (ints l)) :
    Calls Try.prog 35 #[.slice pa n cap] w fun e w' => ∃ v, e = .returned (.tuple #[v, .bool true]) ∧ RowB w' v (movesOf 0 l) ∧ Below w.heap.size w w' := by
  have HN := hide hn
  have HK := hide (fun k (hk : k < n) => (by
    have hk' : k < l.length := by omega
    have h0 := hr.nn (iat l k) (by rw [iat_eq l k hk']; exact List.getElem_mem _)
    have h1 := movesOf_len_le l (k + 1)
    have h2 := movesOf_snoc l k hk'
    rw [h2, List.length_append, List.length_replicate] at h1
    refine ⟨h0, by omega, h2, fun hz => ?_⟩
    constructor
    · cases k with
      | zero => rfl
      | succ k =>
        have := hr.tl (iat l (k + 1)) (by
          rw [iat_eq l (k + 1) hk']
          refine List.mem_iff_getElem.2 ⟨k, by simp; omega, ?_⟩
          simp only [List.getElem_drop]
          congr 1
          omega)
        omega
    · intro h1
      apply hr.one
      match l, hn, hz with
      | [z], _, hz => 
        have : k = 0 := by simp at hk'; exact hk'
        subst this
        simpa [iat] using hz
      | [], hn, _ => simp at hn; omega
      | _ :: _ :: _, hn, _ => simp at hn; omega :
      0 ≤ iat l k ∧ ((movesOf 0 (l.take k)).length : Int) + iat l k ≤ 600 ∧ movesOf 0 (l.take (k + 1)) = movesOf 0 (l.take k) ++ List.replicate (iat l k).toNat (decide (k % 2 = 0)) ∧ (iat l k = 0 → k = 0 ∧ n ≠ 1)))
  obtain ⟨i0, hi, hz0, hz1, hz2⟩ := info_bool
  have HI := hide hi
  clear hn hr hs hi
  go_enter Try.func35, Try.ntmps35
  go_wp2_with fail
  go_loopw [4, 5, 6, 7, 10] (fun v _ _ _ i wr => ∃ (k : Nat) (vv : Value), k ≤ n ∧ vv = v ∧ i = .int .i64 k ∧ wr.ownsRow w.heap.size 4 1 vv (movesOf 0 (l.take k)).length (bools (movesOf 0 (l.take k))) ∧ Below w.heap.size w wr) (fun _ _ _ _ i _ => n - (intOf i).toNat)
  case atStart => exact ⟨0, _, Nat.zero_le _, rfl, rfl, World.ownsRow_nil _ _ _ _, Below.refl _ _⟩
  case round =>
    obtain ⟨k, vv, hk, rfl, rfl, hown, hbe⟩ := hrel
    have HOWN := hide hown
    by_cases hlt : k < n
    · have hkp : k < l.length := by rw [← HN.out]; exact hlt
      obtain ⟨bp, op, rfl, _, hcp⟩ := (h.below hbe (Nat.le_refl _)).int (by omega)
      have hcell := hcp k hkp
      obtain ⟨g0, g1, g2, g3⟩ := HK.out k hlt
      have HG2 := hide g2
      have HCP := hide (fun (w' : World) (hb : Below w.heap.size w w') => (h.below hb (Nat.le_refl _)))
      clear hcp hown g2
      generalize hx : iat l k = x at *
      clear hx
      generalize hdn : movesOf 0 (l.take k) = done at *
      have HDN := hide hdn
      clear hdn
      obtain ⟨va, vcap, rfl⟩ : ∃ va vcap, vv = .slice va done.length vcap := by
        rcases HOWN.out.2 with ⟨rfl, h0⟩ | ⟨g, cp, cur, rfl, _⟩
        · exact ⟨none, 0, by rw [h0]⟩
        · exact ⟨_, _, rfl⟩
      have ht : (x == 0) = true ∧ decide (0 < k) = false ∧ ((n : Int) == 1) = false ∨ (x == 0) = false := by
        by_cases hz : x = 0
        · obtain ⟨h1, h2⟩ := g3 hz
          exact .inl ⟨by simp [hz], by simp [h1], by rw [beq_eq_false_iff_ne]; omega⟩
        · exact .inr (by simp [hz])
      clear g3
      have hsw := hbe.size
      rcases ht with ⟨t1, t2, t3⟩ | t1
      all_goals
        go_upto_region 7 with (fail)
        go_wp2_with fail
        obtain ⟨wo, rfl⟩ : ∃ wo : World, wo = wr := ⟨_, rfl⟩
        go_loopw [4, 7] (fun v j wr => ∃ (m : Nat) (vv : Value), (m : Int) ≤ x ∧ vv = v ∧ j = .int .i64 m ∧ wr.ownsRow w.heap.size 4 1 vv (done.length + m) (bools (done ++ List.replicate m (decide (k % 2 = 0)))) ∧ Below w.heap.size w wr) (fun _ j _ => x.toNat - (intOf j).toNat)
        case atStart => exact ⟨0, _, g0, rfl, rfl, by simpa using HOWN.out, hbe⟩
        case round =>
          obtain ⟨m, vv, hm, rfl, rfl, hown, hbe2⟩ := hrel
          have hsw2 := hbe2.size
          by_cases hmx : (m : Int) < x
          · have HO := hide hown
            have hpar : (((k : Int) % 2) == 0) = decide (k % 2 = 0) := by
              by_cases e : k % 2 = 0
              · simp [e]; omega
              · simp [e]; omega
            generalize hbb : decide (k % 2 = 0) = bb at *
            clear hown t1 hbb
            go_wp2_with (
              at_builtin
              refine wpList_append_lies _ rfl (.tmp 46) (.tmp 50) 74 rfl w.heap.size 4 i0 (.bool false) 1 1 under_bools HI.out hz0 hz1 hz2 rfl (by decide) _ _ _ rfl (HO.out.alloc _) ⟨_, 0, none⟩ 1 1 [.bool bb] rfl rfl (cell_one_new _ _ _) (by intro u hu; simp at hu; subst hu; rfl) (by decide) (by unfold maxLen; omega) (by omega) (by simp; omega) _ rfl ?_
              intro g2 cap2 W6 ow6 gr6 at6 lt6
              have hbe6 := hide ((hbe2.alloc hsw2 _).trans (Grow.of_grownBy gr6 (fun k e => (HO.out.lt k e).1) (by simp; omega)))
              have HO6 := hide ow6
              clear ow6 gr6 at6 lt6)
            go_roundw
            case rel => exact ⟨m + 1, _, by omega, rfl, by go_num, by
              have e : bools (done ++ List.replicate (m + 1) bb) = bools (done ++ List.replicate m bb) ++ [.bool bb] := by
                rw [List.replicate_succ', ← List.append_assoc]; simp [bools]
              rw [e]
              exact HO6.out, hbe6.out⟩
            case measure => simp [intOf]; omega
          · have hmx' : m = x.toNat := by omega
            have HO : Hid (wr.ownsRow w.heap.size 4 1 vv (movesOf 0 (l.take (k + 1))).length (bools (movesOf 0 (l.take (k + 1))))) := hide (by
              rw [HG2.out, List.length_append, List.length_replicate, ← hmx']
              exact hown)
            clear hown
            go_wp2_with fail
            go_roundw
            case rel => exact ⟨k + 1, vv, by omega, rfl, by go_num, HO.out, hbe2⟩
            case measure => simp [intOf]; omega
    · have HO : Hid (wr.ownsRow w.heap.size 4 1 vv (movesOf 0 l).length (bools (movesOf 0 l))) := hide (by
        rw [List.take_of_length_le (by rw [← HN.out]; omega)] at hown
        exact hown)
      clear hown HOWN
      go_wp2_with fail
      exact bodyPost_ret (v := .tuple #[vv, .bool true]) (by simp [results, Try.results35, go_sem]) rfl ⟨_, rfl, RowB.of_own HO.out, hbe⟩

end Go.Proofs.Ytjgebepeghgmcaa
