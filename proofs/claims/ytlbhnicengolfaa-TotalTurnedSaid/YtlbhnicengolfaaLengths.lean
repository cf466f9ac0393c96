/-
  Package total: Lengths.
-/
import Derived.Test.YtlbhnicengolfaaSquares
import Derived.Test.YtlbhnicengolfaaRoot
namespace Go.Proofs.Ytlbhnicengolfaa
open Go.RowKit
set_option linter.unusedVariables false
set_option linter.unusedSimpArgs false

def lenS (s : Sp) : Sp := ((rootR s.1).1.1, (rootR s.2).1.2)
/-- What Lengths returns. -/
def lenR (n : TNet) : List Sp × Int := ((sqR n).1.map lenS, (sqR n).2)
def stL (L : List Sp) (k : Nat) : List Sp := (L.take k).map lenS ++ L.drop k
theorem stL_len (L : List Sp) (k : Nat) (h : k ≤ L.length) : (stL L k).length = L.length := by simp [stL]; omega
theorem stL_get {L : List Sp} {k : Nat} (h : k < L.length) : (stL L k).getD k (0, 0) = L.getD k (0, 0) := by
  unfold stL
  rw [List.getD_eq_getElem?_getD, List.getD_eq_getElem?_getD, List.getElem?_append_right (by simp; omega)]
  simp [Nat.min_eq_left (Nat.le_of_lt h)]
theorem stL_set {L : List Sp} {k : Nat} (h : k < L.length) : (stL L k).set k (lenS (L.getD k (0, 0))) = stL L (k + 1) := by
  unfold stL
  have e : L[k] = L.getD k (0, 0) := by simp [List.getD, h]
  rw [List.set_append_right _ _ (by simp; omega), List.take_succ_eq_append_getElem h, List.map_append, List.append_assoc, List.drop_eq_getElem_cons h, e]
  simp [Nat.min_eq_left (Nat.le_of_lt h)]
theorem own_shape {w : World} {base : Nat} {e : TypeId} {s n : Nat} {v : Value} {xs : List Value} (h : w.ownsRow base e s v n xs) : ∃ a cap, v = .slice a n cap ∧ n ≤ cap ∧ cap ≤ maxLen := by
  rcases h.2 with ⟨rfl, rfl⟩ | ⟨g, cap, cur, rfl, _, _, h1, h2, _⟩
  · exact ⟨none, 0, rfl, Nat.le_refl _, by decide⟩
  · exact ⟨_, _, rfl, h1, h2⟩
theorem sqR_len (n : TNet) : (sqR n).1.length ≤ 11 := by
  unfold sqR
  split
  · simp
  · rename_i h
    have := (nok_of_check (Decidable.not_not.1 h)).l2
    split
    · rw [narT_len, sqs_len]; exact this
    · simp

set_option maxRecDepth 100000 in
set_option maxHeartbeats 4000000 in
theorem lengths_any (n : TNet) (sa ta : Option Addr) (sn sc tn tc : Nat) (w : World) (h : NetIn n sa ta sn tn tc w) :
    Calls Try.prog 29 #[netV sa ta sn sc tn tc] w fun e w' =>
      ∃ v, e = .returned (.tuple #[v, .int .i64 (lenR n).2]) ∧ w'.ownsRow w.heap.size 53 2 v (lenR n).1.length (spans (lenR n).1) ∧ Below w.heap.size w w' := by
  have hb1 : Below w.heap.size w (w.alloc (.cells #[.slice sa sn sc, .slice ta tn tc] 25)) := (Below.refl _ _).alloc (Nat.le_refl _) _
  have HSQ := hide (squares_any n sa ta sn sc tn tc _ (h.below hb1))
  have HL := hide (sqR_len n)
  have HR : Hid (lenR n = ((sqR n).1.map lenS, (sqR n).2)) := hide rfl
  clear h
  generalize lenR n = R at *
  generalize (sqR n).1 = L at *
  generalize (sqR n).2 = E at *
  go_enter Try.func29, Try.ntmps29
  go_wp2_with fail
  refine HSQ.out.mono ?_
  rintro e W2 ⟨v, rfl, own2, hb2⟩
  have hB2 := hb1.trans (hb2.mono hb1.size)
  have own2' := Go.Joins.ownsRow_le own2 hb1.size
  clear own2 hb1 hb2 HSQ
  obtain ⟨va, cap, rfl, hvc, hvm⟩ := own_shape own2'
  unfold maxLen at hvm
  obtain ⟨N, hN⟩ : ∃ N, N = L.length := ⟨_, rfl⟩
  rw [← hN] at own2' hvc ⊢
  have HN := hide hN
  have hN11 : N ≤ 11 := by rw [hN]; exact HL.out
  clear hN
  go_wp2_with fail
  go_loopw [21] (fun i wr => ∃ k : Nat, k ≤ N ∧ i = .int .i64 (k : Int) ∧ wr.ownsRow w.heap.size 53 2 (.slice va N cap) N (spans (stL L k)) ∧ Below w.heap.size w wr) (fun i _ => N - (intOf i).toNat)
  case atStart => exact ⟨0, Nat.zero_le _, rfl, own2', hB2⟩
  case round =>
    clear own2' hB2
    obtain ⟨k, hk, rfl, own, hB⟩ := hrel
    have hsz := hB.size
    by_cases hlt : k < N
    · obtain ⟨g, cap', hv, _, _⟩ := own.form (by omega)
      injection hv with hva _ hcap
      subst hva hcap
      have hgl := own.lt g rfl
      have hkl : k < L.length := by rw [← HN.out]; exact hlt
      obtain ⟨c0, c1, f0, f1⟩ := own2_cell own hlt
      rw [stL_get hkl] at c0 c1
      have HST := hide (stL_set hkl)
      have HOW := hide own
      clear own hkl
      have HLS : Hid (lenS (L.getD k (0, 0)) = ((rootR (L.getD k (0, 0)).1).1.1, (rootR (L.getD k (0, 0)).2).1.2)) := hide rfl
      generalize L.getD k (0, 0) = S at *
      obtain ⟨x, y⟩ := S
      dsimp only at c0 c1 HLS
      have HR1 := hide (fun W => rootF_any x W)
      have HR2 := hide (fun W => rootF_any y W)
      generalize lenS (x, y) = lS at *
      generalize rootR x = rx at *
      generalize rootR y = ry at *
      obtain ⟨⟨rx1, rx2⟩, rx3⟩ := rx
      obtain ⟨⟨ry1, ry2⟩, ry3⟩ := ry
      dsimp only at HR1 HR2 HLS
      go_wp2_with fail
      refine (HR1.out _).mono ?_
      rintro e W3 ⟨rfl, rfl⟩
      go_wp2_with fail
      refine (HR2.out _).mono ?_
      rintro e W3 ⟨rfl, rfl⟩
      have hgne : ¬ wr.heap.size = g := by omega
      go_wp2_with fail
      have ow5 := (own2_set HOW.out k rx1 ry2).alloc (.cells #[.int .i64 x, .int .i64 y] 53)
      have hB5 := ((hB.setCell (p := ⟨g, k * 2, none⟩) hgl.1 (.int .i64 rx1)).setCell (p := ⟨g, k * 2 + 1, none⟩) hgl.1 (.int .i64 ry2)).alloc (by simp [World.setCell]; omega) (.cells #[.int .i64 x, .int .i64 y] 53)
      go_roundw
      case rel => exact ⟨k + 1, by omega, by go_num, by rw [← HST.out, HLS.out]; exact ow5, hB5⟩
      case measure => simp [intOf]; omega
    · have hkn : k = N := by omega
      have HF : Hid (stL L k = R.1) := hide (by rw [HR.out, hkn, HN.out]; simp [stL])
      have HF2 : Hid (N = R.1.length) := hide (by rw [HR.out, HN.out]; simp)
      have HF3 : Hid (R.2 = E) := hide (by rw [HR.out])
      rw [HF.out] at own
      clear hkn
      go_wp2_with fail
      refine bodyPost_ret (v := .tuple #[.slice va N cap, .int .i64 E]) (by simp [results, Try.results29, go_sem]) rfl ⟨_, by rw [HF3.out], by rw [← HF2.out]; exact own, hB⟩

end Go.Proofs.Ytlbhnicengolfaa
