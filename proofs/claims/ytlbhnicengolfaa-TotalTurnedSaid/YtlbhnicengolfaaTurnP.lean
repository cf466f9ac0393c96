/-
  The plain law of a turned net: what Squares and Suspects say of it.
-/
import Derived.Test.YtlbhnicengolfaaSusF
namespace Go.Proofs.Ytlbhnicengolfaa
open Go.RowKit
set_option linter.unusedVariables false

structure TurnLaw (n : TNet) (r : Nat) : Prop where
  e : (sqR (turnN n r)).2 = (sqR n).2
  g : (susR (turnN n r)).2 = (susR n).2
  la : (sqR (turnN n r)).1.length = (sqR n).1.length
  lu : (susR (turnN n r)).1.length = (susR n).1.length
  ck : checkT (turnN n r) = 0
  cs : (sqR n).2 = 0 ∧ (sqR n).1.length = n.sp.length ∨ (sqR n).2 = 13 ∧ (sqR n).1.length = 0
  sq : ∀ q, q < (sqR n).1.length → q < n.sp.length ∧ (sqR (turnN n r)).1.getD (toQ n.sp.length r q) (0, 0) = (sqR n).1.getD q (0, 0)
  su : ∀ u ∈ (susR n).1, ∃ q : Nat, q < n.sp.length ∧ u = (q : Int) ∧ ((toQ n.sp.length r q : Nat) : Int) ∈ (susR (turnN n r)).1
  l1 : (susR n).1.length ≤ n.sp.length

theorem turn_count {n : TNet} (h : NOk n) (r : Nat) : ((List.range n.sp.length).filter (freeOk (turnN n r))).length = ((List.range n.sp.length).filter (freeOk n)).length := by
  have hm : 0 < n.sp.length := h.l1
  have hn : (((List.range n.sp.length).filter (freeOk n)).map (toQ n.sp.length r)).Nodup := by
    rw [List.nodup_iff_pairwise_ne, List.pairwise_map]
    refine List.Pairwise.imp_of_mem (R := (· ≠ ·)) (fun {a b} ha hb hab e => hab ?_) (List.nodup_iff_pairwise_ne.1 (List.Pairwise.filter _ (List.nodup_iff_pairwise_ne.1 List.nodup_range)))
    exact toQ_inj (List.mem_range.1 (List.mem_filter.1 ha).1) (List.mem_range.1 (List.mem_filter.1 hb).1) e
  have hp : (((List.range n.sp.length).filter (freeOk n)).map (toQ n.sp.length r)).Perm ((List.range n.sp.length).filter (freeOk (turnN n r))) := by
    rw [List.perm_ext_iff_of_nodup hn (List.Pairwise.filter _ List.nodup_range)]
    intro p
    rw [List.mem_map, List.mem_filter, List.mem_range]
    constructor
    · rintro ⟨q, hq, rfl⟩
      obtain ⟨h1, h2⟩ := List.mem_filter.1 hq
      exact ⟨toQ_lt hm, by rw [trn_free h (List.mem_range.1 h1)]; exact h2⟩
    · rintro ⟨h1, h2⟩
      refine ⟨backQ n.sp.length r p, List.mem_filter.2 ⟨List.mem_range.2 (toQ_lt hm), ?_⟩, to_back h1⟩
      have hb : backQ n.sp.length r p < n.sp.length := toQ_lt hm
      rw [← trn_free (r := r) h hb, to_back h1]
      exact h2
  rw [← hp.length_eq, List.length_map]

theorem turn_law {n : TNet} (h : NOk n) (r : Nat) : TurnLaw n r := by
  have h' := turnN_ok h r
  have hc := check_of h
  have hc' := check_of h'
  have hl : (turnN n r).sp.length = n.sp.length := by simp [turnN]
  have ht := trn_sqs (r := r) h
  have ho := trn_ok h ht
  have hs : sqR n = if narOk n.ts (sqs n.sp) then (narT n.ts (sqs n.sp), 0) else ([], 13) := by unfold sqR; rw [if_neg (by rw [hc]; simp)]
  have hs' : sqR (turnN n r) = if narOk n.ts (sqs n.sp) then (narT (turnN n r).ts (sqs (turnN n r).sp), 0) else ([], 13) := by unfold sqR; rw [if_neg (by rw [hc']; simp), ho]
  by_cases hok : narOk n.ts (sqs n.sp) = true
  · rw [if_pos hok] at hs hs'
    have hu : susR n = ([], 6) := by unfold susR; rw [if_pos (by rw [hs])]
    have hu' : susR (turnN n r) = ([], 6) := by unfold susR; rw [if_pos (by rw [hs'])]
    have len : (narT n.ts (sqs n.sp)).length = n.sp.length := by rw [narT_len, sqs_len]
    have len' : (narT (turnN n r).ts (sqs (turnN n r).sp)).length = n.sp.length := by rw [narT_len, sqs_len, hl]
    refine ⟨by rw [hs, hs'], by rw [hu, hu'], by rw [hs, hs', len, len'], by rw [hu, hu'], hc', .inl ⟨by rw [hs], by rw [hs, len]⟩, fun q hq => ?_, fun u hu2 => ?_, by rw [hu]; simp⟩
    · rw [hs, len] at hq
      rw [hs, hs']
      exact ⟨hq, trn_nar h ht hok hq⟩
    · rw [hu] at hu2; cases hu2
  · rw [if_neg hok] at hs hs'
    have hu : susR n = (susL n n.sp.length, 0) := by unfold susR; rw [if_neg (by rw [hs]; decide), if_pos (by rw [hs])]
    have hu' : susR (turnN n r) = (susL (turnN n r) n.sp.length, 0) := by unfold susR; rw [if_neg (by rw [hs']; decide), if_pos (by rw [hs']), hl]
    refine ⟨by rw [hs, hs'], by rw [hu, hu'], by rw [hs, hs'], by rw [hu, hu']; unfold susL; rw [List.length_map, List.length_map]; exact turn_count h r, hc', .inr ⟨by rw [hs], by rw [hs]; rfl⟩, fun q hq => ?_, fun u hu2 => ?_, by rw [hu]; exact susL_len _ _⟩
    · rw [hs] at hq; exact absurd hq (Nat.not_lt_zero _)
    · rw [hu] at hu2
      obtain ⟨q, hq, rfl⟩ := List.mem_map.1 hu2
      obtain ⟨h1, h2⟩ := List.mem_filter.1 hq
      have h1 := List.mem_range.1 h1
      refine ⟨q, h1, rfl, ?_⟩
      rw [hu']
      exact List.mem_map.2 ⟨_, List.mem_filter.2 ⟨List.mem_range.2 (toQ_lt (by omega)), by rw [trn_free h h1]; exact h2⟩, rfl⟩

end Go.Proofs.Ytlbhnicengolfaa
