/-
  Package total: spans.
-/
import Derived.Test.YtlbhnicengolfaaNarrow
import Derived.Deep.AppendLies
namespace Go.Proofs.Ytlbhnicengolfaa
open Go.RowKit
set_option linter.unusedVariables false
set_option linter.unusedSimpArgs false

def sqS (s : Sp) : Sp := (s.1 * s.1, s.2 * s.2)
/-- The squares that quantities can have by themselves. -/
def sqs (sp : List Sp) : List Sp := sp.map sqS

theorem info_spn0 : (Try.prog.info? 99).map (fun i => (i.zero, i.size, i.bytes)) = some (some (.agg #[.int .i64 0, .int .i64 0]), 2, 16) := by kernel_rfl
theorem under_spns : Try.prog.underlying 95 = some (.slice 99) := by kernel_rfl
theorem info_spn : ∃ i : TypeInfo, Try.prog.info? 99 = some i ∧ i.zero = some (.agg #[.int .i64 0, .int .i64 0]) ∧ i.size = 2 ∧ i.bytes = 16 := info_parts info_spn0

theorem spans_append : ∀ (a b : List Sp), spans (a ++ b) = spans a ++ spans b
  | [], b => rfl
  | p :: a, b => by simp [spans, spans_append a b]
theorem span_eq {sp : List Sp} {k : Nat} (h : k < sp.length) : sp[k] = (los sp k, his sp k) := by simp [los, his, List.getD, h]
theorem sqs_snoc {sp : List Sp} {k : Nat} (h : k < sp.length) : (sqs sp).take (k + 1) = (sqs sp).take k ++ [(los sp k * los sp k, his sp k * his sp k)] := by
  rw [List.take_succ_eq_append_getElem (by simpa [sqs] using h)]
  simp only [sqs, List.getElem_map, span_eq h]
  rfl
theorem sq_small {x : Int} (h0 : 0 ≤ x) (h1 : x ≤ 10000) : 0 ≤ x * x ∧ x * x ≤ 100000000 := ⟨Int.mul_nonneg h0 h0, by have := Int.mul_le_mul h1 h1 h0 (by omega); omega⟩
theorem sqs_B {n : TNet} (h : NOk n) : LsB 100000000 (sqs n.sp) := fun s hs => by
  obtain ⟨t, ht, rfl⟩ := List.mem_map.1 hs
  obtain ⟨i, hi, rfl⟩ := List.mem_iff_getElem.1 ht
  have := h.sp i hi
  rw [span_eq hi]
  have a := sq_small this.1 (by omega)
  have b := sq_small (x := his n.sp i) (by omega) this.2.2
  exact ⟨a.1, a.2, by show -100000000 ≤ his n.sp i * his n.sp i; omega, by show his n.sp i * his n.sp i ≤ _; omega⟩

set_option maxRecDepth 100000 in
set_option maxHeartbeats 4000000 in
theorem spans_any (n : TNet) (sa ta : Option Addr) (sn sc tn tc : Nat) (w : World) (hn : NOk n) (hsn : sn = n.sp.length) (hrs : Row w w.heap.size sa (spans n.sp)) :
    Calls Try.prog 57 #[netV sa ta sn sc tn tc] w fun e w' =>
      ∃ g cap, e = .returned (.slice (some ⟨g, 0, none⟩) sn cap) ∧ w'.ownsRow (w.heap.size + 1) 99 2 (.slice (some ⟨g, 0, none⟩) sn cap) sn (spans (sqs n.sp)) ∧ Below w.heap.size w w' := by
  have h11 := hn.l2
  have h1 := hn.l1
  have HSN := hide hsn
  have HRS := hide hrs
  have HN := hide hn
  obtain ⟨i0, hi, hz0, hz1, hz2⟩ := info_spn
  have HI := hide hi
  have hs11 : sn ≤ 11 := by omega
  have hs1 : 1 ≤ sn := by omega
  have kn := Blk.new w #[.slice sa sn sc, .slice ta tn tc] 25
  have hb1 : Below w.heap.size w (w.alloc (.cells #[.slice sa sn sc, .slice ta tn tc] 25)) := (Below.refl _ _).alloc (Nat.le_refl _) _
  clear hsn hrs hn hi h11 h1
  go_enter Try.func57, Try.ntmps57
  go_wp2_with fail
  go_loopw [3, 9] (fun v i wr => ∃ k : Nat, k ≤ sn ∧ i = .int .i64 (k : Int) ∧ wr.ownsRow (w.heap.size + 1) 99 2 v k (spans ((sqs n.sp).take k)) ∧ Below w.heap.size w wr ∧ w.heap.size + 1 ≤ wr.heap.size) (fun _ i _ => sn - (intOf i).toNat)
  case atStart => exact ⟨0, Nat.zero_le _, rfl, World.ownsRow_nil _ _ _ _, hb1, by simp⟩
  case round =>
    clear kn hb1
    obtain ⟨k, hk, rfl, hown, hB, hsz⟩ := hrel
    by_cases hlt : k < sn
    · have hkl : k < n.sp.length := by rw [← HSN.out]; exact hlt
      obtain ⟨b, off, hsa, hbw, hcell⟩ := (HRS.out.below hB (Nat.le_refl _)).span (by omega)
      obtain ⟨c0, c1⟩ := hcell k hkl
      have hsp := HN.out.sp k hkl
      have HSQ := hide (sqs_snoc hkl)
      have q0 := sq_small hsp.1 (by omega)
      have q1 := sq_small (x := his n.sp k) (by omega) hsp.2.2
      clear hcell hkl hsp
      subst hsa
      generalize los n.sp k = lo at *
      generalize his n.sp k = hi at *
      obtain ⟨q00, q01⟩ := q0
      obtain ⟨q10, q11⟩ := q1
      have HO := hide hown
      clear hown
      have hbw2 : b < wr.heap.size := by have := hB.size; omega
      go_wp2_with (
        at_builtin
        refine wpList_append_lies _ rfl (.tmp 13) (.tmp 26) 95 rfl (w.heap.size + 1) 99 i0 (.agg #[.int .i64 0, .int .i64 0]) 2 16 under_spns HI.out hz0 hz1 hz2 rfl (by decide) _ k (spans ((sqs n.sp).take k)) rfl ((HO.out.alloc _).alloc _) ⟨wr.heap.size + 1, 0, none⟩ 1 1 [.int .i64 (lo * lo), .int .i64 (hi * hi)] rfl rfl
          (World.news_of_block (cs := #[.int .i64 (lo * lo), .int .i64 (hi * hi)]) (t := 99) (fr := (0, 0)) (Blk.newAt (by simp) _ _)) (by intro u hu; simp at hu; rcases hu with rfl | rfl <;> rfl) (by decide) (by unfold maxLen; omega) (by omega) (by simp; omega) _ rfl ?_
        intro g2 cap2 W4 ow4 gr4 at4 lt4)
      have hB4 : Below w.heap.size w W4 := ((hB.alloc hB.size _).alloc (by simp; have := hB.size; omega) _).trans (⟨gr4.os, gr4.tape, gr4.output, gr4.size, fun k hk => gr4.block k (by simp; have := hB.size; omega) (fun e => by have := (HO.out.lt k e.symm).1; omega)⟩)
      have hsz4 : w.heap.size + 1 ≤ W4.heap.size := by have := gr4.size; simp at this; omega
      clear gr4 at4 lt4 c0 c1
      go_roundw
      case rel => exact ⟨k + 1, by omega, by go_num, by rw [HSQ.out, spans_append]; exact ow4, hB4, hsz4⟩
      case measure => simp [intOf]; omega
    · have hkn : k = sn := by omega
      obtain ⟨g, cap, rfl, _, _⟩ := hown.form (by omega)
      have HF : Hid ((sqs n.sp).take k = sqs n.sp) := hide (List.take_of_length_le (by rw [hkn, HSN.out]; simp [sqs]))
      go_wp2_with fail
      go_ret
      exact ⟨g, cap, by rw [hkn]; rfl, by rw [HF.out, hkn] at hown; exact hown, hB⟩

end Go.Proofs.Ytlbhnicengolfaa
