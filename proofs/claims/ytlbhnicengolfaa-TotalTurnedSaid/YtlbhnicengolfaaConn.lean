/-
  Package total: connected.
-/
import Derived.Test.YtlbhnicengolfaaVisit
import Derived.Laws.EntriesVeiled
namespace Go.Proofs.Ytlbhnicengolfaa
open Go.RowKit
set_option linter.unusedVariables false
set_option linter.unusedSimpArgs false

/-- The indices of N quantities. -/
def idx (N : Nat) : List Int := (List.range N).map fun i : Nat => (i : Int)
theorem mem_idx {N : Nat} {q : Int} : q ∈ idx N ↔ 0 ≤ q ∧ q < N := by
  unfold idx
  rw [List.mem_map]
  constructor
  · rintro ⟨i, hi, rfl⟩
    have := List.mem_range.1 hi
    omega
  · rintro ⟨h0, h1⟩
    exact ⟨q.toNat, List.mem_range.2 (by omega), by omega⟩
theorem idx_length (N : Nat) : (idx N).length = N := by simp [idx]

theorem Blk.newAt {W : World} {k : Nat} (h : k = W.heap.size) (cs : Array Value) (t : TypeId) : Blk (W.alloc (.cells cs t)) k cs t := h ▸ Blk.new W cs t
theorem SetAt.madeAt {W : World} {k : Nat} (h : k = W.heap.size) : SetAt (W.alloc (.map #[] 0)) k [] := h ▸ SetAt.made W

set_option maxRecDepth 100000 in
set_option maxHeartbeats 4000000 in
theorem connected_any (N : Nat) (ts : List Tri) (sa ta : Option Addr) (sn sc tn tc up : Nat) (q : Int) (w : World) (hN : N ≤ 11) (hU : ∀ t ∈ ts.take up, ∀ o ∈ cor t, 0 ≤ o ∧ o < N) (hq : 0 ≤ q ∧ q < N) (htn : tn = ts.length) (hup : up ≤ tn) (htc : tn ≤ tc) (htc2 : tc ≤ 9223372036854775807)
    (hrow : Row w w.heap.size ta (tris ts)) :
    Calls Try.prog 68 #[.agg #[.slice sa sn sc, .slice ta tn tc], .int .i64 q, .int .i64 (up : Int)] w fun e w' =>
      ∃ MB, e = .returned (.map (some MB)) ∧ SetAt w' MB (vis 11 (ts.take up) q []) ∧ Below w.heap.size w w' := by
  have HV := hide (fun (B MB bm bn bu bv : Nat) => visit_any ts (idx N) B MB bm bn bu bv sa ta sn sc tn tc up (fun t ht o ho => mem_idx.2 (hU t ht o ho)) (fun o ho => by have := mem_idx.1 ho; omega) htn hup htc htc2 11)
  have HQ := hide (mem_idx.2 hq)
  have HC : Hid (cnt (idx N) [] ≤ 11) := hide (Nat.le_trans (cnt_le _ _) (by rw [idx_length]; exact hN))
  clear hU hq htn
  have hmm := @run_makeMap Try.prog
  go_enter Try.func68, Try.ntmps68
  go_upto_region 4 with (fail)
  generalize hW : World.alloc (World.alloc (World.alloc (World.alloc (World.alloc w _) _) _) _) _ = V
  have hB : Below w.heap.size w V := by rw [← hW]; exact (((((Below.refl _ _).alloc (Nat.le_refl _) _).alloc (by simp) _).alloc (by simp; omega) _).alloc (by simp; omega) _).alloc (by simp; omega) _
  have kn : Blk V w.heap.size #[.slice sa sn sc, .slice ta tn tc] 25 := by rw [← hW]; exact ((((Blk.new w _ _).alloc _).alloc _).alloc _).alloc _
  have ku : Blk V (w.heap.size + 1) #[.int .i64 (up : Int)] 3 := by rw [← hW]; exact (((Blk.newAt (by simp) _ _).alloc _).alloc _).alloc _
  have ks : SetAt V (w.heap.size + 1 + 1) [] := by rw [← hW]; exact ((SetAt.madeAt (by simp)).alloc _).alloc _
  have km : Blk V (w.heap.size + 1 + 1 + 1) #[.map (some (w.heap.size + 1 + 1))] 112 := by rw [← hW]; exact (Blk.newAt (by simp) _ _).alloc _
  have kv : Blk V (w.heap.size + 1 + 1 + 1 + 1) #[.func (.func 82) #[] #[.pointer (some ⟨w.heap.size + 1 + 1 + 1, 0, none⟩), .pointer (some ⟨w.heap.size, 0, none⟩), .pointer (some ⟨w.heap.size + 1, 0, none⟩), .pointer (some ⟨w.heap.size + 1 + 1 + 1 + 1, 0, none⟩)]] 105 := by rw [← hW]; exact Blk.newAt (by simp) _ _
  have hcap : Cap V w.heap.size (w.heap.size + 1 + 1) (w.heap.size + 1 + 1 + 1) w.heap.size (w.heap.size + 1) (w.heap.size + 1 + 1 + 1 + 1) sa ta sn sc tn tc up ts := ⟨km, kn, ku, kv, hrow.below hB (Nat.le_refl _), by omega, by omega, by omega, by omega, by omega⟩
  clear hW hmm
  obtain ⟨v0, _⟩ := kv.one
  have l0 := kv.lt
  have HCALL := hide (HV.out _ _ _ _ _ _ q [] V HQ.out HC.out (by have := HC.out; simp; omega) hcap ks)
  go_wp2_with fail
  refine HCALL.out.mono ?_
  rintro e W2 ⟨rfl, hr2, hs2⟩
  have km2 := km.rnd hr2 (by omega)
  have hB2 := hB.trans (hr2.below hB.size (fun k hk e => by omega))
  obtain ⟨m0, _⟩ := km2.one
  have l1 := km2.lt
  clear v0 l0 HCALL hcap kn ku ks km kv hr2 hB
  go_wp2_with fail
  go_ret
  exact ⟨_, rfl, hs2, hB2⟩

end Go.Proofs.Ytlbhnicengolfaa
