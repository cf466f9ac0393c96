/-
  Package period: counts; its iterator.
-/
import Derived.Test.YtjgebepeghgmcaaCModel
import Derived.Test.YtjgebepeghgmcaaSlOps
import Derived.LoopNIn
import Derived.OwnWalk
namespace Go.Proofs.Ytjgebepeghgmcaa
open Go.RowKit Go.Shelf
set_option linter.unusedVariables false
set_option linter.unusedSimpArgs false

theorem counts_any (l : PLog) (a ca : Option Addr) (n cap m ccap : Nat) (w : World) :
    Calls Try.prog 38 #[.agg #[.int .i64 l.lo, .int .i64 l.hi, .slice a n cap], .slice ca m ccap] w fun e w' =>
      e = .returned (.func (.func 67) #[] #[.pointer (some ⟨w.heap.size + 1, 0, none⟩), .pointer (some ⟨w.heap.size, 0, none⟩)]) ∧
      w' = (w.alloc (.cells #[.int .i64 l.lo, .int .i64 l.hi, .slice a n cap] 26)).alloc (.cells #[.slice ca m ccap] 42) := by
  go_enter Try.func38, Try.ntmps38
  go_wp2
  go_ret
  exact ⟨by simp, rfl⟩

/-- The block of a row that is not empty. -/
def capR (a : Option Addr) (vs : List Value) (k : Nat) : Prop := vs ≠ [] ∧ ∃ ad, a = some ad ∧ ad.block = k
theorem Row.at {w w' : World} {B : Nat} {a : Option Addr} {vs : List Value} (h : Row w B a vs) (hk : ∀ k, capR a vs k → w'.heap[k]? = w.heap[k]?) : Row w' B a vs := by
  rcases h with h | ⟨b, off, rfl, hb, h⟩
  · exact .inl h
  · by_cases hv : vs = []
    · exact .inl hv
    · exact .inr ⟨b, off, rfl, hb, fun i hi => (World.cell?_of_block (hk b ⟨hv, _, rfl, rfl⟩)).trans (h i hi)⟩
theorem Row.capLt {w : World} {B : Nat} {a : Option Addr} {vs : List Value} (h : Row w B a vs) {k : Nat} (hk : capR a vs k) : k < B := by
  obtain ⟨hv, ad, rfl, rfl⟩ := hk
  rcases h with h | ⟨b, off, e, hb, h⟩
  · exact absurd h hv
  · injection e with e; subst e; exact hb
theorem Row.lift {w : World} {B B' : Nat} {a : Option Addr} {vs : List Value} (h : Row w B a vs) (hk : ∀ k, capR a vs k → k < B') : Row w B' a vs := by
  rcases h with h | ⟨b, off, rfl, hb, h⟩
  · exact .inl h
  · by_cases hv : vs = []
    · exact .inl hv
    · exact .inr ⟨b, off, rfl, hk b ⟨hv, _, rfl, rfl⟩, h⟩

def capC (bl bb : Nat) (a ca : Option Addr) (l : PLog) (cs : List Int) (k : Nat) : Prop := k = bl ∨ k = bb ∨ capR a (spans l.ps) k ∨ capR ca (ints cs) k

theorem info_int0 : (Try.prog.info? 3).map (fun i => (i.zero, i.size, i.bytes)) = some (some (.int .i64 0), 1, 8) := by kernel_rfl
theorem under_ints : Try.prog.underlying 42 = some (.slice 3) := by kernel_rfl
theorem info_int : ∃ i : TypeInfo, Try.prog.info? 3 = some i ∧ i.zero = some (.int .i64 0) ∧ i.size = 1 ∧ i.bytes = 8 := info_parts info_int0
theorem size_int : (Try.prog.info? 3).map (·.size) = some 1 := by kernel_rfl

attribute [local go_sem] Oper.semAt_some in
set_option maxRecDepth 100000 in
set_option maxHeartbeats 4000000 in
theorem counts_iter0 (l : PLog) (cs : List Int) (bl bb : Nat) (a ca : Option Addr) (n cap m ccap : Nat) (w : World) (hl : LOk l) (hcs : COk l cs) (hlen : cs.length + 1 = l.ps.length)
    (hn : n = l.ps.length) (hm : m = cs.length) (hne : bl ≠ bb)
    (b0 : Blk w bl #[.int .i64 l.lo, .int .i64 l.hi, .slice a n cap] 26) (b1 : Blk w bb #[.slice ca m ccap] 42) (hp : Row w w.heap.size a (spans l.ps)) (hc : Row w w.heap.size ca (ints cs)) :
    IterC Try.prog 67 #[.pointer (some ⟨bb, 0, none⟩), .pointer (some ⟨bl, 0, none⟩)] [cs] (capC bl bb a ca l cs) w := by
  intro lp J Jx O W hsz hcap hO hJ hJx hY h0
  have l8 := hl.len8
  have hcW : Row W w.heap.size ca (ints cs) := hc.at fun k hk => (hcap k (.inr (.inr (.inr hk)))).2.2
  have k0 : Blk W bl #[.int .i64 l.lo, .int .i64 l.hi, .slice a n cap] 26 := ((hcap bl (.inl rfl)).2.2).trans b0
  have k1 : Blk W bb #[.slice ca m ccap] 42 := ((hcap bb (.inr (.inl rfl))).2.2).trans b1
  have HY := hide hY
  have HJ := hide hJ
  have HJx := hide hJx
  have HM := hide hm
  have hmn : (m : Int) = n - 1 := by omega
  have hm8 : m ≤ 8 := by omega
  have hn8 : n ≤ 8 := by omega
  have hn2 : 1 ≤ n := by omega
  obtain ⟨i0, hi, hz0, hz1, hz2⟩ := info_int
  have HMN := hide hmn
  clear hmn hcap hJ hJx hY hm hn b0 b1 hp hc hlen
  refine callsIn_of_wp_marks Try.func67 rfl trivial ?_ rfl
  simp only [Try.ntmps67, List.size_toArray, List.length_cons, List.length_nil, Nat.reduceAdd, Nat.reduceSub, Array.replicate_succ, Array.replicate_zero, List.push_toArray, List.append_toArray, List.nil_append, List.cons_append]
  obtain ⟨c0, c1, c2, _⟩ := k0.three
  obtain ⟨d0, _⟩ := k1.one
  have y0 := k0.lt
  have y1 := k1.lt
  have hmn' : ((m : Int) == (n : Int) - 1) = true := by simpa using HMN.out
  have HI := hide hi
  clear hi
  have LEAF := hide (fun (cur : List Value) (W2 : World) (hz2' : W2.heap.size = ((W.alloc (.cells #[.func (.yield lp) #[] #[]] 106)).alloc (.cells cur.toArray 3)).heap.size)
      (hrow2 : Row W2 (W.heap.size + 1 + 1) (some ⟨W.heap.size + 1, 0, none⟩) (ints cs)) (hb2 : Below (W.heap.size + 1) ((W.alloc (.cells #[.func (.yield lp) #[] #[]] 106)).alloc (.cells cur.toArray 3)) W2) =>
    (by
      have cy : W2.cell? ⟨W.heap.size, 0, none⟩ = some (.func (.yield lp) #[] #[]) := (((Blk.new W #[.func (.yield lp) #[] #[]] 106).alloc (.cells cur.toArray 3)).below hb2 (Nat.lt_succ_self _)).cell 0
      have hBW : Below W.heap.size W W2 := (((Below.refl W.heap.size W).alloc (Nat.le_refl _) _).alloc (by simp) _).trans (hb2.mono (by omega))
      have hz2 : W2.heap.size = W.heap.size + 2 := by rw [hz2']; simp
      exact ⟨cy, HY.out O [] cs #[.slice (some ⟨W.heap.size + 1, 0, none⟩) m m] W2 (fun k hk => by have := hO k hk; omega) (by omega) ⟨[], by simp⟩
         ⟨W.heap.size + 1, m, by rw [HM.out], fun h => by have := hO _ h; omega, by omega, by rw [HM.out]; exact Nat.le_refl _, hrow2.mono (by omega)⟩ (HJ.out _ _ _ _ h0 (.of_below hBW))⟩
      : W2.cell? ⟨W.heap.size, 0, none⟩ = some (.func (.yield lp) #[] #[]) ∧ Yields Try.prog lp #[.slice (some ⟨W.heap.size + 1, 0, none⟩) m m] W2 fun e W' =>
        ∃ O', RndO O O' W2 W' ∧ ((e = .returned (.bool true) ∧ J O' ([] ++ [cs]) W') ∨ (e = .returned (.bool false) ∧ Jx O' ([] ++ [cs]) W'))))
  gi_wp2_with (first
    | (gi_at_make; refine wpListIn_make_full _ rfl (.tmp 24) (.tmp 24) 42 rfl 3 i0 (.int .i64 0) under_ints HI.out hz0 hz1 hz2 m rfl rfl (by omega) ?_; intro cur hcur)
    | (refine wpListIn_copy_full _ rfl (.tmp 26) (.tmp 27) 42 42 rfl 3 under_ints size_int (W.heap.size + 1) m ca ccap cs m HM.out rfl rfl cur 3 (by simpa using World.alloc_heap_new (W.alloc _) _) hcur w.heap.size
        ((hcW.below ((Below.refl W.heap.size W).alloc (Nat.le_refl _) _) (by omega)).below ((Below.refl (W.heap.size + 1) _).alloc (by simp) _) (by omega)) ?_; intro W2 hz2' hrow2 hb2
       obtain ⟨cy, fn, tmps, assign, body, hy, hR⟩ := LEAF.out cur W2 hz2' hrow2 hb2
       have hR' := hide (roundIn_any 0 hR)
       clear hR hz2' hb2 hrow2
       try dsimp only at hy))
  refine ⟨rfl, hR'.out.mono ?_⟩
  rintro e W3 ⟨O', hr3, ⟨rfl, hJ3⟩ | ⟨rfl, hJ3⟩⟩
  · gi_wp2
    exact ⟨_, results_none rfl _ _ _, ⟨_, rfl⟩, O', .inl hJ3⟩
  · gi_wp2
    exact ⟨_, results_none rfl _ _ _, ⟨_, rfl⟩, O', .inr ⟨[], cs, by simp, hJ3⟩⟩

end Go.Proofs.Ytjgebepeghgmcaa
