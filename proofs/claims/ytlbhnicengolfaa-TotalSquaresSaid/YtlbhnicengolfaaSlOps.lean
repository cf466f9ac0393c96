/-
  Slices of integers in a fenced walk: append to a full slice; make; copy.
-/
import Derived.Test.YtlbhnicengolfaaIterC
import Derived.Test.YtlbhnicengolfaaProg
import Derived.OwnWalkIn
import Derived.Laws.Append
import Derived.Laws.CopyOwn
import Derived.Laws.MakeOwn
import Derived.Laws.OwnMore
namespace Go.Proofs.Ytlbhnicengolfaa
open Go.RowKit
set_option linter.unusedVariables false
set_option linter.unusedSimpArgs false

theorem row_reads {w : World} {B b off : Nat} {vs : List Value} (h : Row w B (some ⟨b, off, none⟩) vs) : ∀ j v, vs[j]? = some v → w.cell? ((⟨b, off, none⟩ : Addr).add j) = some v := by
  intro j v hj
  rcases h with rfl | ⟨b', off', e, _, h⟩
  · simp at hj
  · cases e
    obtain ⟨hlt, rfl⟩ := List.getElem?_eq_some_iff.1 hj
    have := h j hlt
    rw [show (⟨b, off, none⟩ : Addr).add j = ⟨b, off + j, none⟩ by unfold Addr.add; split <;> simp_all]
    rw [this]
    simp [List.getD, hlt]
theorem row_of_heap {w : World} {g : Nat} {cur : Array Value} {t : TypeId} {fz : Nat × Nat} {vs : List Value} (h : w.heap[g]? = some (.cells cur t fz)) (hv : cur.toList.take vs.length = vs) : Row w (g + 1) (some ⟨g, 0, none⟩) vs := by
  refine .inr ⟨g, 0, rfl, Nat.lt_succ_self _, fun i hi => ?_⟩
  rw [Nat.zero_add, cell_of_row w g i cur t fz h]
  have : vs[i]? = cur.toList[i]? := by rw [← hv, List.getElem?_take, if_pos hi]
  rw [List.getD_eq_getElem?_getD, this]
  have hlt : i < cur.toList.length := by
    have := congrArg List.length hv
    rw [List.length_take] at this
    omega
  simp at hlt
  simp [hlt]

variable {P : Program} {F : Fence} {n : Nat}

/-- 'append(s[:k:k], v)': a block of its own. -/
theorem wpListIn_append_full (w : World) {ops : Array Oper} {rest : List Oper} {o : Oper} {a : Act} {Q : Exit → Act → World → Prop}
    (hg : o.guard = none) (s x : Operand) (t : TypeId) (hop : o.op = Op.call { callee := Callee.builtin Builtin.append, args := #[s, x], argTypes := #[t, t] })
    (e : TypeId) (i : TypeInfo) (z : Value) (h1 : P.underlying t = some (.slice e)) (h2 : P.info? e = some i) (h3 : i.zero = some z) (h4 : i.size = 1) (h5 : i.bytes = 8)
    (a0 : Option Addr) (xs : List Int) (m : Nat) (hm : m = xs.length) (hs : a.eval s = .slice a0 m m) (B : Nat) (hrow : Row w B a0 (ints xs)) (hnil : a0 = none → xs = []) (ad : Addr) (v : Int) (hx : a.eval x = .slice (some ad) 1 1) (hc : w.cell? ad = some (.int .i64 v)) (hlen : m ≤ 1000)
    (hK : ∀ cap' w', w'.heap.size = w.heap.size + 1 → Row w' (w.heap.size + 1) (some ⟨w.heap.size, 0, none⟩) (ints (xs ++ [v])) → Below w.heap.size w w' → m + 1 ≤ cap' → wpListIn F n P ops Q rest (a.put o.dst (.slice (some ⟨w.heap.size, 0, none⟩) (m + 1) cap')) w') :
    wpListIn F n P ops Q (o :: rest) a w := by
  subst hm
  refine wpListIn_plain hg fun K hK' => ?_
  have hnews : ∀ j u, [Value.int .i64 v][j]? = some u → w.cell? (ad.add j) = some u := by
    intro j u hj
    cases j with
    | zero => simp at hj; subst hj; simpa [Addr.add] using hc
    | succ j => simp at hj
  have hxs : (ints xs).length = xs.length * i.size := by rw [h4, ints_length, Nat.mul_one]
  obtain ⟨cap', cells, hcap, hcells, hrun⟩ : ∃ cap' cells, xs.length + 1 ≤ cap' ∧ cells.toList.take (ints (xs ++ [v])).length = ints (xs ++ [v]) ∧
      (Builtin.append_ #[t, t] o.type #[.slice a0 xs.length xs.length, .slice (some ad) 1 1]).run P w = .ok (.slice (some ⟨w.heap.size, 0, none⟩) (xs.length + 1) cap') (w.drew.alloc (.cells cells e)) := by
    cases a0 with
    | none =>
      obtain rfl := hnil rfl
      refine ⟨_, _, grownCap_ge w 1 0 e, ?_, run_append_nil (P := P) w t o.type e i z h1 h2 h3 ad 1 1 [.int .i64 v] (by rw [h4]; rfl) hnews (by omega) (by omega) (by rw [h5]; omega)⟩
      simp [ints]
    | some b =>
      have hrd : ∀ j v, (ints xs)[j]? = some v → w.cell? (b.add j) = some v := by
        rcases hrow with hn | ⟨b', off, e', hb, hr⟩
        · intro j v hj; rw [hn] at hj; simp at hj
        · injection e' with e'
          subst e'
          exact row_reads (.inr ⟨b', off, rfl, hb, hr⟩)
      refine ⟨_, _, grownCap_ge w (xs.length + 1) xs.length e, ?_, run_append_grow (P := P) w t o.type e i z h1 h2 h3 b xs.length xs.length (ints xs) hxs hrd ad 1 1 [.int .i64 v] (by rw [h4]; rfl) hnews (by omega) (by omega) ?_⟩
      · simp only [ints, List.map_append, List.map_cons, List.map_nil, Array.toList_append, List.append_assoc]
        rw [← List.append_assoc]
        exact List.take_left
      · have := nextslicecap_le (need := xs.length + 1) (old := xs.length) (by omega)
        rw [h5]
        omega
  unfold Oper.wpIn
  refine ⟨?_, ?_⟩
  · simp [Oper.about, hop, resolve, Target.leads, Sem.run_pure]
  · rw [Oper.semAt_plain F _ _ (by rw [hop]; intro c hc'; cases hc')]
    simp only [execOp, hop, resolve, invoke, builtin, Sem.run_bind, Sem.run_pure, Result.andThen_ok, List.map_toArray, List.map_cons, List.map_nil, hs, hx, hrun]
    refine hK' _ _ (hK cap' _ (by simp) ?_ ?_ hcap)
    · exact row_of_heap (heap_alloc_new w.drew _) hcells
    · exact (Below.refl _ w).drew.alloc (by simp) _

/-- 'make([]int, k)'. -/
theorem wpListIn_make_full (w : World) {ops : Array Oper} {rest : List Oper} {o : Oper} {a : Act} {Q : Exit → Act → World → Prop}
    (hg : o.guard = none) (l c : Operand) (t : TypeId) (hop : o.op = Op.makeSlice t l c)
    (e : TypeId) (i : TypeInfo) (z : Value) (h1 : P.underlying t = some (.slice e)) (h2 : P.info? e = some i) (h3 : i.zero = some z) (h4 : i.size = 1) (h5 : i.bytes = 8)
    (m : Nat) (hl : a.eval l = .int .i64 (m : Int)) (hc : a.eval c = .int .i64 (m : Int)) (hm : m ≤ 1000)
    (hK : ∀ cur : List Value, cur.length = m → wpListIn F n P ops Q rest (a.put o.dst (.slice (some ⟨w.heap.size, 0, none⟩) m m)) (w.alloc (.cells cur.toArray e))) :
    wpListIn F n P ops Q (o :: rest) a w := by
  refine wpListIn_plain hg fun K hK' => ?_
  have hr := run_make (P := P) w t e i z h1 h2 h3 .i64 .i64 m m (by omega) (Int.le_refl _) (by rw [h5]; omega) (by omega)
  simp only [Int.toNat_natCast] at hr
  unfold Oper.wpIn
  refine ⟨?_, ?_⟩
  · simp [Oper.about, hop]
  · rw [Oper.semAt_plain F _ _ (by rw [hop]; intro c hc'; cases hc')]
    simp only [execOp, hop, hl, hc, hr, Sem.run_bind, Result.andThen_ok, Sem.run_pure]
    have := hK (madeCells z.cells (m * i.size)).toList (by rw [Array.length_toList, size_madeCells, h4, Nat.mul_one])
    exact hK' _ _ this

/-- 'copy(out, s)', where out is a block of its own of the same length. -/
theorem wpListIn_copy_full (w : World) {ops : Array Oper} {rest : List Oper} {o : Oper} {a : Act} {Q : Exit → Act → World → Prop} (hgd : o.guard = none) (d s : Operand) (dT sT : TypeId)
    (ho : o.op = .call { callee := .builtin .copy, args := #[d, s], argTypes := #[dT, sT] }) (elem : TypeId) (hu : P.underlying dT = some (.slice elem)) (hsz : (P.info? elem).map (·.size) = some 1)
    (g dCap : Nat) (sp : Option Addr) (sCap : Nat) (xs : List Int) (m : Nat) (hm : m = xs.length) (hd : a.eval d = .slice (some ⟨g, 0, none⟩) m dCap) (hs : a.eval s = .slice sp m sCap)
    (cur : List Value) (t : TypeId) (hg : w.heap[g]? = some (.cells cur.toArray t (0, 0))) (hlen : cur.length = m) (B : Nat) (hrow : Row w B sp (ints xs))
    (h : ∀ w', w'.heap.size = w.heap.size → Row w' (g + 1) (some ⟨g, 0, none⟩) (ints xs) → Below g w w' → wpListIn F n P ops Q rest (a.put o.dst (goInt m)) w') :
    wpListIn F n P ops Q (o :: rest) a w := by
  subst hm
  refine wpListIn_plain hgd fun K hK => ?_
  have key : ∃ w', (Builtin.copy_ #[dT, sT] o.type #[.slice (some ⟨g, 0, none⟩) xs.length dCap, .slice sp xs.length sCap]).run P w = .ok (goInt xs.length) w' ∧ w'.heap.size = w.heap.size ∧ Row w' (g + 1) (some ⟨g, 0, none⟩) (ints xs) ∧ Below g w w' := by
    by_cases h0 : xs.length = 0
    · have hx : xs = [] := List.eq_nil_of_length_eq_zero h0
      subst hx
      exact ⟨w, run_copy_none (P := P) w dT sT o.type elem _ sp _ dCap _ sCap hu hsz (by simp), rfl, .inl rfl, Below.refl _ _⟩
    · rcases hrow with hn | ⟨b, off, rfl, hb, hr⟩
      · exfalso; apply h0; have := congrArg List.length hn; simpa [ints] using this
      · have hrun := run_copy_row (P := P) w dT sT o.type elem g 0 xs.length dCap ⟨b, off, none⟩ xs.length sCap cur.toArray t (ints xs) hu hsz hg (by simp [ints]) (row_reads (.inr ⟨b, off, rfl, hb, hr⟩)) (by simp [ints, hlen]) (by intro v hv; simp [ints] at hv; obtain ⟨y, _, rfl⟩ := hv; rfl)
        refine ⟨_, by simpa [ints] using hrun, by simp [World.setRow], row_of_heap (setRow_heap w g _ _ t _ hg) ?_, below_setRow (Below.refl _ _) (Nat.le_refl _) _⟩
        simp [ints, hlen]
  obtain ⟨w', hrun, e1, e2, e3⟩ := key
  unfold Oper.wpIn
  refine ⟨?_, ?_⟩
  · simp [Oper.about, ho, resolve, Target.leads, Sem.run_pure]
  · rw [Oper.semAt_plain F _ _ (by rw [ho]; intro c hc'; cases hc')]
    simp only [execOp, ho, resolve, invoke, builtin, Sem.run_bind, Sem.run_pure, Result.andThen_ok, List.map_toArray, List.map_cons, List.map_nil, hd, hs, hrun]
    exact hK _ _ (h w' e1 e2 e3)

/-- The builtin max of two integers, as one value. -/
theorem run_max_int {P : Program} (w : World) (ats : Array TypeId) (t : TypeId) (x y : Int) : (Builtin.max_ ats t #[.int .i64 x, .int .i64 y]).run P w = .ok (.int .i64 (max x y)) w := by
  simp only [Builtin.max_, List.foldlM_cons, List.foldlM_nil, Builtin.max2]
  by_cases h : x ≤ y
  · simp [go_sem, h, Int.max_def]
    try omega
  · simp [go_sem, h, Int.max_def]
    try omega

theorem wpListIn_max {F : Fence} {n : Nat} {P : Program} (w : World) {ops : Array Oper} {rest : List Oper} {o : Oper} {a : Act} {Q : Exit → Act → World → Prop} (hgd : o.guard = none) (c d : Operand) (ats : Array TypeId)
    (ho : o.op = .call { callee := .builtin .max, args := #[c, d], argTypes := ats }) (x y : Int) (hx : a.eval c = .int .i64 x) (hy : a.eval d = .int .i64 y)
    (h : wpListIn F n P ops Q rest (a.put o.dst (.int .i64 (max x y))) w) : wpListIn F n P ops Q (o :: rest) a w := by
  refine wpListIn_plain hgd fun K hK => ?_
  have hrun := run_max_int (P := P) w ats o.type x y
  unfold Oper.wpIn
  refine ⟨?_, ?_⟩
  · simp [Oper.about, ho, resolve, Target.leads, Sem.run_pure]
  · rw [Oper.semAt_plain F _ _ (by rw [ho]; intro c hc'; cases hc')]
    simp only [execOp, ho, resolve, invoke, builtin, Sem.run_bind, Sem.run_pure, Result.andThen_ok, List.map_toArray, List.map_cons, List.map_nil, hx, hy, hrun]
    exact hK _ _ h

/-- What a frame with ranges over functions leaves behind at its end. -/
def marks (ks : List Nat) : List Deferred := ks.map fun k => { target := .collected k, args := #[] }
theorem leaves_marks {fn : Func} {tmps : Array Value} {R : Ending → World → Prop} {m : Nat} : ∀ (ks : List Nat) (w : World), ks.Pairwise (· ≠ ·) → (∀ k ∈ ks, m ≤ k ∧ w.heap[k]? = some (.deferred (some []))) →
    (∀ w', Grow m w w' → LeavesIn F n P fn tmps R [] .returning w') → LeavesInM F n P fn tmps R (marks ks) .returning w
  | [], w, _, _, h => h w (Grow.refl _ _)
  | k :: ks, w, hp, hk, h => by
    rw [List.pairwise_cons] at hp
    obtain ⟨hm, hw⟩ := hk k (by simp)
    refine ⟨by simp, .inl ⟨k, _, rfl, run_takeDeferred hw, ?_⟩⟩
    have hg : Grow m w (w.putObj k (.deferred none)) := Grow.putObj _ hw hm rfl
    exact leaves_marks ks _ hp.2 (fun k' hk' => ⟨(hk k' (by simp [hk'])).1, (World.putObj_heap_other (hp.1 k' hk').symm).trans (hk k' (by simp [hk'])).2⟩) fun w' hw' => h w' (hg.trans hw')

end Go.Proofs.Ytlbhnicengolfaa
