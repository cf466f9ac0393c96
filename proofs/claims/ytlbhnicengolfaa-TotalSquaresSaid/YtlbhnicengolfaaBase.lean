/-
  Words and laws used by all walks of this claim: rows of values in memory; an iterator's contract; the law of a range over a function.
-/
import Derived.RangeFuncNested
import Derived.RangeFuncBound
import Derived.RangeFuncCalls
import Derived.RangeFuncLeaves
import Derived.Shelf.Abstract
import Derived.Shelf.RegionOpen
import Derived.WalkKit
import Derived.OwnWalkIn
import Derived.TacticsInMore
import Derived.LoopNIn
import Derived.LoopIn
namespace Go.Proofs.Ytlbhnicengolfaa
open Go.RowKit

/-! ### what an iterator does between two rounds -/

/-- What lay below m, and all rows of cells, lie as they lay. -/
structure Grow (m : Nat) (A B : World) : Prop where
  os : B.os = A.os
  tape : B.tape = A.tape
  output : B.output = A.output
  size : A.heap.size ≤ B.heap.size
  block : ∀ k o, A.heap[k]? = some o → (k < m ∨ o.isCells = true) → B.heap[k]? = some o

theorem Grow.refl (m : Nat) (A : World) : Grow m A A := ⟨rfl, rfl, rfl, Nat.le_refl _, fun _ _ h _ => h⟩
theorem Grow.trans {m : Nat} {A B C : World} (h : Grow m A B) (k : Grow m B C) : Grow m A C :=
  ⟨k.os.trans h.os, k.tape.trans h.tape, k.output.trans h.output, Nat.le_trans h.size k.size, fun i o hi ho => k.block i o (h.block i o hi ho) ho⟩
theorem Grow.mono {m m' : Nat} {A B : World} (h : Grow m A B) (hm : m' ≤ m) : Grow m' A B :=
  ⟨h.os, h.tape, h.output, h.size, fun k o hk ho => h.block k o hk (ho.imp (fun h => Nat.lt_of_lt_of_le h hm) id)⟩
theorem Grow.of_below {m : Nat} {A B : World} (h : Below A.heap.size A B) : Grow m A B :=
  ⟨h.os, h.tape, h.output, h.size, fun k _ hk _ => (h.block k (Array.getElem?_eq_some_iff.1 hk).1).trans hk⟩
theorem Grow.putObj {m : Nat} {A : World} {l : Nat} {o : Obj} (o' : Obj) (hl : A.heap[l]? = some o) (hm : m ≤ l) (ho : o.isCells = false) : Grow m A (A.putObj l o') :=
  ⟨rfl, rfl, rfl, by simp, fun k o'' hk h => by
    by_cases e : k = l
    · subst e
      rw [hl] at hk
      cases hk
      rcases h with h | h
      · omega
      · rw [ho] at h; cases h
    · exact (World.putObj_heap_other e).trans hk⟩
theorem Grow.below {m : Nat} {A B : World} (h : Grow m A B) (hm : m ≤ A.heap.size) : Below m A B :=
  ⟨h.os, h.tape, h.output, h.size, fun k hk => by
    have hlt : k < A.heap.size := Nat.lt_of_lt_of_le hk hm
    rw [h.block k _ (Array.getElem?_eq_getElem hlt) (.inl hk)]
    exact (Array.getElem?_eq_getElem hlt).symm⟩
theorem Grow.cell {m : Nat} {A B : World} (h : Grow m A B) {a : Addr} {v : Value} (hc : A.cell? a = some v) : B.cell? a = some v := by
  obtain ⟨o, ho, hoc⟩ := cells_of_cell hc
  exact (World.cell?_of_block ((h.block _ _ ho (.inr hoc)).trans ho.symm)).trans hc
theorem Grow.frozen {m : Nat} {A B : World} (h : Grow m A B) {a : Addr} {v : Value} (hc : A.cell? a = some v) : B.frozen? a = A.frozen? a := by
  obtain ⟨o, ho, hoc⟩ := cells_of_cell hc
  exact World.frozen?_of_block ((h.block _ _ ho (.inr hoc)).trans ho.symm)

/-! ### what a round does -/

/-- All blocks but those of D lie as they lay. -/
structure Rnd (D : Nat → Prop) (A B : World) : Prop where
  os : B.os = A.os
  tape : B.tape = A.tape
  output : B.output = A.output
  size : A.heap.size ≤ B.heap.size
  block : ∀ k, k < A.heap.size → ¬ D k → B.heap[k]? = A.heap[k]?

theorem Rnd.refl (D : Nat → Prop) (A : World) : Rnd D A A := ⟨rfl, rfl, rfl, Nat.le_refl _, fun _ _ _ => rfl⟩
theorem Rnd.trans {D : Nat → Prop} {A B C : World} (h : Rnd D A B) (k : Rnd D B C) : Rnd D A C :=
  ⟨k.os.trans h.os, k.tape.trans h.tape, k.output.trans h.output, Nat.le_trans h.size k.size, fun i hi hn => (k.block i (Nat.lt_of_lt_of_le hi h.size) hn).trans (h.block i hi hn)⟩
theorem Rnd.mono {D D' : Nat → Prop} {A B : World} (h : Rnd D A B) (hd : ∀ k, k < A.heap.size → D k → D' k) : Rnd D' A B :=
  ⟨h.os, h.tape, h.output, h.size, fun k hk hn => h.block k hk fun hD => hn (hd k hk hD)⟩
theorem Rnd.of_below {D : Nat → Prop} {A B : World} (h : Below A.heap.size A B) : Rnd D A B :=
  ⟨h.os, h.tape, h.output, h.size, fun k hk _ => h.block k hk⟩
theorem Rnd.putObj {D : Nat → Prop} {A : World} {l : Nat} (o' : Obj) (hl : D l) : Rnd D A (A.putObj l o') :=
  ⟨rfl, rfl, rfl, by simp, fun k _ hk => World.putObj_heap_other fun e => hk (e ▸ hl)⟩
theorem Rnd.setCell {D : Nat → Prop} {A B : World} (h : Rnd D A B) {p : Addr} (hp : D p.block ∨ A.heap.size ≤ p.block) (u : Value) : Rnd D A (B.setCell p u) :=
  ⟨h.os, h.tape, h.output, Nat.le_trans h.size (by simp [World.setCell]), fun k hk hn => (Below.heap_setCell _ _ _ _ (fun e => by rcases hp with hp | hp; exact hn (e ▸ hp); omega)).trans (h.block k hk hn)⟩
theorem Rnd.alloc {D : Nat → Prop} {A B : World} (h : Rnd D A B) (o : Obj) : Rnd D A (B.alloc o) :=
  h.trans (.of_below ((Below.refl _ _).alloc (Nat.le_refl _) _))
theorem Rnd.drew {D : Nat → Prop} {A B : World} (h : Rnd D A B) : Rnd D A B.drew := ⟨h.os, h.tape, h.output, h.size, h.block⟩
theorem Rnd.cell {D : Nat → Prop} {A B : World} (h : Rnd D A B) {a : Addr} {v : Value} (hn : ¬ D a.block) (hc : A.cell? a = some v) : B.cell? a = some v := by
  obtain ⟨o, ho, _⟩ := cells_of_cell hc
  exact (World.cell?_of_block (h.block _ (Array.getElem?_eq_some_iff.1 ho).1 hn)).trans hc
theorem Rnd.frozen {D : Nat → Prop} {A B : World} (h : Rnd D A B) {a : Addr} {v : Value} (hn : ¬ D a.block) (hc : A.cell? a = some v) : B.frozen? a = A.frozen? a := by
  obtain ⟨o, ho, _⟩ := cells_of_cell hc
  exact World.frozen?_of_block (h.block _ (Array.getElem?_eq_some_iff.1 ho).1 hn)
theorem Rnd.grow {D : Nat → Prop} {A B C : World} {m : Nat} (h : Rnd D A B) (hg : Grow m B C) (hm : A.heap.size ≤ m) : Rnd D A C :=
  ⟨hg.os.trans h.os, hg.tape.trans h.tape, hg.output.trans h.output, Nat.le_trans h.size hg.size, fun k hk hn => by
    have hlt : k < B.heap.size := Nat.lt_of_lt_of_le hk h.size
    rw [← h.block k hk hn, hg.block k _ (Array.getElem?_eq_getElem hlt) (.inl (by omega))]
    exact (Array.getElem?_eq_getElem hlt).symm⟩
theorem Rnd.below {D : Nat → Prop} {A B : World} (h : Rnd D A B) {m : Nat} (hm : m ≤ A.heap.size) (hD : ∀ k, k < m → ¬ D k) : Below m A B :=
  ⟨h.os, h.tape, h.output, h.size, fun k hk => h.block k (by omega) (hD k hk)⟩

/-! ### the wide fence knows no depth -/

theorem callsIn_any {P : Program} {f : FuncId} {args : Array Value} {w : World} {R : Ending → World → Prop} {n : Nat} (m : Nat) (h : CallsIn Fence.wide n P f args w R) : CallsIn Fence.wide m P f args w R :=
  callsIn_wide.2 (callsIn_wide.1 h)
theorem roundIn_any {P : Program} {l : Nat} {f : FuncId} {tmps : Array Value} {assign body : Code} {w : World} {R : Ending → World → Prop} {n : Nat} (m : Nat) (h : RoundIn Fence.wide n P l f tmps assign body w R) :
    RoundIn Fence.wide m P l f tmps assign body w R := ⟨h.1, fun c cs _ => h.2 c cs (room_wide _)⟩
theorem roundIn_inRound {F : Fence} {P : Program} {l l' : Nat} {f : FuncId} {tmps : Array Value} {assign body : Code} {w : World} {R : Ending → World → Prop} {n : Nat} (h : RoundIn F n P l f tmps assign body w R) :
    RoundIn (F.inRound l') n P l f tmps assign body w R := h
/-- A contract, as a walk in a round, or under the wide fence, wants it. -/
theorem Calls.wide {P : Program} {f : FuncId} {args : Array Value} {w : World} {R : Ending → World → Prop} {n : Nat} (h : Calls P f args w R) : CallsIn Fence.wide n P f args w R := callsIn_wide.2 h
theorem Calls.inRound {P : Program} {f : FuncId} {args : Array Value} {w : World} {R : Ending → World → Prop} {n : Nat} (l : Nat) (h : Calls P f args w R) : CallsIn (Fence.wide.inRound l) n P f args w R := callsIn_wide.2 h

/-! ### an iterator's contract -/

abbrev Yields (P : Program) (l : Nat) (args : Array Value) (W : World) (R : Ending → World → Prop) : Prop := YieldAt Fence.wide 0 P l args W R

/-- THE FUNCTION VALUE '.func (.func g) #[] lb', made in w, YIELDS xs, ONE BY ONE, IN THEIR ORDER, till a round says 'no more': in whatever later world in which the blocks that it has captured lie as they lay; whatever the rounds turn (D), but those. Between two rounds it keeps what lay, but for records of loops of its own. -/
def Iter {α : Type} (P : Program) (g : Nat) (lb : Array Value) (encs : α → Array Value) (xs : List α) (Cap : Nat → Prop) (w : World) : Prop :=
  ∀ (l : Nat) (D : Nat → Prop) (J Jx : List α → World → Prop) (W : World),
    w.heap.size ≤ W.heap.size → (∀ k, Cap k → k < w.heap.size ∧ ¬ D k ∧ W.heap[k]? = w.heap[k]?) → (∀ k, D k → k < W.heap.size) →
    (∀ s A B, J s A → Grow W.heap.size A B → J s B) → (∀ s A B, Jx s A → Grow W.heap.size A B → Jx s B) →
    (∀ pre x W1, pre ++ [x] <+: xs → J pre W1 → Yields P l (encs x) W1 fun e W' =>
      Rnd D W1 W' ∧ ((e = .returned (.bool true) ∧ J (pre ++ [x]) W') ∨ (e = .returned (.bool false) ∧ Jx (pre ++ [x]) W'))) →
    J [] W →
    CallsIn Fence.wide 0 P g (#[.func (.yield l) #[] #[]] ++ lb) W fun e W' => (∃ v, e = .returned v) ∧ (J xs W' ∨ ∃ pre x, pre ++ [x] <+: xs ∧ Jx (pre ++ [x]) W')

/-- How the body of a round may be left. -/
def roundEnd {α : Type} (D : Nat → Prop) (I : List α → World → Prop) (Ix : Code → List α → World → Prop) (s : List α) (W : World) : Exit → Act → World → Prop
  | .normal, _, W' => Rnd D W W' ∧ I s W'
  | .ret, _, W' => Rnd D W W' ∧ Ix .ret s W'
  | .exit id, _, W' => Rnd D W W' ∧ Ix (.exit id) s W'
  | .goto t, _, W' => Rnd D W W' ∧ Ix (.goto t) s W'
  | .panic _, _, _ => False
  | .outgrown, _, _ => False

variable {P : Program}

/-- THE STATEMENT 'for x := range seq { body }' OVER SUCH AN ITERATOR. -/
theorem wp_range {α : Type} {g : Operand} {ps : Array Tmp} {assign body : Code} {Q : Exit → Act → World → Prop} {a : Act} {w : World} {n : Nat}
    {gf : Nat} {lb : Array Value} (hg : a.eval g = .func (.func gf) #[] lb) (eg : ∀ args w, (callFunc gf args).run P w = .ok (.enter gf args) w)
    {encs : α → Array Value} {xs : List α} {Cap : Nat → Prop} {w0 : World} (hit : Iter P gf lb encs xs Cap w0)
    (hsz : w0.heap.size ≤ w.heap.size) (hps : ∀ x, (encs x).size = ps.size)
    (D : Nat → Prop) (hD : ∀ k, D k → k < w.heap.size) (hcap : ∀ k, Cap k → k < w0.heap.size ∧ ¬ D k ∧ w.heap[k]? = w0.heap[k]?)
    (I : List α → World → Prop) (Ix : Code → List α → World → Prop)
    (hI : ∀ s A B, I s A → Grow w.heap.size A B → I s B) (hIx : ∀ c s A B, Ix c s A → Grow w.heap.size A B → Ix c s B) (h0 : I [] w)
    (hround : ∀ (l : Nat) (pre : List α) (x : α) (W : World), w.heap.size ≤ l → pre ++ [x] <+: xs → I pre W → w.heap.size ≤ W.heap.size →
      assign.wpIn (Fence.wide.inRound l) n P (Exit.then (fun a1 W1 => Below W.heap.size W W1 ∧ ∀ W2, Grow w.heap.size W1 W2 → W2.heap.size = W1.heap.size →
        body.wpIn (Fence.wide.inRound l) n P (roundEnd D I Ix (pre ++ [x]) W2) a1 W2) (fun _ _ _ => False)) { tmps := (ps.zip (encs x)).foldl (fun t (p, v) => t.setIfInBounds p v) a.tmps, defers := [] } W)
    (hdone : ∀ W, I xs W → W.heap[w.heap.size]? = some (.deferred (some [])) → w.heap.size < W.heap.size → Q .normal { a with defers := { target := .collected w.heap.size, args := #[] } :: a.defers } W)
    (hstop : ∀ c pre x W, pre ++ [x] <+: xs → Ix c (pre ++ [x]) W → W.heap[w.heap.size]? = some (.deferred (some [])) → w.heap.size < W.heap.size → c.wpIn Fence.wide n P Q { a with defers := { target := .collected w.heap.size, args := #[] } :: a.defers } W) :
    (Code.rangeFunc g ps assign body).wpIn Fence.wide n P Q a w := by
  refine wpIn_rangeFunc ?_
  intro fn hfn
  have hro : Fence.wide.round = none := rfl
  rw [hro]
  obtain ⟨rec, hrec⟩ : ∃ rec : LoopState → Option Code → Loop, rec = fun st pe => { state := st, pending := pe, fn, tmps := a.tmps, params := ps, assign, body, defers := w.heap.size } := ⟨_, rfl⟩
  obtain ⟨W1, hW1⟩ : ∃ W1, (w.alloc (.deferred (some []))).alloc (.loop (rec .ready none)) = W1 := ⟨_, rfl⟩
  have hz1 : W1.heap.size = w.heap.size + 2 := by rw [← hW1]; simp
  have hL1 : W1.heap[w.heap.size + 1]? = some (.loop (rec .ready none)) := by
    rw [← hW1]; have := World.alloc_heap_new (w.alloc (.deferred (some []))) (.loop (rec .ready none)); rwa [World.size_alloc] at this
  have hK1 : W1.heap[w.heap.size]? = some (.deferred (some [])) := by
    rw [← hW1]; exact (Below.heap_alloc _ _ _ (by simp)).trans (World.alloc_heap_new w _)
  have hb1 : Below w.heap.size w W1 := by rw [← hW1]; exact ((Below.refl _ w).alloc (Nat.le_refl _) _).alloc (by simp) _
  have hI1 : I [] W1 := hI _ _ _ h0 (.of_below hb1)
  refine ⟨w.heap.size + 1, [{ target := .collected w.heap.size, args := #[] }], W1, { target := .fn (.func gf) lb, args := #[.func (.yield (w.heap.size + 1)) #[] #[]] }, W1, gf,
    #[.func (.yield (w.heap.size + 1)) #[] #[]] ++ lb, W1, ?_, ?_, ?_, ?_, ?_, ?_⟩
  · rw [← hW1, hrec]; exact run_enterLoop_outer _ _ _ _ _
  · simp only [resolve, hg]
    simp [go_sem]
  · intro _ _; exact trivial
  · simp [invoke, go_sem, eg]
  · intro h; simp [Fence.wide] at h
  · refine callsIn_any (n - 1) ((hit (w.heap.size + 1) (fun k => D k ∨ k = w.heap.size + 1)
      (fun pre W => I pre W ∧ W.heap[w.heap.size + 1]? = some (.loop (rec .ready none)) ∧ W.heap[w.heap.size]? = some (.deferred (some [])) ∧ w.heap.size + 2 ≤ W.heap.size)
      (fun pre W => ∃ c, Ix c pre W ∧ W.heap[w.heap.size + 1]? = some (.loop (rec .done (some c))) ∧ W.heap[w.heap.size]? = some (.deferred (some [])) ∧ w.heap.size + 2 ≤ W.heap.size)
      W1 (by omega) ?_ ?_ ?_ ?_ ?_ ⟨hI1, hL1, hK1, by omega⟩).mono ?_)
    · intro k hk
      obtain ⟨h1, h2, h3⟩ := hcap k hk
      exact ⟨h1, fun h => h.elim h2 (fun h => by omega), (hb1.block k (by omega)).trans h3⟩
    · rintro k (h | rfl)
      · have := hD k h; omega
      · omega
    · rintro s A B ⟨h1, h2, h3, h4⟩ hgr
      exact ⟨hI _ _ _ h1 (hgr.mono (by omega)), hgr.block _ _ h2 (.inl (by omega)), hgr.block _ _ h3 (.inl (by omega)), Nat.le_trans h4 hgr.size⟩
    · rintro s A B ⟨c, h1, h2, h3, h4⟩ hgr
      exact ⟨c, hIx _ _ _ _ h1 (hgr.mono (by omega)), hgr.block _ _ h2 (.inl (by omega)), hgr.block _ _ h3 (.inl (by omega)), Nat.le_trans h4 hgr.size⟩
    · rintro pre x W hpre ⟨hi, hl, hk, hz⟩
      have hy := run_yield (P := P) (args := encs x) hl (by rw [hrec]; exact hps x)
      rw [hrec] at hy
      refine ⟨fn, _, assign, body, hy, roundIn_any 0 (roundIn_of_wpIn (n := n) hfn (wpIn_mono (hround (w.heap.size + 1) pre x W (by omega) hpre hi (by omega)) ?_))⟩
      clear hy
      rintro e a1 Wa hp
      cases e with
      | normal =>
        obtain ⟨hba, hp⟩ := hp
        have hla : Wa.heap[w.heap.size + 1]? = some (.loop (rec .ready none)) := (hba.block _ (by omega)).trans hl
        have hka : Wa.heap[w.heap.size]? = some (.deferred (some [])) := (hba.block _ (by omega)).trans hk
        have hsa := hba.size
        refine ⟨_, run_beginRound hla (by rw [hrec]), ?_⟩
        obtain ⟨W2, hW2⟩ : ∃ W2, Wa.putObj (w.heap.size + 1) (.loop { rec .ready none with state := .busy }) = W2 := ⟨_, rfl⟩
        have hl2 : W2.heap[w.heap.size + 1]? = some (.loop { rec .ready none with state := .busy }) := by rw [← hW2]; exact World.putObj_heap_same (by omega)
        have hk2 : W2.heap[w.heap.size]? = some (.deferred (some [])) := by rw [← hW2]; exact (World.putObj_heap_other (by omega)).trans hka
        have hz2 : W2.heap.size = Wa.heap.size := by rw [← hW2]; simp
        have hg2 : Grow w.heap.size Wa W2 := by rw [← hW2]; exact Grow.putObj _ hla (by omega) rfl
        have hr2 : Rnd (fun k => D k ∨ k = w.heap.size + 1) W W2 := by rw [← hW2]; exact (Rnd.of_below hba).trans (.putObj _ (.inr rfl))
        rw [hW2]
        refine wpIn_mono (hp W2 hg2 hz2) ?_
        have fin : ∀ (jump : Option Code) (W3 : World), Rnd D W2 W3 →
            (Instr.endRound (w.heap.size + 1) jump).run P W3 = .ok (.bool jump.isNone) (W3.putObj (w.heap.size + 1) (.loop (rec (if jump.isNone then .ready else .done) jump))) ∧
            Grow w.heap.size W3 (W3.putObj (w.heap.size + 1) (.loop (rec (if jump.isNone then .ready else .done) jump))) ∧
            Rnd (fun k => D k ∨ k = w.heap.size + 1) W (W3.putObj (w.heap.size + 1) (.loop (rec (if jump.isNone then .ready else .done) jump))) ∧
            (W3.putObj (w.heap.size + 1) (.loop (rec (if jump.isNone then .ready else .done) jump))).heap[w.heap.size + 1]? = some (.loop (rec (if jump.isNone then .ready else .done) jump)) ∧
            (W3.putObj (w.heap.size + 1) (.loop (rec (if jump.isNone then .ready else .done) jump))).heap[w.heap.size]? = some (.deferred (some [])) ∧
            w.heap.size + 2 ≤ (W3.putObj (w.heap.size + 1) (.loop (rec (if jump.isNone then .ready else .done) jump))).heap.size := fun jump W3 hk3 => by
          have hs3 := hk3.size
          have hnD : ∀ k, w.heap.size ≤ k → ¬ D k := fun k h h' => by have := hD k h'; omega
          have hl3 : W3.heap[w.heap.size + 1]? = some (.loop { rec .ready none with state := .busy }) := (hk3.block _ (by omega) (hnD _ (by omega))).trans hl2
          have hd3 : W3.heap[w.heap.size]? = some (.deferred (some [])) := (hk3.block _ (by omega) (hnD _ (by omega))).trans hk2
          have := run_endRound (P := P) jump hl3
          rw [hrec] at this ⊢
          rw [hrec] at hl3
          exact ⟨this, Grow.putObj _ hl3 (by omega) rfl, (hr2.trans (hk3.mono fun _ _ h => .inl h)).trans (.putObj _ (.inr rfl)), World.putObj_heap_same (by omega), (World.putObj_heap_other (by omega)).trans hd3, by simp; omega⟩
        rintro e a3 W3 hp3
        cases e with
        | normal =>
          obtain ⟨hk3, hi3⟩ := hp3
          obtain ⟨h1, h2, h3, h4, h5, h6⟩ := fin none W3 hk3
          exact ⟨_, _, h1, h3, .inl ⟨rfl, hI _ _ _ hi3 h2, h4, h5, h6⟩⟩
        | ret =>
          obtain ⟨hk3, hi3⟩ := hp3
          obtain ⟨h1, h2, h3, h4, h5, h6⟩ := fin (some .ret) W3 hk3
          exact ⟨_, _, h1, h3, .inr ⟨rfl, .ret, hIx _ _ _ _ hi3 h2, h4, h5, h6⟩⟩
        | exit id =>
          obtain ⟨hk3, hi3⟩ := hp3
          obtain ⟨h1, h2, h3, h4, h5, h6⟩ := fin (some (.exit id)) W3 hk3
          exact ⟨_, _, h1, h3, .inr ⟨rfl, .exit id, hIx _ _ _ _ hi3 h2, h4, h5, h6⟩⟩
        | goto t =>
          obtain ⟨hk3, hi3⟩ := hp3
          obtain ⟨h1, h2, h3, h4, h5, h6⟩ := fin (some (.goto t)) W3 hk3
          exact ⟨_, _, h1, h3, .inr ⟨rfl, .goto t, hIx _ _ _ _ hi3 h2, h4, h5, h6⟩⟩
        | panic ch => exact hp3.elim
        | outgrown => exact hp3.elim
      | ret => exact hp.elim
      | exit id => exact hp.elim
      | goto t => exact hp.elim
      | panic ch => exact hp.elim
      | outgrown => exact hp.elim
    · rintro e W2 ⟨⟨v, rfl⟩, (⟨hi, hl, hk, hz⟩ | ⟨pre, x, hpre, c, hi, hl, hk, hz⟩)⟩
      · refine ⟨none, _, by have := run_endLoop (P := P) hl (by rw [hrec]; simp); rw [hrec] at this; exact this, ?_⟩
        exact hdone _ (hI _ _ _ hi (.putObj _ hl (by omega) rfl)) ((World.putObj_heap_other (by omega)).trans hk) (by simp; omega)
      · refine ⟨some c, _, by have := run_endLoop (P := P) hl (by rw [hrec]; simp); rw [hrec] at this; exact this, ?_⟩
        exact hstop c pre x _ hpre (hIx _ _ _ _ hi (.putObj _ hl (by omega) rfl)) ((World.putObj_heap_other (by omega)).trans hk) (by simp; omega)

end Go.Proofs.Ytlbhnicengolfaa
