/-
  An iterator that makes what it yields (slices of integers), and rounds that write to what rounds have made: its contract, and the law of the range over it.
-/
import Derived.Test.YtlbhnicengolfaaData
namespace Go.Proofs.Ytlbhnicengolfaa
open Go.RowKit

/-- Some blocks belong to the rounds: O at first, O' at last; all others lie as they lay. -/
structure RndO (O O' : Nat → Prop) (A B : World) : Prop where
  rnd : Rnd O A B
  own : ∀ k, O' k → O k ∨ (A.heap.size ≤ k ∧ k < B.heap.size)

theorem RndO.refl (O : Nat → Prop) (A : World) : RndO O O A A := ⟨.refl _ _, fun _ h => .inl h⟩
theorem RndO.trans {O O1 O2 : Nat → Prop} {A B C : World} (h : RndO O O1 A B) (k : RndO O1 O2 B C) : RndO O O2 A C where
  rnd := ⟨k.rnd.os.trans h.rnd.os, k.rnd.tape.trans h.rnd.tape, k.rnd.output.trans h.rnd.output, Nat.le_trans h.rnd.size k.rnd.size, fun i hi hn =>
    (k.rnd.block i (Nat.lt_of_lt_of_le hi h.rnd.size) fun h1 => (h.own i h1).elim hn fun h2 => by omega).trans (h.rnd.block i hi hn)⟩
  own := fun i hi => (k.own i hi).elim (fun h1 => (h.own i h1).imp id fun h2 => ⟨h2.1, Nat.lt_of_lt_of_le h2.2 k.rnd.size⟩) fun h1 => .inr ⟨Nat.le_trans h.rnd.size h1.1, h1.2⟩
theorem RndO.of_below {O : Nat → Prop} {A B : World} (h : Below A.heap.size A B) : RndO O O A B := ⟨.of_below h, fun _ h => .inl h⟩

/-- A slice of integers, as it is yielded. -/
def SlC (O : Nat → Prop) (x : List Int) (args : Array Value) (W : World) : Prop :=
  ∃ b cap, args = #[.slice (some ⟨b, 0, none⟩) x.length cap] ∧ ¬ O b ∧ b < W.heap.size ∧ x.length ≤ cap ∧ Row W W.heap.size (some ⟨b, 0, none⟩) (ints x)

def IterC (P : Program) (g : Nat) (lb : Array Value) (xs : List (List Int)) (Cap : Nat → Prop) (w : World) : Prop :=
  ∀ (l : Nat) (J Jx : (Nat → Prop) → List (List Int) → World → Prop) (O : Nat → Prop) (W : World),
    w.heap.size ≤ W.heap.size → (∀ k, Cap k → k < w.heap.size ∧ ¬ O k ∧ W.heap[k]? = w.heap[k]?) → (∀ k, O k → k < W.heap.size) →
    (∀ O s A B, J O s A → Grow W.heap.size A B → J O s B) → (∀ O s A B, Jx O s A → Grow W.heap.size A B → Jx O s B) →
    (∀ O pre x args W1, (∀ k, O k → k < W1.heap.size) → W.heap.size ≤ W1.heap.size → pre ++ [x] <+: xs → SlC O x args W1 → J O pre W1 → Yields P l args W1 fun e W' =>
      ∃ O', RndO O O' W1 W' ∧ ((e = .returned (.bool true) ∧ J O' (pre ++ [x]) W') ∨ (e = .returned (.bool false) ∧ Jx O' (pre ++ [x]) W'))) →
    J O [] W →
    CallsIn Fence.wide 0 P g (#[.func (.yield l) #[] #[]] ++ lb) W fun e W' => (∃ v, e = .returned v) ∧ ∃ O', J O' xs W' ∨ ∃ pre x, pre ++ [x] <+: xs ∧ Jx O' (pre ++ [x]) W'

/-- How the body of a round may be left. -/
def roundEndC (O : Nat → Prop) (I : (Nat → Prop) → List (List Int) → World → Prop) (Ix : Code → (Nat → Prop) → List (List Int) → World → Prop) (s : List (List Int)) (W : World) : Exit → Act → World → Prop
  | .normal, _, W' => ∃ O', RndO O O' W W' ∧ I O' s W'
  | .ret, _, W' => ∃ O', RndO O O' W W' ∧ Ix .ret O' s W'
  | .exit id, _, W' => ∃ O', RndO O O' W W' ∧ Ix (.exit id) O' s W'
  | .goto t, _, W' => ∃ O', RndO O O' W W' ∧ Ix (.goto t) O' s W'
  | .panic _, _, _ => False
  | .outgrown, _, _ => False

variable {P : Program}

/-- THE STATEMENT 'for x := range seq { body }' OVER SUCH AN ITERATOR. -/
theorem wp_rangeC {g : Operand} {ps : Array Tmp} {assign body : Code} {Q : Exit → Act → World → Prop} {a : Act} {w : World} {n : Nat}
    {gf : Nat} {lb : Array Value} (hg : a.eval g = .func (.func gf) #[] lb) (eg : ∀ args w, (callFunc gf args).run P w = .ok (.enter gf args) w)
    {xs : List (List Int)} {Cap : Nat → Prop} {w0 : World} (hit : IterC P gf lb xs Cap w0)
    (hsz : w0.heap.size ≤ w.heap.size) (hps : ps.size = 1)
    (O : Nat → Prop) (hO : ∀ k, O k → k < w.heap.size) (hcap : ∀ k, Cap k → k < w0.heap.size ∧ ¬ O k ∧ w.heap[k]? = w0.heap[k]?)
    (I : (Nat → Prop) → List (List Int) → World → Prop) (Ix : Code → (Nat → Prop) → List (List Int) → World → Prop)
    (hI : ∀ O s A B, I O s A → Grow w.heap.size A B → I O s B) (hIx : ∀ c O s A B, Ix c O s A → Grow w.heap.size A B → Ix c O s B) (h0 : I O [] w)
    (hround : ∀ (l : Nat) (O : Nat → Prop) (pre : List (List Int)) (x : List Int) (args : Array Value) (W : World), w.heap.size ≤ l → (∀ k, O k → k < W.heap.size) → pre ++ [x] <+: xs → SlC O x args W → I O pre W → w.heap.size ≤ W.heap.size →
      assign.wpIn (Fence.wide.inRound l) n P (Exit.then (fun a1 W1 => Below W.heap.size W W1 ∧ ∀ W2, Grow w.heap.size W1 W2 → W2.heap.size = W1.heap.size →
        body.wpIn (Fence.wide.inRound l) n P (roundEndC O I Ix (pre ++ [x]) W2) a1 W2) (fun _ _ _ => False)) { tmps := (ps.zip args).foldl (fun t (p, v) => t.setIfInBounds p v) a.tmps, defers := [] } W)
    (hdone : ∀ O W, I O xs W → ¬ O w.heap.size → W.heap[w.heap.size]? = some (.deferred (some [])) → w.heap.size < W.heap.size → Q .normal { a with defers := { target := .collected w.heap.size, args := #[] } :: a.defers } W)
    (hstop : ∀ c O pre x W, pre ++ [x] <+: xs → Ix c O (pre ++ [x]) W → W.heap[w.heap.size]? = some (.deferred (some [])) → w.heap.size < W.heap.size → c.wpIn Fence.wide n P Q { a with defers := { target := .collected w.heap.size, args := #[] } :: a.defers } W) :
    (Code.rangeFunc g ps assign body).wpIn Fence.wide n P Q a w := by
  refine wpIn_rangeFunc ?_
  intro fn hfn
  have hro : Fence.wide.round = none := rfl
  rw [hro]
  obtain ⟨rec, hrec⟩ : ∃ rec : LoopState → Option Code → Loop, rec = fun st pe => { state := st, pending := pe, fn, tmps := a.tmps, params := ps, assign, body, defers := w.heap.size } := ⟨_, rfl⟩
  obtain ⟨W1, hW1⟩ : ∃ W1, (w.alloc (.deferred (some []))).alloc (.loop (rec .ready none)) = W1 := ⟨_, rfl⟩
  have hz1 : W1.heap.size = w.heap.size + 2 := by rw [← hW1]; simp
  have hL1 : W1.heap[w.heap.size + 1]? = some (.loop (rec .ready none)) := by
    rw [← hW1]; have := World.alloc_heap_new (w.alloc (.deferred (some []))) (.loop (rec .ready none)); rwa [World.size_alloc] at this
  have hK1 : W1.heap[w.heap.size]? = some (.deferred (some [])) := by
    rw [← hW1]; exact (Below.heap_alloc _ _ _ (by simp)).trans (World.alloc_heap_new w _)
  have hb1 : Below w.heap.size w W1 := by rw [← hW1]; exact ((Below.refl _ w).alloc (Nat.le_refl _) _).alloc (by simp) _
  have hI1 : I O [] W1 := hI _ _ _ _ h0 (.of_below hb1)
  refine ⟨w.heap.size + 1, [{ target := .collected w.heap.size, args := #[] }], W1, { target := .fn (.func gf) lb, args := #[.func (.yield (w.heap.size + 1)) #[] #[]] }, W1, gf,
    #[.func (.yield (w.heap.size + 1)) #[] #[]] ++ lb, W1, ?_, ?_, ?_, ?_, ?_, ?_⟩
  · rw [← hW1, hrec]; exact run_enterLoop_outer _ _ _ _ _
  · simp only [resolve, hg]
    simp [go_sem]
  · intro _ _; exact trivial
  · simp [invoke, go_sem, eg]
  · intro h; simp [Fence.wide] at h
  · refine callsIn_any (n - 1) ((hit (w.heap.size + 1)
      (fun Oi pre W => ∃ O, (∀ k, Oi k ↔ O k ∨ k = w.heap.size + 1) ∧ ¬ O w.heap.size ∧ ¬ O (w.heap.size + 1) ∧ I O pre W ∧ W.heap[w.heap.size + 1]? = some (.loop (rec .ready none)) ∧ W.heap[w.heap.size]? = some (.deferred (some [])) ∧ w.heap.size + 2 ≤ W.heap.size)
      (fun Oi pre W => ∃ c O, Ix c O pre W ∧ W.heap[w.heap.size + 1]? = some (.loop (rec .done (some c))) ∧ W.heap[w.heap.size]? = some (.deferred (some [])) ∧ w.heap.size + 2 ≤ W.heap.size)
      (fun k => O k ∨ k = w.heap.size + 1) W1 (by omega) ?_ ?_ ?_ ?_ ?_
      ⟨O, fun _ => Iff.rfl, fun h => by have := hO _ h; omega, fun h => by have := hO _ h; omega, hI1, hL1, hK1, by omega⟩).mono ?_)
    · intro k hk
      obtain ⟨h1, h2, h3⟩ := hcap k hk
      exact ⟨h1, fun h => h.elim h2 (fun h => by omega), (hb1.block k (by omega)).trans h3⟩
    · rintro k (h | rfl)
      · have := hO k h; omega
      · omega
    · rintro Oi s A B ⟨O, h0, ha, hb, h1, h2, h3, h4⟩ hgr
      exact ⟨O, h0, ha, hb, hI _ _ _ _ h1 (hgr.mono (by omega)), hgr.block _ _ h2 (.inl (by omega)), hgr.block _ _ h3 (.inl (by omega)), Nat.le_trans h4 hgr.size⟩
    · rintro Oi s A B ⟨c, O, h1, h2, h3, h4⟩ hgr
      exact ⟨c, O, hIx _ _ _ _ _ h1 (hgr.mono (by omega)), hgr.block _ _ h2 (.inl (by omega)), hgr.block _ _ h3 (.inl (by omega)), Nat.le_trans h4 hgr.size⟩
    · rintro Oi pre x args W hOi hW hpre ⟨sb, scap, rfl, hnb, hbW, hxc, hrow⟩ ⟨O, hOO, hna, hnb', hi, hl, hk, hz⟩
      have hy := run_yield (P := P) (args := #[.slice (some ⟨sb, 0, none⟩) x.length scap]) hl (by rw [hrec]; exact hps.symm)
      rw [hrec] at hy
      refine ⟨fn, _, assign, body, hy, roundIn_any 0 (roundIn_of_wpIn (n := n) hfn (wpIn_mono (hround (w.heap.size + 1) O pre x _ W (by omega) (fun k h => hOi k ((hOO k).2 (.inl h))) hpre ⟨sb, scap, rfl, fun h => hnb ((hOO sb).2 (.inl h)), hbW, hxc, hrow⟩ hi (by omega)) ?_))⟩
      clear hy
      rintro e a1 Wa hp
      cases e with
      | normal =>
        obtain ⟨hba, hp⟩ := hp
        have hla : Wa.heap[w.heap.size + 1]? = some (.loop (rec .ready none)) := (hba.block _ (by omega)).trans hl
        have hka : Wa.heap[w.heap.size]? = some (.deferred (some [])) := (hba.block _ (by omega)).trans hk
        have hsa := hba.size
        refine ⟨_, run_beginRound hla (by rw [hrec]), ?_⟩
        obtain ⟨W2, hW2⟩ : ∃ W2, Wa.putObj (w.heap.size + 1) (.loop { rec .ready none with state := .busy }) = W2 := ⟨_, rfl⟩
        have hl2 : W2.heap[w.heap.size + 1]? = some (.loop { rec .ready none with state := .busy }) := by rw [← hW2]; exact World.putObj_heap_same (by omega)
        have hk2 : W2.heap[w.heap.size]? = some (.deferred (some [])) := by rw [← hW2]; exact (World.putObj_heap_other (by omega)).trans hka
        have hz2 : W2.heap.size = Wa.heap.size := by rw [← hW2]; simp
        have hg2 : Grow w.heap.size Wa W2 := by rw [← hW2]; exact Grow.putObj _ hla (by omega) rfl
        have hr2 : Rnd (fun k => O k ∨ k = w.heap.size + 1) W W2 := by rw [← hW2]; exact (Rnd.of_below hba).trans (.putObj _ (.inr rfl))
        rw [hW2]
        refine wpIn_mono (hp W2 hg2 hz2) ?_
        have fin : ∀ (jump : Option Code) (O' : Nat → Prop) (W3 : World), RndO O O' W2 W3 →
            (Instr.endRound (w.heap.size + 1) jump).run P W3 = .ok (.bool jump.isNone) (W3.putObj (w.heap.size + 1) (.loop (rec (if jump.isNone then .ready else .done) jump))) ∧
            Grow w.heap.size W3 (W3.putObj (w.heap.size + 1) (.loop (rec (if jump.isNone then .ready else .done) jump))) ∧
            RndO Oi (fun k => O' k ∨ k = w.heap.size + 1) W (W3.putObj (w.heap.size + 1) (.loop (rec (if jump.isNone then .ready else .done) jump))) ∧
            (W3.putObj (w.heap.size + 1) (.loop (rec (if jump.isNone then .ready else .done) jump))).heap[w.heap.size + 1]? = some (.loop (rec (if jump.isNone then .ready else .done) jump)) ∧
            (W3.putObj (w.heap.size + 1) (.loop (rec (if jump.isNone then .ready else .done) jump))).heap[w.heap.size]? = some (.deferred (some [])) ∧
            w.heap.size + 2 ≤ (W3.putObj (w.heap.size + 1) (.loop (rec (if jump.isNone then .ready else .done) jump))).heap.size ∧ ¬ O' w.heap.size ∧ ¬ O' (w.heap.size + 1) := fun jump O' W3 hk3 => by
          have hs3 := hk3.rnd.size
          have hl3 : W3.heap[w.heap.size + 1]? = some (.loop { rec .ready none with state := .busy }) := (hk3.rnd.block _ (by omega) hnb').trans hl2
          have hd3 : W3.heap[w.heap.size]? = some (.deferred (some [])) := (hk3.rnd.block _ (by omega) hna).trans hk2
          have := run_endRound (P := P) jump hl3
          rw [hrec] at this ⊢
          rw [hrec] at hl3
          have hr3 : Rnd (fun k => O k ∨ k = w.heap.size + 1) W W3 := hr2.trans (hk3.rnd.mono fun _ _ h => .inl h)
          refine ⟨this, Grow.putObj _ hl3 (by omega) rfl, ⟨?_, ?_⟩, World.putObj_heap_same (by omega), (World.putObj_heap_other (by omega)).trans hd3, by simp; omega, ?_, ?_⟩
          · exact (hr3.trans (.putObj _ (.inr rfl))).mono fun k _ h => (hOO k).2 h
          · rintro k (h | h)
            · rcases hk3.own k h with h | h
              · exact .inl ((hOO k).2 (.inl h))
              · exact .inr ⟨by omega, by simp; omega⟩
            · exact .inl ((hOO k).2 (.inr h))
          · intro h
            rcases hk3.own _ h with h | h
            · exact hna h
            · omega
          · intro h
            rcases hk3.own _ h with h | h
            · exact hnb' h
            · omega
        rintro e a3 W3 hp3
        cases e with
        | normal =>
          obtain ⟨O', hk3, hi3⟩ := hp3
          obtain ⟨h1, h2, h3, h4, h5, h6, h7, h8⟩ := fin none O' W3 hk3
          exact ⟨_, _, h1, _, h3, .inl ⟨rfl, O', fun _ => Iff.rfl, h7, h8, hI _ _ _ _ hi3 h2, h4, h5, h6⟩⟩
        | ret =>
          obtain ⟨O', hk3, hi3⟩ := hp3
          obtain ⟨h1, h2, h3, h4, h5, h6, h7, h8⟩ := fin (some .ret) O' W3 hk3
          exact ⟨_, _, h1, _, h3, .inr ⟨rfl, .ret, O', hIx _ _ _ _ _ hi3 h2, h4, h5, h6⟩⟩
        | exit id =>
          obtain ⟨O', hk3, hi3⟩ := hp3
          obtain ⟨h1, h2, h3, h4, h5, h6, h7, h8⟩ := fin (some (.exit id)) O' W3 hk3
          exact ⟨_, _, h1, _, h3, .inr ⟨rfl, .exit id, O', hIx _ _ _ _ _ hi3 h2, h4, h5, h6⟩⟩
        | goto t =>
          obtain ⟨O', hk3, hi3⟩ := hp3
          obtain ⟨h1, h2, h3, h4, h5, h6, h7, h8⟩ := fin (some (.goto t)) O' W3 hk3
          exact ⟨_, _, h1, _, h3, .inr ⟨rfl, .goto t, O', hIx _ _ _ _ _ hi3 h2, h4, h5, h6⟩⟩
        | panic ch => exact hp3.elim
        | outgrown => exact hp3.elim
      | ret => exact hp.elim
      | exit id => exact hp.elim
      | goto t => exact hp.elim
      | panic ch => exact hp.elim
      | outgrown => exact hp.elim
    · rintro e W2 ⟨⟨v, rfl⟩, Of, (⟨O, _, hna, _, hi, hl, hk, hz⟩ | ⟨pre, x, hpre, c, O, hi, hl, hk, hz⟩)⟩
      · refine ⟨none, _, by have := run_endLoop (P := P) hl (by rw [hrec]; simp); rw [hrec] at this; exact this, ?_⟩
        exact hdone O _ (hI _ _ _ _ hi (.putObj _ hl (by omega) rfl)) hna ((World.putObj_heap_other (by omega)).trans hk) (by simp; omega)
      · refine ⟨some c, _, by have := run_endLoop (P := P) hl (by rw [hrec]; simp); rw [hrec] at this; exact this, ?_⟩
        exact hstop c O pre x _ hpre (hIx _ _ _ _ _ hi (.putObj _ hl (by omega) rfl)) ((World.putObj_heap_other (by omega)).trans hk) (by simp; omega)

end Go.Proofs.Ytlbhnicengolfaa
