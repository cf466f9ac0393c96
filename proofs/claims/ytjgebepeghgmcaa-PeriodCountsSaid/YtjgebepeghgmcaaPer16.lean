/-
  slices.Values; the first one of things than which no other one is better: slices of integers.
-/
import Derived.Test.YtjgebepeghgmcaaPer15
import Derived.Test.YtjgebepeghgmcaaPer6
namespace Go.Proofs.Ytjgebepeghgmcaa
open Go.RowKit Go.Shelf
set_option linter.unusedVariables false
set_option linter.unusedSimpArgs false

abbrev PSl := (Nat × Nat) × List Int
def bestV (o : Option PSl) : Value := (o.map slv).getD (.slice none 0 0)

attribute [local go_sem] Oper.semAt_some in
set_option maxRecDepth 100000 in
set_option maxHeartbeats 4000000 in
theorem firstC_any (bt : PSl → PSl → Bool) (xs : List PSl) (g : Nat) (lb : Array Value) (Cap : Nat → Prop) (bf : Nat) (fb : Array Value) (w : World)
    (hit : Iter Try.prog g lb (fun p : PSl => #[slv p]) xs Cap w)
    (hcap : ∀ k, Cap k → k < w.heap.size)
    (eg : ∀ args w, (callFunc g args).run Try.prog w = .ok (.enter g args) w) (eb : ∀ args w, (callFunc bf args).run Try.prog w = .ok (.enter bf args) w)
    (hbt : ∀ x y, x ∈ xs → y ∈ xs → ∀ W, Below w.heap.size w W → Calls Try.prog bf (#[slv x, slv y] ++ fb) W fun e W' => e = .returned (.bool (bt x y)) ∧ Below W.heap.size W W') :
    Calls Try.prog 41 #[.func (.func g) #[] lb, .func (.func bf) #[] fb] w fun e w' =>
      e = .returned (bestV (firstBy bt xs)) ∧ Below w.heap.size w w' := by
  have HBT := hide hbt
  clear hbt
  refine (callsIn_wide (n := 0)).1 ?_
  refine callsIn_of_wp_marks Try.func41 rfl trivial ?_ rfl
  simp only [Try.ntmps41, List.size_toArray, List.length_cons, List.length_nil, Nat.reduceAdd, Nat.reduceSub, Array.replicate_succ, Array.replicate_zero, List.push_toArray, List.append_toArray, List.nil_append, List.cons_append]
  gi_wp2
  generalize hW : World.alloc (World.alloc (World.alloc w _) _) _ = W0
  have hB0 : Below w.heap.size w W0 := by rw [← hW]; exact (((Below.refl _ _).alloc (Nat.le_refl _) _).alloc (by simp) _).alloc (by simp; omega) _
  have hz : W0.heap.size = w.heap.size + 3 := by rw [← hW]; simp
  have b0 : Blk W0 w.heap.size #[.func (.func bf) #[] fb] 48 := by rw [← hW]; exact ((Blk.new w _ _).alloc _).alloc _
  have b2 : Blk W0 (w.heap.size + 1) #[bestV none] 42 := by show Blk W0 (w.heap.size + 1) #[.slice none 0 0] 42; rw [← hW]; exact (by simpa using Blk.new (World.alloc w _) _ _ : Blk _ (w.heap.size + 1) _ _).alloc _
  have b3 : Blk W0 (w.heap.size + 1 + 1) #[.bool false] 4 := by rw [← hW]; exact (by simpa using Blk.new (World.alloc (World.alloc w _) _) _ _)
  clear hW
  refine wp_range (w0 := w) (gf := g) (lb := lb) rfl eg hit (by omega) (fun _ => rfl) (fun k => k = w.heap.size + 1 ∨ k = w.heap.size + 1 + 1) ?_ ?_
    (fun pre W => Blk W w.heap.size #[.func (.func bf) #[] fb] 48 ∧
      Blk W (w.heap.size + 1) #[bestV (firstBy bt pre)] 42 ∧ Blk W (w.heap.size + 1 + 1) #[.bool (firstBy bt pre).isSome] 4 ∧ Below w.heap.size w W)
    (fun _ _ _ => False) ?_ ?_ ⟨b0, b2, b3, hB0⟩ ?round ?done ?stop
  · rintro k (rfl | rfl) <;> omega
  · intro k hk
    have := hcap k hk
    exact ⟨this, by omega, hB0.block k this⟩
  · rintro s A B ⟨h1, h3, h4, h5⟩ hg
    exact ⟨h1.grow hg, h3.grow hg, h4.grow hg, h5.trans ((hg.mono (by omega)).below (by have := h1.lt; omega))⟩
  · intro _ _ _ _ h
    exact h.elim
  case round =>
    rintro l pre x W hl hpre ⟨h1, h3, h4, h5⟩ hsz
    have hx : x ∈ xs := hpre.subset (by simp)
    obtain ⟨sv, hsv, hone⟩ : ∃ sv : Option Addr × Nat × Nat, slv x = .slice sv.1 sv.2.1 sv.2.2 ∧ True := ⟨(some ⟨x.1.1, 0, none⟩, x.2.length, x.1.2), rfl, trivial⟩
    obtain ⟨va, vn, vc⟩ := sv
    dsimp only at hsv
    have HSV := hide hsv
    rw [hsv]
    clear hsv hone
    gi_wp2
    refine ⟨Below.refl _ _, ?_⟩
    intro W2 hg hz2
    have g1 := h1.grow hg
    have g3 := h3.grow hg
    have g4 := h4.grow hg
    have hB2 : Below w.heap.size w W2 := h5.trans ((hg.mono (by omega)).below (by have := h1.lt; omega))
    clear hg hz2 h1 h3 h4 h5
    have c1 : W2.cell? ⟨w.heap.size, 0, none⟩ = some (.func (.func bf) #[] fb) := g1.cell 0
    have f3 : W2.frozen? ⟨w.heap.size + 1, 0, none⟩ = false := g3.frozen 0
    have f4 : W2.frozen? ⟨w.heap.size + 1 + 1, 0, none⟩ = false := g4.frozen 0
    have HS := hide (firstBy_snoc bt pre x)
    cases hf : firstBy bt pre with
    | none =>
      rw [hf] at g3 g4
      have c4 : W2.cell? ⟨w.heap.size + 1 + 1, 0, none⟩ = some (.bool false) := g4.cell 0
      have c30 : W2.cell? ⟨w.heap.size + 1, 0, none⟩ = some (.slice none 0 0) := g3.cell 0
      have G1 := hide g1
      have G3 := hide g3
      have G4 := hide g4
      clear g1 g3 g4
      have HF := hide hf
      clear hf
      have HP : Hid (pick bt (firstBy bt pre) x = some x) := hide (by rw [HF.out]; rfl)
      gi_wp2
      refine ⟨fun _ _ => trivial, ?_⟩
      gi_wp2
      exact ⟨((Rnd.refl _ W2).setCell (p := ⟨w.heap.size + 1, 0, none⟩) (.inl (.inl rfl)) _).setCell (p := ⟨w.heap.size + 1 + 1, 0, none⟩) (.inl (.inr rfl)) _,
        (G1.out.other (p := ⟨w.heap.size + 1, 0, none⟩) (by dsimp only; omega) _).other (p := ⟨w.heap.size + 1 + 1, 0, none⟩) (by dsimp only; omega) _,
        (by rw [HS.out, HP.out]; show Blk _ _ #[slv x] _; rw [HSV.out]; exact (G3.out.set 0 _).other (p := ⟨w.heap.size + 1 + 1, 0, none⟩) (by dsimp only; omega) _),
        (by rw [HS.out, HP.out]; exact (G4.out.other (p := ⟨w.heap.size + 1, 0, none⟩) (by dsimp only; omega) _).set 0 _),
        (hB2.setCell (p := ⟨w.heap.size + 1, 0, none⟩) (by simp) _).setCell (p := ⟨w.heap.size + 1 + 1, 0, none⟩) (by simp; omega) _⟩
    | some b =>
      rw [hf] at g3 g4
      have hb : b ∈ xs := hpre.subset (by have := firstBy_mem bt pre b hf; simp [this])
      have HC := hide (HBT.out x b hx hb W2 hB2)
      rw [HSV.out] at HC
      have c4 : W2.cell? ⟨w.heap.size + 1 + 1, 0, none⟩ = some (.bool true) := g4.cell 0
      have c30 : W2.cell? ⟨w.heap.size + 1, 0, none⟩ = some (slv b) := g3.cell 0
      have HF := hide hf
      have G1 := hide g1
      have G3 := hide g3
      have G4 := hide g4
      clear hf g1 g3 g4
      gi_wp2_with fail
      refine ⟨trivial, rfl, (Calls.inRound l HC.out).mono ?_⟩
      rintro e W3 ⟨rfl, hb3⟩
      have hs3 := hb3.size
      have g1 := G1.out.kept hb3
      have g3 := G3.out.kept hb3
      have g4 := G4.out.kept hb3
      have lt4 := g4.lt
      have f3 : W3.frozen? ⟨w.heap.size + 1, 0, none⟩ = false := g3.frozen 0
      have f4 : W3.frozen? ⟨w.heap.size + 1 + 1, 0, none⟩ = false := g4.frozen 0
      have c4 : W3.cell? ⟨w.heap.size + 1 + 1, 0, none⟩ = some (.bool true) := g4.cell 0
      have c30 : W3.cell? ⟨w.heap.size + 1, 0, none⟩ = some (slv b) := g3.cell 0
      have hB3 : Below w.heap.size w W3 := hB2.trans (hb3.mono (by have := hB2.size; omega))
      have hR3 : Rnd (fun k => k = w.heap.size + 1 ∨ k = w.heap.size + 1 + 1) W2 W3 := .of_below hb3
      have G1 := hide g1
      have G3 := hide g3
      have G4 := hide g4
      clear g1 g3 g4
      cases hv : bt x b with
      | true =>
        have HP : Hid (pick bt (firstBy bt pre) x = some x) := hide (by rw [HF.out]; simp [pick, hv])
        clear hv
        gi_wp2
        exact ⟨(hR3.setCell (p := ⟨w.heap.size + 1, 0, none⟩) (.inl (.inl rfl)) _).setCell (p := ⟨w.heap.size + 1 + 1, 0, none⟩) (.inl (.inr rfl)) _,
          (G1.out.other (p := ⟨w.heap.size + 1, 0, none⟩) (by dsimp only; omega) _).other (p := ⟨w.heap.size + 1 + 1, 0, none⟩) (by dsimp only; omega) _,
          (by rw [HS.out, HP.out]; show Blk _ _ #[slv x] _; rw [HSV.out]; exact (G3.out.set 0 _).other (p := ⟨w.heap.size + 1 + 1, 0, none⟩) (by dsimp only; omega) _),
          (by rw [HS.out, HP.out]; exact (G4.out.other (p := ⟨w.heap.size + 1, 0, none⟩) (by dsimp only; omega) _).set 0 _),
          (hB3.setCell (p := ⟨w.heap.size + 1, 0, none⟩) (by simp) _).setCell (p := ⟨w.heap.size + 1 + 1, 0, none⟩) (by simp; omega) _⟩
      | false =>
        have HP : Hid (pick bt (firstBy bt pre) x = some b) := hide (by rw [HF.out]; simp [pick, hv])
        clear hv
        gi_wp2
        exact ⟨hR3, G1.out, by rw [HS.out, HP.out]; exact G3.out, by rw [HS.out, HP.out]; exact G4.out, hB3⟩
  case done =>
    rintro W ⟨h1, h3, h4, h5⟩ hK hlt
    have c0 : W.cell? ⟨w.heap.size + 1, 0, none⟩ = some (bestV (firstBy bt xs)) := h3.cell 0
    gi_wp2
    exact ⟨by simp, .inl ⟨_, _, rfl, run_takeDeferred hK, _, by simp [results, Try.results41, go_sem], rfl, h5.trans (Below.of_putObj _ (by omega))⟩⟩
  case stop =>
    rintro c pre x W _ h
    exact h.elim

end Go.Proofs.Ytjgebepeghgmcaa
