/-
  Package period: the first one of things than which no other one is better: pairs.
-/
import Derived.Test.YtjgebepeghgmcaaPer5
import Derived.Test.YtjgebepeghgmcaaBlk
namespace Go.Proofs.Ytjgebepeghgmcaa
open Go.RowKit Go.Shelf
set_option linter.unusedVariables false
set_option linter.unusedSimpArgs false

attribute [local go_sem] Oper.semAt_some in
set_option maxRecDepth 100000 in
set_option maxHeartbeats 4000000 in
theorem firstP_any (bt : Nat × Nat → Nat × Nat → Bool) (xs : List (Nat × Nat)) (g : Nat) (lb : Array Value) (Cap : Nat → Prop) (bf : Nat) (fb : Array Value) (w : World)
    (hit : Iter Try.prog g lb (fun p : Nat × Nat => #[.agg #[.int .i64 (p.1 : Int), .int .i64 (p.2 : Int)]]) xs Cap w)
    (hcap : ∀ k, Cap k → k < w.heap.size)
    (eg : ∀ args w, (callFunc g args).run Try.prog w = .ok (.enter g args) w) (eb : ∀ args w, (callFunc bf args).run Try.prog w = .ok (.enter bf args) w)
    (hbt : ∀ x y, x ∈ xs → y ∈ xs → ∀ W, Below w.heap.size w W → Calls Try.prog bf (#[.agg #[.int .i64 (x.1 : Int), .int .i64 (x.2 : Int)], .agg #[.int .i64 (y.1 : Int), .int .i64 (y.2 : Int)]] ++ fb) W fun e W' => e = .returned (.bool (bt x y)) ∧ Below W.heap.size W W') :
    Calls Try.prog 75 #[.func (.func g) #[] lb, .func (.func bf) #[] fb] w fun e w' =>
      e = .returned (.agg #[.int .i64 (((firstBy bt xs).getD (0, 0)).1 : Int), .int .i64 (((firstBy bt xs).getD (0, 0)).2 : Int)]) ∧ Below w.heap.size w w' := by
  have HBT := hide hbt
  clear hbt
  refine (callsIn_wide (n := 0)).1 ?_
  refine callsIn_of_wp_marks Try.func75 rfl trivial ?_ rfl
  simp only [Try.ntmps75, List.size_toArray, List.length_cons, List.length_nil, Nat.reduceAdd, Nat.reduceSub, Array.replicate_succ, Array.replicate_zero, List.push_toArray, List.append_toArray, List.nil_append, List.cons_append]
  gi_wp2
  generalize hW : World.alloc (World.alloc (World.alloc (World.alloc w _) _) _) _ = W0
  have hB0 : Below w.heap.size w W0 := by rw [← hW]; exact ((((Below.refl _ _).alloc (Nat.le_refl _) _).alloc (by simp) _).alloc (by simp; omega) _).alloc (by simp; omega) _
  have hz : W0.heap.size = w.heap.size + 4 := by rw [← hW]; simp
  have b0 : Blk W0 w.heap.size #[.func (.func bf) #[] fb] 116 := by rw [← hW]; exact (((Blk.new w _ _).alloc _).alloc _).alloc _
  have b1 : Blk W0 (w.heap.size + 1) #[.int .i64 0, .int .i64 0] 60 := by rw [← hW]; exact ((by simpa using Blk.new (World.alloc w _) _ _ : Blk _ (w.heap.size + 1) _ _).alloc _).alloc _
  have b2 : Blk W0 (w.heap.size + 1 + 1) #[.int .i64 0, .int .i64 0] 60 := by rw [← hW]; exact ((by simpa using Blk.new (World.alloc (World.alloc w _) _) _ _ : Blk _ (w.heap.size + 1 + 1) _ _).alloc _)
  have b3 : Blk W0 (w.heap.size + 1 + 1 + 1) #[.bool false] 4 := by rw [← hW]; exact (by simpa using Blk.new (World.alloc (World.alloc (World.alloc w _) _) _) _ _)
  clear hW
  refine wp_range (w0 := w) (gf := g) (lb := lb) rfl eg hit (by omega) (fun _ => rfl) (fun k => k = w.heap.size + 1 + 1 ∨ k = w.heap.size + 1 + 1 + 1) ?_ ?_
    (fun pre W => Blk W w.heap.size #[.func (.func bf) #[] fb] 116 ∧ Blk W (w.heap.size + 1) #[.int .i64 0, .int .i64 0] 60 ∧
      Blk W (w.heap.size + 1 + 1) #[.int .i64 (((firstBy bt pre).getD (0, 0)).1 : Int), .int .i64 (((firstBy bt pre).getD (0, 0)).2 : Int)] 60 ∧ Blk W (w.heap.size + 1 + 1 + 1) #[.bool (firstBy bt pre).isSome] 4 ∧ Below w.heap.size w W)
    (fun _ _ _ => False) ?_ ?_ ⟨b0, b1, b2, b3, hB0⟩ ?round ?done ?stop
  · rintro k (rfl | rfl) <;> omega
  · intro k hk
    have := hcap k hk
    exact ⟨this, by omega, hB0.block k this⟩
  · rintro s A B ⟨h1, h2, h3, h4, h5⟩ hg
    exact ⟨h1.grow hg, h2.grow hg, h3.grow hg, h4.grow hg, h5.trans ((hg.mono (by omega)).below (by have := h1.lt; omega))⟩
  · intro _ _ _ _ h
    exact h.elim
  case round =>
    rintro l pre x W hl hpre ⟨h1, h2, h3, h4, h5⟩ hsz
    have hx : x ∈ xs := hpre.subset (by simp)
    gi_wp2
    refine ⟨(Below.refl _ _).alloc (Nat.le_refl _) _, ?_⟩
    intro W2 hg hz2
    have g1 := (h1.alloc (.cells #[.int .i64 (x.1 : Int), .int .i64 (x.2 : Int)] 60)).grow hg
    have g2 := (h2.alloc (.cells #[.int .i64 (x.1 : Int), .int .i64 (x.2 : Int)] 60)).grow hg
    have g3 := (h3.alloc (.cells #[.int .i64 (x.1 : Int), .int .i64 (x.2 : Int)] 60)).grow hg
    have g4 := (h4.alloc (.cells #[.int .i64 (x.1 : Int), .int .i64 (x.2 : Int)] 60)).grow hg
    have gx := (Blk.new W #[.int .i64 (x.1 : Int), .int .i64 (x.2 : Int)] 60).grow hg
    have hz2' : W2.heap.size = W.heap.size + 1 := by rw [hz2]; simp
    have hB2 : Below w.heap.size w W2 := h5.trans ((((Below.refl W.heap.size W).alloc (Nat.le_refl _) _).mono (by omega)).trans ((hg.mono (by omega)).below (by simp; omega)))
    clear hg hz2 h1 h2 h3 h4 h5
    have c1 : W2.cell? ⟨w.heap.size, 0, none⟩ = some (.func (.func bf) #[] fb) := g1.cell 0
    have cx0 : W2.cell? ⟨W.heap.size, 0, none⟩ = some (.int .i64 (x.1 : Int)) := gx.cell 0
    have cx1 : W2.cell? ⟨W.heap.size, 1, none⟩ = some (.int .i64 (x.2 : Int)) := gx.cell 1
    have f3 : W2.frozen? ⟨w.heap.size + 1 + 1, 0, none⟩ = false := g3.frozen 0
    have f3' : W2.frozen? ⟨w.heap.size + 1 + 1, 1, none⟩ = false := g3.frozen 1
    have f4 : W2.frozen? ⟨w.heap.size + 1 + 1 + 1, 0, none⟩ = false := g4.frozen 0
    have c4 : W2.cell? ⟨w.heap.size + 1 + 1 + 1, 0, none⟩ = some (.bool (firstBy bt pre).isSome) := g4.cell 0
    have c30 : W2.cell? ⟨w.heap.size + 1 + 1, 0, none⟩ = some (.int .i64 (((firstBy bt pre).getD (0, 0)).1 : Int)) := g3.cell 0
    have c31 : W2.cell? ⟨w.heap.size + 1 + 1, 1, none⟩ = some (.int .i64 (((firstBy bt pre).getD (0, 0)).2 : Int)) := g3.cell 1
    have G1 := hide g1
    have G2 := hide g2
    have G3 := hide g3
    have G4 := hide g4
    clear g1 g2 g3 g4 gx
    have HS := hide (firstBy_snoc bt pre x)
    cases hf : firstBy bt pre with
    | none =>
      rw [hf] at c4 c30 c31
      simp only [Option.isSome_none, Option.getD_none] at c4 c30 c31
      have HF := hide hf
      clear hf
      have HP : Hid (pick bt (firstBy bt pre) x = some x) := hide (by rw [HF.out]; rfl)
      gi_wp2
      refine ⟨fun _ _ => trivial, ?_⟩
      gi_wp2
      exact ⟨(((Rnd.refl _ W2).setCell (p := ⟨w.heap.size + 1 + 1, 0, none⟩) (.inl (.inl rfl)) _).setCell (p := ⟨w.heap.size + 1 + 1, 1, none⟩) (.inl (.inl rfl)) _).setCell (p := ⟨w.heap.size + 1 + 1 + 1, 0, none⟩) (.inl (.inr rfl)) _,
        (((G1.out.other (p := ⟨w.heap.size + 1 + 1, 0, none⟩) (by dsimp only; omega) _).other (p := ⟨w.heap.size + 1 + 1, 1, none⟩) (by dsimp only; omega) _).other (p := ⟨w.heap.size + 1 + 1 + 1, 0, none⟩) (by dsimp only; omega) _),
        (((G2.out.other (p := ⟨w.heap.size + 1 + 1, 0, none⟩) (by dsimp only; omega) _).other (p := ⟨w.heap.size + 1 + 1, 1, none⟩) (by dsimp only; omega) _).other (p := ⟨w.heap.size + 1 + 1 + 1, 0, none⟩) (by dsimp only; omega) _),
        (by rw [HS.out, HP.out]; exact (((G3.out.set 0 _).set 1 _).other (p := ⟨w.heap.size + 1 + 1 + 1, 0, none⟩) (by dsimp only; omega) _)),
        (by rw [HS.out, HP.out]; exact (((G4.out.other (p := ⟨w.heap.size + 1 + 1, 0, none⟩) (by dsimp only; omega) _).other (p := ⟨w.heap.size + 1 + 1, 1, none⟩) (by dsimp only; omega) _).set 0 _)),
        ((hB2.setCell (p := ⟨w.heap.size + 1 + 1, 0, none⟩) (by simp; omega) _).setCell (p := ⟨w.heap.size + 1 + 1, 1, none⟩) (by simp; omega) _).setCell (p := ⟨w.heap.size + 1 + 1 + 1, 0, none⟩) (by simp; omega) _⟩
    | some b =>
      rw [hf] at c4 c30 c31
      simp only [Option.isSome_some, Option.getD_some] at c4 c30 c31
      have hb : b ∈ xs := hpre.subset (by have := firstBy_mem bt pre b hf; simp [this])
      have HF := hide hf
      have HC := hide (HBT.out x b hx hb W2 hB2)
      clear hf
      gi_wp2_with fail
      refine ⟨trivial, rfl, (Calls.inRound l HC.out).mono ?_⟩
      rintro e W3 ⟨rfl, hb3⟩
      have hs3 := hb3.size
      have g1 := G1.out.kept hb3
      have g2 := G2.out.kept hb3
      have g3 := G3.out.kept hb3
      have g4 := G4.out.kept hb3
      have lt4 := g4.lt
      have cx0' : W3.cell? ⟨W.heap.size, 0, none⟩ = some (.int .i64 (x.1 : Int)) := (hb3.cell (p := ⟨W.heap.size, 0, none⟩) (by show W.heap.size < _; omega)).trans cx0
      have cx1' : W3.cell? ⟨W.heap.size, 1, none⟩ = some (.int .i64 (x.2 : Int)) := (hb3.cell (p := ⟨W.heap.size, 1, none⟩) (by show W.heap.size < _; omega)).trans cx1
      have f3 : W3.frozen? ⟨w.heap.size + 1 + 1, 0, none⟩ = false := g3.frozen 0
      have f3' : W3.frozen? ⟨w.heap.size + 1 + 1, 1, none⟩ = false := g3.frozen 1
      have f4 : W3.frozen? ⟨w.heap.size + 1 + 1 + 1, 0, none⟩ = false := g4.frozen 0
      rw [HF.out] at g3 g4
      have c4 : W3.cell? ⟨w.heap.size + 1 + 1 + 1, 0, none⟩ = some (.bool true) := g4.cell 0
      have c30 : W3.cell? ⟨w.heap.size + 1 + 1, 0, none⟩ = some (.int .i64 (b.1 : Int)) := g3.cell 0
      have c31 : W3.cell? ⟨w.heap.size + 1 + 1, 1, none⟩ = some (.int .i64 (b.2 : Int)) := g3.cell 1
      have hB3 : Below w.heap.size w W3 := hB2.trans (hb3.mono (by omega))
      have hR3 : Rnd (fun k => k = w.heap.size + 1 + 1 ∨ k = w.heap.size + 1 + 1 + 1) W2 W3 := .of_below hb3
      have G1 := hide g1
      have G2 := hide g2
      have G3 := hide g3
      have G4 := hide g4
      clear g1 g2 g3 g4
      cases hv : bt x b with
      | true =>
        have HP : Hid (pick bt (firstBy bt pre) x = some x) := hide (by rw [HF.out]; simp [pick, hv])
        clear hv
        gi_wp2
        exact ⟨((hR3.setCell (p := ⟨w.heap.size + 1 + 1, 0, none⟩) (.inl (.inl rfl)) _).setCell (p := ⟨w.heap.size + 1 + 1, 1, none⟩) (.inl (.inl rfl)) _).setCell (p := ⟨w.heap.size + 1 + 1 + 1, 0, none⟩) (.inl (.inr rfl)) _,
          (((G1.out.other (p := ⟨w.heap.size + 1 + 1, 0, none⟩) (by dsimp only; omega) _).other (p := ⟨w.heap.size + 1 + 1, 1, none⟩) (by dsimp only; omega) _).other (p := ⟨w.heap.size + 1 + 1 + 1, 0, none⟩) (by dsimp only; omega) _),
          (((G2.out.other (p := ⟨w.heap.size + 1 + 1, 0, none⟩) (by dsimp only; omega) _).other (p := ⟨w.heap.size + 1 + 1, 1, none⟩) (by dsimp only; omega) _).other (p := ⟨w.heap.size + 1 + 1 + 1, 0, none⟩) (by dsimp only; omega) _),
          (by rw [HS.out, HP.out]; exact (((G3.out.set 0 _).set 1 _).other (p := ⟨w.heap.size + 1 + 1 + 1, 0, none⟩) (by dsimp only; omega) _)),
          (by rw [HS.out, HP.out]; exact (((G4.out.other (p := ⟨w.heap.size + 1 + 1, 0, none⟩) (by dsimp only; omega) _).other (p := ⟨w.heap.size + 1 + 1, 1, none⟩) (by dsimp only; omega) _).set 0 _)),
          ((hB3.setCell (p := ⟨w.heap.size + 1 + 1, 0, none⟩) (by simp; omega) _).setCell (p := ⟨w.heap.size + 1 + 1, 1, none⟩) (by simp; omega) _).setCell (p := ⟨w.heap.size + 1 + 1 + 1, 0, none⟩) (by simp; omega) _⟩
      | false =>
        have HP : Hid (pick bt (firstBy bt pre) x = some b) := hide (by rw [HF.out]; simp [pick, hv])
        clear hv
        gi_wp2
        exact ⟨hR3, G1.out, G2.out, by rw [HS.out, HP.out]; exact G3.out, by rw [HS.out, HP.out]; exact G4.out, hB3⟩
  case done =>
    rintro W ⟨h1, h2, h3, h4, h5⟩ hK hlt
    have c0 : W.cell? ⟨w.heap.size + 1 + 1, 0, none⟩ = some (.int .i64 (((firstBy bt xs).getD (0, 0)).1 : Int)) := h3.cell 0
    have c1 : W.cell? ⟨w.heap.size + 1 + 1, 1, none⟩ = some (.int .i64 (((firstBy bt xs).getD (0, 0)).2 : Int)) := h3.cell 1
    have r0 : W.cell? ⟨w.heap.size + 1, 0, none⟩ = some (.int .i64 0) := h2.cell 0
    have r1 : W.cell? ⟨w.heap.size + 1, 1, none⟩ = some (.int .i64 0) := h2.cell 1
    have f0 : W.frozen? ⟨w.heap.size + 1, 0, none⟩ = false := h2.frozen 0
    have f1 : W.frozen? ⟨w.heap.size + 1, 1, none⟩ = false := h2.frozen 1
    gi_wp2
    have k0 : ((W.setCell ⟨w.heap.size + 1, 0, none⟩ (.int .i64 (((firstBy bt xs).getD (0, 0)).1 : Int))).setCell ⟨w.heap.size + 1, 1, none⟩ (.int .i64 (((firstBy bt xs).getD (0, 0)).2 : Int))).heap[W0.heap.size]? = some (.deferred (some [])) := by
      rw [Below.heap_setCell _ _ _ _ (by simp; omega), Below.heap_setCell _ _ _ _ (by simp; omega)]; exact hK
    refine ⟨by simp, .inl ⟨_, _, rfl, run_takeDeferred k0, ?_⟩⟩
    have h2' := ((h2.set 0 (.int .i64 (((firstBy bt xs).getD (0, 0)).1 : Int))).set 1 (.int .i64 (((firstBy bt xs).getD (0, 0)).2 : Int))).putObj (.deferred none) (l := W0.heap.size) (by omega)
    have q0 := h2'.cell 0
    have q1 := h2'.cell 1
    exact ⟨.agg #[.int .i64 (((firstBy bt xs).getD (0, 0)).1 : Int), .int .i64 (((firstBy bt xs).getD (0, 0)).2 : Int)], by simp [results, Try.results75, go_sem, q0, q1], rfl,
      ((h5.setCell (p := ⟨w.heap.size + 1, 0, none⟩) (by simp) _).setCell (p := ⟨w.heap.size + 1, 1, none⟩) (by simp) _).trans (Below.of_putObj _ (by omega))⟩
  case stop =>
    rintro c pre x W _ h
    exact h.elim

end Go.Proofs.Ytjgebepeghgmcaa
