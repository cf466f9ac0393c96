/-
  The law of a drawn region 'p, q := .., ..' with both variables in memory, the first store before what the second needs: the first variable of any number of cells.
-/
import Derived.Test.YtjgebepeghgmcaaPair
namespace Go.Proofs.Ytjgebepeghgmcaa
open Go.RowKit
set_option linter.unusedVariables false
set_option linter.unusedSimpArgs false

def setRow (w : World) (b : Nat) : Nat → List Value → World
  | _, [] => w
  | i, v :: vs => setRow (w.setCell ⟨b, i, none⟩ v) b (i + 1) vs
theorem below_setRow {a : World} {B k : Nat} : ∀ {W : World} (_ : Below B a W) (_ : B ≤ k) (i : Nat) (vs : List Value), Below B a (setRow W k i vs)
  | W, h, hk, i, [] => h
  | W, h, hk, i, v :: vs => below_setRow (h.setCell (p := ⟨k, i, none⟩) hk v) hk (i + 1) vs
theorem Blk.otherRow {j k : Nat} {cs : Array Value} {t : TypeId} : ∀ {W : World} (_ : Blk W j cs t) (_ : j ≠ k) (i : Nat) (vs : List Value), Blk (setRow W k i vs) j cs t
  | W, h, hne, i, [] => h
  | W, h, hne, i, v :: vs => Blk.otherRow (h.other (p := ⟨k, i, none⟩) hne v) hne (i + 1) vs
theorem Blk.setRow_at {k : Nat} {t : TypeId} : ∀ (W : World) (xs ys zs : List Value), Blk W k (xs ++ ys).toArray t → ys.length = zs.length → Blk (Go.Proofs.Ytjgebepeghgmcaa.setRow W k xs.length zs) k (xs ++ zs).toArray t
  | W, xs, [], [], h, _ => h
  | W, xs, y :: ys, z :: zs, h, hl => by
    have h1 := h.set xs.length z
    have e : (xs ++ y :: ys).toArray.setIfInBounds xs.length z = (xs ++ [z] ++ ys).toArray := by
      simp
    rw [e] at h1
    have h2 := Blk.setRow_at (W.setCell ⟨k, xs.length, none⟩ z) (xs ++ [z]) ys zs h1 (by simpa using hl)
    simpa [Go.Proofs.Ytjgebepeghgmcaa.setRow] using h2
  | W, xs, [], z :: zs, h, hl => by simp at hl
  | W, xs, y :: ys, [], h, hl => by simp at hl
theorem Blk.setRow {W : World} {k : Nat} {t : TypeId} {z : Array Value} (h : Blk W k z t) (z' : Array Value) (hz : z.size = z'.size) : Blk (Go.Proofs.Ytjgebepeghgmcaa.setRow W k 0 z'.toList) k z' t := by
  have := Blk.setRow_at W [] z.toList z'.toList (by simpa using h) (by simpa using hz)
  simpa using this

variable {P : Program}
/-- The first store, run. -/
def StoresA (P : Program) (o : Oper) (a : Act) (b1 : Nat) (vs : List Value) (w : World) : Prop :=
  ∃ r, (execOp a.eval o).run P w = .ok r (setRow w b1 0 vs) ∧ (r = .value undef ∨ r = .skip)

theorem wp_region_pairN {W : World} (z1 z1' z2 : Array Value) (hz : z1.size = z1'.size) (ty1 ty2 : TypeId) (t1 t2 : Tmp) {id : Nat} {Q : Exit → Act → World → Prop} {a : Act} {l : List Oper} (q : Nat) (o3 : Oper) (hm : P.follows .mixedOrders = true) (hB : threeB l.toArray q = true) (ht : t1 ≠ t2)
    (h1 : LaysNew P l[q]? t1 z1 ty1) (h2 : LaysNew P l[q + 1]? t2 z2 ty2) (h3 : l[q + 2]? = some o3) (h3d : o3.dst = none) (h3g : o3.guard = none)
    (h : wpGrow P l.toArray W (fun a' => ∀ (b1 b2 : Nat), W.heap.size ≤ b1 → W.heap.size ≤ b2 → b1 ≠ b2 →
      (∀ w', Below W.heap.size W w' → Blk w' b1 z1 ty1 → StoresA P o3 ((a'.put (some t1) (.pointer (some ⟨b1, 0, none⟩))).put (some t2) (.pointer (some ⟨b2, 0, none⟩))) b1 z1'.toList w') ∧
      (∀ w', Below W.heap.size W w' → Blk w' b1 z1' ty1 → Blk w' b2 z2 ty2 →
        wpList P l.toArray Q (l.drop (q + 3)) ((a'.put (some t1) (.pointer (some ⟨b1, 0, none⟩))).put (some t2) (.pointer (some ⟨b2, 0, none⟩))) w')) (l.take q) a) : (Code.region id l.toArray true).wp P Q a W := by
  simp only [threeB, Bool.and_eq_true, decide_eq_true_eq] at hB
  obtain ⟨⟨⟨⟨hsel, hn⟩, hs⟩, hc⟩, hlex⟩ := hB
  have hn' : q + 3 < l.length := by simpa using hn
  have htl : (l.take q).length = q := by simp; omega
  have hdl : (l.drop (q + 3)).length = l.toArray.size - (q + 3) := by simp
  obtain ⟨o1, ho1, hd1, hg1, hs1, hr1⟩ := h1
  obtain ⟨o2, ho2, hd2, hg2, hs2, hr2⟩ := h2
  have hnew : ∀ i, q ≤ i → i < q + 3 → ∃ o, l.toArray[i]? = some o ∧ o.dst = (PM q t1 t2).dst i ∧ o.guard = none := fun i hi hi2 => by
    have hi' : i = q ∨ i = q + 1 ∨ i = q + 2 := by omega
    rcases hi' with rfl | rfl | rfl
    · exact ⟨o1, by simpa using ho1, by simp [PM, hd1], hg1⟩
    · exact ⟨o2, by simpa using ho2, by simp [PM, hd2], hg2⟩
    · exact ⟨o3, by simpa using h3, by simp [PM, h3d], h3g⟩
  have inv0 : HeadInv .any l.toArray (q + 3) (Array.replicate l.toArray.size false) :=
    ⟨by simp, fun j oj _ hl => (by rw [getD_replicate_false] at hl; cases hl), fun t _ ht => getD_in (by simpa using ht) (getD_replicate_false _ _)⟩
  have hPC : PC W z1 z1' z2 ty1 ty2 (none, none, false) W.drew := ⟨(Below.refl _ _).drew, fun b e => (by cases e), fun b e => (by cases e), fun b c e => (by cases e)⟩
  have mv1 : ∀ (s : St) (a' : Act), s.1 = none → moveAt P l.toArray (PC W z1 z1' z2 ty1 ty2) (PM q t1 t2) q s a' := fun s a' hs0 =>
    ⟨o1, by simpa using ho1, fun w hw => ⟨w.heap.size, _, _, hr1 _ w, .inl (by simp [PM]), by
      obtain ⟨c1, c2, c3, c4⟩ := hw
      simp only [PM, if_true]
      refine ⟨c1.alloc c1.size _, fun b e => ?_, fun b e => ⟨(c3 b e).1, (c3 b e).2.alloc _⟩, fun b c e e' => ?_⟩
      · obtain rfl : w.heap.size = b := by simpa using e
        exact ⟨c1.size, by simpa using Blk.new w _ _⟩
      · obtain rfl : w.heap.size = b := by simpa using e
        have := (c3 c e').2.lt
        omega⟩⟩
  have mv2 : ∀ (s : St) (a' : Act), moveAt P l.toArray (PC W z1 z1' z2 ty1 ty2) (PM q t1 t2) (q + 1) s a' := fun s a' =>
    ⟨o2, by simpa using ho2, fun w hw => ⟨w.heap.size, _, _, hr2 _ w, .inl (by simp [PM]), by
      obtain ⟨c1, c2, c3, c4⟩ := hw
      simp only [PM, if_true, if_neg (show ¬ q + 1 = q by omega)]
      refine ⟨c1.alloc c1.size _, fun b e => ⟨(c2 b e).1, (c2 b e).2.alloc _⟩, fun b e => ?_, fun b c e e' => ?_⟩
      · obtain rfl : w.heap.size = b := by simpa using e
        exact ⟨c1.size, Blk.new w _ _⟩
      · obtain rfl : w.heap.size = c := by simpa using e'
        have := (c2 b e).2.lt
        omega⟩⟩
  have H := headM_lex (fin := finThree .any l.toArray q (l.toArray.size - (q + 3))) (M := PM q t1 t2) (C := PC W z1 z1' z2 ty1 ty2) (md := .any) (g := 3) (q := q) (n := q + 3) (s0 := (none, none, false))
    (L := fun listed s a' => Region.seqB .any l.toArray (l.toArray.size - (q + 3)) (q + 3) listed = true ∧ ∀ w', PC W z1 z1' z2 ty1 ty2 s w' → wpList P l.toArray Q (l.drop (q + 3)) a' w')
    hsel hs hc hn (by omega) (fun i hi hi2 => by obtain ⟨o, ho, hd, _⟩ := hnew i hi hi2; exact ⟨o, ho, hd⟩) (fun listed s a' hL => seqB_ready hL.1)
    (fun listed a' inv hf hq => by
      simp only [finThree, Bool.and_eq_true, decide_eq_true_eq] at hf
      obtain ⟨⟨⟨⟨f1, f2⟩, f3⟩, f4⟩, f5⟩ := hf
      -- the store and the tail, whichever block came first
      have rest : ∀ b1 b2, headM P .any l.toArray (PC W z1 z1' z2 ty1 ty2) (PM q t1 t2) q (q + 3)
          (fun listed s a' => Region.seqB .any l.toArray (l.toArray.size - (q + 3)) (q + 3) listed = true ∧ ∀ w', PC W z1 z1' z2 ty1 ty2 s w' → wpList P l.toArray Q (l.drop (q + 3)) a' w')
          1 ((listed.setIfInBounds q true).setIfInBounds (q + 1) true) (some b1, some b2, false) ((a'.put (some t1) (.pointer (some ⟨b1, 0, none⟩))).put (some t2) (.pointer (some ⟨b2, 0, none⟩))) := fun b1 b2 => by
        refine ⟨by rw [f4]; simp, fun i hi => ?_⟩
        rw [f4] at hi
        obtain rfl : i = q + 2 := by simpa using hi
        refine ⟨by omega, fun h => by omega, fun _ => ⟨⟨o3, by simpa using h3, fun w hw => ?_⟩, fun b => ?_⟩⟩
        · obtain ⟨c1, c2, c3, c4⟩ := hw
          have k1 := (c2 b1 rfl).2
          have k2 := (c3 b2 rfl).2
          have hb1 := (c2 b1 rfl).1
          have hb2 := (c3 b2 rfl).1
          have hne := c4 b1 b2 rfl rfl
          obtain ⟨hst, _⟩ := hq b1 b2 hb1 hb2 hne
          obtain ⟨r, hrun, hr⟩ := hst w c1 (by simpa using k1)
          refine ⟨0, _, r, hrun, ?_, ?_⟩
          · simp only [PM, if_neg (show ¬ (q + 2 = q ∨ q + 2 = q + 1) by omega)]
            rcases hr with rfl | rfl
            · exact .inl rfl
            · exact .inr ⟨rfl, trivial⟩
          · simp only [PM, if_neg (show ¬ q + 2 = q by omega), if_neg (show ¬ q + 2 = q + 1 by omega)]
            refine ⟨below_setRow c1 hb1 _ _, fun b e => ?_, fun b e => ?_, c4⟩
            · obtain rfl : b1 = b := by simpa using e
              exact ⟨hb1, by simpa using (show Blk w b1 z1 ty1 by simpa using k1).setRow z1' hz⟩
            · obtain rfl : b2 = b := by simpa using e
              exact ⟨hb2, k2.otherRow (Ne.symm hne) _ _⟩
        · simp only [PM, if_neg (show ¬ q + 2 = q by omega), if_neg (show ¬ q + 2 = q + 1 by omega), if_neg (show ¬ (q + 2 = q ∨ q + 2 = q + 1) by omega)]
          refine ⟨f5, fun w' hw' => ?_⟩
          obtain ⟨c1, c2, c3, c4⟩ := hw'
          exact (hq b1 b2 (c2 b1 rfl).1 (c3 b2 rfl).1 (c4 b1 b2 rfl rfl)).2 w' c1 (by simpa using (c2 b1 rfl).2) (c3 b2 rfl).2
      refine ⟨by rw [f1]; simp, fun i hi => ?_⟩
      rw [f1] at hi
      have hi' : i = q ∨ i = q + 1 := by simpa using hi
      rcases hi' with rfl | rfl
      · refine ⟨by omega, fun h => by omega, fun _ => ⟨mv1 _ _ rfl, fun b1 => ⟨by rw [f2]; simp, fun j hj => ?_⟩⟩⟩
        rw [f2] at hj
        obtain rfl : j = i + 1 := by simpa using hj
        refine ⟨by omega, fun h => by omega, fun _ => ⟨mv2 _ _, fun b2 => ?_⟩⟩
        have := rest b1 b2
        simpa [PM] using this
      · refine ⟨by omega, fun h => by omega, fun _ => ⟨mv2 _ _, fun b2 => ⟨by rw [f3]; simp, fun j hj => ?_⟩⟩⟩
        rw [f3] at hj
        obtain rfl : j = q := by simpa using hj
        refine ⟨by omega, fun h => by omega, fun _ => ⟨mv1 _ _ (by simp [PM]), fun b1 => ?_⟩⟩
        have := rest b1 b2
        rw [Array.setIfInBounds_comm _ _ (by omega), Act.put_comm _ _ _ (by intro d hd hd'; cases hd; cases hd'; exact ht rfl)] at this
        simpa [PM] using this)
    (l.take q) 0 _ a (fun j hj => by have hj' : j < q := by rw [htl] at hj; exact hj
                                     simp [hj']) (by simpa using htl) inv0 (by rw [htl]; exact hlex) (wpM_of_wpGrow _ _ _ h)
  refine wp_region_any hm ?_
  have := wpAny_of_headM (g := l.toArray.size - (q + 3)) (Q' := Q) hnew (fun listed s a' w' hw' hL => by
    have := wpAny_of_seq (md := .any) (Q' := Q) (l.drop (q + 3)) (q + 3) listed a' w' (fun j => by simp [List.getElem?_drop]) (by rw [hdl]; exact hL.1) (hL.2 w' hw')
    rwa [hdl] at this) _ _ _ _ _ hPC H
  rw [htl, show q + 3 + (l.toArray.size - (q + 3)) = l.toArray.size by omega] at this
  exact this


end Go.Proofs.Ytjgebepeghgmcaa
