/-
  The law of a drawn region 'p, q := .., ..' with both variables in memory, the first store before what the second needs: the first variable of any number of cells. The law of a drawn region 'p, q, e = f(..)' with the first two variables in memory: both stores before what follows. The law of Mono, with a tail in one forced order behind the operations that may come in any order.
-/
import Derived.Test.YtlbhnicengolfaaPair
import Derived.Test.YtlbhnicengolfaaMono
/-! ## PairN: The law of a drawn region 'p, q := .., ..' with both variables in memory, the first store before what the second needs: the first variable of any number of cells. -/
namespace Go.Proofs.Ytlbhnicengolfaa
open Go.RowKit
set_option linter.unusedVariables false
set_option linter.unusedSimpArgs false

def setRow (w : World) (b : Nat) : Nat → List Value → World
  | _, [] => w
  | i, v :: vs => setRow (w.setCell ⟨b, i, none⟩ v) b (i + 1) vs
theorem below_setRow {a : World} {B k : Nat} : ∀ {W : World} (_ : Below B a W) (_ : B ≤ k) (i : Nat) (vs : List Value), Below B a (setRow W k i vs)
  | W, h, hk, i, [] => h
  | W, h, hk, i, v :: vs => below_setRow (h.setCell (p := ⟨k, i, none⟩) hk v) hk (i + 1) vs
theorem Blk.otherRow {j k : Nat} {cs : Array Value} {t : TypeId} : ∀ {W : World} (_ : Blk W j cs t) (_ : j ≠ k) (i : Nat) (vs : List Value), Blk (setRow W k i vs) j cs t
  | W, h, hne, i, [] => h
  | W, h, hne, i, v :: vs => Blk.otherRow (h.other (p := ⟨k, i, none⟩) hne v) hne (i + 1) vs
theorem Blk.setRow_at {k : Nat} {t : TypeId} : ∀ (W : World) (xs ys zs : List Value), Blk W k (xs ++ ys).toArray t → ys.length = zs.length → Blk (Go.Proofs.Ytlbhnicengolfaa.setRow W k xs.length zs) k (xs ++ zs).toArray t
  | W, xs, [], [], h, _ => h
  | W, xs, y :: ys, z :: zs, h, hl => by
    have h1 := h.set xs.length z
    have e : (xs ++ y :: ys).toArray.setIfInBounds xs.length z = (xs ++ [z] ++ ys).toArray := by
      simp
    rw [e] at h1
    have h2 := Blk.setRow_at (W.setCell ⟨k, xs.length, none⟩ z) (xs ++ [z]) ys zs h1 (by simpa using hl)
    simpa [Go.Proofs.Ytlbhnicengolfaa.setRow] using h2
  | W, xs, [], z :: zs, h, hl => by simp at hl
  | W, xs, y :: ys, [], h, hl => by simp at hl
theorem Blk.setRow {W : World} {k : Nat} {t : TypeId} {z : Array Value} (h : Blk W k z t) (z' : Array Value) (hz : z.size = z'.size) : Blk (Go.Proofs.Ytlbhnicengolfaa.setRow W k 0 z'.toList) k z' t := by
  have := Blk.setRow_at W [] z.toList z'.toList (by simpa using h) (by simpa using hz)
  simpa using this

variable {P : Program}
/-- The first store, run. -/
def StoresA (P : Program) (o : Oper) (a : Act) (b1 : Nat) (vs : List Value) (w : World) : Prop :=
  ∃ r, (execOp a.eval o).run P w = .ok r (setRow w b1 0 vs) ∧ (r = .value undef ∨ r = .skip)

theorem wp_region_pairN {W : World} (z1 z1' z2 : Array Value) (hz : z1.size = z1'.size) (ty1 ty2 : TypeId) (t1 t2 : Tmp) {id : Nat} {Q : Exit → Act → World → Prop} {a : Act} {l : List Oper} (q : Nat) (o3 : Oper) (hm : P.follows .mixedOrders = true) (hB : threeB l.toArray q = true) (ht : t1 ≠ t2)
    (h1 : LaysNew P l[q]? t1 z1 ty1) (h2 : LaysNew P l[q + 1]? t2 z2 ty2) (h3 : l[q + 2]? = some o3) (h3d : o3.dst = none) (h3g : o3.guard = none)
    (h : wpGrow P l.toArray W (fun a' => ∀ (b1 b2 : Nat), W.heap.size ≤ b1 → W.heap.size ≤ b2 → b1 ≠ b2 →
      (∀ w', Below W.heap.size W w' → Blk w' b1 z1 ty1 → StoresA P o3 ((a'.put (some t1) (.pointer (some ⟨b1, 0, none⟩))).put (some t2) (.pointer (some ⟨b2, 0, none⟩))) b1 z1'.toList w') ∧
      (∀ w', Below W.heap.size W w' → Blk w' b1 z1' ty1 → Blk w' b2 z2 ty2 →
        wpList P l.toArray Q (l.drop (q + 3)) ((a'.put (some t1) (.pointer (some ⟨b1, 0, none⟩))).put (some t2) (.pointer (some ⟨b2, 0, none⟩))) w')) (l.take q) a) : (Code.region id l.toArray true).wp P Q a W := by
  simp only [threeB, Bool.and_eq_true, decide_eq_true_eq] at hB
  obtain ⟨⟨⟨⟨hsel, hn⟩, hs⟩, hc⟩, hlex⟩ := hB
  have hn' : q + 3 < l.length := by simpa using hn
  have htl : (l.take q).length = q := by simp; omega
  have hdl : (l.drop (q + 3)).length = l.toArray.size - (q + 3) := by simp
  obtain ⟨o1, ho1, hd1, hg1, hs1, hr1⟩ := h1
  obtain ⟨o2, ho2, hd2, hg2, hs2, hr2⟩ := h2
  have hnew : ∀ i, q ≤ i → i < q + 3 → ∃ o, l.toArray[i]? = some o ∧ o.dst = (PM q t1 t2).dst i ∧ o.guard = none := fun i hi hi2 => by
    have hi' : i = q ∨ i = q + 1 ∨ i = q + 2 := by omega
    rcases hi' with rfl | rfl | rfl
    · exact ⟨o1, by simpa using ho1, by simp [PM, hd1], hg1⟩
    · exact ⟨o2, by simpa using ho2, by simp [PM, hd2], hg2⟩
    · exact ⟨o3, by simpa using h3, by simp [PM, h3d], h3g⟩
  have inv0 : HeadInv .any l.toArray (q + 3) (Array.replicate l.toArray.size false) :=
    ⟨by simp, fun j oj _ hl => (by rw [getD_replicate_false] at hl; cases hl), fun t _ ht => getD_in (by simpa using ht) (getD_replicate_false _ _)⟩
  have hPC : PC W z1 z1' z2 ty1 ty2 (none, none, false) W.drew := ⟨(Below.refl _ _).drew, fun b e => (by cases e), fun b e => (by cases e), fun b c e => (by cases e)⟩
  have mv1 : ∀ (s : St) (a' : Act), s.1 = none → moveAt P l.toArray (PC W z1 z1' z2 ty1 ty2) (PM q t1 t2) q s a' := fun s a' hs0 =>
    ⟨o1, by simpa using ho1, fun w hw => ⟨w.heap.size, _, _, hr1 _ w, .inl (by simp [PM]), by
      obtain ⟨c1, c2, c3, c4⟩ := hw
      simp only [PM, if_true]
      refine ⟨c1.alloc c1.size _, fun b e => ?_, fun b e => ⟨(c3 b e).1, (c3 b e).2.alloc _⟩, fun b c e e' => ?_⟩
      · obtain rfl : w.heap.size = b := by simpa using e
        exact ⟨c1.size, by simpa using Blk.new w _ _⟩
      · obtain rfl : w.heap.size = b := by simpa using e
        have := (c3 c e').2.lt
        omega⟩⟩
  have mv2 : ∀ (s : St) (a' : Act), moveAt P l.toArray (PC W z1 z1' z2 ty1 ty2) (PM q t1 t2) (q + 1) s a' := fun s a' =>
    ⟨o2, by simpa using ho2, fun w hw => ⟨w.heap.size, _, _, hr2 _ w, .inl (by simp [PM]), by
      obtain ⟨c1, c2, c3, c4⟩ := hw
      simp only [PM, if_true, if_neg (show ¬ q + 1 = q by omega)]
      refine ⟨c1.alloc c1.size _, fun b e => ⟨(c2 b e).1, (c2 b e).2.alloc _⟩, fun b e => ?_, fun b c e e' => ?_⟩
      · obtain rfl : w.heap.size = b := by simpa using e
        exact ⟨c1.size, Blk.new w _ _⟩
      · obtain rfl : w.heap.size = c := by simpa using e'
        have := (c2 b e).2.lt
        omega⟩⟩
  have H := headM_lex (fin := finThree .any l.toArray q (l.toArray.size - (q + 3))) (M := PM q t1 t2) (C := PC W z1 z1' z2 ty1 ty2) (md := .any) (g := 3) (q := q) (n := q + 3) (s0 := (none, none, false))
    (L := fun listed s a' => Region.seqB .any l.toArray (l.toArray.size - (q + 3)) (q + 3) listed = true ∧ ∀ w', PC W z1 z1' z2 ty1 ty2 s w' → wpList P l.toArray Q (l.drop (q + 3)) a' w')
    hsel hs hc hn (by omega) (fun i hi hi2 => by obtain ⟨o, ho, hd, _⟩ := hnew i hi hi2; exact ⟨o, ho, hd⟩) (fun listed s a' hL => seqB_ready hL.1)
    (fun listed a' inv hf hq => by
      simp only [finThree, Bool.and_eq_true, decide_eq_true_eq] at hf
      obtain ⟨⟨⟨⟨f1, f2⟩, f3⟩, f4⟩, f5⟩ := hf
      -- the store and the tail, whichever block came first
      have rest : ∀ b1 b2, headM P .any l.toArray (PC W z1 z1' z2 ty1 ty2) (PM q t1 t2) q (q + 3)
          (fun listed s a' => Region.seqB .any l.toArray (l.toArray.size - (q + 3)) (q + 3) listed = true ∧ ∀ w', PC W z1 z1' z2 ty1 ty2 s w' → wpList P l.toArray Q (l.drop (q + 3)) a' w')
          1 ((listed.setIfInBounds q true).setIfInBounds (q + 1) true) (some b1, some b2, false) ((a'.put (some t1) (.pointer (some ⟨b1, 0, none⟩))).put (some t2) (.pointer (some ⟨b2, 0, none⟩))) := fun b1 b2 => by
        refine ⟨by rw [f4]; simp, fun i hi => ?_⟩
        rw [f4] at hi
        obtain rfl : i = q + 2 := by simpa using hi
        refine ⟨by omega, fun h => by omega, fun _ => ⟨⟨o3, by simpa using h3, fun w hw => ?_⟩, fun b => ?_⟩⟩
        · obtain ⟨c1, c2, c3, c4⟩ := hw
          have k1 := (c2 b1 rfl).2
          have k2 := (c3 b2 rfl).2
          have hb1 := (c2 b1 rfl).1
          have hb2 := (c3 b2 rfl).1
          have hne := c4 b1 b2 rfl rfl
          obtain ⟨hst, _⟩ := hq b1 b2 hb1 hb2 hne
          obtain ⟨r, hrun, hr⟩ := hst w c1 (by simpa using k1)
          refine ⟨0, _, r, hrun, ?_, ?_⟩
          · simp only [PM, if_neg (show ¬ (q + 2 = q ∨ q + 2 = q + 1) by omega)]
            rcases hr with rfl | rfl
            · exact .inl rfl
            · exact .inr ⟨rfl, trivial⟩
          · simp only [PM, if_neg (show ¬ q + 2 = q by omega), if_neg (show ¬ q + 2 = q + 1 by omega)]
            refine ⟨below_setRow c1 hb1 _ _, fun b e => ?_, fun b e => ?_, c4⟩
            · obtain rfl : b1 = b := by simpa using e
              exact ⟨hb1, by simpa using (show Blk w b1 z1 ty1 by simpa using k1).setRow z1' hz⟩
            · obtain rfl : b2 = b := by simpa using e
              exact ⟨hb2, k2.otherRow (Ne.symm hne) _ _⟩
        · simp only [PM, if_neg (show ¬ q + 2 = q by omega), if_neg (show ¬ q + 2 = q + 1 by omega), if_neg (show ¬ (q + 2 = q ∨ q + 2 = q + 1) by omega)]
          refine ⟨f5, fun w' hw' => ?_⟩
          obtain ⟨c1, c2, c3, c4⟩ := hw'
          exact (hq b1 b2 (c2 b1 rfl).1 (c3 b2 rfl).1 (c4 b1 b2 rfl rfl)).2 w' c1 (by simpa using (c2 b1 rfl).2) (c3 b2 rfl).2
      refine ⟨by rw [f1]; simp, fun i hi => ?_⟩
      rw [f1] at hi
      have hi' : i = q ∨ i = q + 1 := by simpa using hi
      rcases hi' with rfl | rfl
      · refine ⟨by omega, fun h => by omega, fun _ => ⟨mv1 _ _ rfl, fun b1 => ⟨by rw [f2]; simp, fun j hj => ?_⟩⟩⟩
        rw [f2] at hj
        obtain rfl : j = i + 1 := by simpa using hj
        refine ⟨by omega, fun h => by omega, fun _ => ⟨mv2 _ _, fun b2 => ?_⟩⟩
        have := rest b1 b2
        simpa [PM] using this
      · refine ⟨by omega, fun h => by omega, fun _ => ⟨mv2 _ _, fun b2 => ⟨by rw [f3]; simp, fun j hj => ?_⟩⟩⟩
        rw [f3] at hj
        obtain rfl : j = q := by simpa using hj
        refine ⟨by omega, fun h => by omega, fun _ => ⟨mv1 _ _ (by simp [PM]), fun b1 => ?_⟩⟩
        have := rest b1 b2
        rw [Array.setIfInBounds_comm _ _ (by omega), Act.put_comm _ _ _ (by intro d hd hd'; cases hd; cases hd'; exact ht rfl)] at this
        simpa [PM] using this)
    (l.take q) 0 _ a (fun j hj => by have hj' : j < q := by rw [htl] at hj; exact hj
                                     simp [hj']) (by simpa using htl) inv0 (by rw [htl]; exact hlex) (wpM_of_wpGrow _ _ _ h)
  refine wp_region_any hm ?_
  have := wpAny_of_headM (g := l.toArray.size - (q + 3)) (Q' := Q) hnew (fun listed s a' w' hw' hL => by
    have := wpAny_of_seq (md := .any) (Q' := Q) (l.drop (q + 3)) (q + 3) listed a' w' (fun j => by simp [List.getElem?_drop]) (by rw [hdl]; exact hL.1) (hL.2 w' hw')
    rwa [hdl] at this) _ _ _ _ _ hPC H
  rw [htl, show q + 3 + (l.toArray.size - (q + 3)) = l.toArray.size by omega] at this
  exact this


end Go.Proofs.Ytlbhnicengolfaa

/-! ## Pair4: The law of a drawn region 'p, q, e = f(..)' with the first two variables in memory: both stores before what follows. -/
namespace Go.Proofs.Ytlbhnicengolfaa
open Go.RowKit
set_option linter.unusedVariables false
set_option linter.unusedSimpArgs false

variable {P : Program} {ops : Array Oper}
abbrev St4 := Option Nat × Option Nat × Bool × Bool
def PC4 (W : World) (z1 z1' z2 z2' : Array Value) (y1 y2 : TypeId) (s : St4) (w : World) : Prop :=
  Below W.heap.size W w ∧ (∀ b, s.1 = some b → W.heap.size ≤ b ∧ Blk w b (if s.2.2.1 then z1' else z1) y1) ∧ (∀ b, s.2.1 = some b → W.heap.size ≤ b ∧ Blk w b (if s.2.2.2 then z2' else z2) y2) ∧ (∀ b c, s.1 = some b → s.2.1 = some c → b ≠ c)
def PM4 (q : Nat) (t1 t2 : Tmp) : Moves St4 where
  next i s b := if i = q then (some b, s.2.1, false, s.2.2.2) else if i = q + 1 then (s.1, some b, s.2.2.1, false) else if i = q + 2 then (s.1, s.2.1, true, s.2.2.2) else (s.1, s.2.1, s.2.2.1, true)
  val i b := if i = q ∨ i = q + 1 then .pointer (some ⟨b, 0, none⟩) else undef
  dst i := if i = q then some t1 else if i = q + 1 then some t2 else none
theorem PC4.kept {W w w' : World} {z1 z1' z2 z2' : Array Value} {y1 y2 : TypeId} {s : St4} (h : PC4 W z1 z1' z2 z2' y1 y2 s w) (hb : Below w.heap.size w w') : PC4 W z1 z1' z2 z2' y1 y2 s w' :=
  ⟨h.1.trans (hb.mono h.1.size), fun b e => ⟨(h.2.1 b e).1, (h.2.1 b e).2.kept hb⟩, fun b e => ⟨(h.2.2.1 b e).1, (h.2.2.1 b e).2.kept hb⟩, h.2.2.2⟩
def finFour (md : Region.Mode) (ops : Array Oper) (q g : Nat) (listed : Array Bool) : Bool :=
  decide (Region.ready md ops listed = [q, q + 1]) && decide (Region.ready md ops (listed.setIfInBounds q true) = [q + 1]) && decide (Region.ready md ops (listed.setIfInBounds (q + 1) true) = [q]) &&
  decide (Region.ready md ops ((listed.setIfInBounds q true).setIfInBounds (q + 1) true) = [q + 2]) && decide (Region.ready md ops (((listed.setIfInBounds q true).setIfInBounds (q + 1) true).setIfInBounds (q + 2) true) = [q + 3]) &&
  Region.seqB md ops g (q + 4) ((((listed.setIfInBounds q true).setIfInBounds (q + 1) true).setIfInBounds (q + 2) true).setIfInBounds (q + 3) true)
def fourB (ops : Array Oper) (q : Nat) : Bool :=
  Region.noSelect ops && decide (q + 4 < ops.size) && Region.sinkB .any ops (q + 4) && Region.chainB .any ops (q + 4) && lexQ .any ops (finFour .any ops q (ops.size - (q + 4))) q 0 (Array.replicate ops.size false)
theorem wpM_of_wpGrow4 {W : World} {z1 z1' z2 z2' : Array Value} {y1 y2 : TypeId} (k : List Oper) : ∀ (a : Act) (Q1 : Act → Prop), wpGrow P ops W Q1 k a → wpM P ops (PC4 W z1 z1' z2 z2' y1 y2) Q1 k a := by
  induction k with
  | nil => exact fun a Q1 h => h
  | cons o k ih =>
    intro a Q1 h
    unfold wpGrow at h
    unfold wpM
    split
    · rename_i hw
      rw [if_pos hw] at h
      obtain ⟨v, h1, h2⟩ := h
      refine ⟨v, fun s w hsw => ?_, ih _ _ h2⟩
      have h3 := h1 ⟨w, hsw.1⟩
      unfold growAt Ext.w at h3
      unfold Oper.quietAt
      dsimp only at h3
      generalize hrr : (execOp a.eval o).run P w = r at *
      cases r with
      | ok nx w' =>
        cases nx <;> simp only [Oper.quietUpon, growUpon] at h3 ⊢
        case value u => exact h3
        case skip => exact h3
        case enter f args => exact ⟨h3.1, h3.2.mono fun _ _ ⟨he, hb⟩ => ⟨he, hsw.kept hb⟩⟩
      | halt x w' => simp only [growUpon] at h3
    · rename_i hw
      rw [if_neg hw] at h
      exact ih _ _ h


theorem wp_region_pair4 {W : World} (z1 z1' z2 z2' : Array Value) (hz : z1.size = z1'.size) (hz2 : z2.size = z2'.size) (ty1 ty2 : TypeId) (t1 t2 : Tmp) {id : Nat} {Q : Exit → Act → World → Prop} {a : Act} {l : List Oper} (q : Nat) (o3 o4 : Oper) (hm : P.follows .mixedOrders = true) (hB : fourB l.toArray q = true) (ht : t1 ≠ t2)
    (h1 : LaysNew P l[q]? t1 z1 ty1) (h2 : LaysNew P l[q + 1]? t2 z2 ty2) (h3 : l[q + 2]? = some o3) (h3d : o3.dst = none) (h3g : o3.guard = none) (h4 : l[q + 3]? = some o4) (h4d : o4.dst = none) (h4g : o4.guard = none)
    (h : wpGrow P l.toArray W (fun a' => ∀ (b1 b2 : Nat), W.heap.size ≤ b1 → W.heap.size ≤ b2 → b1 ≠ b2 →
      (∀ w', Below W.heap.size W w' → Blk w' b1 z1 ty1 → StoresA P o3 ((a'.put (some t1) (.pointer (some ⟨b1, 0, none⟩))).put (some t2) (.pointer (some ⟨b2, 0, none⟩))) b1 z1'.toList w') ∧
      (∀ w', Below W.heap.size W w' → Blk w' b1 z1' ty1 → Blk w' b2 z2 ty2 → StoresA P o4 ((a'.put (some t1) (.pointer (some ⟨b1, 0, none⟩))).put (some t2) (.pointer (some ⟨b2, 0, none⟩))) b2 z2'.toList w') ∧
      (∀ w', Below W.heap.size W w' → Blk w' b1 z1' ty1 → Blk w' b2 z2' ty2 →
        wpList P l.toArray Q (l.drop (q + 4)) ((a'.put (some t1) (.pointer (some ⟨b1, 0, none⟩))).put (some t2) (.pointer (some ⟨b2, 0, none⟩))) w')) (l.take q) a) : (Code.region id l.toArray true).wp P Q a W := by
  simp only [fourB, Bool.and_eq_true, decide_eq_true_eq] at hB
  obtain ⟨⟨⟨⟨hsel, hn⟩, hs⟩, hc⟩, hlex⟩ := hB
  have hn' : q + 4 < l.length := by simpa using hn
  have htl : (l.take q).length = q := by simp; omega
  have hdl : (l.drop (q + 4)).length = l.toArray.size - (q + 4) := by simp
  obtain ⟨o1, ho1, hd1, hg1, hs1, hr1⟩ := h1
  obtain ⟨o2, ho2, hd2, hg2, hs2, hr2⟩ := h2
  have hnew : ∀ i, q ≤ i → i < q + 4 → ∃ o, l.toArray[i]? = some o ∧ o.dst = (PM4 q t1 t2).dst i ∧ o.guard = none := fun i hi hi2 => by
    have hi' : i = q ∨ i = q + 1 ∨ i = q + 2 ∨ i = q + 3 := by omega
    rcases hi' with rfl | rfl | rfl | rfl
    · exact ⟨o1, by simpa using ho1, by simp [PM4, hd1], hg1⟩
    · exact ⟨o2, by simpa using ho2, by simp [PM4, hd2], hg2⟩
    · exact ⟨o3, by simpa using h3, by simp [PM4, h3d], h3g⟩
    · exact ⟨o4, by simpa using h4, by simp [PM4, h4d], h4g⟩
  have inv0 : HeadInv .any l.toArray (q + 4) (Array.replicate l.toArray.size false) :=
    ⟨by simp, fun j oj _ hl => (by rw [getD_replicate_false] at hl; cases hl), fun t _ ht => getD_in (by simpa using ht) (getD_replicate_false _ _)⟩
  have hPC : PC4 W z1 z1' z2 z2' ty1 ty2 (none, none, false, false) W.drew := ⟨(Below.refl _ _).drew, fun b e => (by cases e), fun b e => (by cases e), fun b c e => (by cases e)⟩
  have mv1 : ∀ (s : St4) (a' : Act), s.1 = none → moveAt P l.toArray (PC4 W z1 z1' z2 z2' ty1 ty2) (PM4 q t1 t2) q s a' := fun s a' hs0 =>
    ⟨o1, by simpa using ho1, fun w hw => ⟨w.heap.size, _, _, hr1 _ w, .inl (by simp [PM4]), by
      obtain ⟨c1, c2, c3, c4⟩ := hw
      simp only [PM4, if_true]
      refine ⟨c1.alloc c1.size _, fun b e => ?_, fun b e => ⟨(c3 b e).1, (c3 b e).2.alloc _⟩, fun b c e e' => ?_⟩
      · obtain rfl : w.heap.size = b := by simpa using e
        exact ⟨c1.size, by simpa using Blk.new w _ _⟩
      · obtain rfl : w.heap.size = b := by simpa using e
        have := (c3 c e').2.lt
        omega⟩⟩
  have mv2 : ∀ (s : St4) (a' : Act), moveAt P l.toArray (PC4 W z1 z1' z2 z2' ty1 ty2) (PM4 q t1 t2) (q + 1) s a' := fun s a' =>
    ⟨o2, by simpa using ho2, fun w hw => ⟨w.heap.size, _, _, hr2 _ w, .inl (by simp [PM4]), by
      obtain ⟨c1, c2, c3, c4⟩ := hw
      simp only [PM4, if_true, if_neg (show ¬ q + 1 = q by omega)]
      refine ⟨c1.alloc c1.size _, fun b e => ⟨(c2 b e).1, (c2 b e).2.alloc _⟩, fun b e => ?_, fun b c e e' => ?_⟩
      · obtain rfl : w.heap.size = b := by simpa using e
        exact ⟨c1.size, Blk.new w _ _⟩
      · obtain rfl : w.heap.size = c := by simpa using e'
        have := (c2 b e).2.lt
        omega⟩⟩
  have H := headM_lex (fin := finFour .any l.toArray q (l.toArray.size - (q + 4))) (M := PM4 q t1 t2) (C := PC4 W z1 z1' z2 z2' ty1 ty2) (md := .any) (g := 4) (q := q) (n := q + 4) (s0 := (none, none, false, false))
    (L := fun listed s a' => Region.seqB .any l.toArray (l.toArray.size - (q + 4)) (q + 4) listed = true ∧ ∀ w', PC4 W z1 z1' z2 z2' ty1 ty2 s w' → wpList P l.toArray Q (l.drop (q + 4)) a' w')
    hsel hs hc hn (by omega) (fun i hi hi2 => by obtain ⟨o, ho, hd, _⟩ := hnew i hi hi2; exact ⟨o, ho, hd⟩) (fun listed s a' hL => seqB_ready hL.1)
    (fun listed a' inv hf hq => by
      simp only [finFour, Bool.and_eq_true, decide_eq_true_eq] at hf
      obtain ⟨⟨⟨⟨⟨f1, f2⟩, f3⟩, f4⟩, f4'⟩, f5⟩ := hf
      have rest : ∀ b1 b2, headM P .any l.toArray (PC4 W z1 z1' z2 z2' ty1 ty2) (PM4 q t1 t2) q (q + 4)
          (fun listed s a' => Region.seqB .any l.toArray (l.toArray.size - (q + 4)) (q + 4) listed = true ∧ ∀ w', PC4 W z1 z1' z2 z2' ty1 ty2 s w' → wpList P l.toArray Q (l.drop (q + 4)) a' w')
          2 ((listed.setIfInBounds q true).setIfInBounds (q + 1) true) (some b1, some b2, false, false) ((a'.put (some t1) (.pointer (some ⟨b1, 0, none⟩))).put (some t2) (.pointer (some ⟨b2, 0, none⟩))) := fun b1 b2 => by
        refine ⟨by rw [f4]; simp, fun i hi => ?_⟩
        rw [f4] at hi
        obtain rfl : i = q + 2 := by simpa using hi
        refine ⟨by omega, fun h => by omega, fun _ => ⟨⟨o3, by simpa using h3, fun w hw => ?_⟩, fun b => ?_⟩⟩
        · obtain ⟨c1, c2, c3, c4⟩ := hw
          have k1 := (c2 b1 rfl).2
          have k2 := (c3 b2 rfl).2
          have hb1 := (c2 b1 rfl).1
          have hb2 := (c3 b2 rfl).1
          have hne := c4 b1 b2 rfl rfl
          obtain ⟨hst, _⟩ := hq b1 b2 hb1 hb2 hne
          obtain ⟨r, hrun, hr⟩ := hst w c1 (by simpa using k1)
          refine ⟨0, _, r, hrun, ?_, ?_⟩
          · simp only [PM4, if_neg (show ¬ (q + 2 = q ∨ q + 2 = q + 1) by omega)]
            rcases hr with rfl | rfl
            · exact .inl rfl
            · exact .inr ⟨rfl, trivial⟩
          · simp only [PM4, if_neg (show ¬ q + 2 = q by omega), if_neg (show ¬ q + 2 = q + 1 by omega), if_true]
            refine ⟨below_setRow c1 hb1 _ _, fun b e => ?_, fun b e => ?_, c4⟩
            · obtain rfl : b1 = b := by simpa using e
              exact ⟨hb1, by simpa using (show Blk w b1 z1 ty1 by simpa using k1).setRow z1' hz⟩
            · obtain rfl : b2 = b := by simpa using e
              exact ⟨hb2, k2.otherRow (Ne.symm hne) _ _⟩
        · simp only [PM4, if_neg (show ¬ q + 2 = q by omega), if_neg (show ¬ q + 2 = q + 1 by omega), if_neg (show ¬ (q + 2 = q ∨ q + 2 = q + 1) by omega), if_true]
          refine ⟨by rw [f4']; simp, fun j hj => ?_⟩
          rw [f4'] at hj
          obtain rfl : j = q + 3 := by simpa using hj
          refine ⟨by omega, fun h => by omega, fun _ => ⟨⟨o4, by simpa using h4, fun w hw => ?_⟩, fun b => ?_⟩⟩
          · obtain ⟨c1, c2, c3, c4⟩ := hw
            have k1 := (c2 b1 rfl).2
            have k2 := (c3 b2 rfl).2
            have hb1 := (c2 b1 rfl).1
            have hb2 := (c3 b2 rfl).1
            have hne := c4 b1 b2 rfl rfl
            obtain ⟨_, hst, _⟩ := hq b1 b2 hb1 hb2 hne
            obtain ⟨r, hrun, hr⟩ := hst w c1 (by simpa using k1) (by simpa using k2)
            refine ⟨0, _, r, hrun, ?_, ?_⟩
            · simp only [PM4, if_neg (show ¬ (q + 3 = q ∨ q + 3 = q + 1) by omega)]
              rcases hr with rfl | rfl
              · exact .inl rfl
              · exact .inr ⟨rfl, trivial⟩
            · simp only [PM4, if_neg (show ¬ q + 3 = q by omega), if_neg (show ¬ q + 3 = q + 1 by omega), if_neg (show ¬ q + 3 = q + 2 by omega)]
              refine ⟨below_setRow c1 hb2 _ _, fun b e => ?_, fun b e => ?_, c4⟩
              · obtain rfl : b1 = b := by simpa using e
                exact ⟨hb1, k1.otherRow hne _ _⟩
              · obtain rfl : b2 = b := by simpa using e
                exact ⟨hb2, by simpa using (show Blk w b2 z2 ty2 by simpa using k2).setRow z2' hz2⟩
          · simp only [PM4, if_neg (show ¬ q + 3 = q by omega), if_neg (show ¬ q + 3 = q + 1 by omega), if_neg (show ¬ q + 3 = q + 2 by omega), if_neg (show ¬ (q + 3 = q ∨ q + 3 = q + 1) by omega)]
            refine ⟨f5, fun w' hw' => ?_⟩
            obtain ⟨c1, c2, c3, c4⟩ := hw'
            exact (hq b1 b2 (c2 b1 rfl).1 (c3 b2 rfl).1 (c4 b1 b2 rfl rfl)).2.2 w' c1 (by simpa using (c2 b1 rfl).2) (by simpa using (c3 b2 rfl).2)
      refine ⟨by rw [f1]; simp, fun i hi => ?_⟩
      rw [f1] at hi
      have hi' : i = q ∨ i = q + 1 := by simpa using hi
      rcases hi' with rfl | rfl
      · refine ⟨by omega, fun h => by omega, fun _ => ⟨mv1 _ _ rfl, fun b1 => ⟨by rw [f2]; simp, fun j hj => ?_⟩⟩⟩
        rw [f2] at hj
        obtain rfl : j = i + 1 := by simpa using hj
        refine ⟨by omega, fun h => by omega, fun _ => ⟨mv2 _ _, fun b2 => ?_⟩⟩
        have := rest b1 b2
        simpa [PM4] using this
      · refine ⟨by omega, fun h => by omega, fun _ => ⟨mv2 _ _, fun b2 => ⟨by rw [f3]; simp, fun j hj => ?_⟩⟩⟩
        rw [f3] at hj
        obtain rfl : j = q := by simpa using hj
        refine ⟨by omega, fun h => by omega, fun _ => ⟨mv1 _ _ (by simp [PM4]), fun b1 => ?_⟩⟩
        have := rest b1 b2
        rw [Array.setIfInBounds_comm _ _ (by omega), Act.put_comm _ _ _ (by intro d hd hd'; cases hd; cases hd'; exact ht rfl)] at this
        simpa [PM4] using this)
    (l.take q) 0 _ a (fun j hj => by have hj' : j < q := by rw [htl] at hj; exact hj
                                     simp [hj']) (by simpa using htl) inv0 (by rw [htl]; exact hlex) (wpM_of_wpGrow4 _ _ _ h)
  refine wp_region_any hm ?_
  have := wpAny_of_headM (g := l.toArray.size - (q + 4)) (Q' := Q) hnew (fun listed s a' w' hw' hL => by
    have := wpAny_of_seq (md := .any) (Q' := Q) (l.drop (q + 4)) (q + 4) listed a' w' (fun j => by simp [List.getElem?_drop]) (by rw [hdl]; exact hL.1) (hL.2 w' hw')
    rwa [hdl] at this) _ _ _ _ _ hPC H
  rw [htl, show q + 4 + (l.toArray.size - (q + 4)) = l.toArray.size by omega] at this
  exact this

end Go.Proofs.Ytlbhnicengolfaa

/-! ## MonoT: The law of Mono, with a tail in one forced order behind the operations that may come in any order. -/
namespace Go.Proofs.Ytlbhnicengolfaa
open Go.RowKit
set_option linter.unusedVariables false
set_option linter.unusedSimpArgs false

section
variable {P : Program} {W : World} {l : List Oper} {a0 : Act} {Good : Nat → World → Value → Prop} {Q : Exit → Act → World → Prop}

/-- What holds while operations of the head (the first q) are still to come. -/
structure TInv (W : World) (l : List Oper) (q : Nat) (a0 : Act) (Good : Nat → World → Value → Prop) (listed : Array Bool) (a : Act) (w : World) : Prop where
  be : Below W.heap.size W w
  defers : a.defers = a0.defers
  size : a.tmps.size = a0.tmps.size
  hd : HeadInv .any l.toArray q listed
  old : ∀ t, ((l.take q).all fun o => o.dst != some t) = true → a.tmps.getD t undef = a0.tmps.getD t undef
  val : ∀ j t, listed.getD j false = true → (l[j]?).bind (·.dst) = some t → Good j w (a.tmps.getD t undef)

/-- What the operation i meets. -/
structure MeetsT (W : World) (l : List Oper) (q : Nat) (a0 : Act) (Good : Nat → World → Value → Prop) (o : Oper) (a : Act) (w : World) : Prop where
  be : Below W.heap.size W w
  defers : a.defers = a0.defers
  old : ∀ t, ((l.take q).all fun o => o.dst != some t) = true → a.tmps.getD t undef = a0.tmps.getD t undef
  val : ∀ j t, (o.after.toList.any fun e => Region.binds .any e && e.on == j) = true → (l[j]?).bind (·.dst) = some t → Good j w (a.tmps.getD t undef)
def MStepT (P : Program) (W : World) (l : List Oper) (q : Nat) (a0 : Act) (Good : Nat → World → Value → Prop) (i : Nat) (o : Oper) : Prop :=
  ∀ a w, MeetsT W l q a0 Good o a w → Region.wanted o (yielded l.toArray a.tmps) = true ∧ stepUpon P w (Good i) ((execOp a.eval o).run P w)

def monoTB (l : List Oper) (n q : Nat) : Bool :=
  ((List.range q).all fun i => ((l[i]?).map fun o => (o.after.all fun e => !Region.binds .any e || decide (e.on < i)) && (o.dst.map fun t => decide (t < n)).getD false).getD false) &&
  decide (((l.take q).map (·.dst)).Nodup) && decide (q < l.length) && Region.sinkB .any l.toArray q && Region.chainB .any l.toArray q &&
  Region.seqB .any l.toArray (l.length - q) q ((List.replicate q true ++ List.replicate (l.length - q) false).toArray)

theorem TInv.put {q : Nat} (hnd : ((l.take q).map (·.dst)).Nodup) (hG : ∀ i w w' v, Good i w v → Below w.heap.size w w' → Good i w' v) {listed : Array Bool} {a : Act} {w w' : World} (h : TInv W l q a0 Good listed a w) {i : Nat} {o : Oper} {t : Tmp} {v : Value}
    (hi : l[i]? = some o) (hiq : i < q) (hr : i ∈ Region.ready .any l.toArray listed) (ht : o.dst = some t) (hn : t < a0.tmps.size) (hb : Below w.heap.size w w') (hv : Good i w' v) : TInv W l q a0 Good (listed.setIfInBounds i true) (a.put o.dst v) w' := by
  rw [ht]
  have hput : ∀ k, (a.put (some t) v).tmps.getD k undef = if k = t then v else a.tmps.getD k undef := fun k => by
    show (a.tmps.setIfInBounds t v).getD k undef = _
    have hts : t < a.tmps.size := by rw [h.size]; exact hn
    split
    · rename_i e
      subst e
      simp [hts]
    · rename_i e
      simp [Array.getElem?_setIfInBounds_ne (fun e' => e e'.symm)]
  have hnd' := hnd
  refine ⟨h.be.trans (hb.mono h.be.size), h.defers, by show (a.tmps.setIfInBounds t v).size = _; rw [Array.size_setIfInBounds]; exact h.size, h.hd.set hr hiq, ?_, ?_⟩
  · intro k hk
    rw [hput, if_neg, h.old k hk]
    rintro rfl
    have := List.all_eq_true.1 hk o (List.mem_of_getElem? (i := i) (by rw [List.getElem?_take]; simp [hiq, hi]))
    rw [ht] at this
    simp at this
  · intro j k hj hk
    obtain ⟨oj, hoj, hdj⟩ := bind_dst hk
    by_cases e : j = i
    · subst e
      rw [hoj] at hi
      cases hi
      rw [ht] at hdj
      cases hdj
      rw [hput, if_pos rfl]
      exact hv
    · rw [getD_set_ne false (Ne.symm e)] at hj
      have hjq : j < q := by
        by_cases hjq : j < q
        · exact hjq
        · have h1 := h.hd.tail j (by omega) (by simpa using (List.getElem?_eq_some_iff.1 hoj).1)
          rw [getD_both h1] at hj
          cases hj
      have hne : k ≠ t := fun e' => e (nodup_dst hnd (by rw [List.getElem?_take, if_pos hjq]; exact hoj) (by rw [List.getElem?_take, if_pos hiq]; exact hi) (by rw [hdj, ht, e']))
      rw [hput, if_neg hne]
      exact hG _ _ _ _ (h.val j k hj hk) hb

theorem head_full {q : Nat} {listed : Array Bool} (h : HeadInv .any l.toArray q listed) (hall : ∀ i, i < q → listed.getD i false = true) (hq : q < l.length) :
    listed = (List.replicate q true ++ List.replicate (l.length - q) false).toArray := by
  have hs : listed.size = l.length := by simpa using h.size
  apply Array.ext
  · rw [hs]
    simp
    omega
  · intro i h1 h2
    by_cases hi : i < q
    · have := hall i hi
      simp [h1] at this
      rw [this]
      simp [List.getElem_append, hi]
    · have := h.tail i (by omega) (by simpa using (show i < l.length by omega))
      simp [h1] at this
      rw [this]
      simp [List.getElem_append, hi]

theorem wpAny_monoT {n q : Nat} (hB : monoTB l n q = true) (hn : a0.tmps.size = n) (hG : ∀ i w w' v, Good i w v → Below w.heap.size w w' → Good i w' v) (hs : ∀ i o, i < q → l[i]? = some o → MStepT P W l q a0 Good i o)
    (hfin : ∀ a w, Below W.heap.size W w → a.defers = a0.defers → a.tmps.size = n → (∀ t, ((l.take q).all fun o => o.dst != some t) = true → a.tmps.getD t undef = a0.tmps.getD t undef) → (∀ j t, j < q → (l[j]?).bind (·.dst) = some t → Good j w (a.tmps.getD t undef)) →
      wpList P l.toArray Q (l.drop q) a w) :
    ∀ (f : Nat) (listed : Array Bool) (a : Act) (w : World), (listed.toList.take q).countP (fun b => !b) = f → TInv W l q a0 Good listed a w → wpAny P .any l.toArray Q (f + (l.length - q)) listed a w := by
  unfold monoTB at hB
  simp only [Bool.and_eq_true, decide_eq_true_eq] at hB
  obtain ⟨⟨⟨⟨⟨hB, hnd⟩, hql⟩, hsink⟩, hchain⟩, hseq⟩ := hB
  have hat : ∀ (i : Nat) (o : Oper), i < q → l[i]? = some o → (∀ e ∈ o.after, Region.binds .any e = true → e.on < i) ∧ ∃ t, o.dst = some t ∧ t < n := fun i o hiq hi => by
    have h1 := List.all_eq_true.1 hB i (List.mem_range.2 hiq)
    rw [hi] at h1
    simp only [Option.map_some, Option.getD_some, Bool.and_eq_true] at h1
    refine ⟨fun e he hb => ?_, ?_⟩
    · have := (Array.all_eq_true_iff_forall_mem.1 h1.1) e he
      simpa [hb] using this
    · cases hd : o.dst with
      | none => rw [hd] at h1; simp at h1
      | some t => rw [hd] at h1; exact ⟨t, rfl, by simpa using h1.2⟩
  have hex : ∀ listed : Array Bool, HeadInv .any l.toArray q listed → (∃ i, i < q ∧ listed.getD i false = false) → ∃ i, i < q ∧ i ∈ Region.ready .any l.toArray listed := fun listed inv ⟨i, hi, hf⟩ => by
    have hsz : listed.size = l.length := by simpa using inv.size
    induction i using Nat.strongRecOn with
    | ind i ih =>
      by_cases h : ∀ e ∈ (l[i]'(by omega)).after, Region.binds .any e = true → listed.getD e.on false = true
      · exact ⟨i, hi, mem_ready.2 ⟨getD_in (by rw [hsz]; omega) hf, l[i]'(by omega), by simp, h⟩⟩
      · simp only [Classical.not_forall] at h
        obtain ⟨e, he, hb, hne⟩ := h
        have hlt := (hat i _ hi (List.getElem?_eq_getElem (by omega))).1 e he hb
        exact ih e.on hlt (by omega) (by simpa using hne)
  intro f
  induction f with
  | zero =>
    intro listed a w hc inv
    have hall : ∀ i, i < q → listed.getD i false = true := fun i hi => by
      have hsz : listed.size = l.length := by simpa using inv.hd.size
      have h0 := List.countP_eq_zero.1 hc listed[i] (by
        rw [List.mem_take_iff_getElem]
        exact ⟨i, by simp; omega, by simp⟩)
      simp [show i < listed.size by omega]
      simpa using h0
    have hl := head_full inv.hd hall hql
    rw [Nat.zero_add]
    have hdl : (l.drop q).length = l.length - q := by simp
    have := wpAny_of_seq (md := .any) (P := P) (ops := l.toArray) (Q' := Q) (l.drop q) q listed a w (fun j => by simp [List.getElem?_drop]) (by rw [hdl, hl]; exact hseq)
      (hfin a w inv.be inv.defers (by rw [inv.size]; exact hn) inv.old (fun j t hj hk => inv.val j t (hall j hj) hk))
    rwa [hdl] at this
  | succ f ih =>
    intro listed a w hc inv
    have hsz : listed.size = l.length := by simpa using inv.hd.size
    have hun : ∃ i, i < q ∧ listed.getD i false = false := by
      have hpos : 0 < (listed.toList.take q).countP (fun b => !b) := by omega
      obtain ⟨b, hb, hbf⟩ := List.countP_pos_iff.1 hpos
      obtain ⟨i, hi, rfl⟩ := List.mem_take_iff_getElem.1 hb
      simp only [Nat.lt_min] at hi
      refine ⟨i, hi.1, ?_⟩
      have : i < listed.size := by simpa using hi.2
      simp [this]
      simpa using hbf
    obtain ⟨i0, hi0, hr0⟩ := hex listed inv.hd hun
    rw [show f + 1 + (l.length - q) = (f + (l.length - q)) + 1 by omega]
    refine ⟨fun h => (by rw [h] at hr0; cases hr0), fun i hi => ?_⟩
    have hiq : i < q := by
      rcases Nat.lt_or_ge i q with h | h
      · exact h
      · obtain ⟨i1, hi1, hf1⟩ := hun
        exact absurd hi (tail_waits hsink hchain (by simpa using hql) inv.hd _ i1 rfl hi1 (getD_in (by rw [hsz]; omega) hf1) i h)
    obtain ⟨hunl, o, ho, hall⟩ := mem_ready.1 hi
    have ho' : l[i]? = some o := by simpa using ho
    obtain ⟨_, t, ht, htn⟩ := hat i o hiq ho'
    have hmt : MeetsT W l q a0 Good o a w := ⟨inv.be, inv.defers, inv.old, fun j k hj hk => by
      obtain ⟨e, he, h2⟩ := List.any_eq_true.1 hj
      rw [Bool.and_eq_true, beq_iff_eq] at h2
      exact inv.val j k (h2.2 ▸ hall e (Array.mem_toList_iff.1 he) h2.1) hk⟩
    obtain ⟨hw, hst⟩ := hs i o hiq ho' a w hmt
    unfold wpOp
    simp only [ho]
    rw [if_pos hw]
    refine .inl ?_
    have hcnt : ((listed.setIfInBounds i true).toList.take q).countP (fun b => !b) = f := by
      have hil : i < (listed.toList.take q).length := by simp; omega
      have hv : (listed.toList.take q)[i] = false := by
        have : i < listed.size := by omega
        simp [this] at hunl
        simpa using hunl
      rw [Array.toList_setIfInBounds, List.take_set, List.countP_set hil, hv]
      simp
      have : 0 < (listed.toList.take q).countP (fun b => !b) := by omega
      omega
    have hnx : ∀ v w', Below w.heap.size w w' → Good i w' v → wpAny P .any l.toArray Q (f + (l.length - q)) (listed.setIfInBounds i true) (a.put o.dst v) w' := fun v w' hb hv =>
      ih _ _ _ hcnt (inv.put hnd hG ho' hiq hi ht (by rw [hn]; exact htn) hb hv)
    unfold Oper.wp
    generalize (execOp a.eval o).run P w = r at *
    cases r with
    | halt x w' => exact hst.elim
    | ok nx w' =>
      cases nx with
      | value v => exact hnx v w' hst.1 hst.2
      | enter fn args => exact Calls.mono hst fun e w'' ⟨v, he, hb, hv⟩ => by subst he; exact hnx v w'' hb hv
      | _ => exact hst.elim

def AllT (P : Program) (W : World) (l : List Oper) (q : Nat) (a0 : Act) (Good : Nat → World → Value → Prop) : Nat → List Oper → Prop
  | _, [] => True
  | i, o :: r => MStepT P W l q a0 Good i o ∧ AllT P W l q a0 Good (i + 1) r
theorem allT_at {l : List Oper} {q : Nat} : ∀ (r : List Oper) (k : Nat), AllT P W l q a0 Good k r → ∀ i o, r[i]? = some o → MStepT P W l q a0 Good (k + i) o
  | [], _, _, i, o, h => by simp at h
  | o' :: r, k, hA, 0, o, h => by
    simp only [List.getElem?_cons_zero, Option.some.injEq] at h
    subst h
    exact hA.1
  | o' :: r, k, hA, i + 1, o, h => by
    have := allT_at r (k + 1) hA.2 i o (by simpa using h)
    rwa [show k + (i + 1) = k + 1 + i by omega]

/-- THE LAW WITH A TAIL. -/
theorem wp_region_monoT {id : Nat} {n : Nat} (W : World) (l : List Oper) (q : Nat) (Good : Nat → World → Value → Prop) (hm : P.follows .mixedOrders = true) (hB : monoTB l n q = true) (hn : a0.tmps.size = n)
    (hG : ∀ i w w' v, Good i w v → Below w.heap.size w w' → Good i w' v) (hs : AllT P W l q a0 Good 0 (l.take q))
    (hfin : ∀ a w, Below W.heap.size W w → a.defers = a0.defers → a.tmps.size = n → (∀ t, ((l.take q).all fun o => o.dst != some t) = true → a.tmps.getD t undef = a0.tmps.getD t undef) → (∀ j t, j < q → (l[j]?).bind (·.dst) = some t → Good j w (a.tmps.getD t undef)) →
      wpList P l.toArray Q (l.drop q) a w) : (Code.region id l.toArray true).wp P Q a0 W := by
  refine wp_region_any hm ?_
  have hql : q < l.length := by
    unfold monoTB at hB
    simp only [Bool.and_eq_true, decide_eq_true_eq] at hB
    exact hB.1.1.1.2
  have h0 : ((Array.replicate l.length false).toList.take q).countP (fun b => !b) = q := by
    rw [Array.toList_replicate, List.take_replicate, List.countP_replicate]
    simp
    omega
  have := wpAny_monoT (P := P) (W := W) (a0 := a0) (Good := Good) (Q := Q) hB hn hG (fun i o hi h => by have := allT_at _ 0 hs i o (by rw [List.getElem?_take, if_pos hi]; exact h); rwa [Nat.zero_add] at this) hfin q (Array.replicate l.length false) a0 W.drew h0
    ⟨(Below.refl _ _).drew, rfl, rfl, ⟨by simp, fun j oj _ hl => (by rw [getD_replicate_false] at hl; cases hl), fun t _ ht => getD_in (by simpa using ht) (getD_replicate_false _ _)⟩, fun t _ => rfl, fun j t hj => by rw [getD_replicate_false] at hj; cases hj⟩
  rw [show q + (l.length - q) = l.toArray.size by simp; omega] at this
  simpa using this
/-! ### the frame behind the head -/
def putSeq (vs : Nat → Value) : Act → List Oper → Nat → Act
  | b, [], _ => b
  | b, o :: r, i => putSeq vs (b.put o.dst (vs i)) r (i + 1)
theorem putSeq_defers (vs : Nat → Value) : ∀ (r : List Oper) (b : Act) (i : Nat), (putSeq vs b r i).defers = b.defers
  | [], b, i => rfl
  | o :: r, b, i => by
    have := putSeq_defers vs r (b.put o.dst (vs i)) (i + 1)
    unfold putSeq
    rw [this]
    unfold Act.put
    split <;> rfl
theorem put_size (b : Act) (d : Option Tmp) (v : Value) : (b.put d v).tmps.size = b.tmps.size := by
  unfold Act.put
  split
  · exact Array.size_setIfInBounds
  · rfl
theorem putSeq_size (vs : Nat → Value) : ∀ (r : List Oper) (b : Act) (i : Nat), (putSeq vs b r i).tmps.size = b.tmps.size
  | [], b, i => rfl
  | o :: r, b, i => by
    unfold putSeq
    rw [putSeq_size vs r, put_size]
theorem put_getD (b : Act) (t k : Tmp) (v : Value) (ht : t < b.tmps.size) : (b.put (some t) v).tmps.getD k undef = if k = t then v else b.tmps.getD k undef := by
  show (b.tmps.setIfInBounds t v).getD k undef = _
  split
  · rename_i e
    subst e
    simp [ht]
  · rename_i e
    simp [Array.getElem?_setIfInBounds_ne (fun e' => e e'.symm)]
theorem putSeq_other (vs : Nat → Value) : ∀ (r : List Oper) (b : Act) (i : Nat) (k : Tmp), (∀ o ∈ r, ∃ t, o.dst = some t ∧ t < b.tmps.size) → (∀ o ∈ r, o.dst ≠ some k) → (putSeq vs b r i).tmps.getD k undef = b.tmps.getD k undef
  | [], b, i, k, _, _ => rfl
  | o :: r, b, i, k, hd, h => by
    obtain ⟨t, ht, hts⟩ := hd o List.mem_cons_self
    have hk := h o List.mem_cons_self
    rw [ht] at hk
    unfold putSeq
    rw [ht, putSeq_other vs r _ (i + 1) k (fun o' ho' => by obtain ⟨t', h1, h2⟩ := hd o' (List.mem_cons_of_mem _ ho'); exact ⟨t', h1, by rw [put_size]; exact h2⟩) (fun o' ho' => h o' (List.mem_cons_of_mem _ ho')), put_getD b t k _ hts, if_neg (fun e => hk (by rw [e]))]
theorem putSeq_at (vs : Nat → Value) : ∀ (r : List Oper) (b : Act) (i j : Nat) (o : Oper) (t : Tmp), (∀ o ∈ r, ∃ t, o.dst = some t ∧ t < b.tmps.size) → (r.map (·.dst)).Nodup → r[j]? = some o → o.dst = some t → (putSeq vs b r i).tmps.getD t undef = vs (i + j)
  | [], b, i, j, o, t, _, _, hj, _ => by simp at hj
  | o' :: r, b, i, j, o, t, hd, hnd, hj, ht => by
    obtain ⟨t', ht', hts⟩ := hd o' List.mem_cons_self
    rw [List.map_cons, List.nodup_cons] at hnd
    have hd' : ∀ o ∈ r, ∃ t, o.dst = some t ∧ t < (b.put o'.dst (vs i)).tmps.size := fun o'' ho' => by obtain ⟨t', h1, h2⟩ := hd o'' (List.mem_cons_of_mem _ ho'); exact ⟨t', h1, by rw [put_size]; exact h2⟩
    unfold putSeq
    cases j with
    | zero =>
      simp only [List.getElem?_cons_zero, Option.some.injEq] at hj
      subst hj
      rw [putSeq_other vs r _ (i + 1) t hd' (fun o'' ho' e => hnd.1 (by rw [ht, ← e]; exact List.mem_map_of_mem ho')), ht, put_getD b t t _ (by rw [ht] at ht'; cases ht'; exact hts), if_pos rfl]
      rfl
    | succ j =>
      rw [putSeq_at vs r _ (i + 1) j o t hd' hnd.2 (by simpa using hj) ht, show i + 1 + j = i + (j + 1) by omega]

/-- THE LAW WITH A TAIL, the frame written out. -/
theorem wp_region_monoF {id : Nat} {n : Nat} (W : World) (l : List Oper) (q : Nat) (Good : Nat → World → Value → Prop) (hm : P.follows .mixedOrders = true) (hB : monoTB l n q = true) (hn : a0.tmps.size = n)
    (hG : ∀ i w w' v, Good i w v → Below w.heap.size w w' → Good i w' v) (hs : AllT P W l q a0 Good 0 (l.take q))
    (hfin : ∀ (vs : Nat → Value) w, Below W.heap.size W w → (∀ j, j < q → Good j w (vs j)) → wpList P l.toArray Q (l.drop q) (putSeq vs a0 (l.take q) 0) w) : (Code.region id l.toArray true).wp P Q a0 W := by
  refine wp_region_monoT W l q Good hm hB hn hG hs fun a w hbe hdef hsz hold hval => ?_
  have hB' := hB
  unfold monoTB at hB
  simp only [Bool.and_eq_true, decide_eq_true_eq] at hB
  obtain ⟨⟨⟨⟨⟨hB, hnd⟩, hql⟩, _⟩, _⟩, _⟩ := hB
  have hat : ∀ (i : Nat) (o : Oper), i < q → l[i]? = some o → ∃ t, o.dst = some t ∧ t < n := fun i o hiq hi => by
    have h1 := List.all_eq_true.1 hB i (List.mem_range.2 hiq)
    rw [hi] at h1
    simp only [Option.map_some, Option.getD_some, Bool.and_eq_true] at h1
    cases hd : o.dst with
    | none => rw [hd] at h1; simp at h1
    | some t => rw [hd] at h1; exact ⟨t, rfl, by simpa using h1.2⟩
  have hd : ∀ o ∈ l.take q, ∃ t, o.dst = some t ∧ t < a0.tmps.size := fun o ho => by
    obtain ⟨i, hi, rfl⟩ := List.mem_take_iff_getElem.1 ho
    simp only [Nat.lt_min] at hi
    rw [hn]
    exact hat i _ hi.1 (List.getElem?_eq_getElem hi.2)
  obtain ⟨vs, hvs⟩ : ∃ vs : Nat → Value, vs = fun i => a.tmps.getD (((l[i]?).bind (·.dst)).getD 0) undef := ⟨_, rfl⟩
  have hvs' : ∀ i o t, l[i]? = some o → o.dst = some t → vs i = a.tmps.getD t undef := fun i o t hi ht => by rw [hvs]; simp [hi, ht]
  have ea : a = putSeq vs a0 (l.take q) 0 := by
    have hgd : ∀ k, a.tmps.getD k undef = (putSeq vs a0 (l.take q) 0).tmps.getD k undef := fun k => by
      by_cases hk : ∃ o ∈ l.take q, o.dst = some k
      · obtain ⟨o, ho, hok⟩ := hk
        obtain ⟨j, hj⟩ := List.mem_iff_getElem?.1 ho
        have hjq : j < q := by
          have := (List.getElem?_eq_some_iff.1 hj).1
          simp at this
          omega
        have hj' : l[j]? = some o := by rw [List.getElem?_take, if_pos hjq] at hj; exact hj
        rw [putSeq_at vs _ a0 0 j o k hd hnd hj hok, Nat.zero_add, hvs' j o k hj' hok]
      · rw [putSeq_other vs _ a0 0 k hd (fun o ho e => hk ⟨o, ho, e⟩), hold k]
        rw [List.all_eq_true]
        intro o ho
        simp only [bne_iff_ne, ne_eq]
        exact fun e => hk ⟨o, ho, e⟩
    have htm : a.tmps = (putSeq vs a0 (l.take q) 0).tmps := by
      apply Array.ext
      · rw [putSeq_size, hsz, hn]
      · intro k h1 h2
        have := hgd k
        simp [h1, h2] at this
        exact this
    cases a
    dsimp only at htm hdef
    rw [htm, hdef, ← putSeq_defers vs (l.take q) a0 0]
  rw [ea]
  refine hfin vs w hbe fun j hj => ?_
  have hjl : j < l.length := by omega
  obtain ⟨t, ht, _⟩ := hat j _ hj (List.getElem?_eq_getElem hjl)
  rw [hvs' j _ t (List.getElem?_eq_getElem hjl) ht]
  exact hval j t hj (by simp [hjl, ht])
end

end Go.Proofs.Ytlbhnicengolfaa
