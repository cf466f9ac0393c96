/-
  'p, q := xs[i], xs[k]' where p and q lie in memory: a region that draws its order: q operations that only read; two new blocks, at any time; the first store, which may come before some of the reads; the second store at the end. One walk serves every order.
-/
import Derived.Test.YtlbhnicengolfaaTwoNew
namespace Go.Proofs.Ytlbhnicengolfaa
open Go.RowKit
set_option linter.unusedVariables false

section
variable {P : Program} {ops : Array Oper} {md : Region.Mode} {σ : Type} {C : σ → World → Prop}

def mQuiet (P : Program) (o : Oper) (a : Act) (C : σ → World → Prop) (v : Value) : Prop := ∀ s w, C s w → o.quietAt P a (C s) w v
def mOp (P : Program) (ops : Array Oper) (C : σ → World → Prop) (i : Nat) (K : Act → Prop) (a : Act) : Prop :=
  match ops[i]? with
  | none => K a
  | some o => if Region.wanted o (yielded ops a.tmps) then ∃ v, mQuiet P o a C v ∧ K (a.put o.dst v) else K (a.put o.dst undef)
theorem mOp_mono {i : Nat} {a : Act} {K K' : Act → Prop} (h : ∀ a, K a → K' a) (hh : mOp P ops C i K a) : mOp P ops C i K' a := by
  unfold mOp at *
  split
  · exact h _ (by simpa [*] using hh)
  · rename_i o ho
    simp only [ho] at hh
    split
    · rename_i hw
      simp only [hw, if_true] at hh
      obtain ⟨v, h1, h2⟩ := hh
      exact ⟨v, h1, h _ h2⟩
    · rename_i hw; simp only [hw] at hh; exact h _ hh

/-- Operation i as a move: the state it leaves, the value it gives. -/
structure Moves (σ : Type) where
  next : Nat → σ → Nat → σ
  val : Nat → Nat → Value
  dst : Nat → Option Tmp

def moveAt (P : Program) (ops : Array Oper) (C : σ → World → Prop) (M : Moves σ) (i : Nat) (s : σ) (a : Act) : Prop :=
  ∃ o, ops[i]? = some o ∧ ∀ w, C s w → ∃ b w' r, (execOp a.eval o).run P w = .ok r w' ∧ (r = .value (M.val i b) ∨ (r = .skip ∧ M.val i b = undef)) ∧ C (M.next i s b) w'

def headM (P : Program) (md : Region.Mode) (ops : Array Oper) (C : σ → World → Prop) (M : Moves σ) (q n : Nat) (L : Array Bool → σ → Act → Prop) : Nat → Array Bool → σ → Act → Prop
  | 0, listed, s, a => L listed s a
  | f + 1, listed, s, a =>
    Region.ready md ops listed ≠ [] ∧ ∀ i ∈ Region.ready md ops listed, i < n ∧
      (i < q → mOp P ops C i (headM P md ops C M q n L f (listed.setIfInBounds i true) s) a) ∧
      (q ≤ i → moveAt P ops C M i s a ∧ ∀ b, headM P md ops C M q n L f (listed.setIfInBounds i true) (M.next i s b) (a.put (M.dst i) (M.val i b)))

variable {M : Moves σ}

theorem wpAny_of_headM {q n g : Nat} {L : Array Bool → σ → Act → Prop} {Q' : Exit → Act → World → Prop}
    (hnew : ∀ i, q ≤ i → i < n → ∃ o, ops[i]? = some o ∧ o.dst = M.dst i ∧ o.guard = none)
    (hL : ∀ listed s a w, C s w → L listed s a → wpAny P md ops Q' g listed a w) :
    ∀ (f : Nat) (listed : Array Bool) (s : σ) (a : Act) (w : World), C s w → headM P md ops C M q n L f listed s a → wpAny P md ops Q' (f + g) listed a w
  | 0, listed, s, a, w, hw, h => by rw [Nat.zero_add]; exact hL _ _ _ _ hw h
  | f + 1, listed, s, a, w, hw, h => by
    rw [show f + 1 + g = (f + g) + 1 by omega]
    refine ⟨fun h0 => absurd h0 h.1, fun i hi => ?_⟩
    obtain ⟨hin, hq, hn⟩ := h.2 i hi
    rcases Nat.lt_or_ge i q with hiq | hiq
    · have h1 := hq hiq
      unfold mOp at h1
      unfold wpOp
      split
      · rename_i ho; simp only [ho] at h1; exact wpAny_of_headM hnew hL f _ _ _ _ hw h1
      · rename_i o ho
        simp only [ho] at h1
        split
        · rename_i hwt
          simp only [hwt, if_true] at h1
          obtain ⟨v, hv, hK⟩ := h1
          exact .inl (wp_of_nQuiet (hv s w hw) hw fun w' hw' => wpAny_of_headM hnew hL f _ _ _ _ hw' hK)
        · rename_i hwt; simp only [hwt] at h1; exact wpAny_of_headM hnew hL f _ _ _ _ hw h1
    · obtain ⟨o, ho, hd, hg⟩ := hnew i hiq hin
      obtain ⟨⟨o', ho', hmv⟩, hK⟩ := hn hiq
      obtain rfl : o' = o := Option.some.inj (ho'.symm.trans ho)
      obtain ⟨b, w', r, hrun, hr, hC'⟩ := hmv w hw
      unfold wpOp
      simp only [ho]
      rw [if_pos (by simp [Region.wanted, hg])]
      refine .inl ?_
      have hK' := wpAny_of_headM (g := g) hnew hL f _ _ _ _ hC' (hK b)
      unfold Oper.wp
      rw [hrun]
      rw [← hd] at hK'
      rcases hr with rfl | ⟨rfl, hu⟩
      · exact hK'
      · rw [hu] at hK'; exact hK'

def YieldsM (P : Program) (ops : Array Oper) (C : σ → World → Prop) (o : Oper) (v : Value) (a : Act) : Prop :=
  (Region.wanted o (yielded ops a.tmps) = true ∧ mQuiet P o a C v) ∨ (Region.wanted o (yielded ops a.tmps) = false ∧ v = undef)
theorem YieldsM.mOp {i : Nat} {o : Oper} {v : Value} {a : Act} (hi : ops[i]? = some o) (hy : YieldsM P ops C o v a) {K : Act → Prop} (h : K (a.put o.dst v)) : mOp P ops C i K a := by
  unfold Proofs.Ytlbhnicengolfaa.mOp
  simp only [hi]
  rcases hy with ⟨hw, hv⟩ | ⟨hw, rfl⟩
  · simp only [hw, if_true]; exact ⟨v, hv, h⟩
  · simp only [hw, Bool.false_eq_true, if_false]; exact h
theorem YieldsM.of_same {o : Oper} {v : Value} {a a' : Act} (hy : YieldsM P ops C o v a) (he : execOp a'.eval o = execOp a.eval o)
    (hw : Region.wanted o (yielded ops a'.tmps) = Region.wanted o (yielded ops a.tmps)) : YieldsM P ops C o v a' := by
  unfold YieldsM mQuiet Oper.quietAt at *
  rw [he, hw]
  exact hy
theorem yieldsM_of_mOp {i : Nat} {o : Oper} {a : Act} {K : Act → Prop} (hi : ops[i]? = some o) (h : mOp P ops C i K a) : ∃ v, YieldsM P ops C o v a ∧ K (a.put o.dst v) := by
  unfold mOp at h
  simp only [hi] at h
  by_cases hw : Region.wanted o (yielded ops a.tmps) = true
  · simp only [hw, if_true] at h
    obtain ⟨v, h1, h2⟩ := h
    exact ⟨v, .inl ⟨hw, h1⟩, h2⟩
  · simp only [hw] at h
    exact ⟨undef, .inr ⟨by simpa using hw, rfl⟩, h⟩
theorem mOp_put {j : Nat} {oi oj : Oper} {v : Value} (hj : ops[j]? = some oj) (hap : oi.apart ops oj = true)
    (hsi : ∀ cs b, oi.op ≠ .select cs b) (hsj : ∀ cs b, oj.op ≠ .select cs b) {K : Act → Prop} {a : Act}
    (hy : YieldsM P ops C oi v a) (h : mOp P ops C j K (a.put oi.dst v)) :
    mOp P ops C j (fun a' => YieldsM P ops C oi v a' ∧ K (a'.put oi.dst v)) a := by
  obtain ⟨h1, h2, h3⟩ := Oper.apart_spec hap
  have keep : ∀ (a : Act), YieldsM P ops C oi v a → ∀ u, YieldsM P ops C oi v (a.put oj.dst u) := fun a hy u =>
    hy.of_same (execOp_put oi hsi a oj.dst u h3) (wanted_put oi a oj.dst u h3)
  unfold mOp at *
  simp only [hj] at *
  rw [wanted_put oj a oi.dst v h1] at h
  split
  · rename_i hw
    simp only [hw, if_true] at h
    obtain ⟨u, hu, hn⟩ := h
    refine ⟨u, fun s w hw' => ?_, keep a hy u, by rw [← Act.put_comm a v u h2]; exact hn⟩
    have := hu s w hw'
    unfold Oper.quietAt at *
    rwa [execOp_put oj hsj a oi.dst v h1] at this
  · rename_i hw
    simp only [hw] at h
    exact ⟨keep a hy _, by rw [← Act.put_comm a v undef h2]; exact h⟩

theorem headM_first {q n i : Nat} {oi : Oper} {v : Value} {L : Array Bool → σ → Act → Prop} (hi : ops[i]? = some oi) (hsel : ∀ (j : Nat) (o : Oper) cs b, ops[j]? = some o → o.op ≠ .select cs b)
    (hnew : ∀ i, q ≤ i → i < n → ∃ o, ops[i]? = some o ∧ o.dst = M.dst i)
    (hs : Region.sinkB md ops n = true) (hc : Region.chainB md ops n = true) (hn : n < ops.size) (hiq : i < q) (hqn : q ≤ n)
    (hdone : ∀ listed s a, L listed s a → ∀ j ∈ Region.ready md ops listed, n ≤ j) :
    ∀ (f : Nat) (listed : Array Bool) (s : σ) (a : Act), HeadInv md ops n listed →
      (∀ j oj, ops[j]? = some oj → j ≠ i → listed.getD j true = false → (∀ e ∈ oj.after, Region.binds md e = true → e.on ≠ i) → oi.apart ops oj = true) →
      i ∈ Region.ready md ops listed → YieldsM P ops C oi v a →
      headM P md ops C M q n L f (listed.setIfInBounds i true) s (a.put oi.dst v) → headM P md ops C M q n L (f + 1) listed s a := by
  have below : ∀ (listed : Array Bool), HeadInv md ops n listed → i ∈ Region.ready md ops listed → ∀ j ∈ Region.ready md ops listed, j < n := fun listed inv hr j hj => by
    rcases Nat.lt_or_ge j n with h | h
    · exact h
    · exact absurd hj (tail_waits hs hc hn inv _ i rfl (by omega) (mem_ready.1 hr).1 j h)
  intro f
  induction f with
  | zero =>
    intro listed s a inv _ hr hy H
    refine ⟨fun h => (by rw [h] at hr; cases hr), fun j hj => ?_⟩
    have hjn := below listed inv hr j hj
    by_cases hji : j = i
    · subst hji; exact ⟨hjn, fun _ => hy.mOp hi H, fun h => by omega⟩
    · have := hdone _ _ _ H j (ready_mono hj hji)
      omega
  | succ f ih =>
    intro listed s a inv hfree hr hy H
    refine ⟨fun h => (by rw [h] at hr; cases hr), fun j hj => ?_⟩
    have hjn := below listed inv hr j hj
    by_cases hji : j = i
    · subst hji; exact ⟨hjn, fun _ => hy.mOp hi H, fun h => by omega⟩
    · obtain ⟨_, h1, h1'⟩ := H.2 j (ready_mono hj hji)
      obtain ⟨hjun, oj, hoj, hall⟩ := mem_ready.1 hj
      have hnot : ∀ e ∈ oj.after, Region.binds md e = true → e.on ≠ i := fun e he hb heq => by
        have h1 := hall e he hb
        rw [heq, getD_both (mem_ready.1 hr).1] at h1
        cases h1
      have hap := hfree j oj hoj hji hjun hnot
      have hfree' : ∀ k ok, ops[k]? = some ok → k ≠ i → (listed.setIfInBounds j true).getD k true = false →
          (∀ e ∈ ok.after, Region.binds md e = true → e.on ≠ i) → oi.apart ops ok = true := fun k ok hk hki hun hno => by
        refine hfree k ok hk hki ?_ hno
        by_cases hjk : j = k
        · subst hjk; exact hjun
        · rw [getD_set_ne true hjk] at hun; exact hun
      refine ⟨hjn, fun hjq => ?_, fun hjq => ?_⟩
      · have h2 := mOp_put hoj hap (fun cs b => hsel i oi cs b hi) (fun cs b => hsel j oj cs b hoj) hy (h1 hjq)
        refine mOp_mono (fun a' h3 => ih (listed.setIfInBounds j true) s a' (inv.set hj hjn) hfree' (ready_mono hr (Ne.symm hji)) h3.1 ?_) h2
        rw [Array.setIfInBounds_comm _ _ hji]
        exact h3.2
      · obtain ⟨o', ho', hd'⟩ := hnew j hjq hjn
        have : o' = oj := Option.some.inj (ho'.symm.trans hoj)
        subst this
        obtain ⟨e1, e2, e3⟩ := Oper.apart_spec hap
        obtain ⟨hmv, hrest⟩ := h1' hjq
        refine ⟨?_, fun b => ?_⟩
        · obtain ⟨o2, ho2, hm2⟩ := hmv
          obtain rfl : o2 = o' := Option.some.inj (ho2.symm.trans hoj)
          refine ⟨o2, ho2, fun w hw => ?_⟩
          have := hm2 w hw
          rwa [execOp_put o2 (fun cs b => hsel j o2 cs b hoj) a oi.dst v e1] at this
        · rw [hd'] at e2 e3
          refine ih (listed.setIfInBounds j true) _ _ (inv.set hj hjn) hfree' (ready_mono hr (Ne.symm hji))
            (hy.of_same (execOp_put oi (fun cs b => hsel i oi cs b hi) a _ _ e3) (wanted_put oi a _ _ e3)) ?_
          rw [Array.setIfInBounds_comm _ _ hji]
          have := hrest b
          rwa [Act.put_comm a _ _ e2] at this

def wpM (P : Program) (ops : Array Oper) (C : σ → World → Prop) (Q : Act → Prop) : List Oper → Act → Prop
  | [], a => Q a
  | o :: rest, a => if Region.wanted o (yielded ops a.tmps) then (∃ v, mQuiet P o a C v ∧ wpM P ops C Q rest (a.put o.dst v)) else wpM P ops C Q rest (a.put o.dst undef)

theorem headM_lex {q n g : Nat} {s0 : σ} {fin : Array Bool → Bool} {L : Array Bool → σ → Act → Prop} {Lq : Act → Prop} (hsel : Region.noSelect ops = true) (hs : Region.sinkB md ops n = true) (hc : Region.chainB md ops n = true) (hn : n < ops.size) (hqn : q ≤ n)
    (hnew : ∀ i, q ≤ i → i < n → ∃ o, ops[i]? = some o ∧ o.dst = M.dst i)
    (hdone : ∀ listed s a, L listed s a → ∀ j ∈ Region.ready md ops listed, n ≤ j)
    (hfin : ∀ listed a, HeadInv md ops n listed → fin listed = true → Lq a → headM P md ops C M q n L g listed s0 a) :
    ∀ (l : List Oper) (k : Nat) (listed : Array Bool) (a : Act), (∀ j, j < l.length → l[j]? = ops[k + j]?) → k + l.length = q → HeadInv md ops n listed →
    lexQ md ops fin l.length k listed = true → wpM P ops C Lq l a → headM P md ops C M q n L (l.length + g) listed s0 a
  | [], k, listed, a, _, _, inv, hB, h => by
    rw [List.length_nil, Nat.zero_add]
    exact hfin listed a inv (by simpa [lexQ] using hB) h
  | o :: l, k, listed, a, hl, hk, inv, hB, h => by
    have h0 : ops[k]? = some o := by simpa using (hl 0 (by simp)).symm
    simp only [List.length_cons, lexQ, Bool.and_eq_true] at hB
    obtain ⟨⟨hr, hf⟩, hB'⟩ := hB
    have hkq : k < q := by simp only [List.length_cons] at hk; omega
    have hr' : k ∈ Region.ready md ops listed := by simpa using hr
    have hst : mOp P ops C k (wpM P ops C Lq l) a := by unfold mOp; simp only [h0]; exact h
    obtain ⟨v, hy, hK⟩ := yieldsM_of_mOp h0 hst
    rw [List.length_cons, show l.length + 1 + g = (l.length + g) + 1 by omega]
    exact headM_first h0 (Region.noSelect_spec hsel) hnew hs hc hn hkq hqn hdone (l.length + g) listed s0 a inv (Region.free_spec h0 hf) hr' hy
      (headM_lex hsel hs hc hn hqn hnew hdone hfin l (k + 1) _ _ (fun j hj => by have := hl (j + 1) (by simp; omega); simpa [Nat.add_assoc, Nat.add_comm 1 j] using this) (by simp only [List.length_cons] at hk; omega) (inv.set hr' (by omega)) hB' hK)

/-! ### two new blocks, the first store, the tail -/

/-- The first block, the second one, whether the first is written. -/
abbrev St := Option Nat × Option Nat × Bool
def PC (W : World) (z1 z1' z2 : Array Value) (y1 y2 : TypeId) (s : St) (w : World) : Prop :=
  Below W.heap.size W w ∧ (∀ b, s.1 = some b → W.heap.size ≤ b ∧ Blk w b (if s.2.2 then z1' else z1) y1) ∧ (∀ b, s.2.1 = some b → W.heap.size ≤ b ∧ Blk w b z2 y2) ∧ (∀ b c, s.1 = some b → s.2.1 = some c → b ≠ c)
def PM (q : Nat) (t1 t2 : Tmp) : Moves St where
  next i s b := if i = q then (some b, s.2.1, false) else if i = q + 1 then (s.1, some b, s.2.2) else (s.1, s.2.1, true)
  val i b := if i = q ∨ i = q + 1 then .pointer (some ⟨b, 0, none⟩) else undef
  dst i := if i = q then some t1 else if i = q + 1 then some t2 else none

theorem PC.kept {W w w' : World} {z1 z1' z2 : Array Value} {y1 y2 : TypeId} {s : St} (h : PC W z1 z1' z2 y1 y2 s w) (hb : Below w.heap.size w w') : PC W z1 z1' z2 y1 y2 s w' :=
  ⟨h.1.trans (hb.mono h.1.size), fun b e => ⟨(h.2.1 b e).1, (h.2.1 b e).2.kept hb⟩, fun b e => ⟨(h.2.2.1 b e).1, (h.2.2.1 b e).2.kept hb⟩, h.2.2.2⟩

def finThree (md : Region.Mode) (ops : Array Oper) (q g : Nat) (listed : Array Bool) : Bool :=
  decide (Region.ready md ops listed = [q, q + 1]) && decide (Region.ready md ops (listed.setIfInBounds q true) = [q + 1]) && decide (Region.ready md ops (listed.setIfInBounds (q + 1) true) = [q]) &&
  decide (Region.ready md ops ((listed.setIfInBounds q true).setIfInBounds (q + 1) true) = [q + 2]) &&
  Region.seqB md ops g (q + 3) (((listed.setIfInBounds q true).setIfInBounds (q + 1) true).setIfInBounds (q + 2) true)
def threeB (ops : Array Oper) (q : Nat) : Bool :=
  Region.noSelect ops && decide (q + 3 < ops.size) && Region.sinkB .any ops (q + 3) && Region.chainB .any ops (q + 3) && lexQ .any ops (finThree .any ops q (ops.size - (q + 3))) q 0 (Array.replicate ops.size false)

theorem wpM_of_wpGrow {W : World} {z1 z1' z2 : Array Value} {y1 y2 : TypeId} (k : List Oper) : ∀ (a : Act) (Q1 : Act → Prop), wpGrow P ops W Q1 k a → wpM P ops (PC W z1 z1' z2 y1 y2) Q1 k a := by
  induction k with
  | nil => exact fun a Q1 h => h
  | cons o k ih =>
    intro a Q1 h
    unfold wpGrow at h
    unfold wpM
    split
    · rename_i hw
      rw [if_pos hw] at h
      obtain ⟨v, h1, h2⟩ := h
      refine ⟨v, fun s w hsw => ?_, ih _ _ h2⟩
      have h3 := h1 ⟨w, hsw.1⟩
      unfold growAt Ext.w at h3
      unfold Oper.quietAt
      dsimp only at h3
      generalize hrr : (execOp a.eval o).run P w = r at *
      cases r with
      | ok nx w' =>
        cases nx <;> simp only [Oper.quietUpon, growUpon] at h3 ⊢
        case value u => exact h3
        case skip => exact h3
        case enter f args => exact ⟨h3.1, h3.2.mono fun _ _ ⟨he, hb⟩ => ⟨he, hsw.kept hb⟩⟩
      | halt x w' => simp only [growUpon] at h3
    · rename_i hw
      rw [if_neg hw] at h
      exact ih _ _ h

/-- The first store, run. -/
def StoresAt (P : Program) (o : Oper) (a : Act) (b1 : Nat) (x y : Value) (w : World) : Prop :=
  ∃ r, (execOp a.eval o).run P w = .ok r ((w.setCell ⟨b1, 0, none⟩ x).setCell ⟨b1, 1, none⟩ y) ∧ (r = .value undef ∨ r = .skip)

theorem wp_region_pair {W : World} (x1 y1 x1' y1' : Value) (z2 : Array Value) (ty1 ty2 : TypeId) (t1 t2 : Tmp) {id : Nat} {Q : Exit → Act → World → Prop} {a : Act} {l : List Oper} (q : Nat) (o3 : Oper) (hm : P.follows .mixedOrders = true) (hB : threeB l.toArray q = true) (ht : t1 ≠ t2)
    (h1 : LaysNew P l[q]? t1 #[x1, y1] ty1) (h2 : LaysNew P l[q + 1]? t2 z2 ty2) (h3 : l[q + 2]? = some o3) (h3d : o3.dst = none) (h3g : o3.guard = none)
    (h : wpGrow P l.toArray W (fun a' => ∀ (b1 b2 : Nat), W.heap.size ≤ b1 → W.heap.size ≤ b2 → b1 ≠ b2 →
      (∀ w', Below W.heap.size W w' → Blk w' b1 #[x1, y1] ty1 → StoresAt P o3 ((a'.put (some t1) (.pointer (some ⟨b1, 0, none⟩))).put (some t2) (.pointer (some ⟨b2, 0, none⟩))) b1 x1' y1' w') ∧
      (∀ w', Below W.heap.size W w' → Blk w' b1 #[x1', y1'] ty1 → Blk w' b2 z2 ty2 →
        wpList P l.toArray Q (l.drop (q + 3)) ((a'.put (some t1) (.pointer (some ⟨b1, 0, none⟩))).put (some t2) (.pointer (some ⟨b2, 0, none⟩))) w')) (l.take q) a) : (Code.region id l.toArray true).wp P Q a W := by
  simp only [threeB, Bool.and_eq_true, decide_eq_true_eq] at hB
  obtain ⟨⟨⟨⟨hsel, hn⟩, hs⟩, hc⟩, hlex⟩ := hB
  have hn' : q + 3 < l.length := by simpa using hn
  have htl : (l.take q).length = q := by simp; omega
  have hdl : (l.drop (q + 3)).length = l.toArray.size - (q + 3) := by simp
  obtain ⟨o1, ho1, hd1, hg1, hs1, hr1⟩ := h1
  obtain ⟨o2, ho2, hd2, hg2, hs2, hr2⟩ := h2
  have hnew : ∀ i, q ≤ i → i < q + 3 → ∃ o, l.toArray[i]? = some o ∧ o.dst = (PM q t1 t2).dst i ∧ o.guard = none := fun i hi hi2 => by
    have hi' : i = q ∨ i = q + 1 ∨ i = q + 2 := by omega
    rcases hi' with rfl | rfl | rfl
    · exact ⟨o1, by simpa using ho1, by simp [PM, hd1], hg1⟩
    · exact ⟨o2, by simpa using ho2, by simp [PM, hd2], hg2⟩
    · exact ⟨o3, by simpa using h3, by simp [PM, h3d], h3g⟩
  have inv0 : HeadInv .any l.toArray (q + 3) (Array.replicate l.toArray.size false) :=
    ⟨by simp, fun j oj _ hl => (by rw [getD_replicate_false] at hl; cases hl), fun t _ ht => getD_in (by simpa using ht) (getD_replicate_false _ _)⟩
  have hPC : PC W #[x1, y1] #[x1', y1'] z2 ty1 ty2 (none, none, false) W.drew := ⟨(Below.refl _ _).drew, fun b e => (by cases e), fun b e => (by cases e), fun b c e => (by cases e)⟩
  have mv1 : ∀ (s : St) (a' : Act), s.1 = none → moveAt P l.toArray (PC W #[x1, y1] #[x1', y1'] z2 ty1 ty2) (PM q t1 t2) q s a' := fun s a' hs0 =>
    ⟨o1, by simpa using ho1, fun w hw => ⟨w.heap.size, _, _, hr1 _ w, .inl (by simp [PM]), by
      obtain ⟨c1, c2, c3, c4⟩ := hw
      simp only [PM, if_true]
      refine ⟨c1.alloc c1.size _, fun b e => ?_, fun b e => ⟨(c3 b e).1, (c3 b e).2.alloc _⟩, fun b c e e' => ?_⟩
      · obtain rfl : w.heap.size = b := by simpa using e
        exact ⟨c1.size, by simpa using Blk.new w _ _⟩
      · obtain rfl : w.heap.size = b := by simpa using e
        have := (c3 c e').2.lt
        omega⟩⟩
  have mv2 : ∀ (s : St) (a' : Act), moveAt P l.toArray (PC W #[x1, y1] #[x1', y1'] z2 ty1 ty2) (PM q t1 t2) (q + 1) s a' := fun s a' =>
    ⟨o2, by simpa using ho2, fun w hw => ⟨w.heap.size, _, _, hr2 _ w, .inl (by simp [PM]), by
      obtain ⟨c1, c2, c3, c4⟩ := hw
      simp only [PM, if_true, if_neg (show ¬ q + 1 = q by omega)]
      refine ⟨c1.alloc c1.size _, fun b e => ⟨(c2 b e).1, (c2 b e).2.alloc _⟩, fun b e => ?_, fun b c e e' => ?_⟩
      · obtain rfl : w.heap.size = b := by simpa using e
        exact ⟨c1.size, Blk.new w _ _⟩
      · obtain rfl : w.heap.size = c := by simpa using e'
        have := (c2 b e).2.lt
        omega⟩⟩
  have H := headM_lex (fin := finThree .any l.toArray q (l.toArray.size - (q + 3))) (M := PM q t1 t2) (C := PC W #[x1, y1] #[x1', y1'] z2 ty1 ty2) (md := .any) (g := 3) (q := q) (n := q + 3) (s0 := (none, none, false))
    (L := fun listed s a' => Region.seqB .any l.toArray (l.toArray.size - (q + 3)) (q + 3) listed = true ∧ ∀ w', PC W #[x1, y1] #[x1', y1'] z2 ty1 ty2 s w' → wpList P l.toArray Q (l.drop (q + 3)) a' w')
    hsel hs hc hn (by omega) (fun i hi hi2 => by obtain ⟨o, ho, hd, _⟩ := hnew i hi hi2; exact ⟨o, ho, hd⟩) (fun listed s a' hL => seqB_ready hL.1)
    (fun listed a' inv hf hq => by
      simp only [finThree, Bool.and_eq_true, decide_eq_true_eq] at hf
      obtain ⟨⟨⟨⟨f1, f2⟩, f3⟩, f4⟩, f5⟩ := hf
      -- the store and the tail, whichever block came first
      have rest : ∀ b1 b2, headM P .any l.toArray (PC W #[x1, y1] #[x1', y1'] z2 ty1 ty2) (PM q t1 t2) q (q + 3)
          (fun listed s a' => Region.seqB .any l.toArray (l.toArray.size - (q + 3)) (q + 3) listed = true ∧ ∀ w', PC W #[x1, y1] #[x1', y1'] z2 ty1 ty2 s w' → wpList P l.toArray Q (l.drop (q + 3)) a' w')
          1 ((listed.setIfInBounds q true).setIfInBounds (q + 1) true) (some b1, some b2, false) ((a'.put (some t1) (.pointer (some ⟨b1, 0, none⟩))).put (some t2) (.pointer (some ⟨b2, 0, none⟩))) := fun b1 b2 => by
        refine ⟨by rw [f4]; simp, fun i hi => ?_⟩
        rw [f4] at hi
        obtain rfl : i = q + 2 := by simpa using hi
        refine ⟨by omega, fun h => by omega, fun _ => ⟨⟨o3, by simpa using h3, fun w hw => ?_⟩, fun b => ?_⟩⟩
        · obtain ⟨c1, c2, c3, c4⟩ := hw
          have k1 := (c2 b1 rfl).2
          have k2 := (c3 b2 rfl).2
          have hb1 := (c2 b1 rfl).1
          have hb2 := (c3 b2 rfl).1
          have hne := c4 b1 b2 rfl rfl
          obtain ⟨hst, _⟩ := hq b1 b2 hb1 hb2 hne
          obtain ⟨r, hrun, hr⟩ := hst w c1 (by simpa using k1)
          refine ⟨0, _, r, hrun, ?_, ?_⟩
          · simp only [PM, if_neg (show ¬ (q + 2 = q ∨ q + 2 = q + 1) by omega)]
            rcases hr with rfl | rfl
            · exact .inl rfl
            · exact .inr ⟨rfl, trivial⟩
          · simp only [PM, if_neg (show ¬ q + 2 = q by omega), if_neg (show ¬ q + 2 = q + 1 by omega)]
            refine ⟨below_set2 c1 hb1 _ _, fun b e => ?_, fun b e => ?_, c4⟩
            · obtain rfl : b1 = b := by simpa using e
              exact ⟨hb1, by simpa using (show Blk w b1 #[x1, y1] ty1 by simpa using k1).set2 x1' y1'⟩
            · obtain rfl : b2 = b := by simpa using e
              exact ⟨hb2, k2.other2 (Ne.symm hne) _ _⟩
        · simp only [PM, if_neg (show ¬ q + 2 = q by omega), if_neg (show ¬ q + 2 = q + 1 by omega), if_neg (show ¬ (q + 2 = q ∨ q + 2 = q + 1) by omega)]
          refine ⟨f5, fun w' hw' => ?_⟩
          obtain ⟨c1, c2, c3, c4⟩ := hw'
          exact (hq b1 b2 (c2 b1 rfl).1 (c3 b2 rfl).1 (c4 b1 b2 rfl rfl)).2 w' c1 (by simpa using (c2 b1 rfl).2) (c3 b2 rfl).2
      refine ⟨by rw [f1]; simp, fun i hi => ?_⟩
      rw [f1] at hi
      have hi' : i = q ∨ i = q + 1 := by simpa using hi
      rcases hi' with rfl | rfl
      · refine ⟨by omega, fun h => by omega, fun _ => ⟨mv1 _ _ rfl, fun b1 => ⟨by rw [f2]; simp, fun j hj => ?_⟩⟩⟩
        rw [f2] at hj
        obtain rfl : j = i + 1 := by simpa using hj
        refine ⟨by omega, fun h => by omega, fun _ => ⟨mv2 _ _, fun b2 => ?_⟩⟩
        have := rest b1 b2
        simpa [PM] using this
      · refine ⟨by omega, fun h => by omega, fun _ => ⟨mv2 _ _, fun b2 => ⟨by rw [f3]; simp, fun j hj => ?_⟩⟩⟩
        rw [f3] at hj
        obtain rfl : j = q := by simpa using hj
        refine ⟨by omega, fun h => by omega, fun _ => ⟨mv1 _ _ (by simp [PM]), fun b1 => ?_⟩⟩
        have := rest b1 b2
        rw [Array.setIfInBounds_comm _ _ (by omega), Act.put_comm _ _ _ (by intro d hd hd'; cases hd; cases hd'; exact ht rfl)] at this
        simpa [PM] using this)
    (l.take q) 0 _ a (fun j hj => by have hj' : j < q := by rw [htl] at hj; exact hj
                                     simp [hj']) (by simpa using htl) inv0 (by rw [htl]; exact hlex) (wpM_of_wpGrow _ _ _ h)
  refine wp_region_any hm ?_
  have := wpAny_of_headM (g := l.toArray.size - (q + 3)) (Q' := Q) hnew (fun listed s a' w' hw' hL => by
    have := wpAny_of_seq (md := .any) (Q' := Q) (l.drop (q + 3)) (q + 3) listed a' w' (fun j => by simp [List.getElem?_drop]) (by rw [hdl]; exact hL.1) (hL.2 w' hw')
    rwa [hdl] at this) _ _ _ _ _ hPC H
  rw [htl, show q + 3 + (l.toArray.size - (q + 3)) = l.toArray.size by omega] at this
  exact this

end
end Go.Proofs.Ytlbhnicengolfaa
