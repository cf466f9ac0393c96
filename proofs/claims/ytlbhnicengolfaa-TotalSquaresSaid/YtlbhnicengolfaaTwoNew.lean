/-
  'x, y := f(..), g(..)' where x and y lie in memory: a region that draws its order: q operations that only read or call what makes memory of its own; the two new blocks, which may be laid at any time; the rest in one forced order. One walk serves every order; behind it the two blocks are new and different.
-/
import Derived.Test.YtlbhnicengolfaaHead
import Derived.Test.YtlbhnicengolfaaBlk
namespace Go.Proofs.Ytlbhnicengolfaa
open Go.RowKit

section
variable {P : Program} {ops : Array Oper} {md : Region.Mode}

/-- The worlds between: what lay in W lies as it lay; the blocks of s are new, empty rows, and different. -/
def NC (W : World) (zc : Nat → Array Value) (ty : Nat → TypeId) (s : List (Nat × Nat)) (w : World) : Prop :=
  Below W.heap.size W w ∧ (∀ p ∈ s, W.heap.size ≤ p.2 ∧ Blk w p.2 (zc p.1) (ty p.1)) ∧ (s.map (·.2)).Nodup

theorem NC.kept {W w w' : World} {zc : Nat → Array Value} {ty : Nat → TypeId} {s : List (Nat × Nat)} (h : NC W zc ty s w) (hb : Below w.heap.size w w') : NC W zc ty s w' :=
  ⟨h.1.trans (hb.mono h.1.size), fun p hp => ⟨(h.2.1 p hp).1, (h.2.1 p hp).2.kept hb⟩, h.2.2⟩
theorem NC.new {W w : World} {zc : Nat → Array Value} {ty : Nat → TypeId} {s : List (Nat × Nat)} (h : NC W zc ty s w) (i : Nat) : NC W zc ty ((i, w.heap.size) :: s) (w.alloc (.cells (zc i) (ty i))) := by
  refine ⟨h.1.alloc h.1.size _, ?_, ?_⟩
  · intro p hp
    rcases List.mem_cons.1 hp with rfl | hp
    · exact ⟨h.1.size, Blk.new w _ _⟩
    · exact ⟨(h.2.1 p hp).1, (h.2.1 p hp).2.alloc _⟩
  · rw [List.map_cons, List.nodup_cons]
    refine ⟨fun hm => ?_, h.2.2⟩
    obtain ⟨p, hp, e⟩ := List.mem_map.1 hm
    have := (h.2.1 p hp).2.lt
    omega

/-- Quiet in all of them: one value. -/
def nQuiet (P : Program) (o : Oper) (a : Act) (C : List (Nat × Nat) → World → Prop) (v : Value) : Prop := ∀ s w, C s w → o.quietAt P a (C s) w v

def nOp (P : Program) (ops : Array Oper) (C : List (Nat × Nat) → World → Prop) (i : Nat) (K : Act → Prop) (a : Act) : Prop :=
  match ops[i]? with
  | none => K a
  | some o => if Region.wanted o (yielded ops a.tmps) then ∃ v, nQuiet P o a C v ∧ K (a.put o.dst v) else K (a.put o.dst undef)

theorem nOp_mono {C : List (Nat × Nat) → World → Prop} {i : Nat} {a : Act} {K K' : Act → Prop} (h : ∀ a, K a → K' a) (hh : nOp P ops C i K a) : nOp P ops C i K' a := by
  unfold nOp at *
  split
  · exact h _ (by simpa [*] using hh)
  · rename_i o ho
    simp only [ho] at hh
    split
    · rename_i hw
      simp only [hw, if_true] at hh
      obtain ⟨v, h1, h2⟩ := hh
      exact ⟨v, h1, h _ h2⟩
    · rename_i hw; simp only [hw] at hh; exact h _ hh

/-- A new block as operation i: slot, run. -/
structure IsNew (P : Program) (ops : Array Oper) (zc : Nat → Array Value) (ty : Nat → TypeId) (t : Nat → Tmp) (i : Nat) : Prop where
  at_ : ∃ o, ops[i]? = some o ∧ o.dst = some (t i) ∧ o.guard = none ∧ (∀ cs b, o.op ≠ .select cs b) ∧
    ∀ (ev : Operand → Value) (w : World), (execOp ev o).run P w = .ok (.value (.pointer (some ⟨w.heap.size, 0, none⟩))) (w.alloc (.cells (zc i) (ty i)))

/-- f operations of the head still to come: each is quiet, or lays a new block (number q or beyond). -/
def headN (P : Program) (md : Region.Mode) (ops : Array Oper) (C : List (Nat × Nat) → World → Prop) (t : Nat → Tmp) (q n : Nat) (L : Array Bool → List (Nat × Nat) → Act → Prop) : Nat → Array Bool → List (Nat × Nat) → Act → Prop
  | 0, listed, s, a => L listed s a
  | f + 1, listed, s, a =>
    Region.ready md ops listed ≠ [] ∧ ∀ i ∈ Region.ready md ops listed, i < n ∧
      (i < q → nOp P ops C i (headN P md ops C t q n L f (listed.setIfInBounds i true) s) a) ∧
      (q ≤ i → ∀ b, headN P md ops C t q n L f (listed.setIfInBounds i true) ((i, b) :: s) (a.put (some (t i)) (.pointer (some ⟨b, 0, none⟩))))

theorem wp_of_nQuiet {C : World → Prop} {o : Oper} {v : Value} {a : Act} {K : Act → World → Prop} {Q' : Exit → Act → World → Prop} {w : World} (h3 : o.quietAt P a C w v) (hw : C w)
    (h : ∀ w', C w' → K (a.put o.dst v) w') : o.wp P a w K Q' := by
  unfold Oper.quietAt at h3
  unfold Oper.wp
  generalize (execOp a.eval o).run P w = r at *
  cases r with
  | ok n w' =>
    cases n <;> simp only [Oper.quietUpon] at h3 <;> simp only [Oper.upon]
    case value u =>
      obtain ⟨e1, e2⟩ := h3
      rw [e1, e2]; exact h _ hw
    case skip =>
      obtain ⟨e1, e2⟩ := h3
      rw [e1, ← e2]; exact h _ hw
    case enter f args =>
      obtain ⟨e1, hc⟩ := h3
      rw [e1]
      exact hc.mono fun e w'' ⟨he, hw''⟩ => by subst he; exact h _ hw''
  | halt x w' => simp only [Oper.quietUpon] at h3

variable {W : World} {zc : Nat → Array Value} {ty : Nat → TypeId} {t : Nat → Tmp}

theorem wpAny_of_headN {q n g : Nat} {L : Array Bool → List (Nat × Nat) → Act → Prop} {Q' : Exit → Act → World → Prop} (hnew : ∀ i, q ≤ i → i < n → IsNew P ops zc ty t i)
    (hL : ∀ listed s a w, NC W zc ty s w → L listed s a → wpAny P md ops Q' g listed a w) :
    ∀ (f : Nat) (listed : Array Bool) (s : List (Nat × Nat)) (a : Act) (w : World), NC W zc ty s w → headN P md ops (NC W zc ty) t q n L f listed s a → wpAny P md ops Q' (f + g) listed a w
  | 0, listed, s, a, w, hw, h => by rw [Nat.zero_add]; exact hL _ _ _ _ hw h
  | f + 1, listed, s, a, w, hw, h => by
    rw [show f + 1 + g = (f + g) + 1 by omega]
    refine ⟨fun h0 => absurd h0 h.1, fun i hi => ?_⟩
    obtain ⟨hin, hq, hn⟩ := h.2 i hi
    rcases Nat.lt_or_ge i q with hiq | hiq
    · have h1 := hq hiq
      unfold nOp at h1
      unfold wpOp
      split
      · rename_i ho; simp only [ho] at h1; exact wpAny_of_headN hnew hL f _ _ _ _ hw h1
      · rename_i o ho
        simp only [ho] at h1
        split
        · rename_i hwt
          simp only [hwt, if_true] at h1
          obtain ⟨v, hv, hK⟩ := h1
          exact .inl (wp_of_nQuiet (hv s w hw) hw fun w' hw' => wpAny_of_headN hnew hL f _ _ _ _ hw' hK)
        · rename_i hwt; simp only [hwt] at h1; exact wpAny_of_headN hnew hL f _ _ _ _ hw h1
    · obtain ⟨o, ho, hd, hg, _, hrun⟩ := (hnew i hiq hin).at_
      unfold wpOp
      simp only [ho]
      rw [if_pos (by simp [Region.wanted, hg])]
      refine .inl ?_
      unfold Oper.wp
      rw [hrun]
      show wpAny P md ops Q' (f + g) _ (a.put o.dst _) _
      rw [hd]
      exact wpAny_of_headN hnew hL f _ _ _ _ (hw.new i) (hn hiq w.heap.size)

def YieldsN (P : Program) (ops : Array Oper) (C : List (Nat × Nat) → World → Prop) (o : Oper) (v : Value) (a : Act) : Prop :=
  (Region.wanted o (yielded ops a.tmps) = true ∧ nQuiet P o a C v) ∨ (Region.wanted o (yielded ops a.tmps) = false ∧ v = undef)

variable {C : List (Nat × Nat) → World → Prop}
theorem YieldsN.nOp {i : Nat} {o : Oper} {v : Value} {a : Act} (hi : ops[i]? = some o) (hy : YieldsN P ops C o v a) {K : Act → Prop} (h : K (a.put o.dst v)) : nOp P ops C i K a := by
  unfold Proofs.Ytlbhnicengolfaa.nOp
  simp only [hi]
  rcases hy with ⟨hw, hv⟩ | ⟨hw, rfl⟩
  · simp only [hw, if_true]; exact ⟨v, hv, h⟩
  · simp only [hw, Bool.false_eq_true, if_false]; exact h
theorem YieldsN.of_same {o : Oper} {v : Value} {a a' : Act} (hy : YieldsN P ops C o v a) (he : execOp a'.eval o = execOp a.eval o)
    (hw : Region.wanted o (yielded ops a'.tmps) = Region.wanted o (yielded ops a.tmps)) : YieldsN P ops C o v a' := by
  unfold YieldsN nQuiet Oper.quietAt at *
  rw [he, hw]
  exact hy
theorem yieldsN_of_nOp {i : Nat} {o : Oper} {a : Act} {K : Act → Prop} (hi : ops[i]? = some o) (h : nOp P ops C i K a) : ∃ v, YieldsN P ops C o v a ∧ K (a.put o.dst v) := by
  unfold nOp at h
  simp only [hi] at h
  by_cases hw : Region.wanted o (yielded ops a.tmps) = true
  · simp only [hw, if_true] at h
    obtain ⟨v, h1, h2⟩ := h
    exact ⟨v, .inl ⟨hw, h1⟩, h2⟩
  · simp only [hw] at h
    exact ⟨undef, .inr ⟨by simpa using hw, rfl⟩, h⟩
theorem nOp_put {j : Nat} {oi oj : Oper} {v : Value} (hj : ops[j]? = some oj) (hap : oi.apart ops oj = true)
    (hsi : ∀ cs b, oi.op ≠ .select cs b) (hsj : ∀ cs b, oj.op ≠ .select cs b) {K : Act → Prop} {a : Act}
    (hy : YieldsN P ops C oi v a) (h : nOp P ops C j K (a.put oi.dst v)) :
    nOp P ops C j (fun a' => YieldsN P ops C oi v a' ∧ K (a'.put oi.dst v)) a := by
  obtain ⟨h1, h2, h3⟩ := Oper.apart_spec hap
  have keep : ∀ (a : Act), YieldsN P ops C oi v a → ∀ u, YieldsN P ops C oi v (a.put oj.dst u) := fun a hy u =>
    hy.of_same (execOp_put oi hsi a oj.dst u h3) (wanted_put oi a oj.dst u h3)
  unfold nOp at *
  simp only [hj] at *
  rw [wanted_put oj a oi.dst v h1] at h
  split
  · rename_i hw
    simp only [hw, if_true] at h
    obtain ⟨u, hu, hn⟩ := h
    refine ⟨u, fun s w hw' => ?_, keep a hy u, by rw [← Act.put_comm a v u h2]; exact hn⟩
    have := hu s w hw'
    unfold Oper.quietAt at *
    rwa [execOp_put oj hsj a oi.dst v h1] at this
  · rename_i hw
    simp only [hw] at h
    exact ⟨keep a hy _, by rw [← Act.put_comm a v undef h2]; exact h⟩

/-- A quiet operation may be taken first. -/
theorem headN_first {q n i : Nat} {oi : Oper} {v : Value} {L : Array Bool → List (Nat × Nat) → Act → Prop} (hi : ops[i]? = some oi) (hsel : ∀ (j : Nat) (o : Oper) cs b, ops[j]? = some o → o.op ≠ .select cs b)
    (hnew : ∀ i, q ≤ i → i < n → ∃ o, ops[i]? = some o ∧ o.dst = some (t i))
    (hs : Region.sinkB md ops n = true) (hc : Region.chainB md ops n = true) (hn : n < ops.size) (hiq : i < q) (hqn : q ≤ n)
    (hdone : ∀ listed s a, L listed s a → ∀ j ∈ Region.ready md ops listed, n ≤ j) :
    ∀ (f : Nat) (listed : Array Bool) (s : List (Nat × Nat)) (a : Act), HeadInv md ops n listed →
      (∀ j oj, ops[j]? = some oj → j ≠ i → listed.getD j true = false → (∀ e ∈ oj.after, Region.binds md e = true → e.on ≠ i) → oi.apart ops oj = true) →
      i ∈ Region.ready md ops listed → YieldsN P ops C oi v a →
      headN P md ops C t q n L f (listed.setIfInBounds i true) s (a.put oi.dst v) → headN P md ops C t q n L (f + 1) listed s a := by
  have below : ∀ (listed : Array Bool), HeadInv md ops n listed → i ∈ Region.ready md ops listed → ∀ j ∈ Region.ready md ops listed, j < n := fun listed inv hr j hj => by
    rcases Nat.lt_or_ge j n with h | h
    · exact h
    · exact absurd hj (tail_waits hs hc hn inv _ i rfl (by omega) (mem_ready.1 hr).1 j h)
  intro f
  induction f with
  | zero =>
    intro listed s a inv _ hr hy H
    refine ⟨fun h => (by rw [h] at hr; cases hr), fun j hj => ?_⟩
    have hjn := below listed inv hr j hj
    by_cases hji : j = i
    · subst hji; exact ⟨hjn, fun _ => hy.nOp hi H, fun h => by omega⟩
    · have := hdone _ _ _ H j (ready_mono hj hji)
      omega
  | succ f ih =>
    intro listed s a inv hfree hr hy H
    refine ⟨fun h => (by rw [h] at hr; cases hr), fun j hj => ?_⟩
    have hjn := below listed inv hr j hj
    by_cases hji : j = i
    · subst hji; exact ⟨hjn, fun _ => hy.nOp hi H, fun h => by omega⟩
    · obtain ⟨_, h1, h1'⟩ := H.2 j (ready_mono hj hji)
      obtain ⟨hjun, oj, hoj, hall⟩ := mem_ready.1 hj
      have hnot : ∀ e ∈ oj.after, Region.binds md e = true → e.on ≠ i := fun e he hb heq => by
        have h1 := hall e he hb
        rw [heq, getD_both (mem_ready.1 hr).1] at h1
        cases h1
      have hap := hfree j oj hoj hji hjun hnot
      have hfree' : ∀ k ok, ops[k]? = some ok → k ≠ i → (listed.setIfInBounds j true).getD k true = false →
          (∀ e ∈ ok.after, Region.binds md e = true → e.on ≠ i) → oi.apart ops ok = true := fun k ok hk hki hun hno => by
        refine hfree k ok hk hki ?_ hno
        by_cases hjk : j = k
        · subst hjk; exact hjun
        · rw [getD_set_ne true hjk] at hun; exact hun
      refine ⟨hjn, fun hjq => ?_, fun hjq b => ?_⟩
      · have h2 := nOp_put hoj hap (fun cs b => hsel i oi cs b hi) (fun cs b => hsel j oj cs b hoj) hy (h1 hjq)
        refine nOp_mono (fun a' h3 => ih (listed.setIfInBounds j true) s a' (inv.set hj hjn) hfree' (ready_mono hr (Ne.symm hji)) h3.1 ?_) h2
        rw [Array.setIfInBounds_comm _ _ hji]
        exact h3.2
      · obtain ⟨o', ho', hd'⟩ := hnew j hjq hjn
        have : o' = oj := Option.some.inj (ho'.symm.trans hoj)
        subst this
        obtain ⟨e1, e2, e3⟩ := Oper.apart_spec hap
        rw [hd'] at e2 e3
        refine ih (listed.setIfInBounds j true) _ _ (inv.set hj hjn) hfree' (ready_mono hr (Ne.symm hji))
          (hy.of_same (execOp_put oi (fun cs b => hsel i oi cs b hi) a _ _ e3) (wanted_put oi a _ _ e3)) ?_
        rw [Array.setIfInBounds_comm _ _ hji]
        have := h1' hjq b
        rwa [Act.put_comm a _ _ e2] at this

/-- The quiet operations 0 .. q - 1, in the order of the text. -/
def lexQ (md : Region.Mode) (ops : Array Oper) (fin : Array Bool → Bool) : Nat → Nat → Array Bool → Bool
  | 0, _, listed => fin listed
  | f + 1, k, listed => (Region.ready md ops listed).contains k && Region.free md ops listed k && lexQ md ops fin f (k + 1) (listed.setIfInBounds k true)

def wpN (P : Program) (ops : Array Oper) (C : List (Nat × Nat) → World → Prop) (Q : Act → Prop) : List Oper → Act → Prop
  | [], a => Q a
  | o :: rest, a => if Region.wanted o (yielded ops a.tmps) then (∃ v, nQuiet P o a C v ∧ wpN P ops C Q rest (a.put o.dst v)) else wpN P ops C Q rest (a.put o.dst undef)
theorem wpN_nil {Q : Act → Prop} {a : Act} (h : Q a) : wpN P ops C Q [] a := h
theorem wpN_step {Q : Act → Prop} {a : Act} {o : Oper} {rest : List Oper}
    (h : ∀ K : Act → Prop, (∀ a, wpN P ops C Q rest a → K a) → if Region.wanted o (yielded ops a.tmps) then (∃ v, nQuiet P o a C v ∧ K (a.put o.dst v)) else K (a.put o.dst undef)) : wpN P ops C Q (o :: rest) a :=
  h _ (fun _ h => h)

theorem headN_lex {q n g : Nat} {fin : Array Bool → Bool} {L : Array Bool → List (Nat × Nat) → Act → Prop} {Lq : Act → Prop} (hsel : Region.noSelect ops = true) (hs : Region.sinkB md ops n = true) (hc : Region.chainB md ops n = true) (hn : n < ops.size) (hqn : q ≤ n)
    (hnew : ∀ i, q ≤ i → i < n → ∃ o, ops[i]? = some o ∧ o.dst = some (t i))
    (hdone : ∀ listed s a, L listed s a → ∀ j ∈ Region.ready md ops listed, n ≤ j)
    (hfin : ∀ listed a, HeadInv md ops n listed → fin listed = true → Lq a → headN P md ops C t q n L g listed [] a) :
    ∀ (l : List Oper) (k : Nat) (listed : Array Bool) (a : Act), (∀ j, j < l.length → l[j]? = ops[k + j]?) → k + l.length = q → HeadInv md ops n listed →
    lexQ md ops fin l.length k listed = true → wpN P ops C Lq l a → headN P md ops C t q n L (l.length + g) listed [] a
  | [], k, listed, a, _, _, inv, hB, h => by
    rw [List.length_nil, Nat.zero_add]
    exact hfin listed a inv (by simpa [lexQ] using hB) h
  | o :: l, k, listed, a, hl, hk, inv, hB, h => by
    have h0 : ops[k]? = some o := by simpa using (hl 0 (by simp)).symm
    simp only [List.length_cons, lexQ, Bool.and_eq_true] at hB
    obtain ⟨⟨hr, hf⟩, hB'⟩ := hB
    have hkq : k < q := by simp only [List.length_cons] at hk; omega
    have hr' : k ∈ Region.ready md ops listed := by simpa using hr
    have hst : nOp P ops C k (wpN P ops C Lq l) a := by unfold nOp; simp only [h0]; exact h
    obtain ⟨v, hy, hK⟩ := yieldsN_of_nOp h0 hst
    rw [List.length_cons, show l.length + 1 + g = (l.length + g) + 1 by omega]
    exact headN_first h0 (Region.noSelect_spec hsel) hnew hs hc hn hkq hqn hdone (l.length + g) listed [] a inv (Region.free_spec h0 hf) hr' hy
      (headN_lex hsel hs hc hn hqn hnew hdone hfin l (k + 1) _ _ (fun j hj => by have := hl (j + 1) (by simp; omega); simpa [Nat.add_assoc, Nat.add_comm 1 j] using this) (by simp only [List.length_cons] at hk; omega) (inv.set hr' (by omega)) hB' hK)

/-- Two new blocks, then the tail. -/
def finTwo (md : Region.Mode) (ops : Array Oper) (q g : Nat) (listed : Array Bool) : Bool :=
  decide (Region.ready md ops listed = [q, q + 1]) && decide (Region.ready md ops (listed.setIfInBounds q true) = [q + 1]) && decide (Region.ready md ops (listed.setIfInBounds (q + 1) true) = [q]) &&
  Region.seqB md ops g (q + 2) ((listed.setIfInBounds q true).setIfInBounds (q + 1) true)

/-- One new block, then the tail. -/
def finOne (md : Region.Mode) (ops : Array Oper) (q g : Nat) (listed : Array Bool) : Bool :=
  decide (Region.ready md ops listed = [q]) && Region.seqB md ops g (q + 1) (listed.setIfInBounds q true)

def twoB (ops : Array Oper) (q : Nat) : Bool :=
  Region.noSelect ops && decide (q + 2 < ops.size) && Region.sinkB .any ops (q + 2) && Region.chainB .any ops (q + 2) && lexQ .any ops (finTwo .any ops q (ops.size - (q + 2))) q 0 (Array.replicate ops.size false)
def oneB (ops : Array Oper) (q : Nat) : Bool :=
  Region.noSelect ops && decide (q + 1 < ops.size) && Region.sinkB .any ops (q + 1) && Region.chainB .any ops (q + 1) && lexQ .any ops (finOne .any ops q (ops.size - (q + 1))) q 0 (Array.replicate ops.size false)

/-- What an operation of the head owes, in a world of its own. -/
def growUpon (P : Program) (w : World) (v : Value) : Result Next → Prop
  | .ok (.value u) w' => w' = w ∧ u = v
  | .ok .skip w' => w' = w ∧ v = undef
  | .ok (.enter f args) w' => w' = w ∧ Calls P f args w (fun e w'' => e = .returned v ∧ Below w.heap.size w w'')
  | _ => False
def growAt (P : Program) (o : Oper) (a : Act) (w : World) (v : Value) : Prop := growUpon P w v ((execOp a.eval o).run P w)
def grows (P : Program) (W : World) (o : Oper) (a : Act) (next : Act → Prop) : Prop := ∃ v, (∀ x : Ext W, growAt P o a x.w v) ∧ next (a.put o.dst v)
def wpGrow (P : Program) (ops : Array Oper) (W : World) (Q : Act → Prop) : List Oper → Act → Prop
  | [], a => Q a
  | o :: rest, a => if Region.wanted o (yielded ops a.tmps) then grows P W o a (wpGrow P ops W Q rest) else wpGrow P ops W Q rest (a.put o.dst undef)
theorem wpGrow_nil {Q : Act → Prop} {a : Act} (h : Q a) : wpGrow P ops W Q [] a := h
theorem wpGrow_step {Q : Act → Prop} {a : Act} {o : Oper} {rest : List Oper}
    (h : ∀ K : Act → Prop, (∀ a, wpGrow P ops W Q rest a → K a) → if Region.wanted o (yielded ops a.tmps) then grows P W o a K else K (a.put o.dst undef)) : wpGrow P ops W Q (o :: rest) a :=
  h _ (fun _ h => h)

theorem wpN_of_wpGrow (k : List Oper) : ∀ (a : Act) (Q1 : Act → Prop), wpGrow P ops W Q1 k a → wpN P ops (NC W zc ty) Q1 k a := by
  induction k with
  | nil => exact fun a Q1 h => h
  | cons o k ih =>
    intro a Q1 h
    unfold wpGrow at h
    unfold wpN
    split
    · rename_i hw
      rw [if_pos hw] at h
      obtain ⟨v, h1, h2⟩ := h
      refine ⟨v, fun s w hsw => ?_, ih _ _ h2⟩
      have h3 := h1 ⟨w, hsw.1⟩
      unfold growAt Ext.w at h3
      unfold Oper.quietAt
      dsimp only at h3
      generalize hrr : (execOp a.eval o).run P w = r at *
      cases r with
      | ok nx w' =>
        cases nx <;> simp only [Oper.quietUpon, growUpon] at h3 ⊢
        case value u => exact h3
        case skip => exact h3
        case enter f args => exact ⟨h3.1, h3.2.mono fun _ _ ⟨he, hb⟩ => ⟨he, hsw.kept hb⟩⟩
      | halt x w' => simp only [growUpon] at h3
    · rename_i hw
      rw [if_neg hw] at h
      exact ih _ _ h

theorem calls_same_below {f : FuncId} {args : Array Value} {w : World} {v : Value} (h : Calls P f args w fun e w' => e = .returned v ∧ w = w') : Calls P f args w fun e w' => e = .returned v ∧ Below w.heap.size w w' :=
  h.mono fun _ _ ⟨he, hw⟩ => ⟨he, hw ▸ Below.refl _ _⟩

/-- What is asked of an operation that lays a new block. -/
def LaysNew (P : Program) (o : Option Oper) (t : Tmp) (z : Array Value) (y : TypeId) : Prop :=
  ∃ o', o = some o' ∧ o'.dst = some t ∧ o'.guard = none ∧ (∀ cs b, o'.op ≠ .select cs b) ∧ ∀ (ev : Operand → Value) (w : World), (execOp ev o').run P w = .ok (.value (.pointer (some ⟨w.heap.size, 0, none⟩))) (w.alloc (.cells z y))

/-- THE LAW FOR TWO. -/
theorem wp_region_two {W : World} (z1 z2 : Array Value) (y1 y2 : TypeId) (t1 t2 : Tmp) {id : Nat} {Q : Exit → Act → World → Prop} {a : Act} {l : List Oper} (q : Nat) (hm : P.follows .mixedOrders = true) (hB : twoB l.toArray q = true) (ht : t1 ≠ t2)
    (h1 : LaysNew P l[q]? t1 z1 y1) (h2 : LaysNew P l[q + 1]? t2 z2 y2)
    (h : wpGrow P l.toArray W (fun a' => ∀ (w' : World) (b1 b2 : Nat), Below W.heap.size W w' → W.heap.size ≤ b1 → W.heap.size ≤ b2 → b1 ≠ b2 → Blk w' b1 z1 y1 → Blk w' b2 z2 y2 →
      wpList P l.toArray Q (l.drop (q + 2)) ((a'.put (some t1) (.pointer (some ⟨b1, 0, none⟩))).put (some t2) (.pointer (some ⟨b2, 0, none⟩))) w') (l.take q) a) : (Code.region id l.toArray true).wp P Q a W := by
  simp only [twoB, Bool.and_eq_true, decide_eq_true_eq] at hB
  obtain ⟨⟨⟨⟨hsel, hn⟩, hs⟩, hc⟩, hlex⟩ := hB
  have hn' : q + 2 < l.length := by simpa using hn
  have htl : (l.take q).length = q := by simp; omega
  have hdl : (l.drop (q + 2)).length = l.toArray.size - (q + 2) := by simp
  obtain ⟨o1, ho1, hd1, hg1, hs1, hr1⟩ := h1
  obtain ⟨o2, ho2, hd2, hg2, hs2, hr2⟩ := h2
  obtain ⟨zc, hzc⟩ : ∃ zc : Nat → Array Value, zc = fun i => if i = q then z1 else z2 := ⟨_, rfl⟩
  obtain ⟨ty, hty⟩ : ∃ ty : Nat → TypeId, ty = fun i => if i = q then y1 else y2 := ⟨_, rfl⟩
  obtain ⟨tt, htt⟩ : ∃ tt : Nat → Tmp, tt = fun i => if i = q then t1 else t2 := ⟨_, rfl⟩
  have e1 : zc q = z1 ∧ ty q = y1 ∧ tt q = t1 := by subst hzc hty htt; simp
  have e2 : zc (q + 1) = z2 ∧ ty (q + 1) = y2 ∧ tt (q + 1) = t2 := by subst hzc hty htt; simp
  have hnew : ∀ i, q ≤ i → i < q + 2 → IsNew P l.toArray zc ty tt i := fun i hi hi2 => by
    by_cases e : i = q
    · subst e; exact ⟨o1, by simpa using ho1, by rw [e1.2.2]; exact hd1, hg1, hs1, fun ev w => by rw [e1.1, e1.2.1]; exact hr1 ev w⟩
    · obtain rfl : i = q + 1 := by omega
      exact ⟨o2, by simpa using ho2, by rw [e2.2.2]; exact hd2, hg2, hs2, fun ev w => by rw [e2.1, e2.2.1]; exact hr2 ev w⟩
  have inv0 : HeadInv .any l.toArray (q + 2) (Array.replicate l.toArray.size false) :=
    ⟨by simp, fun j oj _ hl => (by rw [getD_replicate_false] at hl; cases hl), fun t _ ht => getD_in (by simpa using ht) (getD_replicate_false _ _)⟩
  have hNC : NC W zc ty [] W.drew := ⟨(Below.refl _ _).drew, fun p hp => (by cases hp), List.nodup_nil⟩
  have H := headN_lex (fin := finTwo .any l.toArray q (l.toArray.size - (q + 2))) (t := tt) (C := NC W zc ty) (md := .any) (g := 2) (q := q) (n := q + 2)
    (L := fun listed s a' => Region.seqB .any l.toArray (l.toArray.size - (q + 2)) (q + 2) listed = true ∧ ∀ w', NC W zc ty s w' → wpList P l.toArray Q (l.drop (q + 2)) a' w')
    hsel hs hc hn (by omega) (fun i hi hi2 => by obtain ⟨o, ho, hd, _⟩ := (hnew i hi hi2).at_; exact ⟨o, ho, hd⟩) (fun listed s a' hL => seqB_ready hL.1)
    (fun listed a' inv hf hq => by
      simp only [finTwo, Bool.and_eq_true, decide_eq_true_eq] at hf
      obtain ⟨⟨⟨f1, f2⟩, f3⟩, f4⟩ := hf
      refine ⟨by rw [f1]; simp, fun i hi => ?_⟩
      rw [f1] at hi
      have hi' : i = q ∨ i = q + 1 := by simpa using hi
      rcases hi' with rfl | rfl
      · refine ⟨by omega, fun h => by omega, fun _ b1 => ⟨by rw [f2]; simp, fun j hj => ?_⟩⟩
        rw [f2] at hj
        obtain rfl : j = i + 1 := by simpa using hj
        refine ⟨by omega, fun h => by omega, fun _ b2 => ⟨f4, fun w' hw' => ?_⟩⟩
        obtain ⟨hb, hin, hnd⟩ := hw'
        have g1 := hin (i, b1) (by simp)
        have g2 := hin (i + 1, b2) (by simp)
        simp only [List.map_cons, List.map_nil, List.nodup_cons, List.mem_singleton] at hnd
        have := hq w' b1 b2 hb g1.1 g2.1 (fun e => hnd.1 e.symm) (by rw [← e1.1, ← e1.2.1]; exact g1.2) (by rw [← e2.1, ← e2.2.1]; exact g2.2)
        rw [e1.2.2, e2.2.2]
        exact this
      · refine ⟨by omega, fun h => by omega, fun _ b2 => ⟨by rw [f3]; simp, fun j hj => ?_⟩⟩
        rw [f3] at hj
        obtain rfl : j = q := by simpa using hj
        refine ⟨by omega, fun h => by omega, fun _ b1 => ⟨by rw [Array.setIfInBounds_comm _ _ (by omega)]; exact f4, fun w' hw' => ?_⟩⟩
        obtain ⟨hb, hin, hnd⟩ := hw'
        have g1 := hin (j, b1) (by simp)
        have g2 := hin (j + 1, b2) (by simp)
        simp only [List.map_cons, List.map_nil, List.nodup_cons, List.mem_singleton] at hnd
        have := hq w' b1 b2 hb g1.1 g2.1 (fun e => hnd.1 e) (by rw [← e1.1, ← e1.2.1]; exact g1.2) (by rw [← e2.1, ← e2.2.1]; exact g2.2)
        rw [e1.2.2, e2.2.2, Act.put_comm _ _ _ (by intro d hd hd'; cases hd; cases hd'; exact ht rfl)]
        exact this)
    (l.take q) 0 _ a (fun j hj => by have hj' : j < q := by rw [htl] at hj; exact hj
                                     simp [hj']) (by simpa using htl) inv0 (by rw [htl]; exact hlex) (wpN_of_wpGrow _ _ _ h)
  refine wp_region_any hm ?_
  have := wpAny_of_headN (g := l.toArray.size - (q + 2)) (Q' := Q) hnew (fun listed s a' w' hw' hL => by
    have := wpAny_of_seq (md := .any) (Q' := Q) (l.drop (q + 2)) (q + 2) listed a' w' (fun j => by simp [List.getElem?_drop]) (by rw [hdl]; exact hL.1) (hL.2 w' hw')
    rwa [hdl] at this) _ _ _ _ _ hNC H
  rw [htl, show q + 2 + (l.toArray.size - (q + 2)) = l.toArray.size by omega] at this
  exact this

/-- THE LAW FOR ONE. -/
theorem wp_region_one {W : World} (z1 : Array Value) (y1 : TypeId) (t1 : Tmp) {id : Nat} {Q : Exit → Act → World → Prop} {a : Act} {l : List Oper} (q : Nat) (hm : P.follows .mixedOrders = true) (hB : oneB l.toArray q = true)
    (h1 : LaysNew P l[q]? t1 z1 y1)
    (h : wpGrow P l.toArray W (fun a' => ∀ (w' : World) (b1 : Nat), Below W.heap.size W w' → W.heap.size ≤ b1 → Blk w' b1 z1 y1 →
      wpList P l.toArray Q (l.drop (q + 1)) (a'.put (some t1) (.pointer (some ⟨b1, 0, none⟩))) w') (l.take q) a) : (Code.region id l.toArray true).wp P Q a W := by
  simp only [oneB, Bool.and_eq_true, decide_eq_true_eq] at hB
  obtain ⟨⟨⟨⟨hsel, hn⟩, hs⟩, hc⟩, hlex⟩ := hB
  have hn' : q + 1 < l.length := by simpa using hn
  have htl : (l.take q).length = q := by simp; omega
  have hdl : (l.drop (q + 1)).length = l.toArray.size - (q + 1) := by simp
  obtain ⟨o1, ho1, hd1, hg1, hs1, hr1⟩ := h1
  have hnew : ∀ i, q ≤ i → i < q + 1 → IsNew P l.toArray (fun _ => z1) (fun _ => y1) (fun _ => t1) i := fun i hi hi2 => by
    obtain rfl : i = q := by omega
    exact ⟨o1, by simpa using ho1, hd1, hg1, hs1, fun ev w => hr1 ev w⟩
  have inv0 : HeadInv .any l.toArray (q + 1) (Array.replicate l.toArray.size false) :=
    ⟨by simp, fun j oj _ hl => (by rw [getD_replicate_false] at hl; cases hl), fun t _ ht => getD_in (by simpa using ht) (getD_replicate_false _ _)⟩
  have hNC : NC W (fun _ => z1) (fun _ => y1) [] W.drew := ⟨(Below.refl _ _).drew, fun p hp => (by cases hp), List.nodup_nil⟩
  have H := headN_lex (fin := finOne .any l.toArray q (l.toArray.size - (q + 1))) (t := fun _ => t1) (C := NC W (fun _ => z1) (fun _ => y1)) (md := .any) (g := 1) (q := q) (n := q + 1)
    (L := fun listed s a' => Region.seqB .any l.toArray (l.toArray.size - (q + 1)) (q + 1) listed = true ∧ ∀ w', NC W (fun _ => z1) (fun _ => y1) s w' → wpList P l.toArray Q (l.drop (q + 1)) a' w')
    hsel hs hc hn (by omega) (fun i hi hi2 => by obtain ⟨o, ho, hd, _⟩ := (hnew i hi hi2).at_; exact ⟨o, ho, hd⟩) (fun listed s a' hL => seqB_ready hL.1)
    (fun listed a' inv hf hq => by
      simp only [finOne, Bool.and_eq_true, decide_eq_true_eq] at hf
      obtain ⟨f1, f4⟩ := hf
      refine ⟨by rw [f1]; simp, fun i hi => ?_⟩
      rw [f1] at hi
      obtain rfl : i = q := by simpa using hi
      refine ⟨by omega, fun h => by omega, fun _ b1 => ⟨f4, fun w' hw' => ?_⟩⟩
      obtain ⟨hb, hin, _⟩ := hw'
      have g1 := hin (i, b1) (by simp)
      exact hq w' b1 hb g1.1 g1.2)
    (l.take q) 0 _ a (fun j hj => by have hj' : j < q := by rw [htl] at hj; exact hj
                                     simp [hj']) (by simpa using htl) inv0 (by rw [htl]; exact hlex) (wpN_of_wpGrow _ _ _ h)
  refine wp_region_any hm ?_
  have := wpAny_of_headN (g := l.toArray.size - (q + 1)) (Q' := Q) hnew (fun listed s a' w' hw' hL => by
    have := wpAny_of_seq (md := .any) (Q' := Q) (l.drop (q + 1)) (q + 1) listed a' w' (fun j => by simp [List.getElem?_drop]) (by rw [hdl]; exact hL.1) (hL.2 w' hw')
    rwa [hdl] at this) _ _ _ _ _ hNC H
  rw [htl, show q + 1 + (l.toArray.size - (q + 1)) = l.toArray.size by omega] at this
  exact this
end

end Go.Proofs.Ytlbhnicengolfaa
