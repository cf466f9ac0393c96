/-
  The law of a drawn region with a tail, where some operations of the head lay new blocks: their places differ.
-/
import Derived.Test.YtlbhnicengolfaaRegs
namespace Go.Proofs.Ytlbhnicengolfaa
open Go.RowKit
set_option linter.unusedVariables false
set_option linter.unusedSimpArgs false

section
variable {P : Program} {W : World} {l : List Oper} {a0 : Act} {Good : Nat → World → Value → Prop} {Q : Exit → Act → World → Prop}

/-- What holds while operations of the head (the first q) are still to come. -/
structure NInv (F : Nat → Bool) (W : World) (l : List Oper) (q : Nat) (a0 : Act) (Good : Nat → World → Value → Prop) (listed : Array Bool) (a : Act) (w : World) : Prop where
  be : Below W.heap.size W w
  defers : a.defers = a0.defers
  size : a.tmps.size = a0.tmps.size
  hd : HeadInv .any l.toArray q listed
  old : ∀ t, ((l.take q).all fun o => o.dst != some t) = true → a.tmps.getD t undef = a0.tmps.getD t undef
  val : ∀ j t, listed.getD j false = true → (l[j]?).bind (·.dst) = some t → Good j w (a.tmps.getD t undef)
  ne : ∀ i j t u, F i = true → F j = true → i ≠ j → listed.getD i false = true → listed.getD j false = true → (l[i]?).bind (·.dst) = some t → (l[j]?).bind (·.dst) = some u → a.tmps.getD t undef ≠ a.tmps.getD u undef
def freshUpon (w : World) : Result Next → Prop
  | .ok (.value v) _ => ∃ b, v = .pointer (some ⟨b, 0, none⟩) ∧ w.heap.size ≤ b
  | _ => False
def MStepN (P : Program) (F : Nat → Bool) (W : World) (l : List Oper) (q : Nat) (a0 : Act) (Good : Nat → World → Value → Prop) (i : Nat) (o : Oper) : Prop :=
  ∀ a w, MeetsT W l q a0 Good o a w → Region.wanted o (yielded l.toArray a.tmps) = true ∧ stepUpon P w (Good i) ((execOp a.eval o).run P w) ∧ (F i = true → freshUpon w ((execOp a.eval o).run P w))

theorem NInv.put {F : Nat → Bool} (hF : ∀ i w v, F i = true → Good i w v → ∃ b, v = .pointer (some ⟨b, 0, none⟩) ∧ b < w.heap.size) {q : Nat} (hnd : ((l.take q).map (·.dst)).Nodup) (hG : ∀ i w w' v, Good i w v → Below w.heap.size w w' → Good i w' v) {listed : Array Bool} {a : Act} {w w' : World} (h : NInv F W l q a0 Good listed a w) {i : Nat} {o : Oper} {t : Tmp} {v : Value}
    (hi : l[i]? = some o) (hiq : i < q) (hr : i ∈ Region.ready .any l.toArray listed) (ht : o.dst = some t) (hn : t < a0.tmps.size) (hb : Below w.heap.size w w') (hv : Good i w' v) (hfr : F i = true → ∃ b, v = .pointer (some ⟨b, 0, none⟩) ∧ w.heap.size ≤ b) : NInv F W l q a0 Good (listed.setIfInBounds i true) (a.put o.dst v) w' := by
  rw [ht]
  have hput : ∀ k, (a.put (some t) v).tmps.getD k undef = if k = t then v else a.tmps.getD k undef := fun k => by
    show (a.tmps.setIfInBounds t v).getD k undef = _
    have hts : t < a.tmps.size := by rw [h.size]; exact hn
    split
    · rename_i e
      subst e
      simp [hts]
    · rename_i e
      simp [Array.getElem?_setIfInBounds_ne (fun e' => e e'.symm)]
  have hnd' := hnd
  refine ⟨h.be.trans (hb.mono h.be.size), h.defers, by show (a.tmps.setIfInBounds t v).size = _; rw [Array.size_setIfInBounds]; exact h.size, h.hd.set hr hiq, ?_, ?_, ?_⟩
  · intro k hk
    rw [hput, if_neg, h.old k hk]
    rintro rfl
    have := List.all_eq_true.1 hk o (List.mem_of_getElem? (i := i) (by rw [List.getElem?_take]; simp [hiq, hi]))
    rw [ht] at this
    simp at this
  · intro j k hj hk
    obtain ⟨oj, hoj, hdj⟩ := bind_dst hk
    by_cases e : j = i
    · subst e
      rw [hoj] at hi
      cases hi
      rw [ht] at hdj
      cases hdj
      rw [hput, if_pos rfl]
      exact hv
    · rw [getD_set_ne false (Ne.symm e)] at hj
      have hjq : j < q := by
        by_cases hjq : j < q
        · exact hjq
        · have h1 := h.hd.tail j (by omega) (by simpa using (List.getElem?_eq_some_iff.1 hoj).1)
          rw [getD_both h1] at hj
          cases hj
      have hne : k ≠ t := fun e' => e (nodup_dst hnd (by rw [List.getElem?_take, if_pos hjq]; exact hoj) (by rw [List.getElem?_take, if_pos hiq]; exact hi) (by rw [hdj, ht, e']))
      rw [hput, if_neg hne]
      exact hG _ _ _ _ (h.val j k hj hk) hb
  · have slot : ∀ j k, (listed.setIfInBounds i true).getD j false = true → (l[j]?).bind (·.dst) = some k → j ≠ i → listed.getD j false = true ∧ k ≠ t := fun j k hj hk e => by
      obtain ⟨oj, hoj, hdj⟩ := bind_dst hk
      rw [getD_set_ne false (Ne.symm e)] at hj
      have hjq : j < q := by
        by_cases hjq : j < q
        · exact hjq
        · have h1 := h.hd.tail j (by omega) (by simpa using (List.getElem?_eq_some_iff.1 hoj).1)
          rw [getD_both h1] at hj
          cases hj
      exact ⟨hj, fun e' => e (nodup_dst hnd (by rw [List.getElem?_take, if_pos hjq]; exact hoj) (by rw [List.getElem?_take, if_pos hiq]; exact hi) (by rw [hdj, ht, e']))⟩
    have new : ∀ j k, F j = true → F i = true → j ≠ i → listed.getD j false = true → (l[j]?).bind (·.dst) = some k → a.tmps.getD k undef ≠ v := fun j k hj hiF e hl hk heq => by
      obtain ⟨b, hb1, hb2⟩ := hF j w _ hj (h.val j k hl hk)
      obtain ⟨c, hc1, hc2⟩ := hfr hiF
      rw [hb1, hc1] at heq
      injection heq with heq
      injection heq with heq
      injection heq with heq
      omega
    have self : ∀ k, (l[i]?).bind (·.dst) = some k → k = t := fun k hk => by
      obtain ⟨oi, hoi, hdi⟩ := bind_dst hk
      rw [hi] at hoi
      cases hoi
      rw [ht] at hdi
      cases hdi
      rfl
    intro j1 j2 k1 k2 f1 f2 hne l1 l2 d1 d2
    by_cases e1 : j1 = i
    · subst e1
      obtain rfl := self k1 d1
      obtain ⟨l2', n2⟩ := slot j2 k2 l2 d2 (Ne.symm hne)
      rw [hput, hput, if_pos rfl, if_neg n2]
      exact (new j2 k2 f2 f1 (Ne.symm hne) l2' d2).symm
    · obtain ⟨l1', n1⟩ := slot j1 k1 l1 d1 e1
      by_cases e2 : j2 = i
      · subst e2
        obtain rfl := self k2 d2
        rw [hput, hput, if_pos rfl, if_neg n1]
        exact new j1 k1 f1 f2 e1 l1' d1
      · obtain ⟨l2', n2⟩ := slot j2 k2 l2 d2 e2
        rw [hput, hput, if_neg n1, if_neg n2]
        exact h.ne j1 j2 k1 k2 f1 f2 hne l1' l2' d1 d2

theorem wpAny_monoN {F : Nat → Bool} (hF : ∀ i w v, F i = true → Good i w v → ∃ b, v = .pointer (some ⟨b, 0, none⟩) ∧ b < w.heap.size) {n q : Nat} (hB : monoTB l n q = true) (hn : a0.tmps.size = n) (hG : ∀ i w w' v, Good i w v → Below w.heap.size w w' → Good i w' v) (hs : ∀ i o, i < q → l[i]? = some o → MStepN P F W l q a0 Good i o)
    (hfin : ∀ a w, Below W.heap.size W w → a.defers = a0.defers → a.tmps.size = n → (∀ t, ((l.take q).all fun o => o.dst != some t) = true → a.tmps.getD t undef = a0.tmps.getD t undef) → (∀ j t, j < q → (l[j]?).bind (·.dst) = some t → Good j w (a.tmps.getD t undef)) → (∀ i j t u, F i = true → F j = true → i ≠ j → i < q → j < q → (l[i]?).bind (·.dst) = some t → (l[j]?).bind (·.dst) = some u → a.tmps.getD t undef ≠ a.tmps.getD u undef) →
      wpList P l.toArray Q (l.drop q) a w) :
    ∀ (f : Nat) (listed : Array Bool) (a : Act) (w : World), (listed.toList.take q).countP (fun b => !b) = f → NInv F W l q a0 Good listed a w → wpAny P .any l.toArray Q (f + (l.length - q)) listed a w := by
  unfold monoTB at hB
  simp only [Bool.and_eq_true, decide_eq_true_eq] at hB
  obtain ⟨⟨⟨⟨⟨hB, hnd⟩, hql⟩, hsink⟩, hchain⟩, hseq⟩ := hB
  have hat : ∀ (i : Nat) (o : Oper), i < q → l[i]? = some o → (∀ e ∈ o.after, Region.binds .any e = true → e.on < i) ∧ ∃ t, o.dst = some t ∧ t < n := fun i o hiq hi => by
    have h1 := List.all_eq_true.1 hB i (List.mem_range.2 hiq)
    rw [hi] at h1
    simp only [Option.map_some, Option.getD_some, Bool.and_eq_true] at h1
    refine ⟨fun e he hb => ?_, ?_⟩
    · have := (Array.all_eq_true_iff_forall_mem.1 h1.1) e he
      simpa [hb] using this
    · cases hd : o.dst with
      | none => rw [hd] at h1; simp at h1
      | some t => rw [hd] at h1; exact ⟨t, rfl, by simpa using h1.2⟩
  have hex : ∀ listed : Array Bool, HeadInv .any l.toArray q listed → (∃ i, i < q ∧ listed.getD i false = false) → ∃ i, i < q ∧ i ∈ Region.ready .any l.toArray listed := fun listed inv ⟨i, hi, hf⟩ => by
    have hsz : listed.size = l.length := by simpa using inv.size
    induction i using Nat.strongRecOn with
    | ind i ih =>
      by_cases h : ∀ e ∈ (l[i]'(by omega)).after, Region.binds .any e = true → listed.getD e.on false = true
      · exact ⟨i, hi, mem_ready.2 ⟨getD_in (by rw [hsz]; omega) hf, l[i]'(by omega), by simp, h⟩⟩
      · simp only [Classical.not_forall] at h
        obtain ⟨e, he, hb, hne⟩ := h
        have hlt := (hat i _ hi (List.getElem?_eq_getElem (by omega))).1 e he hb
        exact ih e.on hlt (by omega) (by simpa using hne)
  intro f
  induction f with
  | zero =>
    intro listed a w hc inv
    have hall : ∀ i, i < q → listed.getD i false = true := fun i hi => by
      have hsz : listed.size = l.length := by simpa using inv.hd.size
      have h0 := List.countP_eq_zero.1 hc listed[i] (by
        rw [List.mem_take_iff_getElem]
        exact ⟨i, by simp; omega, by simp⟩)
      simp [show i < listed.size by omega]
      simpa using h0
    have hl := head_full inv.hd hall hql
    rw [Nat.zero_add]
    have hdl : (l.drop q).length = l.length - q := by simp
    have := wpAny_of_seq (md := .any) (P := P) (ops := l.toArray) (Q' := Q) (l.drop q) q listed a w (fun j => by simp [List.getElem?_drop]) (by rw [hdl, hl]; exact hseq)
      (hfin a w inv.be inv.defers (by rw [inv.size]; exact hn) inv.old (fun j t hj hk => inv.val j t (hall j hj) hk) (fun i j t u f1 f2 hne hi hj d1 d2 => inv.ne i j t u f1 f2 hne (hall i hi) (hall j hj) d1 d2))
    rwa [hdl] at this
  | succ f ih =>
    intro listed a w hc inv
    have hsz : listed.size = l.length := by simpa using inv.hd.size
    have hun : ∃ i, i < q ∧ listed.getD i false = false := by
      have hpos : 0 < (listed.toList.take q).countP (fun b => !b) := by omega
      obtain ⟨b, hb, hbf⟩ := List.countP_pos_iff.1 hpos
      obtain ⟨i, hi, rfl⟩ := List.mem_take_iff_getElem.1 hb
      simp only [Nat.lt_min] at hi
      refine ⟨i, hi.1, ?_⟩
      have : i < listed.size := by simpa using hi.2
      simp [this]
      simpa using hbf
    obtain ⟨i0, hi0, hr0⟩ := hex listed inv.hd hun
    rw [show f + 1 + (l.length - q) = (f + (l.length - q)) + 1 by omega]
    refine ⟨fun h => (by rw [h] at hr0; cases hr0), fun i hi => ?_⟩
    have hiq : i < q := by
      rcases Nat.lt_or_ge i q with h | h
      · exact h
      · obtain ⟨i1, hi1, hf1⟩ := hun
        exact absurd hi (tail_waits hsink hchain (by simpa using hql) inv.hd _ i1 rfl hi1 (getD_in (by rw [hsz]; omega) hf1) i h)
    obtain ⟨hunl, o, ho, hall⟩ := mem_ready.1 hi
    have ho' : l[i]? = some o := by simpa using ho
    obtain ⟨_, t, ht, htn⟩ := hat i o hiq ho'
    have hmt : MeetsT W l q a0 Good o a w := ⟨inv.be, inv.defers, inv.old, fun j k hj hk => by
      obtain ⟨e, he, h2⟩ := List.any_eq_true.1 hj
      rw [Bool.and_eq_true, beq_iff_eq] at h2
      exact inv.val j k (h2.2 ▸ hall e (Array.mem_toList_iff.1 he) h2.1) hk⟩
    obtain ⟨hw, hst, hfr⟩ := hs i o hiq ho' a w hmt
    unfold wpOp
    simp only [ho]
    rw [if_pos hw]
    refine .inl ?_
    have hcnt : ((listed.setIfInBounds i true).toList.take q).countP (fun b => !b) = f := by
      have hil : i < (listed.toList.take q).length := by simp; omega
      have hv : (listed.toList.take q)[i] = false := by
        have : i < listed.size := by omega
        simp [this] at hunl
        simpa using hunl
      rw [Array.toList_setIfInBounds, List.take_set, List.countP_set hil, hv]
      simp
      have : 0 < (listed.toList.take q).countP (fun b => !b) := by omega
      omega
    have hnx : ∀ v w', Below w.heap.size w w' → Good i w' v → (F i = true → ∃ b, v = .pointer (some ⟨b, 0, none⟩) ∧ w.heap.size ≤ b) → wpAny P .any l.toArray Q (f + (l.length - q)) (listed.setIfInBounds i true) (a.put o.dst v) w' := fun v w' hb hv hf =>
      ih _ _ _ hcnt (inv.put hF hnd hG ho' hiq hi ht (by rw [hn]; exact htn) hb hv hf)
    unfold Oper.wp
    generalize (execOp a.eval o).run P w = r at *
    cases r with
    | halt x w' => exact hst.elim
    | ok nx w' =>
      cases nx with
      | value v => exact hnx v w' hst.1 hst.2 hfr
      | enter fn args => exact Calls.mono hst fun e w'' ⟨v, he, hb, hv⟩ => by subst he; exact hnx v w'' hb hv (fun h => (hfr h).elim)
      | _ => exact hst.elim

def AllN (P : Program) (F : Nat → Bool) (W : World) (l : List Oper) (q : Nat) (a0 : Act) (Good : Nat → World → Value → Prop) : Nat → List Oper → Prop
  | _, [] => True
  | i, o :: r => MStepN P F W l q a0 Good i o ∧ AllN P F W l q a0 Good (i + 1) r
theorem allN_at {F : Nat → Bool} {l : List Oper} {q : Nat} : ∀ (r : List Oper) (k : Nat), AllN P F W l q a0 Good k r → ∀ i o, r[i]? = some o → MStepN P F W l q a0 Good (k + i) o
  | [], _, _, i, o, h => by simp at h
  | o' :: r, k, hA, 0, o, h => by
    simp only [List.getElem?_cons_zero, Option.some.injEq] at h
    subst h
    exact hA.1
  | o' :: r, k, hA, i + 1, o, h => by
    have := allN_at r (k + 1) hA.2 i o (by simpa using h)
    rwa [show k + (i + 1) = k + 1 + i by omega]

/-- THE LAW WITH A TAIL. -/
theorem wp_region_monoN {F : Nat → Bool} (hF : ∀ i w v, F i = true → Good i w v → ∃ b, v = .pointer (some ⟨b, 0, none⟩) ∧ b < w.heap.size) {id : Nat} {n : Nat} (W : World) (l : List Oper) (q : Nat) (hm : P.follows .mixedOrders = true) (hB : monoTB l n q = true) (hn : a0.tmps.size = n)
    (hG : ∀ i w w' v, Good i w v → Below w.heap.size w w' → Good i w' v) (hs : AllN P F W l q a0 Good 0 (l.take q))
    (hfin : ∀ a w, Below W.heap.size W w → a.defers = a0.defers → a.tmps.size = n → (∀ t, ((l.take q).all fun o => o.dst != some t) = true → a.tmps.getD t undef = a0.tmps.getD t undef) → (∀ j t, j < q → (l[j]?).bind (·.dst) = some t → Good j w (a.tmps.getD t undef)) → (∀ i j t u, F i = true → F j = true → i ≠ j → i < q → j < q → (l[i]?).bind (·.dst) = some t → (l[j]?).bind (·.dst) = some u → a.tmps.getD t undef ≠ a.tmps.getD u undef) →
      wpList P l.toArray Q (l.drop q) a w) : (Code.region id l.toArray true).wp P Q a0 W := by
  refine wp_region_any hm ?_
  have hql : q < l.length := by
    unfold monoTB at hB
    simp only [Bool.and_eq_true, decide_eq_true_eq] at hB
    exact hB.1.1.1.2
  have h0 : ((Array.replicate l.length false).toList.take q).countP (fun b => !b) = q := by
    rw [Array.toList_replicate, List.take_replicate, List.countP_replicate]
    simp
    omega
  have := wpAny_monoN (F := F) hF (P := P) (W := W) (a0 := a0) (Good := Good) (Q := Q) hB hn hG (fun i o hi h => by have := allN_at _ 0 hs i o (by rw [List.getElem?_take, if_pos hi]; exact h); rwa [Nat.zero_add] at this) hfin q (Array.replicate l.length false) a0 W.drew h0
    ⟨(Below.refl _ _).drew, rfl, rfl, ⟨by simp, fun j oj _ hl => (by rw [getD_replicate_false] at hl; cases hl), fun t _ ht => getD_in (by simpa using ht) (getD_replicate_false _ _)⟩, fun t _ => rfl, fun j t hj => (by rw [getD_replicate_false] at hj; cases hj), fun i j t u _ _ _ hi => (by rw [getD_replicate_false] at hi; cases hi)⟩
  rw [show q + (l.length - q) = l.toArray.size by simp; omega] at this
  simpa using this
/-- THE LAW WITH A TAIL, the frame written out. -/
theorem wp_region_monoG (F : Nat → Bool) (hF : ∀ i w v, F i = true → Good i w v → ∃ b, v = .pointer (some ⟨b, 0, none⟩) ∧ b < w.heap.size) {id : Nat} {n : Nat} (W : World) (l : List Oper) (q : Nat) (hm : P.follows .mixedOrders = true) (hB : monoTB l n q = true) (hn : a0.tmps.size = n)
    (hG : ∀ i w w' v, Good i w v → Below w.heap.size w w' → Good i w' v) (hs : AllN P F W l q a0 Good 0 (l.take q))
    (hfin : ∀ (vs : Nat → Value) w, Below W.heap.size W w → (∀ j, j < q → Good j w (vs j)) → (∀ i j, F i = true → F j = true → i < q → j < q → i ≠ j → vs i ≠ vs j) → wpList P l.toArray Q (l.drop q) (putSeq vs a0 (l.take q) 0) w) : (Code.region id l.toArray true).wp P Q a0 W := by
  refine wp_region_monoN (F := F) hF W l q hm hB hn hG hs fun a w hbe hdef hsz hold hval hnes => ?_
  have hB' := hB
  unfold monoTB at hB
  simp only [Bool.and_eq_true, decide_eq_true_eq] at hB
  obtain ⟨⟨⟨⟨⟨hB, hnd⟩, hql⟩, _⟩, _⟩, _⟩ := hB
  have hat : ∀ (i : Nat) (o : Oper), i < q → l[i]? = some o → ∃ t, o.dst = some t ∧ t < n := fun i o hiq hi => by
    have h1 := List.all_eq_true.1 hB i (List.mem_range.2 hiq)
    rw [hi] at h1
    simp only [Option.map_some, Option.getD_some, Bool.and_eq_true] at h1
    cases hd : o.dst with
    | none => rw [hd] at h1; simp at h1
    | some t => rw [hd] at h1; exact ⟨t, rfl, by simpa using h1.2⟩
  have hd : ∀ o ∈ l.take q, ∃ t, o.dst = some t ∧ t < a0.tmps.size := fun o ho => by
    obtain ⟨i, hi, rfl⟩ := List.mem_take_iff_getElem.1 ho
    simp only [Nat.lt_min] at hi
    rw [hn]
    exact hat i _ hi.1 (List.getElem?_eq_getElem hi.2)
  obtain ⟨vs, hvs⟩ : ∃ vs : Nat → Value, vs = fun i => a.tmps.getD (((l[i]?).bind (·.dst)).getD 0) undef := ⟨_, rfl⟩
  have hvs' : ∀ i o t, l[i]? = some o → o.dst = some t → vs i = a.tmps.getD t undef := fun i o t hi ht => by rw [hvs]; simp [hi, ht]
  have ea : a = putSeq vs a0 (l.take q) 0 := by
    have hgd : ∀ k, a.tmps.getD k undef = (putSeq vs a0 (l.take q) 0).tmps.getD k undef := fun k => by
      by_cases hk : ∃ o ∈ l.take q, o.dst = some k
      · obtain ⟨o, ho, hok⟩ := hk
        obtain ⟨j, hj⟩ := List.mem_iff_getElem?.1 ho
        have hjq : j < q := by
          have := (List.getElem?_eq_some_iff.1 hj).1
          simp at this
          omega
        have hj' : l[j]? = some o := by rw [List.getElem?_take, if_pos hjq] at hj; exact hj
        rw [putSeq_at vs _ a0 0 j o k hd hnd hj hok, Nat.zero_add, hvs' j o k hj' hok]
      · rw [putSeq_other vs _ a0 0 k hd (fun o ho e => hk ⟨o, ho, e⟩), hold k]
        rw [List.all_eq_true]
        intro o ho
        simp only [bne_iff_ne, ne_eq]
        exact fun e => hk ⟨o, ho, e⟩
    have htm : a.tmps = (putSeq vs a0 (l.take q) 0).tmps := by
      apply Array.ext
      · rw [putSeq_size, hsz, hn]
      · intro k h1 h2
        have := hgd k
        simp [h1, h2] at this
        exact this
    cases a
    dsimp only at htm hdef
    rw [htm, hdef, ← putSeq_defers vs (l.take q) a0 0]
  rw [ea]
  refine hfin vs w hbe (fun j hj => ?_) (fun i j f1 f2 hi hj hne => ?_)
  rotate_left
  · obtain ⟨t, ht, _⟩ := hat i _ hi (List.getElem?_eq_getElem (by omega))
    obtain ⟨u, hu, _⟩ := hat j _ hj (List.getElem?_eq_getElem (by omega))
    rw [hvs' i _ t (List.getElem?_eq_getElem (by omega)) ht, hvs' j _ u (List.getElem?_eq_getElem (by omega)) hu]
    exact hnes i j t u f1 f2 hne hi hj (by simp [show i < l.length by omega, ht]) (by simp [show j < l.length by omega, hu])
  have hjl : j < l.length := by omega
  obtain ⟨t, ht, _⟩ := hat j _ hj (List.getElem?_eq_getElem hjl)
  rw [hvs' j _ t (List.getElem?_eq_getElem hjl) ht]
  exact hval j t hj (by simp [hjl, ht])
end

end Go.Proofs.Ytlbhnicengolfaa
