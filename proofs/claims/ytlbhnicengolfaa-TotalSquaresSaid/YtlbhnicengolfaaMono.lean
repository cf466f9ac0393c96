/-
  A region that draws its order, whose operations each keep what lies in memory and may lay new blocks: for each operation one word on the value that it leaves, which stays true while memory grows; an operation needs only the words of those that it waits for. One step for each operation serves every order.
-/
import Derived.Test.YtlbhnicengolfaaTwoNew
namespace Go.Proofs.Ytlbhnicengolfaa
open Go.RowKit

section
variable {P : Program}

def stepUpon (P : Program) (w : World) (G : World → Value → Prop) : Result Next → Prop
  | .ok (.value v) w' => Below w.heap.size w w' ∧ G w' v
  | .ok (.enter f args) w' => Calls P f args w' fun e w'' => ∃ v, e = .returned v ∧ Below w.heap.size w w'' ∧ G w'' v
  | _ => False

/-- Order, places and numbers are as the law wants them: each operation waits only for earlier ones, writes one slot of the first n, and no slot is written twice. -/
def monoB (l : List Oper) (n : Nat) : Bool :=
  ((List.range l.length).all fun i => ((l[i]?).map fun o => (o.after.all fun e => decide (e.on < i)) && (o.dst.map fun t => decide (t < n)).getD false).getD false) &&
  decide ((l.map (·.dst)).Nodup)

/-- What the operation i meets. -/
structure Meets (W : World) (l : List Oper) (a0 : Act) (Good : Nat → World → Value → Prop) (o : Oper) (a : Act) (w : World) : Prop where
  be : Below W.heap.size W w
  defers : a.defers = a0.defers
  old : ∀ t, (l.all fun o => o.dst != some t) = true → a.tmps.getD t undef = a0.tmps.getD t undef
  val : ∀ j t, (o.after.toList.any fun e => Region.binds .any e && e.on == j) = true → (l[j]?).bind (·.dst) = some t → Good j w (a.tmps.getD t undef)

def MStep (P : Program) (W : World) (l : List Oper) (a0 : Act) (Good : Nat → World → Value → Prop) (i : Nat) (o : Oper) : Prop :=
  ∀ a w, Meets W l a0 Good o a w → Region.wanted o (yielded l.toArray a.tmps) = true ∧ stepUpon P w (Good i) ((execOp a.eval o).run P w)

/-- Between two operations. -/
structure MInv (W : World) (l : List Oper) (a0 : Act) (Good : Nat → World → Value → Prop) (listed : Array Bool) (a : Act) (w : World) : Prop where
  be : Below W.heap.size W w
  defers : a.defers = a0.defers
  size : a.tmps.size = a0.tmps.size
  ls : listed.size = l.length
  old : ∀ t, (l.all fun o => o.dst != some t) = true → a.tmps.getD t undef = a0.tmps.getD t undef
  val : ∀ j t, listed.getD j false = true → (l[j]?).bind (·.dst) = some t → Good j w (a.tmps.getD t undef)

theorem bind_dst {l : List Oper} {j : Nat} {t : Tmp} (h : (l[j]?).bind (·.dst) = some t) : ∃ o, l[j]? = some o ∧ o.dst = some t := by
  cases ho : l[j]? with
  | none => rw [ho] at h; cases h
  | some o => rw [ho] at h; exact ⟨o, rfl, h⟩

theorem nodup_dst {l : List Oper} (h : (l.map (·.dst)).Nodup) {i j : Nat} {o o' : Oper} (hi : l[i]? = some o) (hj : l[j]? = some o') (he : o.dst = o'.dst) : i = j := by
  have hi' : i < (l.map (·.dst)).length := by simpa using (List.getElem?_eq_some_iff.1 hi).1
  have hj' : j < (l.map (·.dst)).length := by simpa using (List.getElem?_eq_some_iff.1 hj).1
  have hne := List.pairwise_iff_getElem.1 h
  have e : (l.map (·.dst))[i] = (l.map (·.dst))[j] := by
    obtain ⟨_, h1⟩ := List.getElem?_eq_some_iff.1 hi
    obtain ⟨_, h2⟩ := List.getElem?_eq_some_iff.1 hj
    rw [List.getElem_map, List.getElem_map, h1, h2]
    exact he
  rcases Nat.lt_trichotomy i j with h1 | h1 | h1
  · exact absurd e (hne i j hi' hj' h1)
  · exact h1
  · exact absurd e.symm (hne j i hj' hi' h1)

variable {W : World} {l : List Oper} {a0 : Act} {Good : Nat → World → Value → Prop} {Q : Exit → Act → World → Prop}

theorem MInv.put (hnd : (l.map (·.dst)).Nodup) (hG : ∀ i w w' v, Good i w v → Below w.heap.size w w' → Good i w' v) {listed : Array Bool} {a : Act} {w w' : World} (h : MInv W l a0 Good listed a w) {i : Nat} {o : Oper} {t : Tmp} {v : Value}
    (hi : l[i]? = some o) (ht : o.dst = some t) (hn : t < a0.tmps.size) (hb : Below w.heap.size w w') (hv : Good i w' v) : MInv W l a0 Good (listed.setIfInBounds i true) (a.put o.dst v) w' := by
  rw [ht]
  have hput : ∀ k, (a.put (some t) v).tmps.getD k undef = if k = t then v else a.tmps.getD k undef := fun k => by
    show (a.tmps.setIfInBounds t v).getD k undef = _
    have hts : t < a.tmps.size := by rw [h.size]; exact hn
    split
    · rename_i e
      subst e
      simp [hts]
    · rename_i e
      simp [Array.getElem?_setIfInBounds_ne (fun e' => e e'.symm)]
  refine ⟨h.be.trans (hb.mono h.be.size), h.defers, by show (a.tmps.setIfInBounds t v).size = _; rw [Array.size_setIfInBounds]; exact h.size, by rw [Array.size_setIfInBounds]; exact h.ls, ?_, ?_⟩
  · intro k hk
    rw [hput, if_neg, h.old k hk]
    rintro rfl
    have := List.all_eq_true.1 hk o (List.mem_of_getElem? hi)
    rw [ht] at this
    simp at this
  · intro j k hj hk
    obtain ⟨oj, hoj, hdj⟩ := bind_dst hk
    by_cases e : j = i
    · subst e
      rw [hoj] at hi
      cases hi
      rw [ht] at hdj
      cases hdj
      rw [hput, if_pos rfl]
      exact hv
    · have hne : k ≠ t := fun e' => e (nodup_dst hnd hoj hi (by rw [hdj, ht, e']))
      rw [hput, if_neg hne]
      rw [getD_set_ne false (Ne.symm e)] at hj
      exact hG _ _ _ _ (h.val j k hj hk) hb

theorem unl_set {listed : Array Bool} {i : Nat} (hi : listed.getD i true = false) : (listed.setIfInBounds i true).toList.countP (fun b => !b) + 1 = listed.toList.countP fun b => !b := by
  have hlt : i < listed.size := by
    rcases Nat.lt_or_ge i listed.size with h | h
    · exact h
    · simp [Array.getElem?_eq_none h] at hi
  have hv : listed.toList[i]'(by simpa using hlt) = false := by
    simp [hlt] at hi
    simpa using hi
  rw [Array.toList_setIfInBounds, List.countP_set (by simpa using hlt)]
  rw [hv]
  have : 0 < listed.toList.countP fun b => !b := List.countP_pos_iff.2 ⟨false, by rw [← hv]; exact List.getElem_mem _, rfl⟩
  simp only [Bool.not_false, if_true, Bool.not_true, Bool.false_eq_true, if_false]
  omega

theorem wpAny_mono {n : Nat} (hB : monoB l n = true) (hn : a0.tmps.size = n) (hG : ∀ i w w' v, Good i w v → Below w.heap.size w w' → Good i w' v) (hs : ∀ i o, l[i]? = some o → MStep P W l a0 Good i o)
    (hfin : ∀ a w, MInv W l a0 Good (Array.replicate l.length true) a w → Q .normal a w) :
    ∀ (f : Nat) (listed : Array Bool) (a : Act) (w : World), (listed.toList.countP fun b => !b) = f → MInv W l a0 Good listed a w → wpAny P .any l.toArray Q f listed a w := by
  unfold monoB at hB
  rw [Bool.and_eq_true, decide_eq_true_eq] at hB
  obtain ⟨hB, hnd⟩ := hB
  have hat : ∀ (i : Nat) (o : Oper), l[i]? = some o → (∀ e ∈ o.after, e.on < i) ∧ ∃ t, o.dst = some t ∧ t < n := fun i o hi => by
    have h1 := List.all_eq_true.1 hB i (List.mem_range.2 (List.getElem?_eq_some_iff.1 hi).1)
    rw [hi] at h1
    simp only [Option.map_some, Option.getD_some, Bool.and_eq_true] at h1
    refine ⟨fun e he => by simpa using (Array.all_eq_true_iff_forall_mem.1 h1.1) e he, ?_⟩
    cases hd : o.dst with
    | none => rw [hd] at h1; simp at h1
    | some t => rw [hd] at h1; exact ⟨t, rfl, by simpa using h1.2⟩
  have hnone : ∀ (listed : Array Bool) (a : Act) (w : World), MInv W l a0 Good listed a w → Region.ready .any l.toArray listed = [] → Q .normal a w := fun listed a w inv h0 => by
    have key : ∀ i, i < l.length → listed.getD i false = true := fun i => by
      induction i using Nat.strongRecOn with
      | ind i ih =>
        intro hi
        cases hl : listed.getD i false with
        | true => rfl
        | false =>
          have hm : i ∈ Region.ready .any l.toArray listed := by
            refine mem_ready.2 ⟨getD_in (by rw [inv.ls]; exact hi) hl, l[i], by simp [hi], fun e he hb => ?_⟩
            have h1 := (hat i l[i] (List.getElem?_eq_getElem hi)).1 e he
            exact ih _ h1 (by omega)
          rw [h0] at hm
          cases hm
    refine hfin a w ⟨inv.be, inv.defers, inv.size, by simp, inv.old, fun j t hj hk => inv.val j t ?_ hk⟩
    obtain ⟨o, ho, _⟩ := bind_dst hk
    exact key j (List.getElem?_eq_some_iff.1 ho).1
  intro f
  induction f with
  | zero =>
    intro listed a w hc inv
    have h0 : Region.ready .any l.toArray listed = [] := by
      rcases hr : Region.ready .any l.toArray listed with _ | ⟨i, r⟩
      · rfl
      · have hm : i ∈ Region.ready .any l.toArray listed := by rw [hr]; exact List.mem_cons_self
        have := unl_set (mem_ready.1 hm).1
        omega
    exact ⟨h0, hnone listed a w inv h0⟩
  | succ f ih =>
    intro listed a w hc inv
    refine ⟨hnone listed a w inv, fun i hi => ?_⟩
    obtain ⟨hun, o, ho, hall⟩ := mem_ready.1 hi
    have ho' : l[i]? = some o := by simpa using ho
    obtain ⟨_, t, ht, htn⟩ := hat i o ho'
    have hmt : Meets W l a0 Good o a w := ⟨inv.be, inv.defers, inv.old, fun j k hj hk => by
      obtain ⟨e, he, h2⟩ := List.any_eq_true.1 hj
      rw [Bool.and_eq_true, beq_iff_eq] at h2
      exact inv.val j k (h2.2 ▸ hall e (Array.mem_toList_iff.1 he) h2.1) hk⟩
    obtain ⟨hw, hst⟩ := hs i o ho' a w hmt
    unfold wpOp
    simp only [ho]
    rw [if_pos hw]
    refine .inl ?_
    have hnx : ∀ v w', Below w.heap.size w w' → Good i w' v → wpAny P .any l.toArray Q f (listed.setIfInBounds i true) (a.put o.dst v) w' := fun v w' hb hv =>
      ih _ _ _ (by have := unl_set hun; omega) (inv.put hnd hG ho' ht (by rw [hn]; exact htn) hb hv)
    unfold Oper.wp
    generalize (execOp a.eval o).run P w = r at *
    cases r with
    | halt x w' => exact hst.elim
    | ok nx w' =>
      cases nx with
      | value v => exact hnx v w' hst.1 hst.2
      | enter fn args => exact Calls.mono hst fun e w'' ⟨v, he, hb, hv⟩ => by subst he; exact hnx v w'' hb hv
      | _ => exact hst.elim

end

section
variable {P : Program} {W : World} {a0 : Act} {Good : Nat → World → Value → Prop}

def AllM (P : Program) (W : World) (l : List Oper) (a0 : Act) (Good : Nat → World → Value → Prop) : Nat → List Oper → Prop
  | _, [] => True
  | i, o :: r => MStep P W l a0 Good i o ∧ AllM P W l a0 Good (i + 1) r
theorem allM_at {l : List Oper} : ∀ (r : List Oper) (k : Nat), AllM P W l a0 Good k r → ∀ i o, r[i]? = some o → MStep P W l a0 Good (k + i) o
  | [], _, _, i, o, h => by simp at h
  | o' :: r, k, hA, 0, o, h => by
    simp only [List.getElem?_cons_zero, Option.some.injEq] at h
    subst h
    exact hA.1
  | o' :: r, k, hA, i + 1, o, h => by
    have := allM_at r (k + 1) hA.2 i o (by simpa using h)
    rwa [show k + (i + 1) = k + 1 + i by omega]

theorem wanted_none {l : List Oper} {o : Oper} {tm : Array Value} (h : o.guard = none) : Region.wanted o (yielded l.toArray tm) = true := by simp [Region.wanted, h]
theorem wanted_some {l : List Oper} {o : Oper} {tm : Array Value} {g : Nat} {b : Bool} {t : Tmp} (h : o.guard = some (g, b)) (hd : (l[g]?).bind (·.dst) = some t) (hv : tm.getD t undef = .bool b) : Region.wanted o (yielded l.toArray tm) = true := by
  have e : tm[t]? = some (.bool b) := by
    cases ht : tm[t]? with
    | none => simp [ht, undef] at hv
    | some v => simp [ht] at hv; rw [hv]
  simp [Region.wanted, h, yielded, hd, e]
/-- THE LAW. -/
theorem wp_region_mono {id : Nat} {n : Nat} {Q : Exit → Act → World → Prop} (W : World) (l : List Oper) (Good : Nat → World → Value → Prop) (hm : P.follows .mixedOrders = true) (hB : monoB l n = true) (hn : a0.tmps.size = n)
    (hG : ∀ i w w' v, Good i w v → Below w.heap.size w w' → Good i w' v) (hs : AllM P W l a0 Good 0 l)
    (hfin : ∀ a w, MInv W l a0 Good (Array.replicate l.length true) a w → Q .normal a w) : (Code.region id l.toArray true).wp P Q a0 W := by
  refine wp_region_any hm ?_
  refine wpAny_mono hB hn hG (fun i o h => by have := allM_at _ 0 hs i o h; rwa [Nat.zero_add] at this) hfin _ _ _ _ ?_ ⟨(Below.refl _ _).drew, rfl, rfl, by simp, fun t _ => rfl, fun j t hj => ?_⟩
  · simp [Array.toList_replicate, List.countP_replicate]
  · rw [getD_replicate_false] at hj
    cases hj
end

end Go.Proofs.Ytlbhnicengolfaa
