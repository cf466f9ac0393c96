/-
  The law of a drawn region by an invariant; of a region 'x, y, z := f, g, h' with all variables in memory: reads, new blocks, stores, in whatever order the edges allow.
-/
import Derived.Test.YtlbhnicengolfaaMonoG
namespace Go.Proofs.Ytlbhnicengolfaa
open Go.RowKit
set_option linter.unusedVariables false
set_option linter.unusedSimpArgs false

section
variable {P : Program} {l : List Oper} {Q : Exit → Act → World → Prop}

def invUpon (P : Program) (o : Oper) (a : Act) (I : Act → World → Prop) : Result Next → Prop
  | .ok (.value v) w' => I (a.put o.dst v) w'
  | .ok .skip w' => I (a.put o.dst undef) w'
  | .ok (.enter f args) w' => Calls P f args w' fun e w'' => ∃ v, e = .returned v ∧ I (a.put o.dst v) w''
  | _ => False
def depB (l : List Oper) : Bool := (List.range l.length).all fun i => ((l[i]?).map fun o => o.after.all fun e => !Region.binds .any e || decide (e.on < i)).getD false

theorem wpAny_inv {I : Array Bool → Act → World → Prop} (hB : depB l = true)
    (hstep : ∀ listed a w i o, I listed a w → listed.size = l.length → l[i]? = some o → listed.getD i true = false → (∀ e ∈ o.after, Region.binds .any e = true → listed.getD e.on false = true) →
      Region.wanted o (yielded l.toArray a.tmps) = true ∧ invUpon P o a (I (listed.setIfInBounds i true)) ((execOp a.eval o).run P w))
    (hfin : ∀ a w, I (Array.replicate l.length true) a w → Q .normal a w) :
    ∀ (f : Nat) (listed : Array Bool) (a : Act) (w : World), (listed.toList.countP fun b => !b) = f → listed.size = l.length → I listed a w → wpAny P .any l.toArray Q f listed a w := by
  have hdep : ∀ (i : Nat) (o : Oper), l[i]? = some o → ∀ e ∈ o.after, Region.binds .any e = true → e.on < i := fun i o hi e he hb => by
    have h1 := List.all_eq_true.1 hB i (List.mem_range.2 (List.getElem?_eq_some_iff.1 hi).1)
    rw [hi] at h1
    simp only [Option.map_some, Option.getD_some] at h1
    have := (Array.all_eq_true_iff_forall_mem.1 h1) e he
    simpa [hb] using this
  have hnone : ∀ (listed : Array Bool) (a : Act) (w : World), listed.size = l.length → I listed a w → Region.ready .any l.toArray listed = [] → Q .normal a w := fun listed a w hs inv h0 => by
    have key : ∀ i, i < l.length → listed.getD i false = true := fun i => by
      induction i using Nat.strongRecOn with
      | ind i ih =>
        intro hi
        cases hl : listed.getD i false with
        | true => rfl
        | false =>
          have hm : i ∈ Region.ready .any l.toArray listed := by
            refine mem_ready.2 ⟨getD_in (by rw [hs]; exact hi) hl, l[i], by simp [hi], fun e he hb => ?_⟩
            have h1 := hdep i l[i] (List.getElem?_eq_getElem hi) e he hb
            exact ih _ h1 (by omega)
          rw [h0] at hm
          cases hm
    have e : listed = Array.replicate l.length true := by
      apply Array.ext
      · rw [hs]; simp
      · intro i h1 h2
        have := key i (by omega)
        simp [h1] at this
        rw [this]
        simp
    exact hfin a w (e ▸ inv)
  intro f
  induction f with
  | zero =>
    intro listed a w hc hs inv
    have h0 : Region.ready .any l.toArray listed = [] := by
      rcases hr : Region.ready .any l.toArray listed with _ | ⟨i, r⟩
      · rfl
      · have hm : i ∈ Region.ready .any l.toArray listed := by rw [hr]; exact List.mem_cons_self
        have := unl_set (mem_ready.1 hm).1
        omega
    exact ⟨h0, hnone listed a w hs inv h0⟩
  | succ f ih =>
    intro listed a w hc hs inv
    refine ⟨hnone listed a w hs inv, fun i hi => ?_⟩
    obtain ⟨hun, o, ho, hall⟩ := mem_ready.1 hi
    have ho' : l[i]? = some o := by simpa using ho
    obtain ⟨hw, hst⟩ := hstep listed a w i o inv hs ho' hun hall
    unfold wpOp
    simp only [ho]
    rw [if_pos hw]
    refine .inl ?_
    have hnx : ∀ a' w', I (listed.setIfInBounds i true) a' w' → wpAny P .any l.toArray Q f (listed.setIfInBounds i true) a' w' := fun a' w' h' =>
      ih _ _ _ (by have := unl_set hun; omega) (by rw [Array.size_setIfInBounds]; exact hs) h'
    unfold Oper.wp
    generalize (execOp a.eval o).run P w = r at *
    cases r with
    | halt x w' => exact hst.elim
    | ok nx w' =>
      cases nx with
      | value v => exact hnx _ w' hst
      | skip => exact hnx _ w' hst
      | enter fn args => exact Calls.mono hst fun e w'' ⟨v, he, hv⟩ => by subst he; exact hnx _ w'' hv
      | _ => exact hst.elim

theorem wp_region_inv {id : Nat} {a0 : Act} {W : World} (I : Array Bool → Act → World → Prop) (hm : P.follows .mixedOrders = true) (hB : depB l = true) (h0 : I (Array.replicate l.length false) a0 W.drew)
    (hstep : ∀ listed a w i o, I listed a w → listed.size = l.length → l[i]? = some o → listed.getD i true = false → (∀ e ∈ o.after, Region.binds .any e = true → listed.getD e.on false = true) →
      Region.wanted o (yielded l.toArray a.tmps) = true ∧ invUpon P o a (I (listed.setIfInBounds i true)) ((execOp a.eval o).run P w))
    (hfin : ∀ a w, I (Array.replicate l.length true) a w → Q .normal a w) : (Code.region id l.toArray true).wp P Q a0 W := by
  refine wp_region_any hm ?_
  have h := wpAny_inv (P := P) (Q := Q) (I := I) hB hstep hfin l.length (Array.replicate l.length false) a0 W.drew (by simp [Array.toList_replicate, List.countP_replicate]) (by simp) h0
  simpa using h

/-- The frame, written out. -/
theorem frame_out {l' : List Oper} {a a0 : Act} {n : Nat} (hn : a0.tmps.size = n) (hsz : a.tmps.size = n) (hdef : a.defers = a0.defers) (hold : ∀ t, (l'.all fun o => o.dst != some t) = true → a.tmps.getD t undef = a0.tmps.getD t undef)
    (hd : ∀ o ∈ l', ∃ t, o.dst = some t ∧ t < n) (hnd : (l'.map (·.dst)).Nodup) : ∃ vs : Nat → Value, a = putSeq vs a0 l' 0 ∧ ∀ i o t, l'[i]? = some o → o.dst = some t → vs i = a.tmps.getD t undef := by
  obtain ⟨vs, hvs⟩ : ∃ vs : Nat → Value, vs = fun i => a.tmps.getD (((l'[i]?).bind (·.dst)).getD 0) undef := ⟨_, rfl⟩
  have hvs' : ∀ i o t, l'[i]? = some o → o.dst = some t → vs i = a.tmps.getD t undef := fun i o t hi ht => by rw [hvs]; simp [hi, ht]
  refine ⟨vs, ?_, hvs'⟩
  have hd' : ∀ o ∈ l', ∃ t, o.dst = some t ∧ t < a0.tmps.size := fun o ho => by rw [hn]; exact hd o ho
  have hgd : ∀ k, a.tmps.getD k undef = (putSeq vs a0 l' 0).tmps.getD k undef := fun k => by
    by_cases hk : ∃ o ∈ l', o.dst = some k
    · obtain ⟨o, ho, hok⟩ := hk
      obtain ⟨j, hj⟩ := List.mem_iff_getElem?.1 ho
      rw [putSeq_at vs _ a0 0 j o k hd' hnd hj hok, Nat.zero_add, hvs' j o k hj hok]
    · rw [putSeq_other vs _ a0 0 k hd' (fun o ho e => hk ⟨o, ho, e⟩), hold k]
      rw [List.all_eq_true]
      intro o ho
      simp only [bne_iff_ne, ne_eq]
      exact fun e => hk ⟨o, ho, e⟩
  have htm : a.tmps = (putSeq vs a0 l' 0).tmps := by
    apply Array.ext
    · rw [putSeq_size, hsz, hn]
    · intro k h1 h2
      have := hgd k
      simp [h1, h2] at this
      exact this
  cases a
  dsimp only at htm hdef
  rw [htm, hdef, ← putSeq_defers vs l' a0 0]

/-! ### boxes -/
structure Box where
  slot : Tmp
  zero : Array Value
  fin : Array Value
  ty : TypeId

def boxB (l : List Oper) (q n N : Nat) : Bool :=
  decide (l.length = q + 2 * n) && depB l &&
  ((List.range (q + n)).all fun i => ((l[i]?).map fun o => (o.dst.map fun t => decide (t < N)).getD false).getD false) &&
  decide (((l.take (q + n)).map (·.dst)).Nodup) &&
  ((List.range n).all fun j => ((l[q + n + j]?).map fun o => o.dst.isNone && o.guard.isNone && o.after.toList.any fun e => Region.binds .any e && e.on == q + j).getD false)

structure BInv (W : World) (l : List Oper) (q n : Nat) (bx : Nat → Box) (a0 : Act) (Good : Nat → Value → Prop) (listed : Array Bool) (a : Act) (w : World) : Prop where
  be : Below W.heap.size W w
  defers : a.defers = a0.defers
  size : a.tmps.size = a0.tmps.size
  old : ∀ t, ((l.take (q + n)).all fun o => o.dst != some t) = true → a.tmps.getD t undef = a0.tmps.getD t undef
  val : ∀ j t, j < q → listed.getD j false = true → (l[j]?).bind (·.dst) = some t → Good j (a.tmps.getD t undef)
  box : ∀ j, j < n → listed.getD (q + j) false = true → ∃ b, a.tmps.getD (bx j).slot undef = .pointer (some ⟨b, 0, none⟩) ∧ W.heap.size ≤ b ∧ Blk w b (if listed.getD (q + n + j) false then (bx j).fin else (bx j).zero) (bx j).ty
  dep : ∀ j, j < n → listed.getD (q + n + j) false = true → listed.getD (q + j) false = true
  ne : ∀ i j b c, i < n → j < n → i ≠ j → listed.getD (q + i) false = true → listed.getD (q + j) false = true → a.tmps.getD (bx i).slot undef = .pointer (some ⟨b, 0, none⟩) → a.tmps.getD (bx j).slot undef = .pointer (some ⟨c, 0, none⟩) → b ≠ c

/-- What operation i meets. -/
structure MeetsB (W : World) (l : List Oper) (q n : Nat) (a0 : Act) (Good : Nat → Value → Prop) (o : Oper) (a : Act) (w : World) : Prop where
  be : Below W.heap.size W w
  old : ∀ t, ((l.take (q + n)).all fun o => o.dst != some t) = true → a.tmps.getD t undef = a0.tmps.getD t undef
  val : ∀ j t, j < q → (o.after.toList.any fun e => Region.binds .any e && e.on == j) = true → (l[j]?).bind (·.dst) = some t → Good j (a.tmps.getD t undef)

def readUpon (w : World) (G : Value → Prop) : Result Next → Prop
  | .ok (.value v) w' => w' = w ∧ G v
  | _ => False
def storeUpon (w : World) (b : Nat) (fin : Array Value) (ty : TypeId) : Result Next → Prop
  | .ok (.value _) w' | .ok .skip w' => w.grownBy w' (some b) ∧ w'.heap.size = w.heap.size ∧ Blk w' b fin ty
  | _ => False

def Reads (P : Program) (W : World) (l : List Oper) (q n : Nat) (a0 : Act) (Good : Nat → Value → Prop) : Nat → List Oper → Prop
  | _, [] => True
  | i, o :: r => (∀ a w, MeetsB W l q n a0 Good o a w → Region.wanted o (yielded l.toArray a.tmps) = true ∧ readUpon w (Good i) ((execOp a.eval o).run P w)) ∧ Reads P W l q n a0 Good (i + 1) r
theorem reads_at {W : World} {q n : Nat} {a0 : Act} {Good : Nat → Value → Prop} : ∀ (r : List Oper) (k : Nat), Reads P W l q n a0 Good k r → ∀ i o, r[i]? = some o → ∀ a w, MeetsB W l q n a0 Good o a w → Region.wanted o (yielded l.toArray a.tmps) = true ∧ readUpon w (Good (k + i)) ((execOp a.eval o).run P w)
  | [], k, _, i, o, h => by simp at h
  | o' :: r, k, hA, 0, o, h => by
    simp only [List.getElem?_cons_zero, Option.some.injEq] at h
    subst h
    exact hA.1
  | o' :: r, k, hA, i + 1, o, h => by
    have := reads_at r (k + 1) hA.2 i o (by simpa using h)
    rwa [show k + (i + 1) = k + 1 + i by omega]

theorem grownBy_other {w w' : World} {b k : Nat} {cs : Array Value} {t : TypeId} (h : Blk w k cs t) (hg : w.grownBy w' (some b)) (hne : k ≠ b) : Blk w' k cs t := (hg.block k h.lt (fun e => hne (by injection e))).trans h

/-- THE LAW. -/
theorem wp_region_boxes {id : Nat} {a0 : Act} {W : World} {N : Nat} (q n : Nat) (bx : Nat → Box) (Good : Nat → Value → Prop) (hm : P.follows .mixedOrders = true) (hB : boxB l q n N = true) (hN : a0.tmps.size = N)
    (hnew : ∀ j, j < n → LaysNew P l[q + j]? (bx j).slot (bx j).zero (bx j).ty)
    (hr : Reads P W l q n a0 Good 0 (l.take q))
    (hst : ∀ j o, j < n → l[q + n + j]? = some o → ∀ a w b, MeetsB W l q n a0 Good o a w → a.tmps.getD (bx j).slot undef = .pointer (some ⟨b, 0, none⟩) → W.heap.size ≤ b → Blk w b (bx j).zero (bx j).ty → storeUpon w b (bx j).fin (bx j).ty ((execOp a.eval o).run P w))
    (hfin : ∀ (vs : Nat → Value) (bs : Nat → Nat) w, Below W.heap.size W w → (∀ j, j < q → Good j (vs j)) → (∀ j, j < n → vs (q + j) = .pointer (some ⟨bs j, 0, none⟩) ∧ W.heap.size ≤ bs j ∧ Blk w (bs j) (bx j).fin (bx j).ty) → (∀ i j, i < n → j < n → i ≠ j → bs i ≠ bs j) →
      Q .normal (putSeq vs a0 (l.take (q + n)) 0) w) : (Code.region id l.toArray true).wp P Q a0 W := by
  simp only [boxB, Bool.and_eq_true, decide_eq_true_eq] at hB
  obtain ⟨⟨⟨⟨hlen, hdep⟩, hdst⟩, hnd⟩, hsto⟩ := hB
  have hat : ∀ (i : Nat) (o : Oper), i < q + n → l[i]? = some o → ∃ t, o.dst = some t ∧ t < N := fun i o hiq hi => by
    have h1 := List.all_eq_true.1 hdst i (List.mem_range.2 hiq)
    rw [hi] at h1
    simp only [Option.map_some, Option.getD_some] at h1
    cases hd : o.dst with
    | none => rw [hd] at h1; simp at h1
    | some t => rw [hd] at h1; exact ⟨t, rfl, by simpa using h1⟩
  have hts : ∀ (j : Nat) (o : Oper), j < n → l[q + n + j]? = some o → o.dst = none ∧ o.guard = none ∧ ∃ e ∈ o.after, Region.binds .any e = true ∧ e.on = q + j := fun j o hj hi => by
    have h1 := List.all_eq_true.1 hsto j (List.mem_range.2 hj)
    rw [hi] at h1
    simp only [Option.map_some, Option.getD_some, Bool.and_eq_true] at h1
    obtain ⟨⟨h1, h2⟩, h3⟩ := h1
    refine ⟨by simpa using h1, by simpa using h2, ?_⟩
    obtain ⟨e, he, h4⟩ := List.any_eq_true.1 h3
    rw [Bool.and_eq_true, beq_iff_eq] at h4
    exact ⟨e, Array.mem_toList_iff.1 he, h4⟩
  have hnds : ∀ {i j : Nat} {o o' : Oper}, i < q + n → j < q + n → l[i]? = some o → l[j]? = some o' → o.dst = o'.dst → i = j := fun hi hj h1 h2 he =>
    nodup_dst hnd (by rw [List.getElem?_take, if_pos hi]; exact h1) (by rw [List.getElem?_take, if_pos hj]; exact h2) he
  refine wp_region_inv (BInv W l q n bx a0 Good) hm hdep ?_ ?_ ?_
  · refine ⟨(Below.refl _ _).drew, rfl, rfl, fun _ _ => rfl, fun j t _ hj => ?_, fun j _ hj => ?_, fun j _ hj => ?_, fun i j b c _ _ _ hj => ?_⟩ <;> (rw [getD_replicate_false] at hj; cases hj)
  · intro listed a w i o inv hs hi hun hall
    have hil : i < l.length := (List.getElem?_eq_some_iff.1 hi).1
    have hmt : MeetsB W l q n a0 Good o a w := ⟨inv.be, inv.old, fun j k hjq hj hk => by
      obtain ⟨e, he, h2⟩ := List.any_eq_true.1 hj
      rw [Bool.and_eq_true, beq_iff_eq] at h2
      exact inv.val j k hjq (h2.2 ▸ hall e (Array.mem_toList_iff.1 he) h2.1) hk⟩
    have hput : ∀ (t k : Tmp) (v : Value), t < N → (a.put (some t) v).tmps.getD k undef = if k = t then v else a.tmps.getD k undef := fun t k v ht => put_getD a t k v (by rw [inv.size, hN]; exact ht)
    have hset : ∀ j, j ≠ i → (listed.setIfInBounds i true).getD j false = listed.getD j false := fun j hj => getD_set_ne false (Ne.symm hj)
    by_cases hiq : i < q
    · -- a read
      obtain ⟨hw, hru⟩ := reads_at _ 0 hr i o (by rw [List.getElem?_take, if_pos hiq]; exact hi) a w hmt
      rw [Nat.zero_add] at hru
      refine ⟨hw, ?_⟩
      obtain ⟨t, ht, htN⟩ := hat i o (by omega) hi
      generalize (execOp a.eval o).run P w = r at *
      cases r with
      | halt x w' => exact hru.elim
      | ok nx w' =>
        cases nx with
        | value v =>
          obtain ⟨rfl, hv⟩ := hru
          show BInv W l q n bx a0 Good (listed.setIfInBounds i true) (a.put o.dst v) w'
          rw [ht]
          have hslot : ∀ j, j < n → (bx j).slot ≠ t := fun j hj e => by
            obtain ⟨o', h1, h2, _⟩ := hnew j hj
            have := hnds (by omega : i < q + n) (by omega : q + j < q + n) hi h1 (by rw [ht, h2, e])
            omega
          refine ⟨inv.be, inv.defers, by rw [put_size]; exact inv.size, fun k hk => ?_, fun j k hjq hj hk => ?_, fun j hj hl => ?_, fun j hj hl => ?_, fun i' j' b c hi' hj' hne l1 l2 e1 e2 => ?_⟩
          · rw [hput t k v htN, if_neg, inv.old k hk]
            rintro rfl
            have := List.all_eq_true.1 hk o (List.mem_of_getElem? (i := i) (by rw [List.getElem?_take, if_pos (by omega)]; exact hi))
            rw [ht] at this
            simp at this
          · obtain ⟨oj, hoj, hdj⟩ := bind_dst hk
            by_cases e : j = i
            · subst e
              rw [hoj] at hi
              cases hi
              rw [ht] at hdj
              cases hdj
              rw [hput _ _ v htN, if_pos rfl]
              exact hv
            · rw [hset j e] at hj
              rw [hput t k v htN, if_neg (fun e' => e (hnds (by omega) (by omega) hoj hi (by rw [hdj, ht, e'])))]
              exact inv.val j k hjq hj hk
          · rw [hset _ (by omega)] at hl
            obtain ⟨b, h1, h2, h3⟩ := inv.box j hj hl
            rw [hset _ (by omega), hput t _ v htN, if_neg (hslot j hj)]
            exact ⟨b, h1, h2, h3⟩
          · rw [hset _ (by omega)] at hl ⊢
            exact inv.dep j hj hl
          · rw [hset _ (by omega)] at l1 l2
            rw [hput t _ v htN, if_neg (hslot i' hi')] at e1
            rw [hput t _ v htN, if_neg (hslot j' hj')] at e2
            exact inv.ne i' j' b c hi' hj' hne l1 l2 e1 e2
        | _ => exact hru.elim
    · by_cases hin : i < q + n
      · -- a new block
        obtain ⟨j0, rfl⟩ : ∃ j, i = q + j := ⟨i - q, by omega⟩
        have hj0 : j0 < n := by omega
        obtain ⟨o', h1, hd, hg, _, hrun⟩ := hnew j0 hj0
        rw [hi] at h1
        cases h1
        obtain ⟨t, ht, htN⟩ := hat _ o hin hi
        rw [hd] at ht
        cases ht
        refine ⟨by simp [Region.wanted, hg], ?_⟩
        rw [hrun]
        show BInv W l q n bx a0 Good (listed.setIfInBounds (q + j0) true) (a.put o.dst _) _
        rw [hd]
        have hslot : ∀ j, j < n → j ≠ j0 → (bx j).slot ≠ (bx j0).slot := fun j hj hne e => by
          obtain ⟨o', h1, h2, _⟩ := hnew j hj
          have := hnds (by omega : q + j < q + n) hin h1 hi (by rw [h2, hd, e])
          omega
        have hunst : listed.getD (q + n + j0) false = false := by
          cases hh : listed.getD (q + n + j0) false with
          | false => rfl
          | true =>
            have h1 := inv.dep j0 hj0 hh
            have : q + j0 < listed.size := by omega
            simp [this] at hun h1
            rw [h1] at hun
            cases hun
        refine ⟨inv.be.alloc inv.be.size _, inv.defers, by rw [put_size]; exact inv.size, fun k hk => ?_, fun j k hjq hj hk => ?_, fun j hj hl => ?_, fun j hj hl => ?_, fun i' j' b c hi' hj' hne l1 l2 e1 e2 => ?_⟩
        · rw [hput _ k _ htN, if_neg, inv.old k hk]
          rintro rfl
          have := List.all_eq_true.1 hk o (List.mem_of_getElem? (i := q + j0) (by rw [List.getElem?_take, if_pos hin]; exact hi))
          rw [hd] at this
          simp at this
        · obtain ⟨oj, hoj, hdj⟩ := bind_dst hk
          rw [hset j (by omega)] at hj
          rw [hput _ k _ htN, if_neg (fun e' => by have := hnds (by omega) hin hoj hi (by rw [hdj, hd, e']); omega)]
          exact inv.val j k hjq hj hk
        · by_cases e : j = j0
          · subst e
            refine ⟨w.heap.size, by rw [hput _ _ _ htN, if_pos rfl], inv.be.size, ?_⟩
            rw [hset _ (by omega), hunst]
            exact Blk.new w _ _
          · rw [hset _ (by omega)] at hl
            obtain ⟨b, h1, h2, h3⟩ := inv.box j hj hl
            rw [hset _ (by omega), hput _ _ _ htN, if_neg (hslot j hj e)]
            exact ⟨b, h1, h2, h3.alloc _⟩
        · rw [hset (q + n + j) (by omega)] at hl
          by_cases e : j = j0
          · subst e
            rw [hunst] at hl
            cases hl
          · rw [hset (q + j) (by omega)]
            exact inv.dep j hj hl
        · by_cases e : i' = j0
          · subst e
            rw [hset _ (by omega)] at l2
            rw [hput _ _ _ htN, if_pos rfl] at e1
            rw [hput _ _ _ htN, if_neg (hslot j' hj' (Ne.symm hne))] at e2
            obtain ⟨b', h1, _, h3⟩ := inv.box j' hj' l2
            rw [h1] at e2
            injection e1 with e1; injection e1 with e1; injection e1 with e1
            injection e2 with e2; injection e2 with e2; injection e2 with e2
            have := h3.lt
            omega
          · rw [hset _ (by omega)] at l1
            rw [hput _ _ _ htN, if_neg (hslot i' hi' e)] at e1
            by_cases e' : j' = j0
            · subst e'
              rw [hput _ _ _ htN, if_pos rfl] at e2
              obtain ⟨b', h1, _, h3⟩ := inv.box i' hi' l1
              rw [h1] at e1
              injection e1 with e1; injection e1 with e1; injection e1 with e1
              injection e2 with e2; injection e2 with e2; injection e2 with e2
              have := h3.lt
              omega
            · rw [hset _ (by omega)] at l2
              rw [hput _ _ _ htN, if_neg (hslot j' hj' e')] at e2
              exact inv.ne i' j' b c hi' hj' hne l1 l2 e1 e2
      · -- a store
        obtain ⟨j0, rfl⟩ : ∃ j, i = q + n + j := ⟨i - (q + n), by omega⟩
        have hj0 : j0 < n := by omega
        obtain ⟨hd, hg, e0, he0, hb0, hon⟩ := hts j0 o hj0 hi
        have hla := hall e0 he0 hb0
        rw [hon] at hla
        obtain ⟨b0, hs0, hb0', hk0⟩ := inv.box j0 hj0 hla
        have hun' : listed.getD (q + n + j0) false = false := by
          have : q + n + j0 < listed.size := by omega
          simp [this] at hun ⊢
          exact hun
        rw [hun'] at hk0
        have hsu := hst j0 o hj0 hi a w b0 hmt hs0 hb0' hk0
        refine ⟨by simp [Region.wanted, hg], ?_⟩
        have fin : ∀ w', w.grownBy w' (some b0) → w'.heap.size = w.heap.size → Blk w' b0 (bx j0).fin (bx j0).ty → BInv W l q n bx a0 Good (listed.setIfInBounds (q + n + j0) true) a w' := fun w' hgr hsz hk => by
          have hlt : q + n + j0 < listed.size := by omega
          refine ⟨⟨hgr.os.trans inv.be.os, hgr.tape.trans inv.be.tape, hgr.output.trans inv.be.output, by rw [hsz]; exact inv.be.size, fun k hk' => (hgr.block k (by have := inv.be.size; omega) (fun e => by injection e; omega)).trans (inv.be.block k hk')⟩, inv.defers, inv.size, inv.old, fun j k hjq hj hk => ?_, fun j hj hl => ?_, fun j hj hl => ?_, fun i' j' b c hi' hj' hne l1 l2 e1 e2 => ?_⟩
          · rw [hset j (by omega)] at hj
            exact inv.val j k hjq hj hk
          · rw [hset _ (by omega)] at hl
            by_cases e : j = j0
            · subst e
              refine ⟨b0, hs0, hb0', ?_⟩
              have : (listed.setIfInBounds (q + n + j) true).getD (q + n + j) false = true := by simp [hlt]
              rw [this]
              exact hk
            · obtain ⟨b, h1, h2, h3⟩ := inv.box j hj hl
              rw [hset _ (by omega)]
              exact ⟨b, h1, h2, grownBy_other h3 hgr (inv.ne j j0 b b0 hj hj0 e hl hla h1 hs0)⟩
          · rw [hset (q + j) (by omega)]
            by_cases e : j = j0
            · subst e; exact hla
            · rw [hset (q + n + j) (by omega)] at hl
              exact inv.dep j hj hl
          · rw [hset _ (by omega)] at l1 l2
            exact inv.ne i' j' b c hi' hj' hne l1 l2 e1 e2
        generalize (execOp a.eval o).run P w = r at *
        cases r with
        | halt x w' => exact hsu.elim
        | ok nx w' =>
          cases nx with
          | value v =>
            show BInv W l q n bx a0 Good _ (a.put o.dst v) w'
            rw [hd]
            exact fin w' hsu.1 hsu.2.1 hsu.2.2
          | skip =>
            show BInv W l q n bx a0 Good _ (a.put o.dst undef) w'
            rw [hd]
            exact fin w' hsu.1 hsu.2.1 hsu.2.2
          | _ => exact hsu.elim
  · intro a w inv
    have hrep : ∀ i, i < l.length → (Array.replicate l.length true).getD i false = true := fun i hi => by simp [hi]
    obtain ⟨vs, ea, hvs⟩ := frame_out (l' := l.take (q + n)) hN (by rw [inv.size, hN]) inv.defers inv.old (fun o ho => by
      obtain ⟨i, hi, rfl⟩ := List.mem_take_iff_getElem.1 ho
      simp only [Nat.lt_min] at hi
      exact hat i _ hi.1 (List.getElem?_eq_getElem hi.2)) hnd
    have hbox : ∀ j, j < n → ∃ b, vs (q + j) = .pointer (some ⟨b, 0, none⟩) ∧ W.heap.size ≤ b ∧ Blk w b (bx j).fin (bx j).ty := fun j hj => by
      obtain ⟨b, h1, h2, h3⟩ := inv.box j hj (hrep _ (by omega))
      obtain ⟨o', ho, hd, _⟩ := hnew j hj
      rw [hrep _ (by omega)] at h3
      exact ⟨b, by rw [hvs (q + j) o' _ (by rw [List.getElem?_take, if_pos (by omega)]; exact ho) hd]; exact h1, h2, h3⟩
    rw [ea]
    refine hfin vs (fun j => if h : j < n then Classical.choose (hbox j h) else 0) w inv.be (fun j hj => ?_) (fun j hj => ?_) (fun i j hi hj hne => ?_)
    · have hjl : j < l.length := by omega
      obtain ⟨t, ht, _⟩ := hat j _ (by omega) (List.getElem?_eq_getElem hjl)
      rw [hvs j _ t (by rw [List.getElem?_take, if_pos (by omega)]; exact List.getElem?_eq_getElem hjl) ht]
      exact inv.val j t hj (hrep j hjl) (by simp [hjl, ht])
    · simp only [hj, dif_pos]
      exact Classical.choose_spec (hbox j hj)
    · simp only [hi, hj, dif_pos]
      have h1 := Classical.choose_spec (hbox i hi)
      have h2 := Classical.choose_spec (hbox j hj)
      obtain ⟨o1, g1, d1, _⟩ := hnew i hi
      obtain ⟨o2, g2, d2, _⟩ := hnew j hj
      refine inv.ne i j _ _ hi hj hne (hrep _ (by omega)) (hrep _ (by omega)) ?_ ?_
      · rw [← hvs (q + i) o1 _ (by rw [List.getElem?_take, if_pos (by omega)]; exact g1) d1]; exact h1.1
      · rw [← hvs (q + j) o2 _ (by rw [List.getElem?_take, if_pos (by omega)]; exact g2) d2]; exact h2.1
end

end Go.Proofs.Ytlbhnicengolfaa
