/-
  A region that draws its order, each of whose operations, in every world of a class, yields one value and leaves a world of the class (a store that the class bears, too): one walk, in the order of the text, serves every order.
-/
import Derived.Test.YtjgebepeghgmcaaHead
import Derived.Test.YtjgebepeghgmcaaBlk
namespace Go.Proofs.Ytjgebepeghgmcaa
open Go.RowKit

section
variable {P : Program} {ops : Array Oper} {md : Region.Mode} {C : World → Prop}

/-- One value; the world is as it was, or another one of the class. -/
def calmUpon (P : Program) (C : World → Prop) (w : World) (v : Value) : Result Next → Prop
  | .ok (.value u) w' => (w' = w ∨ C w') ∧ u = v
  | .ok .skip w' => (w' = w ∨ C w') ∧ v = undef
  | .ok (.enter f args) w' => w' = w ∧ Calls P f args w (fun e w'' => e = .returned v ∧ C w'')
  | _ => False
def calmAt (P : Program) (o : Oper) (a : Act) (C : World → Prop) (w : World) (v : Value) : Prop := calmUpon P C w v ((execOp a.eval o).run P w)
def calm (P : Program) (o : Oper) (a : Act) (C : World → Prop) (next : Act → Prop) : Prop := ∃ v, (∀ w, C w → calmAt P o a C w v) ∧ next (a.put o.dst v)

/-- The walk in the order of the text. -/
def wpCalm (P : Program) (ops : Array Oper) (C : World → Prop) (Q : Act → Prop) : List Oper → Act → Prop
  | [], a => Q a
  | o :: rest, a => if Region.wanted o (yielded ops a.tmps) then calm P o a C (wpCalm P ops C Q rest) else wpCalm P ops C Q rest (a.put o.dst undef)
theorem wpCalm_nil {Q : Act → Prop} {a : Act} (h : Q a) : wpCalm P ops C Q [] a := h
theorem wpCalm_step {Q : Act → Prop} {a : Act} {o : Oper} {rest : List Oper}
    (h : ∀ K : Act → Prop, (∀ a, wpCalm P ops C Q rest a → K a) → if Region.wanted o (yielded ops a.tmps) then calm P o a C K else K (a.put o.dst undef)) : wpCalm P ops C Q (o :: rest) a :=
  h _ (fun _ h => h)

def cOp (P : Program) (ops : Array Oper) (C : World → Prop) (i : Nat) (K : Act → Prop) (a : Act) : Prop :=
  match ops[i]? with
  | none => K a
  | some o => if Region.wanted o (yielded ops a.tmps) then calm P o a C K else K (a.put o.dst undef)

theorem cOp_mono {i : Nat} {a : Act} {K K' : Act → Prop} (h : ∀ a, K a → K' a) (hh : cOp P ops C i K a) : cOp P ops C i K' a := by
  unfold cOp at *
  split
  · exact h _ (by simpa [*] using hh)
  · rename_i o ho
    simp only [ho] at hh
    split
    · rename_i hw
      simp only [hw, if_true] at hh
      obtain ⟨v, h1, h2⟩ := hh
      exact ⟨v, h1, h _ h2⟩
    · rename_i hw; simp only [hw] at hh; exact h _ hh

def anyC (P : Program) (md : Region.Mode) (ops : Array Oper) (C : World → Prop) (Q : Act → Prop) : Nat → Array Bool → Act → Prop
  | 0, listed, a => Region.ready md ops listed = [] ∧ Q a
  | fuel + 1, listed, a =>
    (Region.ready md ops listed = [] → Q a) ∧
    ∀ i ∈ Region.ready md ops listed, cOp P ops C i (anyC P md ops C Q fuel (listed.setIfInBounds i true)) a

theorem wp_of_calm {o : Oper} {a : Act} {K : Act → Prop} {K' : Act → World → Prop} {Q' : Exit → Act → World → Prop} {w : World} (hw : C w) (h : ∀ a w', C w' → K a → K' a w') (hh : calm P o a C K) : o.wp P a w K' Q' := by
  obtain ⟨v, h1, h2⟩ := hh
  have h3 := h1 w hw
  unfold calmAt at h3
  unfold Oper.wp
  generalize (execOp a.eval o).run P w = r at *
  cases r with
  | ok n w' =>
    cases n <;> simp only [calmUpon] at h3 <;> simp only [Oper.upon]
    case value u =>
      obtain ⟨e1, e2⟩ := h3
      rw [e2]
      rcases e1 with e1 | e1
      · rw [e1]; exact h _ _ hw h2
      · exact h _ _ e1 h2
    case skip =>
      obtain ⟨e1, e2⟩ := h3
      rw [← e2]
      rcases e1 with e1 | e1
      · rw [e1]; exact h _ _ hw h2
      · exact h _ _ e1 h2
    case enter f args =>
      obtain ⟨e1, hc⟩ := h3
      rw [e1]
      exact hc.mono fun e w'' ⟨he, hw''⟩ => by subst he; exact h _ _ hw'' h2
  | halt x w' => simp only [calmUpon] at h3

theorem wpOp_of_cOp {i : Nat} {a : Act} {K : Act → Prop} {K' : Act → World → Prop} {Q' : Exit → Act → World → Prop} {w : World} (hC : C w) (h : ∀ a w', C w' → K a → K' a w') (hh : cOp P ops C i K a) : wpOp P ops Q' i K' a w := by
  unfold cOp at hh
  unfold wpOp
  split
  · rename_i ho; simp only [ho] at hh; exact h _ _ hC hh
  · rename_i o ho
    simp only [ho] at hh
    split
    · rename_i hw; simp only [hw, if_true] at hh; exact .inl (wp_of_calm hC h hh)
    · rename_i hw; simp only [hw] at hh; exact h _ _ hC hh

theorem wpAny_of_calm {Q : Act → Prop} {Q' : Exit → Act → World → Prop} (hQ : ∀ a w, C w → Q a → Q' .normal a w) : ∀ (fuel : Nat) (listed : Array Bool) (a : Act) (w : World), C w →
    anyC P md ops C Q fuel listed a → wpAny P md ops Q' fuel listed a w
  | 0, _, _, _, hw, h => ⟨h.1, hQ _ _ hw h.2⟩
  | fuel + 1, _, _, _, hw, h => ⟨fun h0 => hQ _ _ hw (h.1 h0), fun i hi => wpOp_of_cOp hw (fun a' w' hw' => wpAny_of_calm hQ fuel _ a' w' hw') (h.2 i hi)⟩

def CalmIn (P : Program) (ops : Array Oper) (C : World → Prop) (o : Oper) (v : Value) (a : Act) : Prop :=
  (Region.wanted o (yielded ops a.tmps) = true ∧ ∀ w, C w → calmAt P o a C w v) ∨
  (Region.wanted o (yielded ops a.tmps) = false ∧ v = undef)

theorem CalmIn.cOp {i : Nat} {o : Oper} {v : Value} {a : Act} (hi : ops[i]? = some o) (hy : CalmIn P ops C o v a) {K : Act → Prop} (h : K (a.put o.dst v)) : cOp P ops C i K a := by
  unfold Proofs.Ytjgebepeghgmcaa.cOp
  simp only [hi]
  rcases hy with ⟨hw, hv⟩ | ⟨hw, rfl⟩
  · simp only [hw, if_true]; exact ⟨v, hv, h⟩
  · simp only [hw, Bool.false_eq_true, if_false]; exact h

theorem CalmIn.of_same {o : Oper} {v : Value} {a a' : Act} (hy : CalmIn P ops C o v a) (he : execOp a'.eval o = execOp a.eval o)
    (hw : Region.wanted o (yielded ops a'.tmps) = Region.wanted o (yielded ops a.tmps)) : CalmIn P ops C o v a' := by
  unfold CalmIn calmAt at *
  rw [he, hw]
  exact hy

theorem calmIn_of_cOp {i : Nat} {o : Oper} {a : Act} {K : Act → Prop} (hi : ops[i]? = some o) (h : cOp P ops C i K a) : ∃ v, CalmIn P ops C o v a ∧ K (a.put o.dst v) := by
  unfold cOp at h
  simp only [hi] at h
  by_cases hw : Region.wanted o (yielded ops a.tmps) = true
  · simp only [hw, if_true] at h
    obtain ⟨v, h1, h2⟩ := h
    exact ⟨v, .inl ⟨hw, h1⟩, h2⟩
  · simp only [hw] at h
    exact ⟨undef, .inr ⟨by simpa using hw, rfl⟩, h⟩

theorem cOp_put {j : Nat} {oi oj : Oper} {v : Value} (hj : ops[j]? = some oj) (hap : oi.apart ops oj = true)
    (hsi : ∀ cs b, oi.op ≠ .select cs b) (hsj : ∀ cs b, oj.op ≠ .select cs b) {K : Act → Prop} {a : Act}
    (hy : CalmIn P ops C oi v a) (h : cOp P ops C j K (a.put oi.dst v)) :
    cOp P ops C j (fun a' => CalmIn P ops C oi v a' ∧ K (a'.put oi.dst v)) a := by
  obtain ⟨h1, h2, h3⟩ := Oper.apart_spec hap
  have keep : ∀ (a : Act), CalmIn P ops C oi v a → ∀ u, CalmIn P ops C oi v (a.put oj.dst u) := fun a hy u =>
    hy.of_same (execOp_put oi hsi a oj.dst u h3) (wanted_put oi a oj.dst u h3)
  unfold cOp at *
  simp only [hj] at *
  rw [wanted_put oj a oi.dst v h1] at h
  split
  · rename_i hw
    simp only [hw, if_true] at h
    obtain ⟨u, hu, hn⟩ := h
    refine ⟨u, fun w hw' => ?_, keep a hy u, by rw [← Act.put_comm a v u h2]; exact hn⟩
    have := hu w hw'
    unfold calmAt at *
    rwa [execOp_put oj hsj a oi.dst v h1] at this
  · rename_i hw
    simp only [hw] at h
    exact ⟨keep a hy _, by rw [← Act.put_comm a v undef h2]; exact h⟩

theorem anyC_first {Q : Act → Prop} {i : Nat} {oi : Oper} {v : Value} (hi : ops[i]? = some oi) (hsel : ∀ (j : Nat) (o : Oper) cs b, ops[j]? = some o → o.op ≠ .select cs b) :
    ∀ (fuel : Nat) (listed : Array Bool) (a : Act),
      (∀ j oj, ops[j]? = some oj → j ≠ i → listed.getD j true = false → (∀ e ∈ oj.after, Region.binds md e = true → e.on ≠ i) → oi.apart ops oj = true) →
      i ∈ Region.ready md ops listed → CalmIn P ops C oi v a →
      anyC P md ops C Q fuel (listed.setIfInBounds i true) (a.put oi.dst v) → anyC P md ops C Q (fuel + 1) listed a := by
  intro fuel
  induction fuel with
  | zero =>
    intro listed a _ hr hy H
    refine ⟨fun h => (by rw [h] at hr; cases hr), fun j hj => ?_⟩
    by_cases hji : j = i
    · subst hji; exact hy.cOp hi H
    · have := ready_mono hj hji
      rw [H.1] at this
      cases this
  | succ fuel ih =>
    intro listed a hfree hr hy H
    refine ⟨fun h => (by rw [h] at hr; cases hr), fun j hj => ?_⟩
    by_cases hji : j = i
    · subst hji; exact hy.cOp hi H
    · have h1 := H.2 j (ready_mono hj hji)
      obtain ⟨hjun, oj, hoj, hall⟩ := mem_ready.1 hj
      have hnot : ∀ e ∈ oj.after, Region.binds md e = true → e.on ≠ i := fun e he hb heq => by
        have h1 := hall e he hb
        rw [heq, getD_both (mem_ready.1 hr).1] at h1
        cases h1
      have h2 := cOp_put hoj (hfree j oj hoj hji hjun hnot) (fun cs b => hsel i oi cs b hi) (fun cs b => hsel j oj cs b hoj) hy h1
      have hfree' : ∀ k ok, ops[k]? = some ok → k ≠ i → (listed.setIfInBounds j true).getD k true = false →
          (∀ e ∈ ok.after, Region.binds md e = true → e.on ≠ i) → oi.apart ops ok = true := fun k ok hk hki hun hno => by
        refine hfree k ok hk hki ?_ hno
        by_cases hjk : j = k
        · subst hjk; exact hjun
        · rw [getD_set_ne true hjk] at hun; exact hun
      refine cOp_mono (fun a' h3 => ih (listed.setIfInBounds j true) a' hfree' (ready_mono hr (Ne.symm hji)) h3.1 ?_) h2
      rw [Array.setIfInBounds_comm _ _ hji]
      exact h3.2

theorem anyC_lex {Q : Act → Prop} (hs : Region.noSelect ops = true) : ∀ (l : List Oper) (k : Nat) (listed : Array Bool) (a : Act), (∀ j, l[j]? = ops[k + j]?) →
    Region.lexFrom md ops l.length k listed = true → wpCalm P ops C Q l a → anyC P md ops C Q l.length listed a
  | [], _, _, _, _, hB, h => ⟨by simpa [Region.lexFrom] using hB, h⟩
  | o :: l, k, listed, a, hl, hB, h => by
    have h0 : ops[k]? = some o := by simpa using (hl 0).symm
    simp only [List.length_cons, Region.lexFrom, Bool.and_eq_true] at hB
    obtain ⟨⟨hr, hf⟩, hB'⟩ := hB
    have hst : cOp P ops C k (wpCalm P ops C Q l) a := by unfold cOp; simp only [h0]; exact h
    obtain ⟨v, hy, hK⟩ := calmIn_of_cOp h0 hst
    exact anyC_first h0 (Region.noSelect_spec hs) l.length listed a (Region.free_spec h0 hf) (by simpa using hr) hy
      (anyC_lex hs l (k + 1) _ _ (fun j => by have := hl (j + 1); simpa [Nat.add_assoc, Nat.add_comm 1 j] using this) hB' hK)

theorem wp_region_calm {ι : Type} (f : ι → World) {id : Nat} {Q : Exit → Act → World → Prop} {a : Act} {w : World} {l : List Oper} (hm : P.follows .mixedOrders = true) (hB : Region.lexB .any l.toArray = true)
    (hC : ∃ x, w.drew = f x)
    (h : wpCalm P l.toArray (fun w' => ∃ x, w' = f x) (fun a' => ∀ x, Q .normal a' (f x)) l a) : (Code.region id l.toArray true).wp P Q a w := by
  simp only [Region.lexB, Bool.and_eq_true] at hB
  refine wp_region_any hm (wpAny_of_calm (C := fun w' => ∃ x, w' = f x) (Q := fun a' => ∀ x, Q .normal a' (f x)) (fun _ w' hw' h => by obtain ⟨x, rfl⟩ := hw'; exact h x) _ _ _ _ hC ?_)
  have := anyC_lex (C := fun w' => ∃ x, w' = f x) (md := .any) hB.1 l 0 (Array.replicate l.toArray.size false) a (by simp) (by simpa using hB.2) h
  simpa using this
end

/-- The worlds of a class. -/
structure Cls (S : World → Prop) where
  w : World
  ok : S w
theorem Cls.start {S : World → Prop} {w : World} (h : S w.drew) : ∃ x : Cls S, w.drew = x.w := ⟨⟨_, h⟩, rfl⟩
theorem Cls.call {S : World → Prop} {P : Program} {f : FuncId} {args : Array Value} {x : Cls S} {v : Value} (hS : ∀ w', Below x.w.heap.size x.w w' → S w')
    (h : Calls P f args x.w fun e w' => e = .returned v ∧ Below x.w.heap.size x.w w') : Calls P f args x.w fun e w'' => e = .returned v ∧ ∃ y : Cls S, w'' = y.w :=
  h.mono fun _ _ ⟨he, hb⟩ => ⟨he, ⟨_, hS _ hb⟩, rfl⟩

/-- Two blocks of two cells, known; what lay in w lies as it lay. -/
def Two (w : World) (t j k : Nat) (a b c d : Value) (w' : World) : Prop := Blk w' j #[a, b] t ∧ Blk w' k #[c, d] t ∧ Below w.heap.size w w'
section
variable {w : World} {t j k : Nat} {a b c d : Value}
theorem Two.cells (x : Cls (Two w t j k a b c d)) : x.w.cell? ⟨j, 0, none⟩ = some a ∧ x.w.cell? ⟨j, 1, none⟩ = some b ∧ x.w.cell? ⟨k, 0, none⟩ = some c ∧ x.w.cell? ⟨k, 1, none⟩ = some d ∧
    x.w.frozen? ⟨j, 0, none⟩ = false ∧ x.w.frozen? ⟨j, 1, none⟩ = false ∧ x.w.frozen? ⟨k, 0, none⟩ = false ∧ x.w.frozen? ⟨k, 1, none⟩ = false :=
  ⟨x.ok.1.cell 0, x.ok.1.cell 1, x.ok.2.1.cell 0, x.ok.2.1.cell 1, x.ok.1.frozen 0, x.ok.1.frozen 1, x.ok.2.1.frozen 0, x.ok.2.1.frozen 1⟩
theorem Two.kept {w' w'' : World} (h : Two w t j k a b c d w') (hb : Below w'.heap.size w' w'') : Two w t j k a b c d w'' := ⟨h.1.kept hb, h.2.1.kept hb, h.2.2.trans (hb.mono h.2.2.size)⟩
theorem Two.drew {w' : World} (h : Two w t j k a b c d w') : Two w t j k a b c d w'.drew := ⟨h.1, h.2.1, h.2.2.drew⟩
theorem Two.store1 {w' : World} (hjk : j ≠ k) (hj : w.heap.size ≤ j) (h : Two w t j k a b c d w') : Two w t j k a b c d ((w'.setCell ⟨j, 0, none⟩ a).setCell ⟨j, 1, none⟩ b) :=
  ⟨h.1.set2 a b, h.2.1.other2 (Ne.symm hjk) a b, below_set2 h.2.2 hj a b⟩
theorem Two.store2 {w' : World} (hjk : j ≠ k) (hk : w.heap.size ≤ k) (h : Two w t j k a b c d w') : Two w t j k a b c d ((w'.setCell ⟨k, 0, none⟩ c).setCell ⟨k, 1, none⟩ d) :=
  ⟨h.1.other2 hjk c d, h.2.1.set2 c d, below_set2 h.2.2 hk c d⟩
end

end Go.Proofs.Ytjgebepeghgmcaa
